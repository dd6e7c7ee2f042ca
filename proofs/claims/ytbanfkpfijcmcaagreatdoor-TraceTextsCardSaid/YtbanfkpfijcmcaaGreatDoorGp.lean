/- The document's reading of a line, plainly: it is read's. -/
import Derived.Test.YtbanfkpfijcmcaaGreatDoorRs
namespace Go.Proofs.YtbanfkpfijcmcaaGreatDoor
set_option linter.unusedSimpArgs false
set_option linter.unusedVariables false
set_option maxRecDepth 100000

/-- One byte more of a line's words. -/
def stepWd (p : List (List UInt8) × List UInt8) (c : UInt8) : List (List UInt8) × List UInt8 := if c = 32 then (p.1 ++ [p.2], []) else (p.1, p.2 ++ [c])
def wdSt (l : List UInt8) : List (List UInt8) × List UInt8 := l.foldl stepWd ([], [])
def wordsR (l : List UInt8) : List (List UInt8) := (wdSt l).1 ++ [(wdSt l).2]
theorem fold_word : ∀ (x : List UInt8) (o : List (List UInt8)) (u : List UInt8), (32 : UInt8) ∉ x → x.foldl stepWd (o, u) = (o, u ++ x)
  | [], o, u, _ => by simp
  | c :: x, o, u, h => by
    simp only [List.mem_cons, not_or] at h
    rw [List.foldl_cons]
    have : stepWd (o, u) c = (o, u ++ [c]) := by unfold stepWd; rw [if_neg (fun e => h.1 e.symm)]
    rw [this, fold_word x o _ h.2]
    simp
theorem fold_tail : ∀ (r : List (List UInt8)) (o : List (List UInt8)) (u : List UInt8), (∀ y ∈ r, (32 : UInt8) ∉ y) →
    ((Lib.joinTail [32] r).foldl stepWd (o, u)).1 ++ [((Lib.joinTail [32] r).foldl stepWd (o, u)).2] = o ++ u :: r
  | [], o, u, _ => by simp [Lib.joinTail]
  | y :: r, o, u, h => by
    have e : Lib.joinTail [32] (y :: r) = 32 :: (y ++ Lib.joinTail [32] r) := by simp [Lib.joinTail]
    have e2 : stepWd (o, u) 32 = (o ++ [u], []) := by unfold stepWd; rw [if_pos rfl]
    rw [e, List.foldl_cons, e2, List.foldl_append, fold_word y _ _ (h y (by simp)), fold_tail r _ _ (fun z hz => h z (by simp [hz]))]
    simp
theorem words_join (x : List UInt8) (r : List (List UInt8)) (hx : (32 : UInt8) ∉ x) (hr : ∀ y ∈ r, (32 : UInt8) ∉ y) : wordsR (Lib.join (x :: r) [32]) = x :: r := by
  unfold wordsR wdSt
  rw [Lib.join_cons, List.foldl_append, fold_word x _ _ hx, fold_tail r _ _ hr]
  simp
/-- A digit more. -/
def stepV (n : Int) (c : UInt8) : Int := IntKind.u64.wrap (IntKind.u64.wrap (IntKind.u64.wrap (n * 10) + (c.toNat : Int)) - 48)
def valR (l : List UInt8) : Int := (l.take 20).foldl stepV 0
def smallR (l : List UInt8) : Int := if 19 < l.length then 0 else if 9223372036854775807 < valR l then 0 else valR l
def dgR (b : Int) (c : UInt8) : Int := if 97 ≤ c.toNat then IntKind.u8.wrap (IntKind.u8.wrap (IntKind.u8.wrap (IntKind.u8.wrap (b * 16) + (c.toNat : Int)) - 97) + 10) else IntKind.u8.wrap (IntKind.u8.wrap (IntKind.u8.wrap (b * 16) + (c.toNat : Int)) - 48)
def prR (l : List UInt8) (j : Nat) : UInt8 := UInt8.ofNat (dgR (dgR 0 (l.getD (2 * j) 0)) (l.getD (2 * j + 1) 0)).toNat
def bytR (l : List UInt8) (k : Nat) : List UInt8 := (List.range k).map (prR l)
theorem wrap_u64 (x : Int) : IntKind.u64.wrap x = x % 18446744073709551616 := by simp [IntKind.wrap, IntKind.signed, IntKind.bits]
theorem wrap_u8 (x : Int) : IntKind.u8.wrap x = x % 256 := by simp [IntKind.wrap, IntKind.signed, IntKind.bits]
theorem stepV_ok (n : Int) (c : UInt8) : 0 ≤ stepV n c ∧ stepV n c < 18446744073709551616 := by
  unfold stepV; rw [wrap_u64]; omega
theorem stepV_dig (n k : Nat) (hk : k < 10) (h : n * 10 + k < 18446744073709551616) : stepV (n : Int) (UInt8.ofNat (48 + k)) = ((n * 10 + k : Nat) : Int) := by
  unfold stepV
  have e : (UInt8.ofNat (48 + k)).toNat = 48 + k := by rw [UInt8.toNat_ofNat', Nat.mod_eq_of_lt (by omega)]
  rw [e, wrap_u64, wrap_u64, wrap_u64]
  omega
theorem foldV_ok : ∀ (l : List UInt8) (n : Int), 0 ≤ n ∧ n < 18446744073709551616 → 0 ≤ l.foldl stepV n ∧ l.foldl stepV n < 18446744073709551616
  | [], n, h => h
  | c :: l, n, h => foldV_ok l _ (stepV_ok n c)
theorem valR_ok (l : List UInt8) : 0 ≤ valR l ∧ valR l < 18446744073709551616 := foldV_ok _ 0 (by decide)
theorem foldV_dec (u : Nat) (hu : u < 18446744073709551616) : (Lib.decDigits u).foldl stepV 0 = (u : Int) := by
  induction u using Nat.strongRecOn with
  | ind u ih =>
    rw [Lib.decDigits]
    split
    · rename_i h
      have := stepV_dig 0 u h (by omega)
      simpa using this
    · rename_i h
      rw [List.foldl_append, ih (u / 10) (by omega) (by omega)]
      have := stepV_dig (u / 10) (u % 10) (by omega) (by omega)
      rw [List.foldl_cons, List.foldl_nil, this]
      omega
theorem valR_dec (u : Nat) (hu : u < 18446744073709551616) : valR (Lib.decDigits u) = (u : Int) := by
  unfold valR
  rw [List.take_of_length_le (dec_len u hu)]
  exact foldV_dec u hu
theorem nd_le : ∀ (k u : Nat), u < 10 ^ (k + 1) → Lib.nDigits u ≤ k + 1
  | 0, u, h => by rw [Lib.nDigits_small (by simpa using h)]; omega
  | k + 1, u, h => by
    by_cases h1 : u < 10
    · rw [Lib.nDigits_small h1]; omega
    · rw [Lib.nDigits_big h1]
      have := nd_le k (u / 10) (by rw [Nat.div_lt_iff_lt_mul (by decide)]; rw [Nat.pow_succ] at h; exact h)
      omega
theorem smallR_dec {n : Int} (h0 : 0 ≤ n) (h1 : n ≤ 9223372036854775807) : smallR (Lib.itoa n) = n := by
  unfold smallR
  rw [itoa_nat h0]
  have hl : (Lib.decDigits n.toNat).length ≤ 19 := by
    rw [Lib.decDigits_length]
    exact nd_le 18 n.toNat (by have : (10 : Nat) ^ (18 + 1) = 10000000000000000000 := by decide
                               omega)
  rw [if_neg (by omega), valR_dec _ (by omega), if_neg (by omega)]
  omega
theorem smallR_ok (l : List UInt8) : i64ok (smallR l) ∧ 0 ≤ smallR l := by
  have := valR_ok l
  unfold smallR i64ok
  split
  · omega
  · split <;> omega
theorem pr_hx : ∀ b : Fin 256, UInt8.ofNat (dgR (dgR 0 (hxD (b.val / 16))) (hxD (b.val % 16))).toNat = UInt8.ofNat b.val := by decide +kernel
theorem bytR_hex (d : List UInt8) : bytR (hexL d) ((hexL d).length / 2) = d := by
  by_cases hd : d = []
  · subst hd; decide +kernel
  · have hz : (hexL d).length = 2 * d.length := by unfold hexL; rw [if_neg hd, hex_len]
    have hp : ∀ j, j < d.length → prR (hexL d) j = d.getD j 0 := by
      intro j hj
      have h := flat_at d j d[j] (List.getElem?_eq_getElem hj)
      unfold prR hexL
      rw [if_neg hd, h.1, h.2]
      have := pr_hx ⟨(d[j]).toNat, (d[j]).toNat_lt⟩
      simp only at this
      rw [this, List.getD_eq_getElem?_getD, List.getElem?_eq_getElem hj]
      simp
    rw [hz, Nat.mul_div_cancel_left _ (by decide)]
    unfold bytR
    apply List.ext_getElem?
    intro j
    rw [List.getElem?_map]
    by_cases hj : j < d.length
    · rw [List.getElem?_range hj, Option.map_some, hp j hj, List.getD_eq_getElem?_getD, List.getElem?_eq_getElem hj]; rfl
    · rw [List.getElem?_eq_none (by simp; omega), List.getElem?_eq_none (by omega)]; rfl
/-- The entry that a line may be. -/
def guessR (l : List (List UInt8)) : En :=
  if l.length < 3 then ⟨0, 0, 0, 0, 0, 0, []⟩
  else if l.getD 0 [] = [116, 117, 114, 110] then ⟨1, valR (l.getD 1 []), 0, 0, smallR (l.getD 2 []), 0, []⟩
  else if l.getD 0 [] = [114, 117, 110] ∧ 4 < l.length then ⟨2, valR (l.getD 1 []), smallR (l.getD 2 []), Fl.paR 0 ⟨(l.getD 3 []).toArray⟩, smallR (l.getD 4 []), 0, []⟩
  else if l.getD 0 [] = [100, 105, 100] ∧ 5 < l.length then ⟨3, valR (l.getD 1 []), smallR (l.getD 2 []), 0, smallR (l.getD 3 []), smallR (l.getD 4 []), bytR (l.getD 5 []) ((l.getD 5 []).length / 2)⟩
  else if l.getD 0 [] = [101, 110, 100] ∧ 3 < l.length then ⟨4, valR (l.getD 1 []), 0, 0, smallR (l.getD 2 []), smallR (l.getD 3 []), []⟩
  else ⟨0, valR (l.getD 1 []), 0, 0, 0, 0, []⟩
theorem paR_i64 (s : ByteArray) : i64ok (Fl.paR 0 s) := by
  have := paR_ok s
  unfold i64ok; omega
theorem guessR_ok (l : List (List UInt8)) : EnOk (guessR l) := by
  have z : i64ok 0 := by unfold i64ok; decide
  have z1 : i64ok 1 := by unfold i64ok; decide
  have z2 : i64ok 2 := by unfold i64ok; decide
  have z3 : i64ok 3 := by unfold i64ok; decide
  have z4 : i64ok 4 := by unfold i64ok; decide
  unfold guessR
  split
  · exact ⟨z, by decide, z, z, z, z⟩
  · split
    · exact ⟨z1, valR_ok _, z, z, (smallR_ok _).1, z⟩
    · split
      · exact ⟨z2, valR_ok _, (smallR_ok _).1, paR_i64 _, (smallR_ok _).1, z⟩
      · split
        · exact ⟨z3, valR_ok _, (smallR_ok _).1, z, (smallR_ok _).1, (smallR_ok _).1⟩
        · split
          · exact ⟨z4, valR_ok _, z, z, (smallR_ok _).1, (smallR_ok _).1⟩
          · exact ⟨z, valR_ok _, z, z, z, z⟩
theorem line_blank {x : En} (hm : mayF x = true) : ∀ y ∈ lineW x, (32 : UInt8) ∉ y := by
  have hfl : x.kd = 2 → (32 : UInt8) ∉ Fl.txL 0 x.fl := by
    intro h2
    unfold mayF at hm
    rw [if_neg (by omega), if_pos h2] at hm
    simp only [Bool.and_eq_true, decide_eq_true_eq] at hm
    have := tx_blank ⟨x.fl.toNat, by omega⟩
    simp only at this
    rw [show ((x.fl.toNat : Nat) : Int) = x.fl by omega] at this
    exact this
  have hn : 0 ≤ x.nn ∧ 0 ≤ x.id ∧ 0 ≤ x.er := by
    unfold mayF at hm
    simp only [Bool.and_eq_true] at hm
    exact of_decide_eq_true hm.1
  have b1 : (32 : UInt8) ∉ Lib.itoa x.nn := by rw [itoa_nat hn.1]; exact dec_blank _
  have b2 : (32 : UInt8) ∉ Lib.itoa x.id := by rw [itoa_nat hn.2.1]; exact dec_blank _
  have b3 : (32 : UInt8) ∉ Lib.itoa x.er := by rw [itoa_nat hn.2.2]; exact dec_blank _
  intro y hy
  unfold lineW at hy
  rcases List.mem_append.1 hy with hy | hy
  · simp only [List.mem_cons, List.not_mem_nil, or_false] at hy
    rcases hy with rfl | rfl
    · exact wordL_blank _
    · exact dec_blank _
  · split at hy
    · simp only [List.mem_cons, List.not_mem_nil, or_false] at hy; subst hy; exact b1
    · split at hy
      · rename_i h2
        simp only [List.mem_cons, List.not_mem_nil, or_false] at hy; rcases hy with rfl | rfl | rfl
        · exact b2
        · exact hfl h2
        · exact b1
      · split at hy
        · simp only [List.mem_cons, List.not_mem_nil, or_false] at hy; rcases hy with rfl | rfl | rfl | rfl
          · exact b2
          · exact b1
          · exact b3
          · exact hexL_blank _
        · simp only [List.mem_cons, List.not_mem_nil, or_false] at hy; rcases hy with rfl | rfl
          · exact b1
          · exact b3
theorem words_line {x : En} (hm : mayF x = true) : wordsR (lineL x) = lineW x := by
  have hb := line_blank hm
  unfold lineL
  obtain ⟨a, r, hr⟩ : ∃ a r, lineW x = a :: r := ⟨wordL x.kd, _, rfl⟩
  rw [hr] at hb ⊢
  exact words_join a r (hb a (by simp)) (fun y hy => hb y (by simp [hy]))
theorem guess_line {x : En} (hm : mayF x = true) (ok : EnOk x) : guessR (wordsR (lineL x)) = x := by
  have hk := may_kd hm
  rw [words_line hm]
  have hn : 0 ≤ x.nn ∧ 0 ≤ x.id ∧ 0 ≤ x.er := by
    unfold mayF at hm
    simp only [Bool.and_eq_true] at hm
    exact of_decide_eq_true hm.1
  have n1 := smallR_dec hn.1 ok.nn.2
  have n2 := smallR_dec hn.2.1 ok.id.2
  have n3 := smallR_dec hn.2.2 ok.er.2
  have t1 := valR_dec x.tk.toNat (by have := ok.tk; omega)
  rw [show ((x.tk.toNat : Nat) : Int) = x.tk by have := ok.tk; omega] at t1
  unfold mayF at hm
  simp only [Bool.and_eq_true] at hm
  have hm2 := hm.2
  clear hm
  obtain ⟨kd, tk, id, fl, nn, er, dt⟩ := x
  simp only at hk hm2 n1 n2 n3 t1 hn
  rcases hk with rfl | rfl | rfl | rfl
  · rw [if_pos rfl] at hm2
    obtain ⟨rfl, rfl, rfl, rfl⟩ := of_decide_eq_true hm2
    simp [lineW, guessR, wordL, n1, t1]
  · rw [if_neg (by decide), if_pos rfl] at hm2
    obtain ⟨f0, f1, rfl, rfl⟩ := of_decide_eq_true hm2
    have p1 := paR_tx fl.toNat (by omega)
    rw [show ((fl.toNat : Nat) : Int) = fl by omega] at p1
    simp [lineW, guessR, wordL, n1, n2, t1, p1]
  · rw [if_neg (by decide), if_neg (by decide), if_pos rfl] at hm2
    obtain ⟨rfl, f1, f2⟩ := of_decide_eq_true hm2
    have p1 := bytR_hex dt
    simp [lineW, guessR, wordL, n1, n2, n3, t1, p1]
  · rw [if_neg (by decide), if_neg (by decide), if_neg (by decide), if_pos rfl] at hm2
    obtain ⟨rfl, rfl, rfl⟩ := of_decide_eq_true hm2
    simp [lineW, guessR, wordL, n1, n3, t1]
/-- The document's step is Parse's. -/
def gsF (t : ByteArray) : En := guessR (wordsR t.data.toList)
theorem gs_ok (t : ByteArray) : EnOk (gsF t) := guessR_ok _
theorem gs_read (t : ByteArray) : readF t = if mayF (gsF t) && (lineL (gsF t) == t.data.toList) then some (gsF t) else none := by
  cases hr : readF t with
  | some x =>
    obtain ⟨h1, h2, h3⟩ := read_line hr
    have : gsF t = x := by unfold gsF; rw [← h2]; exact guess_line h1 h3
    rw [this, h1, h2]; simp
  | none =>
    split
    · rename_i h
      simp only [Bool.and_eq_true, beq_iff_eq] at h
      have := line_read h.1 (gs_ok t) h.2.symm
      rw [this] at hr; cases hr
    · rfl
theorem step_gs (out : List En) (t : ByteArray) (b : Bool) : stepF out t b = if b && (decide (out.length < 20000) && (mayF (gsF t) && ((lineL (gsF t) == t.data.toList) && okNext out (gsF t)))) then some (out ++ [gsF t]) else none := by
  unfold stepF
  rw [gs_read]
  cases mayF (gsF t) <;> cases (lineL (gsF t) == t.data.toList) <;> cases b <;> simp
end Go.Proofs.YtbanfkpfijcmcaaGreatDoor
