/- A line, read: plainly. -/
import Derived.Test.YtbanfkpfijcmcaaGreatDoorRn
import Derived.Lib.AtoiAllCases
import Derived.Lib.ParseIntBCases
namespace Go.Proofs.YtbanfkpfijcmcaaGreatDoor
set_option linter.unusedSimpArgs false
set_option linter.unusedVariables false
set_option maxRecDepth 100000

theorem idx_hit (c : UInt8) (t : List UInt8) : ∀ x : List UInt8, c ∉ x → Lib.indexByte (x ++ c :: t) c = (x.length : Int)
  | [], _ => by simp [Lib.indexByte]
  | b :: x, h => by
    have hb : ¬ b = c := fun e => h (by simp [e])
    have ih := idx_hit c t x (fun e => h (by simp [e]))
    simp only [List.cons_append, Lib.indexByte]
    rw [if_neg (by simpa using hb), ih, if_neg (by simp)]
    simp
theorem idx_miss (c : UInt8) : ∀ x : List UInt8, c ∉ x → Lib.indexByte x c = -1
  | [], _ => rfl
  | b :: x, h => by
    have hb : ¬ b = c := fun e => h (by simp [e])
    have ih := idx_miss c x (fun e => h (by simp [e]))
    simp only [Lib.indexByte]
    rw [if_neg (by simpa using hb), ih]
    simp
theorem splitK_join (c : UInt8) : ∀ (r : List (List UInt8)) (x : List UInt8), c ∉ x → (∀ y ∈ r, c ∉ y) → Lib.splitK [c] 0 r.length (x ++ Lib.joinTail [c] r) = x :: r
  | [], x, _, _ => by simp [Lib.splitK, Lib.joinTail]
  | y :: r, x, hx, hr => by
    have e : Lib.joinTail [c] (y :: r) = c :: (y ++ Lib.joinTail [c] r) := by simp [Lib.joinTail]
    rw [e]
    have hi := idx_hit c (y ++ Lib.joinTail [c] r) x hx
    have ih := splitK_join c r y (hr y (by simp)) (fun z hz => hr z (by simp [hz]))
    simp only [List.length_cons, Lib.splitK]
    rw [Lib.index_one, hi, if_neg (by simp)]
    simp only [Int.toNat_natCast, Nat.add_zero]
    rw [List.take_left, show x ++ c :: (y ++ Lib.joinTail [c] r) = (x ++ [c]) ++ (y ++ Lib.joinTail [c] r) by simp, List.drop_left' (by simp), ih]
theorem count_join (c : UInt8) : ∀ (r : List (List UInt8)) (x : List UInt8), c ∉ x → (∀ y ∈ r, c ∉ y) → (x ++ Lib.joinTail [c] r).count c = r.length
  | [], x, hx, _ => by simp [Lib.joinTail, List.count_eq_zero.2 hx]
  | y :: r, x, hx, hr => by
    have e : Lib.joinTail [c] (y :: r) = c :: (y ++ Lib.joinTail [c] r) := by simp [Lib.joinTail]
    have ih := count_join c r y (hr y (by simp)) (fun z hz => hr z (by simp [hz]))
    rw [e, List.count_append, List.count_eq_zero.2 hx, List.count_cons_self, ih]
    simp
theorem split_join (c : UInt8) (x : List UInt8) (r : List (List UInt8)) (hx : c ∉ x) (hr : ∀ y ∈ r, c ∉ y) : Lib.split (Lib.join (x :: r) [c]) [c] = x :: r := by
  unfold Lib.split
  rw [Lib.join_cons, Lib.count_one, count_join c r x hx hr, splitK_join c r x hx hr]

/-- A line's words. -/
def pcW (s : ByteArray) : List ByteArray := Lib.splitB ⟨#[32]⟩ 0 (Lib.countB s ⟨#[32]⟩) s
theorem pcW_data (s : ByteArray) : (pcW s).map (·.data.toList) = Lib.split s.data.toList [32] := by
  unfold pcW Lib.split
  rw [Lib.splitB_data]
theorem pcW_len (s : ByteArray) : (pcW s).length = Lib.countB s ⟨#[32]⟩ + 1 := Lib.splitB_all _ (by decide) 0 _ s rfl
theorem splitB_size (sep : ByteArray) : ∀ (k : Nat) (s x : ByteArray), x ∈ Lib.splitB sep 0 k s → x.size ≤ s.size
  | 0, s, x, h => by
    simp [Lib.splitB] at h
    rw [h]; exact Nat.le_refl _
  | k + 1, s, x, h => by
    unfold Lib.splitB at h
    split at h
    · rw [List.mem_singleton.1 h]; exact Nat.le_refl _
    · rcases List.mem_cons.1 h with rfl | h
      · rw [ByteArray.size_extract]; omega
      · have := splitB_size sep k _ x h
        rw [ByteArray.size_extract] at this
        omega
theorem pcW_size (s x : ByteArray) (h : x ∈ pcW s) : x.size ≤ s.size := splitB_size _ _ _ _ h
def kindF (s : ByteArray) : Int := Lib.idxOfS twl s
def cntF (k : Int) : Nat := if k = 1 then 3 else if k = 2 then 5 else if k = 3 then 6 else 4
def tickF (s : ByteArray) : Int := match Lib.parseUintB 64 s.data.toList with
  | .ok u => (u : Int)
  | .range => 18446744073709551615
  | _ => 0
def wAt (l : List ByteArray) (i : Nat) : ByteArray := l.getD i ByteArray.empty
/-- The entry that a line's words may be. -/
def guessL (l : List ByteArray) : Option En :=
  if kindF (wAt l 0) < 1 ∨ l.length ≠ cntF (kindF (wAt l 0)) then none
  else if kindF (wAt l 0) = 1 then (numF (wAt l 2)).map fun n => ⟨1, tickF (wAt l 1), 0, 0, n, 0, []⟩
  else if kindF (wAt l 0) = 2 then (numF (wAt l 2)).bind fun i => (numF (wAt l 4)).map fun n => ⟨2, tickF (wAt l 1), i, Fl.paR 0 (wAt l 3), n, 0, []⟩
  else if kindF (wAt l 0) = 3 then (numF (wAt l 2)).bind fun i => (numF (wAt l 3)).bind fun n => (numF (wAt l 4)).bind fun e => (dataF (wAt l 5)).map fun d => ⟨3, tickF (wAt l 1), i, 0, n, e, d⟩
  else (numF (wAt l 2)).bind fun n => (numF (wAt l 3)).map fun e => ⟨4, tickF (wAt l 1), 0, 0, n, e, []⟩
/-- A line's entry. -/
def readF (s : ByteArray) : Option En := match guessL (pcW s) with
  | none => none
  | some x => if mayF x && (lineL x == s.data.toList) then some x else none

theorem numF_ok {s : ByteArray} {v : Int} (h : numF s = some v) : i64ok v := by
  unfold numF at h
  split at h
  · rename_i u hu
    cases h
    exact Lib.atoiAll_bounds hu
  · cases h
theorem tickF_ok (s : ByteArray) : 0 ≤ tickF s ∧ tickF s < 18446744073709551616 := by
  unfold tickF
  split
  · rename_i u hu
    rw [Lib.parseUintB_64] at hu
    have := Lib.parseMag_lt hu
    omega
  · omega
  · omega
theorem paR_ok (s : ByteArray) : 0 ≤ Fl.paR 0 s ∧ Fl.paR 0 s < 64 := by
  have h : Fl.pm 0 (Fl.pcs s) < 64 := Fl.pm_lt 0 (by decide) (Fl.pcs s)
  unfold Fl.paR
  split <;> omega
theorem guess_ok {l : List ByteArray} {x : En} (h : guessL l = some x) : EnOk x := by
  have z : i64ok 0 := ⟨by decide, by decide⟩
  have c1 : i64ok 1 := ⟨by decide, by decide⟩
  have c2 : i64ok 2 := ⟨by decide, by decide⟩
  have c3 : i64ok 3 := ⟨by decide, by decide⟩
  have c4 : i64ok 4 := ⟨by decide, by decide⟩
  have f : i64ok (Fl.paR 0 (wAt l 3)) := by have := paR_ok (wAt l 3); exact ⟨by omega, by omega⟩
  unfold guessL at h
  split at h
  · cases h
  · split at h
    · obtain ⟨n, hn, rfl⟩ := Option.map_eq_some_iff.1 h
      exact ⟨c1, tickF_ok _, z, z, numF_ok hn, z⟩
    · split at h
      · obtain ⟨i, hi, h⟩ := Option.bind_eq_some_iff.1 h
        obtain ⟨n, hn, rfl⟩ := Option.map_eq_some_iff.1 h
        exact ⟨c2, tickF_ok _, numF_ok hi, f, numF_ok hn, z⟩
      · split at h
        · obtain ⟨i, hi, h⟩ := Option.bind_eq_some_iff.1 h
          obtain ⟨n, hn, h⟩ := Option.bind_eq_some_iff.1 h
          obtain ⟨e, he, h⟩ := Option.bind_eq_some_iff.1 h
          obtain ⟨d, hd, rfl⟩ := Option.map_eq_some_iff.1 h
          exact ⟨c3, tickF_ok _, numF_ok hi, z, numF_ok hn, numF_ok he⟩
        · obtain ⟨n, hn, h⟩ := Option.bind_eq_some_iff.1 h
          obtain ⟨e, he, rfl⟩ := Option.map_eq_some_iff.1 h
          exact ⟨c4, tickF_ok _, z, z, numF_ok hn, numF_ok he⟩
theorem read_line {s : ByteArray} {x : En} (h : readF s = some x) : mayF x = true ∧ lineL x = s.data.toList ∧ EnOk x := by
  unfold readF at h
  split at h
  · cases h
  · rename_i y hy
    split at h
    · rename_i hm
      cases h
      simp only [Bool.and_eq_true, beq_iff_eq] at hm
      exact ⟨hm.1, hm.2, guess_ok hy⟩
    · cases h

/-! A line that was written is read. -/
theorem parse_app : ∀ (l : List UInt8) (acc u : Nat) (c : Nat), c < 10 → u * 10 + c < 18446744073709551616 → Lib.parseUint10 acc l = .ok u → Lib.parseUint10 acc (l ++ [UInt8.ofNat (48 + c)]) = .ok (u * 10 + c)
  | [], acc, u, c, hc, hu, h => by
    simp only [Lib.parseUint10] at h
    cases h
    have e : (UInt8.ofNat (48 + c)).toNat = 48 + c := by rw [UInt8.toNat_ofNat', Nat.mod_eq_of_lt (by omega)]
    simp only [List.nil_append, Lib.parseUint10]
    rw [e, if_pos (by omega), if_neg (by omega), if_neg (by omega), show 48 + c - 48 = c by omega]
  | b :: l, acc, u, c, hc, hu, h => by
    simp only [List.cons_append, Lib.parseUint10] at h ⊢
    split
    · rename_i h1
      rw [if_pos h1] at h
      split
      · rename_i h2; rw [if_pos h2] at h; cases h
      · rename_i h2
        rw [if_neg h2] at h
        split
        · rename_i h3; rw [if_pos h3] at h; cases h
        · rename_i h3
          rw [if_neg h3] at h
          exact parse_app l _ u c hc hu h
    · rename_i h1; rw [if_neg h1] at h; cases h
theorem parse_dec (u : Nat) (hu : u < 18446744073709551616) : Lib.parseUint10 0 (Lib.decDigits u) = .ok u := by
  induction u using Nat.strongRecOn with
  | ind u ih =>
    rw [Lib.decDigits]
    split
    · rename_i h
      have := parse_app [] 0 0 u h (by omega) rfl
      simpa using this
    · rename_i h
      have := parse_app (Lib.decDigits (u / 10)) 0 (u / 10) (u % 10) (by omega) (by omega) (ih (u / 10) (by omega) (by omega))
      rw [this]
      congr 1
      omega
theorem dec_chars (u : Nat) : ∀ c ∈ Lib.decDigits u, 48 ≤ c.toNat ∧ c.toNat < 58 := by
  induction u using Nat.strongRecOn with
  | ind u ih =>
    rw [Lib.decDigits]
    have key : ∀ k : Nat, k < 10 → (UInt8.ofNat (48 + k)).toNat = 48 + k := fun k hk => by rw [UInt8.toNat_ofNat', Nat.mod_eq_of_lt (by omega)]
    split
    · rename_i h
      intro c hc
      rw [List.mem_singleton.1 hc, key _ h]
      omega
    · rename_i h
      intro c hc
      rcases List.mem_append.1 hc with hc | hc
      · exact ih (u / 10) (by omega) c hc
      · rw [List.mem_singleton.1 hc, key _ (by omega)]
        omega
theorem dec_ne (u : Nat) : Lib.decDigits u ≠ [] := by
  rw [Lib.decDigits]; split <;> simp
theorem mag_dec (u : Nat) (hu : u < 18446744073709551616) : Lib.parseMag (Lib.decDigits u) = .ok u := by
  unfold Lib.parseMag; rw [if_neg (dec_ne u), parse_dec u hu]
theorem dec_blank (u : Nat) : (32 : UInt8) ∉ Lib.decDigits u := fun h => by have := dec_chars u _ h; simp at this
theorem itoa_nat {n : Int} (h : 0 ≤ n) : Lib.itoa n = Lib.decDigits n.toNat := by unfold Lib.itoa; rw [if_neg (by omega)]
theorem numF_itoa {n : Int} (h0 : 0 ≤ n) (h1 : n ≤ 9223372036854775807) : numF ⟨(Lib.itoa n).toArray⟩ = some n := by
  have hm := mag_dec n.toNat (by omega)
  have hc := dec_chars n.toNat
  unfold numF
  rw [itoa_nat h0]
  simp only
  cases hd : Lib.decDigits n.toNat with
  | nil => exact absurd hd (dec_ne _)
  | cons c r =>
    rw [hd] at hm hc
    have := hc c (by simp)
    rw [Lib.atoiAll_plain c r (by omega) (by omega), hm]
    simp only [Lib.signless]
    rw [if_neg (by omega)]
    simp; omega
theorem tickF_dec (u : Nat) (hu : u < 18446744073709551616) : tickF ⟨(Lib.decDigits u).toArray⟩ = u := by
  unfold tickF
  rw [Lib.parseUintB_64]
  simp only
  rw [mag_dec u hu]
theorem wordL_kind : ∀ k : Fin 5, 0 < k.val → kindF ⟨(wordL (k.val : Int)).toArray⟩ = (k.val : Int) := by decide +kernel
theorem wordL_blank (k : Int) : (32 : UInt8) ∉ wordL k := by
  unfold wordL
  split; decide; split; decide; split; decide; split; decide; decide
theorem tx_blank : ∀ k : Fin 64, (32 : UInt8) ∉ Fl.txL 0 (k.val : Int) := by decide +kernel
theorem paR_tx (k : Nat) (hk : k < 64) : Fl.paR 0 ⟨(Fl.txL 0 (k : Int)).toArray⟩ = k := by
  have h := Fl.pm_back 0 (by decide) ⟨(Fl.txL 0 (k : Int)).toArray⟩ k hk (by simp)
  unfold Fl.paR
  rw [h, if_pos (by simp)]
theorem hx_ok : ∀ b : Fin 256, hxI (hxD (b.val / 16)) = (b.val / 16 : Nat) ∧ hxI (hxD (b.val % 16)) = (b.val % 16 : Nat) ∧ hxD (b.val / 16) ≠ 32 ∧ hxD (b.val % 16) ≠ 32 := by decide +kernel
theorem hexL_blank (d : List UInt8) : (32 : UInt8) ∉ hexL d := by
  unfold hexL
  split
  · decide
  · intro h
    obtain ⟨b, _, hb⟩ := List.mem_flatMap.1 h
    have := hx_ok ⟨b.toNat, b.toNat_lt⟩
    simp only [hx2, List.mem_cons, List.not_mem_nil, or_false] at hb
    rcases hb with hb | hb
    · exact this.2.2.1 hb.symm
    · exact this.2.2.2 hb.symm
theorem flat_at (d : List UInt8) (j : Nat) (b : UInt8) (h : d[j]? = some b) : (d.flatMap hx2).getD (2 * j) 0 = hxD (b.toNat / 16) ∧ (d.flatMap hx2).getD (2 * j + 1) 0 = hxD (b.toNat % 16) := by
  induction d generalizing j with
  | nil => simp at h
  | cons a d ih =>
    cases j with
    | zero => simp at h; subst h; simp [hx2]
    | succ j =>
      have := ih j (by simpa using h)
      simp only [List.flatMap_cons, hx2, List.getD_eq_getElem?_getD] at this ⊢
      rw [show 2 * (j + 1) = 2 * j + 1 + 1 by omega]
      simpa using this
theorem dataF_hex (d : List UInt8) : dataF ⟨(hexL d).toArray⟩ = some d := by
  by_cases hd : d = []
  · subst hd; decide +kernel
  · have hz : (⟨(hexL d).toArray⟩ : ByteArray).size = 2 * d.length := by
      rw [mk_size]; unfold hexL; rw [if_neg hd, hex_len]
    have hp : ∀ j, j < d.length → pairV ⟨(hexL d).toArray⟩ j = d[j]? := by
      intro j hj
      obtain ⟨h1, h2⟩ := flat_at d j _ (List.getElem?_eq_getElem hj)
      obtain ⟨g1, g2, _⟩ := hx_ok ⟨d[j].toNat, d[j].toNat_lt⟩
      unfold pairV hexL
      rw [if_neg hd]
      simp only at g1 g2 ⊢
      rw [h1, h2, g1, g2, if_neg (by omega), List.getElem?_eq_getElem hj]
      congr 1
      have : 16 * ((d[j].toNat / 16 : Nat) : Int).toNat + ((d[j].toNat % 16 : Nat) : Int).toNat = d[j].toNat := by simp only [Int.toNat_natCast]; omega
      rw [this]; simp
    unfold dataF
    rw [hz, show 2 * d.length / 2 = d.length by omega]
    have hk : dataK ⟨(hexL d).toArray⟩ d.length = true := by
      unfold dataK
      rw [List.all_eq_true]
      intro j hj
      have hj2 := List.mem_range.1 hj
      rw [hp j hj2, List.getElem?_eq_getElem hj2]; rfl
    rw [if_pos hk]
    congr 1
    unfold dataP
    apply List.ext_getElem?
    intro j
    rw [List.getElem?_map]
    by_cases hj : j < d.length
    · rw [List.getElem?_range hj, Option.map_some, hp j hj, List.getElem?_eq_getElem hj]; rfl
    · rw [List.getElem?_eq_none (by simp; omega), List.getElem?_eq_none (by omega)]; rfl

theorem mk_data (s : ByteArray) : (⟨s.data.toList.toArray⟩ : ByteArray) = s := rfl
theorem words_of {s : ByteArray} {l : List (List UInt8)} (h : (pcW s).map (·.data.toList) = l) : pcW s = l.map fun b => ⟨b.toArray⟩ := by
  rw [← h, List.map_map]
  conv => lhs; rw [← List.map_id (pcW s)]
  rfl
theorem line_read {x : En} (hm : mayF x = true) (ok : EnOk x) {s : ByteArray} (hs : s.data.toList = lineL x) : readF s = some x := by
  have hk := may_kd hm
  have hw : pcW s = (lineW x).map fun b => ⟨b.toArray⟩ := by
    apply words_of
    rw [pcW_data, hs]
    unfold lineL
    obtain ⟨a, r, hr⟩ : ∃ a r, lineW x = a :: r := ⟨wordL x.kd, _, rfl⟩
    have hb : ∀ y ∈ lineW x, (32 : UInt8) ∉ y := by
      have hfl : x.kd = 2 → (32 : UInt8) ∉ Fl.txL 0 x.fl := by
        intro h2
        unfold mayF at hm
        rw [if_neg (by omega), if_pos h2] at hm
        simp only [Bool.and_eq_true, decide_eq_true_eq] at hm
        have := tx_blank ⟨x.fl.toNat, by omega⟩
        simp only at this
        rw [show ((x.fl.toNat : Nat) : Int) = x.fl by omega] at this
        exact this
      have hn : 0 ≤ x.nn ∧ 0 ≤ x.id ∧ 0 ≤ x.er := by
        unfold mayF at hm
        simp only [Bool.and_eq_true] at hm
        exact of_decide_eq_true hm.1
      have b1 : (32 : UInt8) ∉ Lib.itoa x.nn := by rw [itoa_nat hn.1]; exact dec_blank _
      have b2 : (32 : UInt8) ∉ Lib.itoa x.id := by rw [itoa_nat hn.2.1]; exact dec_blank _
      have b3 : (32 : UInt8) ∉ Lib.itoa x.er := by rw [itoa_nat hn.2.2]; exact dec_blank _
      intro y hy
      unfold lineW at hy
      rcases List.mem_append.1 hy with hy | hy
      · simp only [List.mem_cons, List.not_mem_nil, or_false] at hy
        rcases hy with rfl | rfl
        · exact wordL_blank _
        · exact dec_blank _
      · split at hy
        · simp only [List.mem_cons, List.not_mem_nil, or_false] at hy; subst hy; exact b1
        · split at hy
          · rename_i h2
            simp only [List.mem_cons, List.not_mem_nil, or_false] at hy; rcases hy with rfl | rfl | rfl
            · exact b2
            · exact hfl h2
            · exact b1
          · split at hy
            · simp only [List.mem_cons, List.not_mem_nil, or_false] at hy; rcases hy with rfl | rfl | rfl | rfl
              · exact b2
              · exact b1
              · exact b3
              · exact hexL_blank _
            · simp only [List.mem_cons, List.not_mem_nil, or_false] at hy; rcases hy with rfl | rfl
              · exact b1
              · exact b3
    rw [hr] at hb ⊢
    exact split_join 32 a r (hb a (by simp)) (fun y hy => hb y (by simp [hy]))
  have hg : guessL (pcW s) = some x := by
    rw [hw]
    have hn : 0 ≤ x.nn ∧ 0 ≤ x.id ∧ 0 ≤ x.er := by
      unfold mayF at hm
      simp only [Bool.and_eq_true] at hm
      exact of_decide_eq_true hm.1
    have n1 := numF_itoa hn.1 ok.nn.2
    have n2 := numF_itoa hn.2.1 ok.id.2
    have n3 := numF_itoa hn.2.2 ok.er.2
    have t1 := tickF_dec x.tk.toNat (by have := ok.tk; omega)
    rw [show ((x.tk.toNat : Nat) : Int) = x.tk by have := ok.tk; omega] at t1
    have k1 : kindF ⟨(wordL x.kd).toArray⟩ = x.kd := by
      have := wordL_kind ⟨x.kd.toNat, by omega⟩ (by simp only; omega)
      simp only at this
      rw [show ((x.kd.toNat : Nat) : Int) = x.kd by omega] at this
      exact this
    unfold mayF at hm
    simp only [Bool.and_eq_true] at hm
    have hm2 := hm.2
    clear hm
    obtain ⟨kd, tk, id, fl, nn, er, dt⟩ := x
    simp only at hk hm2 n1 n2 n3 t1 k1 hn
    rcases hk with rfl | rfl | rfl | rfl
    · rw [if_pos rfl] at hm2
      obtain ⟨rfl, rfl, rfl, rfl⟩ := of_decide_eq_true hm2
      simp only [lineW, guessL, wAt, cntF, List.map_cons, List.map_nil, List.map_append, List.cons_append, List.nil_append, List.getD_cons_zero, List.getD_cons_succ, List.length_cons, List.length_nil, if_true, k1, n1, t1, Option.map_some]
      simp
    · rw [if_neg (by decide), if_pos rfl] at hm2
      obtain ⟨f0, f1, rfl, rfl⟩ := of_decide_eq_true hm2
      have p1 := paR_tx fl.toNat (by omega)
      rw [show ((fl.toNat : Nat) : Int) = fl by omega] at p1
      simp only [lineW, guessL, wAt, cntF, List.map_cons, List.map_nil, List.map_append, List.cons_append, List.nil_append, List.getD_cons_zero, List.getD_cons_succ, List.length_cons, List.length_nil, if_true, k1, n1, n2, t1, p1, Option.map_some, Option.bind_some]
      simp [n1, n2, t1, p1]
    · rw [if_neg (by decide), if_neg (by decide), if_pos rfl] at hm2
      obtain ⟨rfl, f1, f2⟩ := of_decide_eq_true hm2
      have p1 := dataF_hex dt
      simp only [lineW, guessL, wAt, cntF, List.map_cons, List.map_nil, List.map_append, List.cons_append, List.nil_append, List.getD_cons_zero, List.getD_cons_succ, List.length_cons, List.length_nil, if_true, k1, n1, n2, t1, p1, Option.map_some, Option.bind_some]
      simp [n1, n2, n3, t1, p1]
    · rw [if_neg (by decide), if_neg (by decide), if_neg (by decide), if_pos rfl] at hm2
      obtain ⟨rfl, rfl, rfl⟩ := of_decide_eq_true hm2
      simp only [lineW, guessL, wAt, cntF, List.map_cons, List.map_nil, List.map_append, List.cons_append, List.nil_append, List.getD_cons_zero, List.getD_cons_succ, List.length_cons, List.length_nil, if_true, k1, n1, n3, t1, Option.map_some, Option.bind_some]
      simp [n1, n3, t1]
  unfold readF
  rw [hg]
  simp only
  rw [hm, hs]
  simp
end Go.Proofs.YtbanfkpfijcmcaaGreatDoor
