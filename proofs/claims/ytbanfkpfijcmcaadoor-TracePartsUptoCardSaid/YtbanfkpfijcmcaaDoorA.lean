/- What reads as entries. -/
import Derived.Test.YtbanfkpfijcmcaaDoorBase
import Derived.Test.YtbanfkpfijcmcaaDoorRow
import Derived.Test.YtbanfkpfijcmcaaDoorM
import Derived.WalkKit
import Derived.OwnWalk
import Derived.Lib.Hide
import Derived.BigQuiet
import Derived.Laws.IdiomStrings
import Derived.Laws.BytesArg
namespace Go.Proofs.YtbanfkpfijcmcaaDoor
open Go.RowKit
set_option linter.unusedSimpArgs false
set_option linter.unusedVariables false
set_option maxRecDepth 100000

theorem add_plain (b off k : Nat) : (⟨b, off, none⟩ : Addr).add k = ⟨b, off + k, none⟩ := by
  unfold Addr.add; split
  · rename_i h; subst h; rfl
  · rfl
theorem new_block (w : World) (o : Obj) : (w.alloc o).heap[w.heap.size]? = some o := Go.heap_alloc_new w o
theorem cell_of {w : World} {b : Nat} {cs : Array Value} {T : TypeId} (h : w.heap[b]? = some (.cells cs T (0, 0))) (j : Nat) : w.cell? ⟨b, j, none⟩ = cs[j]? ∧ w.frozen? ⟨b, j, none⟩ = false := by
  unfold World.cell? World.frozen?
  simp only [h]
  exact ⟨by cases cs[j]? <;> rfl, by simp⟩
theorem below_drewN {B : Nat} {a w : World} (h : Below B a w) (n : Nat) : Below B a (w.drewN n) := ⟨h.os, h.tape, h.output, h.size, h.block⟩

/-- Bytes in a slice. -/
def DataAt (w : World) (dv : Value) (d : List UInt8) : Prop := ∃ A c, dv = .slice A d.length c ∧ d.length ≤ c ∧ c ≤ maxLen ∧ (A = none → d.length = 0 ∧ c = 0) ∧
  (0 < d.length → ∃ b off, A = some ⟨b, off, none⟩ ∧ b < w.heap.size ∧ ∀ j u, d[j]? = some u → w.cell? ⟨b, off + j, none⟩ = some (.int .u8 (u.toNat : Int)))
theorem DataAt.below {w w' : World} {dv : Value} {d : List UInt8} (h : DataAt w dv d) (hb : Below w.heap.size w w') : DataAt w' dv d := by
  obtain ⟨A, c, e, h1, h2, hn, h3⟩ := h
  refine ⟨A, c, e, h1, h2, hn, fun h0 => ?_⟩
  obtain ⟨b, off, hA, hlt, hc⟩ := h3 h0
  exact ⟨b, off, hA, Nat.lt_of_lt_of_le hlt hb.size, fun j u hj => (hb.cell (p := ⟨b, off + j, none⟩) hlt).trans (hc j u hj)⟩

/-- An entry, and the slice of its bytes. -/
structure Ex where
  e : En
  dv : Value
def encX (x : Ex) : List Value := [.int .i64 x.e.kd, .int .u64 x.e.tk, .int .i64 x.e.id, .int .i64 x.e.fl, .int .i64 x.e.nn, .int .i64 x.e.er, x.dv]
def agX (x : Ex) : Value := .agg #[.int .i64 x.e.kd, .int .u64 x.e.tk, .int .i64 x.e.id, .int .i64 x.e.fl, .int .i64 x.e.nn, .int .i64 x.e.er, x.dv]
def ents (xs : List Ex) : List En := xs.map Ex.e
/-- Entries in a slice. -/
def EntsAt (w : World) (v : Value) (xs : List Ex) : Prop := ∃ A c, v = .slice A xs.length c ∧ xs.length ≤ c ∧ c ≤ maxLen ∧
  ∀ i x, xs[i]? = some x → (∃ b off, A = some ⟨b, off, none⟩ ∧ b < w.heap.size ∧ ∀ j, j < 7 → w.cell? ⟨b, off + i * 7 + j, none⟩ = (encX x)[j]?) ∧ DataAt w x.dv x.e.dt
theorem EntsAt.below {w w' : World} {v : Value} {xs : List Ex} (h : EntsAt w v xs) (hb : Below w.heap.size w w') : EntsAt w' v xs := by
  obtain ⟨A, c, e, h1, h2, h3⟩ := h
  refine ⟨A, c, e, h1, h2, fun i x hx => ?_⟩
  obtain ⟨⟨b, off, hA, hlt, hc⟩, hd⟩ := h3 i x hx
  exact ⟨⟨b, off, hA, Nat.lt_of_lt_of_le hlt hb.size, fun j hj => (hb.cell (p := ⟨b, off + i * 7 + j, none⟩) hlt).trans (hc j hj)⟩, hd.below hb⟩
/-- The cells of one. -/
theorem EntsAt.one {w : World} {v : Value} {xs : List Ex} (h : EntsAt w v xs) : ∃ A c, v = .slice A xs.length c ∧ xs.length ≤ c ∧ c ≤ maxLen ∧ ∀ k, k < xs.length → ∃ (x : Ex) (b off : Nat), xs[k]? = some x ∧ A = some ⟨b, off, none⟩ ∧ DataAt w x.dv x.e.dt ∧
    ∀ W : World, Below w.heap.size w W → W.cell? ⟨b, off + k * 7, none⟩ = some (.int .i64 x.e.kd) ∧ W.cell? ⟨b, off + k * 7 + 1, none⟩ = some (.int .u64 x.e.tk) ∧ W.cell? ⟨b, off + k * 7 + 2, none⟩ = some (.int .i64 x.e.id) ∧ W.cell? ⟨b, off + k * 7 + 3, none⟩ = some (.int .i64 x.e.fl) ∧ W.cell? ⟨b, off + k * 7 + 4, none⟩ = some (.int .i64 x.e.nn) ∧ W.cell? ⟨b, off + k * 7 + 5, none⟩ = some (.int .i64 x.e.er) ∧ W.cell? ⟨b, off + k * 7 + 6, none⟩ = some x.dv := by
  obtain ⟨A, c, e, h1, h2, h3⟩ := h
  refine ⟨A, c, e, h1, h2, fun k hk => ?_⟩
  obtain ⟨⟨b, off, hA, hlt, hc⟩, hd⟩ := h3 k _ (List.getElem?_eq_getElem hk)
  refine ⟨_, b, off, List.getElem?_eq_getElem hk, hA, hd, fun W hb => ?_⟩
  have key := fun j hj => (hb.cell (p := ⟨b, off + k * 7 + j, none⟩) hlt).trans (hc j hj)
  exact ⟨key 0 (by omega), key 1 (by omega), key 2 (by omega), key 3 (by omega), key 4 (by omega), key 5 (by omega), key 6 (by omega)⟩
/-- The values of a row of entries. -/
def flatX (l : List Ex) : List Value := l.flatMap encX
theorem flatX_len (l : List Ex) : (flatX l).length = l.length * 7 := by
  induction l with
  | nil => rfl
  | cons a r ih => simp only [flatX, List.flatMap_cons, List.length_append, List.length_cons] at ih ⊢; rw [ih]; simp [encX]; omega
theorem flatX_append (l m : List Ex) : flatX (l ++ m) = flatX l ++ flatX m := List.flatMap_append ..
theorem flatX_get (l : List Ex) (k j : Nat) (hj : j < 7) (t : Ex) (h : l[k]? = some t) : (flatX l)[k * 7 + j]? = (encX t)[j]? := by
  induction l generalizing k with
  | nil => simp at h
  | cons a r ih =>
    have e : flatX (a :: r) = encX a ++ flatX r := rfl
    rw [e]
    cases k with
    | zero =>
      simp at h; subst h
      rw [Nat.zero_mul, Nat.zero_add, List.getElem?_append_left (by simp [encX]; omega)]
    | succ k =>
      rw [List.getElem?_append_right (by simp [encX]; omega)]
      have : (k + 1) * 7 + j - (encX a).length = k * 7 + j := by simp [encX]; omega
      rw [this]
      exact ih k (by simpa using h)
theorem ents_own {w : World} {base : Nat} {v : Value} {l : List Ex} (h : w.ownsRow base 29 7 v l.length (flatX l)) (hd : ∀ x ∈ l, DataAt w x.dv x.e.dt) : EntsAt w v l := by
  rcases h.2 with ⟨rfl, hn⟩ | ⟨g, cap, cur, rfl, hb, hh, hc, hm, hs, ht⟩
  · refine ⟨none, 0, by rw [hn], by omega, Nat.zero_le _, fun k t hk => ?_⟩
    rw [List.eq_nil_of_length_eq_zero hn] at hk
    simp at hk
  · refine ⟨_, cap, rfl, hc, hm, fun k t hk => ⟨⟨g, 0, rfl, lt_of_block hh, fun j hj => ?_⟩, hd t (List.mem_of_getElem? hk)⟩⟩
    have hkl : k < l.length := (List.getElem?_eq_some_iff.1 hk).1
    rw [← flatX_get l k j hj t hk, ← ht, List.getElem?_take_of_lt (by omega), (cell_of hh _).1]
    simp
theorem row_same {w w' : World} {base : Nat} {e : TypeId} {s : Nat} {v : Value} {n : Nat} {xs : List Value} (h : w.ownsRow base e s v n xs) (hk : ∀ b, v.ownBlock = some b → w'.heap[b]? = w.heap[b]?) : w'.ownsRow base e s v n xs := by
  refine ⟨h.1, ?_⟩
  rcases h.2 with h0 | ⟨g, cap, cur, rfl, hb, hg, h1⟩
  · exact .inl h0
  · exact .inr ⟨g, cap, cur, rfl, hb, (hk g rfl).trans hg, h1⟩
theorem row_keep {w w' : World} {base : Nat} {e : TypeId} {s : Nat} {v : Value} {n : Nat} {xs : List Value} (h : w.ownsRow base e s v n xs) (hb : Below w.heap.size w w') : w'.ownsRow base e s v n xs := row_same h (fun b e => hb.block b (h.lt _ e).2)

/-- 'string(bytes)'. -/
theorem DataAt.str {w : World} {dv : Value} {d : List UInt8} (h : DataAt w dv d) : (convert 27 9 dv).run Tryd.prog w = .ok (.string ⟨d.toArray⟩) w := by
  obtain ⟨A, c, rfl, h1, h2, hn, h3⟩ := h
  cases d with
  | nil =>
    cases A with
    | none => exact run_convert_bytes_nil w 27 5 Tryd.underlying27 Tryd.underlying5 _ _ 9 Tryd.underlying9
    | some a => exact run_convert_bytes_back w 27 9 5 a c [] Tryd.underlying27 Tryd.underlying5 Tryd.underlying9 (fun j hj => absurd hj (Nat.not_lt_zero _))
  | cons u r =>
    obtain ⟨b, off, rfl, _, hc⟩ := h3 (by simp)
    exact run_convert_bytes_back w 27 9 5 ⟨b, off, none⟩ c (u :: r) Tryd.underlying27 Tryd.underlying5 Tryd.underlying9 (fun j hj => by rw [add_plain]; exact hc j _ (List.getElem?_eq_getElem hj))
theorem str_toL (l : List UInt8) : (⟨l.toArray⟩ : ByteArray).toList = l := by rw [ByteArray.toList_eq]

/-! ### Equal -/
set_option maxHeartbeats 1000000 in
theorem equal_any (w : World) (u v : Value) (d1 d2 : List UInt8) (hu : DataAt w u d1) (hv : DataAt w v d2) :
    Calls Tryd.prog 40 #[u, v] w fun e w' => e = .returned (.bool (d1 == d2)) ∧ Below w.heap.size w w' := by
  obtain ⟨A, c, rfl, hlc, hcm, -, hcu⟩ := hu
  obtain ⟨A', c', rfl, hlc', hcm', -, hcv⟩ := hv
  unfold maxLen at hcm hcm'
  by_cases hlen : d1.length = d2.length
  · have HC := Lib.hid hcu; have HD := Lib.hid hcv
    rw [← hlen] at hlc' ⊢
    rw [← hlen] at HD
    have HL := Lib.hid hlen
    have HT : Hid (d1.take d1.length = d1 ∧ d2.take d1.length = d2) := Lib.hid ⟨List.take_length .., by rw [hlen, List.take_length]⟩
    clear hcu hcv hlen
    have HM : Hid (d1.length = d1.length) := Lib.hid rfl
    generalize hM : d1.length = n at *
    replace HM := Lib.hid hM
    clear hM
    go_enter Tryd.func40, Tryd.ntmps40
    go_wp2_with fail
    go_loopw [13] (fun i wr => ∃ k : Nat, k ≤ n ∧ i = .int .i64 k ∧ Below w.heap.size w wr ∧ d1.take k = d2.take k) (fun i _ => n - (intOf i).toNat)
    case atStart => exact ⟨0, Nat.zero_le _, rfl, Below.refl _ _, rfl⟩
    case round =>
      obtain ⟨wq, rfl⟩ : ∃ wq : World, wq = wr := ⟨_, rfl⟩
      obtain ⟨k, hk, rfl, hB, htk⟩ := hrel
      by_cases hkn : k < n
      · have hk1 : k < d1.length := by rw [HM.out]; exact hkn
        have hk2 : k < d2.length := by rw [← HL.out]; exact hkn
        obtain ⟨b, off, rfl, hb, hW⟩ := HC.out (by omega)
        obtain ⟨b', off', rfl, hb', hW'⟩ := HD.out (by omega)
        have c0 := (hB.cell (p := ⟨b, off + k, none⟩) hb).trans (hW k _ (List.getElem?_eq_getElem hk1))
        have d0 := (hB.cell (p := ⟨b', off' + k, none⟩) hb').trans (hW' k _ (List.getElem?_eq_getElem hk2))
        have hkn' : (k : Int) < (n : Int) := by omega
        have hs1 : d1.take (k + 1) = d1.take k ++ [d1[k]] := List.take_succ_eq_append_getElem hk1
        have hs2 : d2.take (k + 1) = d2.take k ++ [d2[k]] := List.take_succ_eq_append_getElem hk2
        have hne : d1[k] ≠ d2[k] → (d1 == d2) = false := fun h => by
          rw [beq_eq_false_iff_ne]; intro e; subst e; exact h rfl
        have HS1 := Lib.hid hs1; have HS2 := Lib.hid hs2; have HTK := Lib.hid htk; have HNE := Lib.hid hne
        clear hW hW' hs1 hs2 htk hne
        generalize d1[k] = x at *
        generalize d2[k] = y at *
        by_cases he : x = y
        · subst he
          go_wp2_with fail
          go_quiet (fail)
          go_wp2_with fail
          go_roundw
          case rel => exact ⟨k + 1, by omega, by go_num, below_drewN hB _, by rw [HS1.out, HS2.out, HTK.out]⟩
          case measure => simp [intOf]; omega
        · have hz : (((x.toNat : Nat) : Int) != ((y.toNat : Nat) : Int)) = true := by
            rw [bne_iff_ne]; intro e; exact he (UInt8.toNat_inj.1 (by omega))
          go_wp2_with fail
          go_quiet (fail)
          go_wp2_with fail
          go_ret
          exact ⟨by rw [HNE.out he]; rfl, below_drewN hB _⟩
      · obtain rfl : k = n := by omega
        have he : (d1 == d2) = true := by
          rw [beq_iff_eq, ← HT.out.1, ← HT.out.2]; exact htk
        go_wp2_with fail
        go_ret
        exact ⟨by rw [he]; rfl, hB⟩
  · have he : (d1 == d2) = false := by rw [beq_eq_false_iff_ne]; intro e; exact hlen (by rw [e])
    rw [he]
    have hz : ((d1.length : Int) != (d2.length : Int)) = true := by rw [bne_iff_ne]; intro e; exact hlen (by omega)
    clear hcu hcv he
    generalize d1.length = n at *
    generalize d2.length = m at *
    go_enter Tryd.func40, Tryd.ntmps40
    go_wp2_with fail
    go_ret
    exact ⟨rfl, Below.refl _ _⟩
end Go.Proofs.YtbanfkpfijcmcaaDoor
