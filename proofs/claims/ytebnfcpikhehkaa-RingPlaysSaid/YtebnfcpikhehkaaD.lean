/- A ring as a list of bytes; Look and Take. -/
import Derived.Test.YtebnfcpikhehkaaC
import Derived.Deep.Onto
import Derived.PlainAid
namespace Go.Proofs.Ytebnfcpikhehkaa
open Go.RowKit Go.Shelf
set_option linter.unusedSimpArgs false
set_option linter.unusedVariables false
set_option maxRecDepth 100000

/-- Block g is a ring, its row block gb, with room for C bytes; it has the bytes L. -/
def Rg (w : World) (g gb C : Nat) (L : List Int) (ip op : Nat) : Prop :=
  ∃ (fr : Nat) (cs : List Int), Rk w g gb C fr L.length (ip : Int) (op : Int) ∧ By w gb cs ∧ cs.length = C ∧ L.length ≤ C ∧ C ≤ 65536 ∧ fr ≤ C ∧ L = rd cs fr L.length ∧ (∀ x ∈ cs, 0 ≤ x ∧ x < 256) ∧ g ≠ gb
/-- A slice of bytes of the call's own. -/
def Got (w : World) (base : Nat) (v : Value) (zs : List Int) : Prop := w.ownsRow base 5 1 v zs.length (zs.map (Value.int .u8))
theorem Rg.lt {w : World} {g gb C : Nat} {L : List Int} {ip op : Nat} (h : Rg w g gb C L ip op) : g < w.heap.size ∧ gb < w.heap.size := by
  obtain ⟨fr, cs, a, b, _⟩ := h
  exact ⟨a.lt, b.lt⟩
theorem Rg.same {w w' : World} {g gb C : Nat} {L : List Int} {ip op : Nat} (h : Rg w g gb C L ip op) (e1 : w'.heap[g]? = w.heap[g]?) (e2 : w'.heap[gb]? = w.heap[gb]?) : Rg w' g gb C L ip op := by
  obtain ⟨fr, cs, a, b, r⟩ := h
  exact ⟨fr, cs, e1.trans a, e2.trans b, r⟩
theorem Rg.below {w w' : World} {g gb C : Nat} {L : List Int} {ip op : Nat} {B : Nat} (h : Rg w g gb C L ip op) (hb : Below B w w') (h1 : g < B) (h2 : gb < B) : Rg w' g gb C L ip op := h.same (hb.block _ h1) (hb.block _ h2)
theorem Rg.len {w : World} {g gb C : Nat} {L : List Int} {ip op : Nat} (h : Rg w g gb C L ip op) : L.length ≤ C ∧ C ≤ 65536 ∧ g ≠ gb := by
  obtain ⟨fr, cs, a, b, c, d, e, f, r, s, t⟩ := h
  exact ⟨d, e, t⟩
theorem Rg.byte {w : World} {g gb C : Nat} {L : List Int} {ip op : Nat} (h : Rg w g gb C L ip op) : ∀ x ∈ L, 0 ≤ x ∧ x < 256 := by
  obtain ⟨fr, cs, a, b, c, d, e, f, r, s, t⟩ := h
  rw [r]
  exact rd_mem cs fr _ (fun x => 0 ≤ x ∧ x < 256) ⟨by omega, by omega⟩ s

set_option maxHeartbeats 1000000 in
theorem look_none (g gb C fr n0 : Nat) (ip op : Int) (m : Int) (w : World) (rk : Rk w g gb C fr n0 ip op) (hm : m ≤ 0 ∨ n0 = 0) :
    Calls Try.prog 15 #[.pointer (some ⟨g, 0, none⟩), .int .i64 m] w fun e w' => e = .returned (.slice none 0 0) ∧ Below w.heap.size w w' := by
  have HL := Lib.hid (fun (W : World) (b : Below w.heap.size w W) => len_any g gb C fr n0 ip op W ((b.block _ rk.lt).trans rk))
  clear rk
  rcases hm with h | rfl
  · have h2 : m ≤ (n0 : Int) := by omega
    go_enter Try.func15, Try.ntmps15
    go_wp2_with fail
    refine (HL.out _ ((Below.refl _ _).alloc (Nat.le_refl _) _)).mono ?_
    rintro e w' ⟨rfl, rfl⟩
    go_wp2_with fail
    go_ret
    exact ⟨rfl, (Below.refl _ _).alloc (Nat.le_refl _) _⟩
  · go_enter Try.func15, Try.ntmps15
    go_wp2_with fail
    refine (HL.out _ ((Below.refl _ _).alloc (Nat.le_refl _) _)).mono ?_
    rintro e w' ⟨rfl, rfl⟩
    by_cases h : 0 < m
    · go_wp2_with fail
      go_ret
      exact ⟨rfl, (Below.refl _ _).alloc (Nat.le_refl _) _⟩
    · have h2 : m ≤ 0 := by omega
      go_wp2_with fail
      all_goals
        go_ret
        exact ⟨rfl, (Below.refl _ _).alloc (Nat.le_refl _) _⟩

theorem Look_any (g gb C : Nat) (L : List Int) (ip op : Nat) (m : Int) (w : World) (h : Rg w g gb C L ip op) :
    Calls Try.prog 15 #[.pointer (some ⟨g, 0, none⟩), .int .i64 m] w fun e w' => (∃ v, e = .returned v ∧ Got w' w.heap.size v (L.take m.toNat)) ∧ Below w.heap.size w w' := by
  obtain ⟨fr, cs, rk, b, hcs, hL, hC, hfr, hrd, hby, hne⟩ := h
  by_cases hm : m ≤ 0 ∨ L.length = 0
  · refine (look_none _ _ _ _ _ _ _ m w rk hm).mono ?_
    rintro e w' ⟨rfl, hb⟩
    have : L.take m.toNat = [] := by
      rcases hm with h | h
      · rw [show m.toNat = 0 by omega]; rfl
      · rw [List.eq_nil_of_length_eq_zero h]; simp
    rw [this]
    exact ⟨⟨_, rfl, World.ownsRow_nil _ _ _ _⟩, hb⟩
  · have hk : ((min m.toNat L.length : Nat) : Int) = min m (L.length : Int) := by omega
    refine ((callsIn_wide (n := 3)).1 (look_in 3 (by omega) g gb C fr L.length (min m.toNat L.length) ip op cs m w rk b hcs hC hL hfr (by omega) hk (by omega))).mono ?_
    rintro e w' ⟨⟨v, rfl, hv⟩, hb⟩
    have e1 : rd cs fr (min m.toNat L.length) = L.take m.toNat := by
      rw [rd_take cs fr L.length _ (by omega), ← hrd]
      exact (List.take_eq_take_min).symm
    rw [e1] at hv
    refine ⟨⟨v, rfl, ?_⟩, hb⟩
    unfold Got
    rw [List.length_take]
    exact hv.mono (by omega)

theorem Rk.took {w : World} {g gb C fr n : Nat} {ip op : Int} (k : Rk w g gb C fr n ip op) (fr' n' : Nat) (op' : Int) (x y : Int) (hx : x = fr') (hy : y = n') :
    Rk (((w.setCell ⟨g, 1, none⟩ (.int .i64 x)).setCell ⟨g, 2, none⟩ (.int .i64 y)).setCell ⟨g, 4, none⟩ (.int .u64 op')).drew g gb C fr' n' ip op' ∧
    w.grownBy (((w.setCell ⟨g, 1, none⟩ (.int .i64 x)).setCell ⟨g, 2, none⟩ (.int .i64 y)).setCell ⟨g, 4, none⟩ (.int .u64 op')).drew (some g) := by
  subst hx hy
  unfold Rk at *
  constructor
  · simp [World.setCell, World.drew, Array.getElem?_modify, k]
  · refine ⟨rfl, rfl, rfl, by simp [World.setCell, World.drew], fun i hi hne => ?_⟩
    have hne' : ¬ g = i := fun e => hne (by rw [e])
    simp [World.setCell, World.drew, Array.getElem?_modify, hne']

set_option maxHeartbeats 2000000 in
theorem Take_some (g gb C fr n0 : Nat) (ip op : Nat) (L R : List Int) (m : Int) (w : World) (rk : Rk w g gb C fr n0 ip op) (hfr : fr ≤ C) (hC : C ≤ 65536) (hn : n0 ≤ C) (hR : R.length ≤ n0) (h0 : 0 < R.length) (hop : op ≤ 1000000000000)
    (HL : Calls Try.prog 15 #[.pointer (some ⟨g, 0, none⟩), .int .i64 m] w fun e w' => (∃ v, e = .returned v ∧ Got w' w.heap.size v R) ∧ Below w.heap.size w w') :
    Calls Try.prog 12 #[.pointer (some ⟨g, 0, none⟩), .int .i64 m] w fun e w' => ∃ w1, (∃ v, e = .returned v ∧ Got w1 w.heap.size v R) ∧ Below w.heap.size w w1 ∧ Rk w' g gb C ((fr + R.length) % C) (n0 - R.length) ip ((op + R.length : Nat) : Int) ∧ w1.grownBy w' (some g) := by
  have HL := Lib.hid HL
  go_enter Try.func12, Try.ntmps12
  go_wp2_with fail
  refine HL.out.mono ?_
  rintro e w1 ⟨⟨v, rfl, hv⟩, hb⟩
  have hv' := hv
  unfold Got at hv'
  obtain ⟨A, c, rfl, hc⟩ := row_form hv'
  have HV := Lib.hid hv
  clear hv hv' HL
  have rk1 : Rk w1 g gb C fr n0 ip op := (hb.block _ rk.lt).trans rk
  clear rk
  obtain ⟨k0, k1, k2, k3, k4, k5, z0, z1, z2, z3, z4⟩ := rk1.cells
  have RK := Lib.hid rk1
  clear rk1
  have HB := Lib.hid hb
  clear hb
  generalize hq : R.length = q at *
  have HQ := Lib.hid hq
  clear hq
  have i1 : (fr : Int) + (q : Int) ≤ 131072 := by omega
  have i2 : (0 : Int) < (C : Int) := by omega
  go_wp2_with fail
  go_region
  go_wp2_with fail
  go_ret
  obtain ⟨t1, t2⟩ := RK.out.took ((fr + q) % C) (n0 - q) ((op : Int) + (q : Int)) (((fr : Int) + q) % C) ((n0 : Int) - q) (by rw [Int.natCast_emod, Int.natCast_add]) (by omega)
  rw [HQ.out]
  exact ⟨w1, ⟨_, rfl, HV.out⟩, HB.out, t1, t2⟩
theorem Take_none (g : Nat) (m : Int) (w : World)
    (HL : Calls Try.prog 15 #[.pointer (some ⟨g, 0, none⟩), .int .i64 m] w fun e w' => (∃ v, e = .returned v ∧ Got w' w.heap.size v []) ∧ Below w.heap.size w w') :
    Calls Try.prog 12 #[.pointer (some ⟨g, 0, none⟩), .int .i64 m] w fun e w' => (∃ v, e = .returned v ∧ Got w' w.heap.size v []) ∧ Below w.heap.size w w' := by
  have HL := Lib.hid HL
  go_enter Try.func12, Try.ntmps12
  go_wp2_with fail
  refine HL.out.mono ?_
  rintro e w1 ⟨⟨v, rfl, hv⟩, hb⟩
  have hv' := hv
  unfold Got at hv'
  obtain ⟨A, c, rfl, hc⟩ := row_form hv'
  have HV := Lib.hid hv
  have HB := Lib.hid hb
  clear hv hv' hb
  go_wp2_with fail
  go_ret
  exact ⟨⟨_, rfl, HV.out⟩, HB.out⟩

theorem Got.kept {w w' : World} {base : Nat} {v : Value} {zs : List Int} {g : Nat} (h : Got w base v zs) (hg : w.grownBy w' (some g)) (hl : g < base) : Got w' base v zs := by
  unfold Got at *
  refine h.kept hg ?_
  cases hv2 : v.ownBlock with
  | none => exact .inl rfl
  | some k => exact .inr fun e => by have := (h.lt k hv2).1; simp at e; omega
theorem Take_any (g gb C : Nat) (L : List Int) (ip op : Nat) (m : Int) (w : World) (h : Rg w g gb C L ip op) (hop : op ≤ 1000000000000) :
    Calls Try.prog 12 #[.pointer (some ⟨g, 0, none⟩), .int .i64 m] w fun e w' => (∃ v, e = .returned v ∧ Got w' w.heap.size v (L.take m.toNat)) ∧ Rg w' g gb C (L.drop m.toNat) ip (op + (L.take m.toNat).length) ∧ w.grownBy w' (some g) := by
  have HL := Look_any g gb C L ip op m w h
  have hlt := h.lt
  by_cases h0 : L.take m.toNat = []
  · have hd : L.drop m.toNat = L := by
      rcases List.take_eq_nil_iff.1 h0 with h1 | h1
      · rw [h1]; rfl
      · rw [h1]; simp
    rw [h0] at HL ⊢
    refine (Take_none g m w HL).mono ?_
    rintro e w' ⟨hv, hb⟩
    rw [hd]
    exact ⟨hv, h.below hb hlt.1 hlt.2, grown_of_below hb _⟩
  · have hl : 0 < (L.take m.toNat).length := List.length_pos_iff.2 h0
    obtain ⟨fr, cs, rk, b, hcs, hL, hC, hfr, hrd, hby, hne⟩ := h
    have hk : (L.take m.toNat).length ≤ L.length := by rw [List.length_take]; omega
    refine (Take_some g gb C fr L.length ip op L (L.take m.toNat) m w rk hfr hC hL hk hl hop HL).mono ?_
    rintro e w' ⟨w1, ⟨v, rfl, hv⟩, hb, k1, gr⟩
    refine ⟨⟨v, rfl, hv.kept gr hlt.1⟩, ⟨(fr + (L.take m.toNat).length) % C, cs, ?_, ?_, hcs, ?_, hC, ?_, ?_, hby, hne⟩, grown_trans (grown_of_below hb _) gr⟩
    · have : (L.drop m.toNat).length = L.length - (L.take m.toNat).length := by rw [List.length_drop, List.length_take]; omega
      rw [this]
      exact k1
    · exact (gr.block _ (Nat.lt_of_lt_of_le hlt.2 hb.size) (fun e => hne (by injection e with e; exact e.symm))).trans ((hb.block _ hlt.2).trans b)
    · rw [List.length_drop]; omega
    · exact Nat.le_of_lt (Nat.mod_lt _ (by omega))
    · have e1 : (L.drop m.toNat).length = L.length - (L.take m.toNat).length := by rw [List.length_drop, List.length_take]; omega
      have e2 : L.drop m.toNat = L.drop (L.take m.toNat).length := by
        rw [List.length_take]
        by_cases hh : m.toNat ≤ L.length
        · rw [Nat.min_eq_left hh]
        · rw [Nat.min_eq_right (by omega), List.drop_of_length_le (by omega), List.drop_of_length_le (by omega)]
      rw [e1, e2, ← hcs, rd_drop cs fr L.length _ (by omega) (by omega) (by omega), ← hrd]
end Go.Proofs.Ytebnfcpikhehkaa
