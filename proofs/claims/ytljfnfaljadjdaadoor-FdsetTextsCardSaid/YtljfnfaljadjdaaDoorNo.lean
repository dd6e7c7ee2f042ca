/- fdset's number: which texts are the numbers below 64. -/
import Derived.Test.YtljfnfaljadjdaaDoorW
import Derived.Test.YtljfnfaljadjdaaDoorSh2
import Derived.Lib.SmallJoins
import Derived.Lib.AppendIntMem
import Derived.Lib.AtoiErrMem
namespace Go.Proofs.YtljfnfaljadjdaaDoor
open Go.RowKit Go.Sort
set_option linter.unusedSimpArgs false
set_option linter.unusedVariables false
set_option maxRecDepth 100000

def EvOk (ev : Value) : Prop := ev = .nilIface ∨ ∃ te pe, ev = .iface te pe
/-- What the library's variables hold. -/
structure Env (w : World) : Prop where
  m : ∃ m, w.cell? ⟨0, 0, none⟩ = some (.int .i64 m)
  s : ∃ ev, w.cell? ⟨1, 0, none⟩ = some ev ∧ EvOk ev
  r : ∃ ev, w.cell? ⟨2, 0, none⟩ = some ev ∧ EvOk ev
  t : Lib.TabIs Tryd.prog w "internal/strconv.uint64pow10" .u64 Lib.pow10Tab
theorem gPow : Tryd.prog.globalNamed "internal/strconv.uint64pow10" = some 3 := by kernel_rfl
theorem Env.below {w w' : World} (h : Env w) (hb : Below w.heap.size w w') : Env w' := by
  obtain ⟨m, hm⟩ := h.m; obtain ⟨s, hs, hs2⟩ := h.s; obtain ⟨r, hr, hr2⟩ := h.r
  exact ⟨⟨m, (hb.cell (p := ⟨0, 0, none⟩) (cell_lt hm).1).trans hm⟩, ⟨s, (hb.cell (p := ⟨1, 0, none⟩) (cell_lt hs).1).trans hs, hs2⟩, ⟨r, (hb.cell (p := ⟨2, 0, none⟩) (cell_lt hr).1).trans hr, hr2⟩, Joins.tab_stays gPow h.t hb (Nat.le_refl _)⟩

def numO (s : ByteArray) : Option Nat := (List.range 64).find? (fun k => decide (s.data.toList = Lib.itoa (k : Int)))
theorem numO_some {s : ByteArray} {k : Nat} (h : numO s = some k) : k < 64 ∧ s.data.toList = Lib.itoa (k : Int) :=
  ⟨List.mem_range.1 (List.mem_of_find?_eq_some h), of_decide_eq_true (List.find?_some (p := fun k : Nat => decide (s.data.toList = Lib.itoa (k : Int))) h)⟩
theorem numO_none {s : ByteArray} (h : numO s = none) (k : Nat) (hk : k < 64) : s.data.toList ≠ Lib.itoa (k : Int) := by
  have := List.find?_eq_none.1 h k (List.mem_range.2 hk)
  simpa using this
theorem itoa_back : ∀ k : Fin 64, Lib.atoiAll (Lib.itoa (k.val : Int)) = .ok (k.val : Int) := by decide +kernel
theorem numO_of {s : ByteArray} {v : Int} (h0 : 0 ≤ v) (h1 : v < 64) (hs : s.data.toList = Lib.itoa v) : numO s = some v.toNat := by
  obtain ⟨n, rfl⟩ := Int.eq_ofNat_of_zero_le h0
  cases h : numO s with
  | none => exact absurd hs (numO_none h n (by omega))
  | some k =>
    obtain ⟨hk, e⟩ := numO_some h
    have e1 := itoa_back ⟨k, hk⟩
    have e2 := itoa_back ⟨n, by omega⟩
    simp only at e1 e2
    rw [← e, hs, e2] at e1
    injection e1 with e1
    simp; omega
theorem numO_atoi {s : ByteArray} {k : Nat} (h : numO s = some k) : Lib.atoiAll s.data.toList = .ok (k : Int) := by
  obtain ⟨hk, e⟩ := numO_some h
  rw [e]; exact itoa_back ⟨k, hk⟩
theorem bytes_eq {l : List UInt8} {s : ByteArray} : ((⟨l.toArray⟩ : ByteArray) = s) ↔ s.data.toList = l := by
  constructor
  · rintro rfl; simp
  · rintro rfl; cases s; simp

/-- What number answers. -/
def NumR (s : ByteArray) (w : World) (e : Ending) (w' : World) : Prop := (∃ n : Int, e = .returned (.tuple #[.int .i64 n, .bool (numO s).isSome]) ∧ ∀ k, numO s = some k → n = k) ∧ Below w.heap.size w w'
theorem NumR.none {s : ByteArray} {w w' : World} (n : Int) (h : numO s = none) (hb : Below w.heap.size w w') : NumR s w (.returned (.tuple #[.int .i64 n, .bool false])) w' := ⟨⟨n, by rw [h]; rfl, fun k hk => by rw [h] at hk; cases hk⟩, hb⟩
theorem NumR.some {s : ByteArray} {w w' : World} (n : Int) (k : Nat) (h : numO s = some k) (hn : n = k) (hb : Below w.heap.size w w') : NumR s w (.returned (.tuple #[.int .i64 n, .bool true])) w' := ⟨⟨n, by rw [h]; rfl, fun j hj => by rw [h] at hj; injection hj with hj; omega⟩, hb⟩

theorem number_any (s : ByteArray) (w : World) (hE : Env w) (hs : s.size ≤ 1000) : Calls Tryd.prog 36 #[.string s] w (NumR s w) := by
  have HE := Lib.hid hE
  cases hA : Lib.atoiAll s.data.toList
  case ok v =>
    have bv := Lib.atoiAll_bounds hA
    have HA := Lib.hid (fun w => Tryd.strconv_Atoi_ok s (by omega) v hA w)
    have HI := Lib.hid (fun w ht => Tryd.strconv_Itoa v bv.1 bv.2 w ht)
    have HO := Lib.hid (fun k (h : numO s = some k) => numO_atoi h)
    have HO2 := Lib.hid (fun k (h : numO s = some k) => (numO_some h).2)
    rw [hA] at HO
    have HB := Lib.hid (bytes_eq (l := Lib.itoa v) (s := s))
    have HV := Lib.hid (fun h0 h1 h => numO_of (s := s) (v := v) h0 h1 h)
    clear hA hE hs
    obtain ⟨v0, v1⟩ := bv
    generalize (⟨(Lib.itoa v).toArray⟩ : ByteArray) = t at HI HB
    go_enter Tryd.func36, Tryd.ntmps36
    go_wp2_with fail
    refine (HA.out _).mono ?_
    rintro e w1 ⟨rfl, hw1⟩
    have B1 : Hid (Below w.heap.size w w1) := Lib.hid (by rcases hw1 with rfl | ⟨t, rfl⟩; exact Below.refl _ _; exact Joins.below_bytesWorld _ _ _ _ (Nat.le_refl _))
    clear hw1
    by_cases he : t = s
    · have eq2 : t.toList = s.toList := by rw [he]
      have eq1 : (t.toList == s.toList) = true := by rw [eq2]; simp
      have hl := HB.out.1 he
      by_cases hv : 0 ≤ v ∧ v < 64
      · have HN := Lib.hid (HV.out hv.1 hv.2 hl)
        have hv0 := hv.1
        have HF := Lib.hid (fun w => fits_yes v w hv.1 hv.2)
        clear he hl hv
        go_wp2_with fail
        refine (HI.out _ (HE.out.below B1.out).t).mono ?_
        rintro e w2 ⟨rfl, kk, os, rfl⟩
        have B2 : Hid (Below w.heap.size w (grow (w1.drewN kk) os)) := Lib.hid (B1.out.trans ((Lib.below_grow _ _ (Nat.le_refl _) _ _).mono B1.out.size))
        generalize grow (w1.drewN kk) os = w2 at B2 ⊢
        go_wp2_with fail
        refine (HF.out _).mono ?_
        rintro e w3 ⟨rfl, rfl⟩
        go_wp2_with fail
        go_ret2
        exact NumR.some v v.toNat HN.out (by omega) B2.out
      · have HN : Hid (numO s = none) := Lib.hid (by
          cases h : numO s with
          | none => rfl
          | some k => have h2 := HO.out k h; injection h2 with h2; have := (numO_some h).1; omega)
        have HF := Lib.hid (fun w => fits_no v w (by omega))
        clear he hl hv
        go_wp2_with fail
        refine (HI.out _ (HE.out.below B1.out).t).mono ?_
        rintro e w2 ⟨rfl, kk, os, rfl⟩
        have B2 : Hid (Below w.heap.size w (grow (w1.drewN kk) os)) := Lib.hid (B1.out.trans ((Lib.below_grow _ _ (Nat.le_refl _) _ _).mono B1.out.size))
        generalize grow (w1.drewN kk) os = w2 at B2 ⊢
        go_wp2_with fail
        refine (HF.out _).mono ?_
        rintro e w3 ⟨rfl, rfl⟩
        go_wp2_with fail
        go_ret2
        exact NumR.none v HN.out B2.out
    · have eq1 : (t.toList == s.toList) = false := Bool.eq_false_iff.2 fun h => he (by have := (Lib.bytes_beq_iff _ _).1 h; exact this)
      have eq2 : ¬ t.toList = s.toList := by simpa using eq1
      have HN : Hid (numO s = none) := Lib.hid (by
        cases h : numO s with
        | none => rfl
        | some k => have h2 := HO.out k h; injection h2 with h2; have := (numO_some h).2; rw [← h2] at this; exact absurd (HB.out.2 this) he)
      clear he
      go_wp2_with fail
      refine (HI.out _ (HE.out.below B1.out).t).mono ?_
      rintro e w2 ⟨rfl, kk, os, rfl⟩
      have B2 : Hid (Below w.heap.size w (grow (w1.drewN kk) os)) := Lib.hid (B1.out.trans ((Lib.below_grow _ _ (Nat.le_refl _) _ _).mono B1.out.size))
      generalize grow (w1.drewN kk) os = w2 at B2 ⊢
      go_wp2_with fail
      go_ret2
      exact NumR.none v HN.out B2.out
  case range =>
    obtain ⟨ev, hc, hev⟩ := hE.r
    have HA := Lib.hid (Tryd.strconv_Atoi_range s (by omega) hA ev w hc hev)
    have HN : Hid (numO s = none) := Lib.hid (by
      cases h : numO s with
      | none => rfl
      | some k => have := numO_atoi h; rw [hA] at this; cases this)
    clear hA hE hs hc hev
    generalize Lib.atoiSat s.data.toList = sat at HA
    go_enter Tryd.func36, Tryd.ntmps36
    go_wp2_with fail
    refine HA.out.mono ?_
    rintro e w1 ⟨N, rfl, -, -, b1⟩
    go_wp2_with fail
    go_ret2
    exact NumR.none sat HN.out b1
  · obtain ⟨ev, hc, hev⟩ := hE.s
    have HA := Lib.hid (Tryd.strconv_Atoi_no s (by omega) (fun v e => by rw [hA] at e; cases e) (fun e => by rw [hA] at e; cases e) ev w hc hev)
    have HN : Hid (numO s = none) := Lib.hid (by
      cases h : numO s with
      | none => rfl
      | some k => have := numO_atoi h; rw [hA] at this; cases this)
    clear hA hE hs hc hev
    go_enter Tryd.func36, Tryd.ntmps36
    go_wp2_with fail
    refine HA.out.mono ?_
    rintro e w1 ⟨N, rfl, -, -, b1⟩
    go_wp2_with fail
    go_ret2
    exact NumR.none 0 HN.out b1
end Go.Proofs.YtljfnfaljadjdaaDoor
