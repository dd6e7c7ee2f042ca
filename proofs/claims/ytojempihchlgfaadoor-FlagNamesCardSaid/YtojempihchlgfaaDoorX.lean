/- Parse, FeatParse; the walk of FlagWords. -/
import Derived.Test.YtojempihchlgfaaDoorR
import Derived.Test.YtojempihchlgfaaDoorV
import Derived.Test.YtojempihchlgfaaDoorO
namespace Go.Proofs.YtojempihchlgfaaDoor
open Go.RowKit
set_option linter.unusedSimpArgs false
set_option linter.unusedVariables false
set_option maxRecDepth 100000

theorem Parse_any (s : ByteArray) (w : World) (hw : Wd w) (hx : Mx w) (hs : s.size ≤ 100000) : Calls Tryd.prog 27 #[.string s] w (RP 0 s w) := by
  have h := parse0 s w hw hx hs
  unfold RP at h ⊢
  have H := Lib.hid h
  clear h hw hx
  generalize paR 0 s = pr at *
  generalize paE 0 s = pe at *
  go_enter Tryd.func27, Tryd.ntmps27
  go_wp2_with (go_at_call 39; refine H.out.mono ?_; rintro e w' ⟨rfl, hb⟩)
  go_ret2
  exact ⟨rfl, hb⟩
theorem FeatParse_any (s : ByteArray) (w : World) (hw : Wd w) (hx : Mx w) (hs : s.size ≤ 100000) : Calls Tryd.prog 29 #[.string s] w (RP 1 s w) := by
  have h := parse1 s w hw hx hs
  unfold RP at h ⊢
  have H := Lib.hid h
  clear h hw hx
  generalize paR 1 s = pr at *
  generalize paE 1 s = pe at *
  go_enter Tryd.func29, Tryd.ntmps29
  go_wp2_with (go_at_call 39; refine H.out.mono ?_; rintro e w' ⟨rfl, hb⟩)
  go_ret2
  exact ⟨rfl, hb⟩

/-- What the laws lean on: the tables, and the library's variable. -/
def Env (w : World) : Prop := Wd w ∧ Mx w
theorem Env.later {w w' : World} (h : Env w) (hb : Below w.heap.size w w') : Env w' :=
  ⟨h.1.same (hb.block 1 h.1.lt), h.2.same (hb.block 2 h.2.lt)⟩

set_option maxHeartbeats 4000000 in
theorem words_walk (m : Int) (s : ByteArray) (w : World) (hw : Env w) (hs : s.size ≤ 1000) : Calls Tryd.prog 6 #[.int .i64 m, .string s] w fun e w' => e = .returned (.bool true) ∧ Below w.heap.size w w' := by
  have hT : ∀ w, Env w → Calls Tryd.prog 23 #[.int .i64 m] w (RT 0 m w) := fun w h => Text_any m w h.1
  have hF : ∀ w, Env w → Calls Tryd.prog 25 #[.int .i64 m] w (RT 1 m w) := fun w h => FeatText_any m w h.1
  have hP : ∀ w, Env w → Calls Tryd.prog 27 #[.string s] w (RP 0 s w) := fun w h => Parse_any s w h.1 h.2 (by omega)
  have hG : ∀ w, Env w → Calls Tryd.prog 29 #[.string s] w (RP 1 s w) := fun w h => FeatParse_any s w h.1 h.2 (by omega)
  have h24 := rallTop0 m
  have h26 := rallTop1 m
  have h28 := rfindTop0 s
  have h30 := rfindTop1 s
  unfold RT at hT hF
  unfold RP at hP hG
  unfold RA at h24 h26
  generalize (⟨(txL 0 m).toArray⟩ : ByteArray) = t0 at *
  generalize (⟨(txL 1 m).toArray⟩ : ByteArray) = t1 at *
  generalize txE 0 m = e0 at *
  generalize txE 1 m = e1 at *
  generalize paR 0 s = p0 at *
  generalize paR 1 s = p1 at *
  generalize paE 0 s = f0 at *
  generalize paE 1 s = f1 at *
  have HT := Lib.hid hT; have HF := Lib.hid hF; have HP := Lib.hid hP; have HG := Lib.hid hG
  have H4 := Lib.hid h24; have H6 := Lib.hid h26; have H8 := Lib.hid h28; have H0 := Lib.hid h30
  have HW := Lib.hid hw
  clear hT hF hP hG h24 h26 h28 h30 hw
  go_enter Tryd.func6, Tryd.ntmps6
  go_wp2_with fail
  refine (HT.out w HW.out).mono ?_
  rintro e w1 ⟨rfl, b1⟩
  have HW1 := Lib.hid (HW.out.later b1)
  go_wp2_with (go_at_call 24; refine (H4.out _).mono ?_; rintro e w' ⟨rfl, rfl⟩)
  refine (HF.out w1 HW1.out).mono ?_
  rintro e w2 ⟨rfl, b2⟩
  have HW2 := Lib.hid (HW1.out.later b2)
  go_wp2_with (go_at_call 26; refine (H6.out _).mono ?_; rintro e w' ⟨rfl, rfl⟩)
  refine (HP.out w2 HW2.out).mono ?_
  rintro e w3 ⟨rfl, b3⟩
  have HW3 := Lib.hid (HW2.out.later b3)
  go_wp2_with (go_at_call 28; refine (H8.out _).mono ?_; rintro e w' ⟨rfl, rfl⟩)
  refine (HG.out w3 HW3.out).mono ?_
  rintro e w4 ⟨rfl, b4⟩
  go_wp2_with (go_at_call 30; refine (H0.out _).mono ?_; rintro e w' ⟨rfl, rfl⟩)
  go_ret
  have B2 := b1.trans (b2.mono b1.size)
  have B3 := B2.trans (b3.mono B2.size)
  exact ⟨by simp, B3.trans (b4.mono B3.size)⟩
theorem words_long (m : Int) (s : ByteArray) (w : World) (hs : 1000 < s.size) (hm : s.size ≤ maxLen) : Calls Tryd.prog 6 #[.int .i64 m, .string s] w fun e w' => e = .returned (.bool true) ∧ Below w.heap.size w w' := by
  unfold maxLen at hm
  go_enter Tryd.func6, Tryd.ntmps6
  go_wp2_with fail
  go_ret
  exact ⟨rfl, Below.refl _ _⟩
theorem words_top (m : Int) (s : ByteArray) (w : World) (hw : (Wd w ∧ Hs w) ∧ Mx w) (_ : (Lit.int .i64 m).wf = true) (ws : s.size ≤ maxLen) : Calls Tryd.prog 6 #[.int .i64 m, .string s] w fun e w' => e = .returned (.bool true) ∧ Below w.heap.size w w' := by
  by_cases h : s.size ≤ 1000
  · exact words_walk m s w ⟨hw.1.1, hw.2⟩ h
  · exact words_long m s w (by omega) ws
theorem of_shape {W : World} (h : W.ShapedOpen Tryd.prog) : Mx W := by
  have := Go.Proofs.cell_of_shapedOpen_int (g := 2) (k := .i64) (zero := #[.int .i64 0]) (t := 3) h (of_decide_eq_true (by kernel_rfl)) (by kernel_rfl) rfl (by kernel_rfl) (by kernel_rfl) Tryd.underlying3
  exact this
end Go.Proofs.YtojempihchlgfaaDoor
