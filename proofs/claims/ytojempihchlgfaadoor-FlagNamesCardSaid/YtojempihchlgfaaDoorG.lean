/- ByName beside the document's. -/
import Derived.Test.YtojempihchlgfaaDoorF
namespace Go.Proofs.YtojempihchlgfaaDoor
open Go.RowKit
set_option linter.unusedSimpArgs false
set_option linter.unusedVariables false

/-- The drivers' words, as the table has them. -/
def dw : List ByteArray := [⟨#[115, 101, 108, 101, 99, 116]⟩, ⟨#[112, 111, 108, 108]⟩, ⟨#[101, 112, 111, 108, 108]⟩, ⟨#[107, 113, 117, 101, 117, 101]⟩, ⟨#[]⟩, ⟨#[]⟩]
def byN (s : ByteArray) : Int := if s.toList == [] then 0 else 1 + sidx s 0 dw
def ridx (s : ByteArray) : Nat → List ByteArray → Int
  | _, [] => 0
  | k, x :: xs => if x.toList == s.toList then (k : Int) else ridx s (k + 1) xs
def rbN (s : ByteArray) : Int := ridx s 1 [nm 1, nm 2, nm 3, nm 4]
theorem sidx_bd (s : ByteArray) (k : Nat) (l : List ByteArray) : -1 ≤ sidx s k l ∧ sidx s k l ≤ k + l.length := by
  induction l generalizing k with
  | nil => simp [sidx]
  | cons x xs ih =>
    rw [sidx]
    have := ih (k + 1)
    split
    · simp; omega
    · simp; omega
theorem nil_toList : (⟨#[]⟩ : ByteArray).toList = [] := by simp
theorem by_same (s : ByteArray) : byN s = rbN s := by
  unfold byN rbN
  have hc : ∀ x : ByteArray, (s.toList == x.toList) = (x.toList == s.toList) := fun x => BEq.comm
  cases h : (s.toList == [])
  · have hd : dw = [nm 1, nm 2, nm 3, nm 4, ⟨#[]⟩, ⟨#[]⟩] := rfl
    have h1 : ((⟨#[]⟩ : ByteArray).toList == s.toList) = false := by rw [← hc, nil_toList]; exact h
    simp only [hd, sidx, ridx, hc, h1, Bool.false_eq_true, if_false]
    generalize (nm 1).toList = t1
    generalize (nm 2).toList = t2
    generalize (nm 3).toList = t3
    generalize (nm 4).toList = t4
    cases (t1 == s.toList) <;> cases (t2 == s.toList) <;> cases (t3 == s.toList) <;> cases (t4 == s.toList) <;> simp
  · have hs : s.toList = [] := by simpa using h
    simp only [ridx, hs, if_true]
    simp [nm]

set_option maxHeartbeats 1000000 in
theorem byname_any (s : ByteArray) (w : World) (hw : Wd w) : Calls Tryd.prog 20 #[.string s] w fun e w' => e = .returned (.int .i64 (byN s)) ∧ Below w.heap.size w w' := by
  obtain ⟨c0, c1, c2, c3, c4, c5⟩ := hw.t2
  clear hw
  generalize hg : byN s = g
  unfold byN at hg
  cases h : (s.toList == [])
  · rw [h] at hg
    simp only [Bool.false_eq_true, if_false] at hg
    have HG := Lib.hid hg; clear hg
    have hb := sidx_bd s 0 dw
    have V : Strs (w.alloc (.cells #[.string ⟨#[115, 101, 108, 101, 99, 116]⟩, .string ⟨#[112, 111, 108, 108]⟩, .string ⟨#[101, 112, 111, 108, 108]⟩, .string ⟨#[107, 113, 117, 101, 117, 101]⟩, .string ⟨#[]⟩, .string ⟨#[]⟩] 48)) (some ⟨w.heap.size, 0, none⟩) dw := by
      intro _
      refine ⟨w.heap.size, 0, rfl, by simp, fun i hi => ?_⟩
      have hi' : i < 6 := hi
      have hblk : (w.alloc (.cells #[.string ⟨#[115, 101, 108, 101, 99, 116]⟩, .string ⟨#[112, 111, 108, 108]⟩, .string ⟨#[101, 112, 111, 108, 108]⟩, .string ⟨#[107, 113, 117, 101, 117, 101]⟩, .string ⟨#[]⟩, .string ⟨#[]⟩] 48)).heap[w.heap.size]? = some (.cells #[.string ⟨#[115, 101, 108, 101, 99, 116]⟩, .string ⟨#[112, 111, 108, 108]⟩, .string ⟨#[101, 112, 111, 108, 108]⟩, .string ⟨#[107, 113, 117, 101, 117, 101]⟩, .string ⟨#[]⟩, .string ⟨#[]⟩] 48 (0, 0)) := by
        show (w.heap.push _)[w.heap.size]? = _; simp
      rcases (show i = 0 ∨ i = 1 ∨ i = 2 ∨ i = 3 ∨ i = 4 ∨ i = 5 by omega) with rfl | rfl | rfl | rfl | rfl | rfl <;> (unfold World.cell?; rw [hblk]; rfl)
    have HV := Lib.hid V; clear V
    go_enter Tryd.func20, Tryd.ntmps20
    go_wp2_with fail
    refine (sindex_any s _ 6 dw _ HV.out (by decide) (by decide)).mono ?_
    rintro e w' ⟨rfl, rfl⟩
    have hb2 : sidx s 0 dw ≤ 6 := by have : dw.length = 6 := rfl; omega
    have hb1 := hb.1
    clear hb
    generalize sidx s 0 dw = x at *
    go_wp2
    go_ret
    exact ⟨by rw [← HG.out]; rfl, (Below.refl _ _).alloc (Nat.le_refl _) _⟩
  · rw [h] at hg
    simp only [if_true] at hg
    subst hg
    go_enter Tryd.func20, Tryd.ntmps20
    go_wp2_with fail
    go_ret
    exact ⟨rfl, Below.refl _ _⟩

set_option maxHeartbeats 1000000 in
theorem rbyname_any (s : ByteArray) (w : World) : Calls Tryd.prog 21 #[.string s] w fun e w' => e = .returned (.int .i64 (rbN s)) ∧ w = w' := by
  generalize hg : rbN s = g
  have HG := Lib.hid hg; clear hg
  go_enter Tryd.func21, Tryd.ntmps21
  go_wp2
  go_loop [3] (fun i => ∃ k : Nat, k ≤ 4 ∧ i = .int .i64 (k + 1 : Nat) ∧ ridx s (k + 1) ([nm 1, nm 2, nm 3, nm 4].drop k) = g) (fun i => 5 - (intOf i).toNat)
  case atStart => exact ⟨0, by omega, rfl, HG.out⟩
  case round =>
    obtain ⟨k, hk, rfl, h⟩ := hrel
    rcases (show k = 0 ∨ k = 1 ∨ k = 2 ∨ k = 3 ∨ k = 4 by omega) with rfl | rfl | rfl | rfl | rfl
    case inr.inr.inr.inr =>
      have H := Lib.hid h; clear h
      go_wp2_with fail
      go_ret
      exact ⟨by rw [← H.out]; rfl, rfl⟩
    · have h2 : (if (nm 1).toList == s.toList then ((0+1 : Nat) : Int) else ridx s (0 + 1 + 1) ([nm 1, nm 2, nm 3, nm 4].drop (0 + 1))) = g := h
      clear h
      cases e : ((nm 1).toList == s.toList)
      · rw [e] at h2
        simp only [Bool.false_eq_true, if_false] at h2
        have H := Lib.hid h2; clear h2
        go_wp2_with (go_at_call 19; refine (rname_any _ _).mono ?_; rintro e w' ⟨rfl, rfl⟩)
        go_round
        case rel => exact ⟨0 + 1, by omega, rfl, H.out⟩
        case measure => simp [intOf]
      · rw [e] at h2
        simp only [if_true] at h2
        have H := Lib.hid h2; clear h2
        go_wp2_with (go_at_call 19; refine (rname_any _ _).mono ?_; rintro e w' ⟨rfl, rfl⟩)
        go_ret
        exact ⟨by rw [← H.out]; rfl, rfl⟩
    · have h2 : (if (nm 2).toList == s.toList then ((1+1 : Nat) : Int) else ridx s (1 + 1 + 1) ([nm 1, nm 2, nm 3, nm 4].drop (1 + 1))) = g := h
      clear h
      cases e : ((nm 2).toList == s.toList)
      · rw [e] at h2
        simp only [Bool.false_eq_true, if_false] at h2
        have H := Lib.hid h2; clear h2
        go_wp2_with (go_at_call 19; refine (rname_any _ _).mono ?_; rintro e w' ⟨rfl, rfl⟩)
        go_round
        case rel => exact ⟨1 + 1, by omega, rfl, H.out⟩
        case measure => simp [intOf]
      · rw [e] at h2
        simp only [if_true] at h2
        have H := Lib.hid h2; clear h2
        go_wp2_with (go_at_call 19; refine (rname_any _ _).mono ?_; rintro e w' ⟨rfl, rfl⟩)
        go_ret
        exact ⟨by rw [← H.out]; rfl, rfl⟩
    · have h2 : (if (nm 3).toList == s.toList then ((2+1 : Nat) : Int) else ridx s (2 + 1 + 1) ([nm 1, nm 2, nm 3, nm 4].drop (2 + 1))) = g := h
      clear h
      cases e : ((nm 3).toList == s.toList)
      · rw [e] at h2
        simp only [Bool.false_eq_true, if_false] at h2
        have H := Lib.hid h2; clear h2
        go_wp2_with (go_at_call 19; refine (rname_any _ _).mono ?_; rintro e w' ⟨rfl, rfl⟩)
        go_round
        case rel => exact ⟨2 + 1, by omega, rfl, H.out⟩
        case measure => simp [intOf]
      · rw [e] at h2
        simp only [if_true] at h2
        have H := Lib.hid h2; clear h2
        go_wp2_with (go_at_call 19; refine (rname_any _ _).mono ?_; rintro e w' ⟨rfl, rfl⟩)
        go_ret
        exact ⟨by rw [← H.out]; rfl, rfl⟩
    · have h2 : (if (nm 4).toList == s.toList then ((3+1 : Nat) : Int) else ridx s (3 + 1 + 1) ([nm 1, nm 2, nm 3, nm 4].drop (3 + 1))) = g := h
      clear h
      cases e : ((nm 4).toList == s.toList)
      · rw [e] at h2
        simp only [Bool.false_eq_true, if_false] at h2
        have H := Lib.hid h2; clear h2
        go_wp2_with (go_at_call 19; refine (rname_any _ _).mono ?_; rintro e w' ⟨rfl, rfl⟩)
        go_round
        case rel => exact ⟨3 + 1, by omega, rfl, H.out⟩
        case measure => simp [intOf]
      · rw [e] at h2
        simp only [if_true] at h2
        have H := Lib.hid h2; clear h2
        go_wp2_with (go_at_call 19; refine (rname_any _ _).mono ?_; rintro e w' ⟨rfl, rfl⟩)
        go_ret
        exact ⟨by rw [← H.out]; rfl, rfl⟩
end Go.Proofs.YtojempihchlgfaaDoor
