/- slices.Index, slices.Contains; ByName. -/
import Derived.Test.YtbanfkpfijcmcaaDoorFD
namespace Go.Proofs.YtbanfkpfijcmcaaDoor.Fl
open Go.RowKit
set_option linter.unusedSimpArgs false
set_option linter.unusedVariables false

/-- A slice of strings, as it is read. -/
def Strs (w : World) (a : Option Addr) (zs : List ByteArray) : Prop :=
  0 < zs.length → ∃ b off, a = some ⟨b, off, none⟩ ∧ b < w.heap.size ∧ ∀ i, i < zs.length → w.cell? ⟨b, off + i, none⟩ = some (.string (zs.getD i ByteArray.empty))
/-- Where a text stands first, from k on; -1: nowhere. -/
def sidx (s : ByteArray) : Nat → List ByteArray → Int
  | _, [] => -1
  | k, x :: xs => if s.toList == x.toList then (k : Int) else sidx s (k + 1) xs
theorem sgetD (l : List ByteArray) (k : Nat) (h : k < l.length) : l.getD k ByteArray.empty = l[k] := by simp [List.getD, h]
theorem sidx_yes (s : ByteArray) (l : List ByteArray) (k : Nat) (hk : k < l.length) (h : (s.toList == l[k].toList) = true) : sidx s k (l.drop k) = k := by
  rw [List.drop_eq_getElem_cons hk, sidx, if_pos h]
theorem sidx_no (s : ByteArray) (l : List ByteArray) (k : Nat) (hk : k < l.length) (h : (s.toList == l[k].toList) = false) : sidx s k (l.drop k) = sidx s (k + 1) (l.drop (k + 1)) := by
  rw [List.drop_eq_getElem_cons hk, sidx, h]; rfl

set_option maxHeartbeats 1000000 in
theorem sindex_any (s : ByteArray) (A : Option Addr) (c : Nat) (l : List ByteArray) (w : World) (hz : Strs w A l) (hl : l.length ≤ 300) (hc : l.length ≤ c) :
    Calls Tryd.prog 35 #[.slice A l.length c, .string s] w fun e w' => e = .returned (.int .i64 (sidx s 0 l)) ∧ w = w' := by
  have HZ := Lib.hid hz; clear hz
  generalize hg : sidx s 0 l = g
  have HG := Lib.hid hg; clear hg
  go_enter Tryd.func35, Tryd.ntmps35
  go_wp2
  go_loop [8] (fun i => ∃ k : Nat, k ≤ l.length ∧ i = .int .i64 k ∧ sidx s k (l.drop k) = g) (fun i => l.length - (intOf i).toNat)
  case atStart => exact ⟨0, Nat.zero_le _, rfl, by rw [← HG.out]; rfl⟩
  case round =>
    obtain ⟨k, hk, rfl, h⟩ := hrel
    have H := Lib.hid h; clear h
    by_cases hlt : k < l.length
    · obtain ⟨b, off, rfl, hb, hcc⟩ := HZ.out (by omega)
      have hck := hcc k hlt
      clear hcc
      rw [sgetD l k hlt] at hck
      have H1 := Lib.hid (sidx_yes s l k hlt)
      have H2 := Lib.hid (sidx_no s l k hlt)
      generalize hx : l[k] = x at hck H1 H2
      clear hx
      cases he : (s.toList == x.toList)
      · have H3 := Lib.hid (H2.out he)
        go_wp2
        go_round
        case rel => exact ⟨k + 1, by omega, by go_num, by rw [← H3.out]; exact H.out⟩
        case measure => simp [intOf]; omega
      · have H3 := Lib.hid (H1.out he)
        go_wp2
        go_ret
        exact ⟨by rw [← H.out, H3.out]; rfl, rfl⟩
    · go_wp2
      go_ret
      have := H.out
      rw [List.drop_of_length_le (by omega)] at this
      exact ⟨by rw [← this]; rfl, rfl⟩

end Go.Proofs.YtbanfkpfijcmcaaDoor.Fl
