/- Great. -/
import Derived.Test.YtbanfkpfijcmcaaGreatDoorC
namespace Go.Proofs.YtbanfkpfijcmcaaGreatDoor
open Go.RowKit
set_option linter.unusedSimpArgs false
set_option linter.unusedVariables false
set_option maxRecDepth 100000

/-- What Great answers. -/
def grtV (l : List En) : Int := if 6000 < grt l then 1 else 0
set_option maxHeartbeats 2000000 in
theorem great_any (w : World) (va : Value) (ea : List En) (ha : Rd w va ea) (hg : grt ea ≤ 4611686018427387904) :
    Calls Tryz.prog 13 #[va] w fun e w' => e = .returned (.int .i64 (grtV ea)) ∧ w = w' := by
  obtain ⟨A, c, rfl, hac, hcm, hA⟩ := ha.one
  have HA : Hid (∀ k, k < ea.length → ∃ (x : En) (Ad : Option Addr) (cd b off : Nat), ea[k]? = some x ∧ A = some ⟨b, off, none⟩ ∧ w.cell? ⟨b, off + k * 7 + 6, none⟩ = some (.slice Ad x.dt.length cd)) := Lib.hid (fun k hk => by
    obtain ⟨x, Ad, cd, b, off, hx, hA', hd, hc⟩ := hA k hk
    exact ⟨x, Ad, cd, b, off, hx, hA', (hc w (Below.refl _ _)).2.2.2.2.2.2⟩)
  have HT : Hid (ea.take ea.length = ea) := Lib.hid (List.take_length ..)
  have HLE : Hid (∀ k, grt (ea.take k) ≤ 4611686018427387904) := Lib.hid (fun k => by
    refine Nat.le_trans ?_ hg
    have : grt ea = grt (ea.take k) + grt (ea.drop k) := by
      unfold grt
      rw [← List.sum_append, ← List.map_append, List.take_append_drop]
    omega)
  clear hA ha hg
  unfold maxLen at hcm
  generalize hM : ea.length = n at *
  clear hM
  go_enter Tryz.func13, Tryz.ntmps13
  go_wp2_with fail
  go_loopw [3, 4] (fun s i wr => ∃ k : Nat, k ≤ n ∧ i = .int .i64 k ∧ s = .int .i64 (grt (ea.take k) : Nat) ∧ w = wr) (fun _ i _ => n - (intOf i).toNat)
  case atStart => exact ⟨0, Nat.zero_le _, rfl, rfl, rfl⟩
  case round =>
    obtain ⟨k, hk, rfl, rfl, rfl⟩ := hrel
    by_cases hkn : k < n
    · obtain ⟨x, Ad, cd, b, off, hx, rfl, c6⟩ := HA.out k hkn
      have hst : ea.take (k + 1) = ea.take k ++ [x] := by rw [List.take_add_one, hx]; rfl
      have HS := Lib.hid (grt_snoc (ea.take k) x)
      rw [← hst] at HS
      have h1 := HLE.out (k + 1)
      rw [HS.out] at h1
      have hkn' : (k : Int) < (n : Int) := by omega
      clear hst hx
      generalize grt (ea.take k) = s at *
      generalize x.dt.length = l at *
      go_wp2_with fail
      go_roundw
      case rel => exact ⟨k + 1, by omega, by go_num, by rw [HS.out]; go_num, by first | rfl | trivial⟩
      case measure => simp [intOf]; omega
    · obtain rfl : k = n := by omega
      have h1 := HLE.out k
      rw [HT.out] at h1 ⊢
      have HV := Lib.hid (show 6000 < grt ea → grtV ea = 1 from fun h => if_pos h)
      have HV2 := Lib.hid (show ¬ 6000 < grt ea → grtV ea = 0 from fun h => if_neg h)
      generalize grt ea = s at *
      by_cases h2 : 6000 < s
      · have h3 : (6000 : Int) < (s : Int) := by omega
        go_wp2_with fail
        go_ret
        exact ⟨by rw [HV.out h2]; rfl, rfl⟩
      · have h3 : ¬ ((6000 : Int) < (s : Int)) := by omega
        go_wp2_with fail
        go_ret
        exact ⟨by rw [HV2.out h2]; rfl, rfl⟩
end Go.Proofs.YtbanfkpfijcmcaaGreatDoor
