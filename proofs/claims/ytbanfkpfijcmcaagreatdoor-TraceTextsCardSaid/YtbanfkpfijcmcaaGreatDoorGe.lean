/- The document's value, small, words and bytes. -/
import Derived.Test.YtbanfkpfijcmcaaGreatDoorGd
import Derived.Test.YtbanfkpfijcmcaaGreatDoorD
namespace Go.Proofs.YtbanfkpfijcmcaaGreatDoor
open Go.RowKit
set_option linter.unusedSimpArgs false
set_option linter.unusedVariables false
set_option maxRecDepth 100000

theorem byte_at {s : ByteArray} {k : Nat} (h : k < s.size) : s.data.toList[k]? = some s[k] := by
  rw [List.getElem?_eq_getElem (by rw [Array.length_toList]; exact h)]; rfl
theorem fold_next {s : ByteArray} {k : Nat} (h : k < s.size) {α : Type} (f : α → UInt8 → α) (a : α) : (s.data.toList.take (k + 1)).foldl f a = f ((s.data.toList.take k).foldl f a) s[k] := by
  rw [List.take_add_one, byte_at h, List.foldl_append]; rfl

set_option maxHeartbeats 2000000 in
theorem value_any (s : ByteArray) (w : World) (hs : s.size ≤ 1000000) : Calls Tryz.prog 60 #[.string s] w fun e w' => e = .returned (.int .u64 (valR s.data.toList)) ∧ w = w' := by
  have HEND : Hid (∀ k, k ≤ s.size → (k = s.size ∨ k = 20) → k ≤ 20 → (s.data.toList.take k).foldl stepV 0 = valR s.data.toList) := Lib.hid (fun k hk h h20 => by
    unfold valR
    rcases h with h | h
    · rw [List.take_of_length_le (by rw [sz_data]; omega), List.take_of_length_le (by rw [sz_data]; omega)]
    · rw [h])
  go_enter Tryz.func60, Tryz.ntmps60
  go_wp2_with fail
  go_loopw [3, 4] (fun v i wr => ∃ (k : Nat) (z : Int), k ≤ s.size ∧ k ≤ 20 ∧ v = .int .u64 z ∧ i = .int .i64 k ∧ Hid (z = (s.data.toList.take k).foldl stepV 0) ∧ w = wr) (fun _ i _ => s.size - (intOf i).toNat)
  case atStart => exact ⟨0, 0, Nat.zero_le _, by omega, rfl, rfl, Lib.hid rfl, rfl⟩
  case round =>
    obtain ⟨k, z, hk, h20, rfl, rfl, hz, rfl⟩ := hrel
    by_cases hlt : k < s.size
    · have hlt' : (k : Int) < s.size := by omega
      by_cases hl2 : k < 20
      · have hl2' : (k : Int) < 20 := by omega
        have HF : Hid (IntKind.u64.wrap (IntKind.u64.wrap (IntKind.u64.wrap (z * 10) + (s[k].toNat : Int)) - 48) = (s.data.toList.take (k + 1)).foldl stepV 0) := Lib.hid (by rw [fold_next hlt, ← hz.out]; rfl)
        have hw : IntKind.u64.wrap (s[k].toNat : Int) = (s[k].toNat : Int) := by rw [wrap_u64]; have := s[k].toNat_lt; omega
        go_wp2_with fail
        go_roundw
        case rel => exact ⟨k + 1, _, by omega, by omega, rfl, by go_num, Lib.hid HF.out, by first | rfl | trivial⟩
        case measure => simp [intOf]; omega
      · have hl2' : ¬ (k : Int) < 20 := by omega
        have HV := Lib.hid (HEND.out k hk (.inr (by omega)) h20)
        go_wp2_with fail
        go_ret
        exact ⟨by rw [hz.out, HV.out]; rfl, rfl⟩
    · have hlt' : ¬ (k : Int) < s.size := by omega
      have HV := Lib.hid (HEND.out k hk (.inl (by omega)) h20)
      go_wp2_with fail
      go_ret
      exact ⟨by rw [hz.out, HV.out]; rfl, rfl⟩
theorem small_any (s : ByteArray) (w : World) (hs : s.size ≤ 1000000) : Calls Tryz.prog 61 #[.string s] w fun e w' => e = .returned (.int .i64 (smallR s.data.toList)) ∧ w = w' := by
  have HV := Lib.hid (value_any s w hs)
  have HR : Hid (smallR s.data.toList = if 19 < s.size then 0 else if 9223372036854775807 < valR s.data.toList then 0 else valR s.data.toList) := Lib.hid (by unfold smallR; rw [sz_data])
  have hb := valR_ok s.data.toList
  generalize smallR s.data.toList = r at *
  generalize valR s.data.toList = v at *
  by_cases h19 : 19 < s.size
  · have h19' : (19 : Int) < s.size := by omega
    rw [if_pos h19] at HR
    clear hb
    go_enter Tryz.func61, Tryz.ntmps61
    go_wp2_with fail
    go_ret
    exact ⟨by rw [HR.out]; rfl, rfl⟩
  · have h19' : ¬ (19 : Int) < s.size := by omega
    rw [if_neg h19] at HR
    obtain ⟨b0, b1⟩ := hb
    by_cases hv : 9223372036854775807 < v
    · rw [if_pos hv] at HR
      go_enter Tryz.func61, Tryz.ntmps61
      go_wp2_with fail
      refine HV.out.mono ?_
      rintro e w1 ⟨rfl, rfl⟩
      go_wp2_with fail
      go_ret
      exact ⟨by rw [HR.out]; rfl, rfl⟩
    · rw [if_neg hv] at HR
      go_enter Tryz.func61, Tryz.ntmps61
      go_wp2_with fail
      refine HV.out.mono ?_
      rintro e w1 ⟨rfl, rfl⟩
      have hw : IntKind.i64.wrap v = v := IntWalk.i64_in _ (by omega)
      go_wp2_with fail
      go_ret
      exact ⟨by rw [HR.out]; first | rfl | rw [hw]; rfl, rfl⟩
end Go.Proofs.YtbanfkpfijcmcaaGreatDoor
