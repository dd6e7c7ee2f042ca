/- The document's bytes. -/
import Derived.Test.YtbanfkpfijcmcaaGreatDoorGw
namespace Go.Proofs.YtbanfkpfijcmcaaGreatDoor
open Go.RowKit
set_option linter.unusedSimpArgs false
set_option linter.unusedVariables false
set_option maxRecDepth 100000

def accR (l : List UInt8) (m : Nat) : Nat → Int
  | 0 => 0
  | t + 1 => dgR (accR l m t) (l.getD (m + t) 0)
theorem dgR_ok (b : Int) (c : UInt8) : 0 ≤ dgR b c ∧ dgR b c < 256 := by
  unfold dgR
  split <;> (rw [wrap_u8]; omega)
theorem bytR_succ (l : List UInt8) (k : Nat) : bytR l (k + 1) = bytR l k ++ [prR l k] := by unfold bytR; rw [List.range_succ, List.map_append]; rfl
theorem bytR_len (l : List UInt8) (k : Nat) : (bytR l k).length = k := by simp [bytR]
theorem prR_acc (l : List UInt8) (j : Nat) : ((prR l j).toNat : Int) = accR l (2 * j) 2 := by
  have h : prR l j = UInt8.ofNat (accR l (2 * j) 2).toNat := rfl
  have hb : 0 ≤ accR l (2 * j) 2 ∧ accR l (2 * j) 2 < 256 := dgR_ok _ _
  rw [h, UInt8.toNat_ofNat']
  omega

set_option maxHeartbeats 4000000 in
theorem bytes_any (s : ByteArray) (w : World) (hs : s.size ≤ 1000000) : Calls Tryz.prog 63 #[.string s] w fun e w' => ∃ v, e = .returned v ∧ w'.ownsRow w.heap.size 5 1 v (bytR s.data.toList (s.size / 2)).length (byt (bytR s.data.toList (s.size / 2))) ∧ Below w.heap.size w w' := by
  obtain ⟨i5, hi5, hz5, hs5, hy5⟩ := info_parts info5
  have I5 := Lib.hid hi5; have Z5 := Lib.hid hz5; have S5 := Lib.hid hs5; have Y5 := Lib.hid hy5
  clear hi5 hz5 hs5 hy5
  generalize hq : s.size / 2 = q
  have hq1 : 2 * q ≤ s.size := by omega
  have hq2 : s.size < 2 * q + 2 := by omega
  clear hq
  go_enter Tryz.func63, Tryz.ntmps63
  go_wp2_with fail
  go_loopw [3, 4] (fun v i wr => ∃ j m : Nat, m = 2 * j ∧ j ≤ q ∧ i = .int .i64 m ∧ Hid (wr.ownsRow w.heap.size 5 1 v j (byt (bytR s.data.toList j))) ∧ Hid (Below w.heap.size w wr)) (fun _ i _ => s.size + 2 - (intOf i).toNat)
  case atStart => exact ⟨0, 0, rfl, Nat.zero_le _, rfl, Lib.hid (World.ownsRow_nil _ _ _ _), Lib.hid (Below.refl _ _)⟩
  case round =>
    obtain ⟨j, m, hm, hj, rfl, hR, hB⟩ := hrel
    have hw1 : IntKind.i64.wrap ((m : Int) + 1) = (m : Int) + 1 := IntWalk.i64_in _ (by omega)
    have HM := Lib.hid hm
    by_cases hlt : j < q
    · have h1' : (m : Int) + 1 < s.size := by omega
      have hm2 : m + 2 ≤ s.size := by omega
      clear hm
      go_wp2_with fail
      go_loopw [5, 6] (fun b k W => ∃ (t : Nat) (z : Int), t ≤ 2 ∧ k = .int .i64 t ∧ b = .int .u8 z ∧ Hid (z = accR s.data.toList m t) ∧ wr = W) (fun _ k _ => 2 - (intOf k).toNat)
      case atStart => exact ⟨0, 0, by omega, rfl, rfl, Lib.hid rfl, rfl⟩
      case round =>
        obtain ⟨t, z, ht, rfl, rfl, hz, rfl⟩ := hrel
        by_cases ht2 : t < 2
        · have ht3 : (t : Int) < 2 := by omega
          have hlt2 : m + t < s.size := by omega
          have hlt3 : (m : Int) + (t : Int) < s.size := by omega
          have h0 : (0 : Int) ≤ (m : Int) + (t : Int) := by omega
          have hand : (0 : Int) ≤ (m : Int) + (t : Int) ∧ (m : Int) + (t : Int) < s.size := ⟨h0, hlt3⟩
          have hw2 : IntKind.i64.wrap ((m : Int) + (t : Int)) = (m : Int) + (t : Int) := IntWalk.i64_in _ (by omega)
          have htn : ((m : Int) + (t : Int)).toNat = m + t := by omega
          have HZ : Hid (accR s.data.toList m (t + 1) = dgR z s[m + t]) := Lib.hid (by
            rw [hz.out]; show dgR _ (s.data.toList.getD (m + t) 0) = _
            rw [List.getD_eq_getElem?_getD, byte_at hlt2]; rfl)
          by_cases h97 : 97 ≤ s[m + t].toNat
          · have h98 : (97 : Int) ≤ (s[m + t].toNat : Int) := by omega
            go_wp2_with fail
            go_roundw
            case rel => exact ⟨t + 1, _, by omega, by go_num, rfl, Lib.hid (by rw [HZ.out]; unfold dgR; rw [if_pos h97]; simp only [wrap_u8]; omega), by first | rfl | trivial⟩
            case measure => simp [intOf]; omega
          · have h98 : ¬ (97 : Int) ≤ (s[m + t].toNat : Int) := by omega
            go_wp2_with fail
            go_roundw
            case rel => exact ⟨t + 1, _, by omega, by go_num, rfl, Lib.hid (by rw [HZ.out]; unfold dgR; rw [if_neg h97]; simp only [wrap_u8]; omega), by first | rfl | trivial⟩
            case measure => simp [intOf]; omega
        · obtain rfl : t = 2 := by omega
          have HZ2 : Hid (byt (bytR s.data.toList (j + 1)) = byt (bytR s.data.toList j) ++ [.int .u8 z]) := Lib.hid (by
            rw [bytR_succ, byt_append]
            have := prR_acc s.data.toList j
            rw [← HM.out, ← hz.out] at this
            simp [byt, this])
          have hj6 : j ≤ 1000000 := by omega
          go_wp2_with (at_builtin; refine wpList_append_own _ rfl _ _ 26 rfl w.heap.size 5 i5 (.int .u8 0) 1 1 Tryz.underlying26 I5.out Z5.out S5.out Y5.out rfl (by decide) _ _ _ rfl (hR.out.alloc _) ⟨wr.heap.size, 0, none⟩ 1 1 [.int .u8 z] rfl rfl (cell_one_new _ _ _) (by simp [Value.oneCell']) (by unfold maxLen; omega) (by omega) (by have := hB.out.size; simp; omega) ?_; intro v' w5 hown' hgrow _)
          have HO : Hid (w5.ownsRow w.heap.size 5 1 v' (j + 1) (byt (bytR s.data.toList (j + 1)))) := Lib.hid (by rw [HZ2.out]; exact hown')
          have HB2 : Hid (Below w.heap.size w w5) := Lib.hid ((hB.out.alloc hB.out.size _).grown hgrow (by have := hB.out.size; simp; omega) (fun b hb => (hR.out.lt b hb).1))
          clear hown' hgrow
          go_roundw
          case rel => exact ⟨j + 1, m + 2, by have := HM.out; omega, by omega, by go_num, HO, HB2⟩
          case measure => simp [intOf]; omega
    · obtain rfl : j = q := by omega
      have h1' : ¬ (m : Int) + 1 < s.size := by omega
      have hw2 : IntKind.i64.wrap ((m : Int) + 2) = (m : Int) + 2 := IntWalk.i64_in _ (by omega)
      clear hm
      go_wp2_with fail
      go_ret
      exact ⟨_, rfl, by rw [bytR_len]; exact hR.out, hB.out⟩
end Go.Proofs.YtbanfkpfijcmcaaGreatDoor
