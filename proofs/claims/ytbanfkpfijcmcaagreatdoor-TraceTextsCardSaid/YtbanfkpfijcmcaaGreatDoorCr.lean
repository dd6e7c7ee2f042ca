/- The reference's Parts, Same. -/
import Derived.Test.YtbanfkpfijcmcaaGreatDoorC
namespace Go.Proofs.YtbanfkpfijcmcaaGreatDoor
open Go.RowKit
set_option linter.unusedSimpArgs false
set_option linter.unusedVariables false
set_option maxRecDepth 100000

set_option maxHeartbeats 4000000 in
theorem rparts_any (w : World) (va vb : Value) (ea eb : List En) (ha : Rd w va ea) (hb : Rd w vb eb) (hla : ea.length ≤ 10000000) (hlb : eb.length ≤ 10000000) :
    Calls Tryz.prog 37 #[va, vb] w fun e w' => e = .returned (.int .i64 (partsF ea eb)) ∧ Below w.heap.size w w' := by
  obtain ⟨A, c, rfl, hac, hcm, hA⟩ := ha.one
  obtain ⟨A', c', rfl, hac', hcm', hB⟩ := hb.one
  have HA := Lib.hid hA; have HB := Lib.hid hB
  clear hA hB ha hb
  unfold maxLen at hcm hcm'
  generalize hM : ea.length = n at *
  generalize hM2 : eb.length = m at *
  have HN := Lib.hid hM; have HM := Lib.hid hM2
  clear hM hM2
  go_enter Tryz.func37, Tryz.ntmps37
  go_wp2_with fail
  go_loopw [5] (fun i wr => ∃ k : Nat, (k ≤ n ∨ k ≤ m) ∧ k ≤ cpl ea eb ∧ i = .int .i64 k ∧ Below w.heap.size w wr) (fun i _ => n + m - (intOf i).toNat)
  case atStart => exact ⟨0, .inl (Nat.zero_le _), Nat.zero_le _, rfl, Below.refl _ _⟩
  case round =>
    obtain ⟨wq, rfl⟩ : ∃ wq : World, wq = wr := ⟨_, rfl⟩
    obtain ⟨k, hk, hkc, rfl, hW⟩ := hrel
    have HKC := Lib.hid hkc
    clear hkc
    by_cases hkn : k < n
    · obtain ⟨x, Ad, cd, b, off, hx, rfl, hdx, hcx⟩ := HA.out k hkn
      have hkn' : (k : Int) < (n : Int) := by omega
      have hkn2 : ¬ ((n : Int) ≤ (k : Int)) := by omega
      have hkn3 : ¬ (n ≤ k) := by omega
      by_cases hkm : k < m
      · obtain ⟨y, Ad', cd', b', off', hy, rfl, hdy, hcy⟩ := HB.out k hkm
        have hX := Lib.hid hx; have hY := Lib.hid hy
        have HCX := Lib.hid hcx; have HCY := Lib.hid hcy
        have hkm' : ¬ ((m : Int) ≤ (k : Int)) := by omega
        have hkm3 : ¬ (m ≤ k) := by omega
        have DX := Lib.hid hdx; have DY := Lib.hid hdy
        clear hcx hcy hx hy hdx hdy
        have hz1 := hW.size
        have HK : Hid (∀ W, Below wq.heap.size wq W → (W.cell? ⟨b, off + k * 7, none⟩ = some (.int .i64 x.kd) ∧ W.cell? ⟨b, off + k * 7 + 1, none⟩ = some (.int .u64 x.tk) ∧ W.cell? ⟨b, off + k * 7 + 2, none⟩ = some (.int .i64 x.id) ∧ W.cell? ⟨b, off + k * 7 + 3, none⟩ = some (.int .i64 x.fl) ∧ W.cell? ⟨b, off + k * 7 + 4, none⟩ = some (.int .i64 x.nn) ∧ W.cell? ⟨b, off + k * 7 + 5, none⟩ = some (.int .i64 x.er) ∧ W.cell? ⟨b, off + k * 7 + 6, none⟩ = some (.slice Ad x.dt.length cd)) ∧ (W.cell? ⟨b', off' + k * 7, none⟩ = some (.int .i64 y.kd) ∧ W.cell? ⟨b', off' + k * 7 + 1, none⟩ = some (.int .u64 y.tk) ∧ W.cell? ⟨b', off' + k * 7 + 2, none⟩ = some (.int .i64 y.id) ∧ W.cell? ⟨b', off' + k * 7 + 3, none⟩ = some (.int .i64 y.fl) ∧ W.cell? ⟨b', off' + k * 7 + 4, none⟩ = some (.int .i64 y.nn) ∧ W.cell? ⟨b', off' + k * 7 + 5, none⟩ = some (.int .i64 y.er) ∧ W.cell? ⟨b', off' + k * 7 + 6, none⟩ = some (.slice Ad' y.dt.length cd'))) := Lib.hid (fun W h => ⟨HCX.out W (hW.trans (h.mono hz1)), HCY.out W (hW.trans (h.mono hz1))⟩)
        have HO := Lib.hid (fun (W : World) (h : Below wq.heap.size wq W) => rone_any W ⟨x, (.slice Ad x.dt.length cd)⟩ ⟨y, (.slice Ad' y.dt.length cd')⟩ (DX.out.below (hW.trans (h.mono hz1))) (DY.out.below (hW.trans (h.mono hz1))))
        unfold agX at HO
        simp only at HO
        obtain ⟨⟨x0, x1, x2, x3, x4, x5, x6⟩, ⟨y0, y1, y2, y3, y4, y5, y6⟩⟩ := HK.out _ (Below.refl _ _)
        have HST := Lib.hid (fun (h : oneF x y = false) => (parts_stop HKC.out hX.out hY.out h).1)
        have HGO := Lib.hid (fun (h : oneF x y = true) => parts_go HKC.out hX.out hY.out h)
        generalize oneF x y = o at *
        go_wp2_with fail
        go_region_held3 (fun w' => (w'.cell? ⟨b, off + k * 7, none⟩ = some (.int .i64 x.kd) ∧ w'.cell? ⟨b, off + k * 7 + 1, none⟩ = some (.int .u64 x.tk) ∧ w'.cell? ⟨b, off + k * 7 + 2, none⟩ = some (.int .i64 x.id) ∧ w'.cell? ⟨b, off + k * 7 + 3, none⟩ = some (.int .i64 x.fl) ∧ w'.cell? ⟨b, off + k * 7 + 4, none⟩ = some (.int .i64 x.nn) ∧ w'.cell? ⟨b, off + k * 7 + 5, none⟩ = some (.int .i64 x.er) ∧ w'.cell? ⟨b, off + k * 7 + 6, none⟩ = some (.slice Ad x.dt.length cd)) ∧ (w'.cell? ⟨b', off' + k * 7, none⟩ = some (.int .i64 y.kd) ∧ w'.cell? ⟨b', off' + k * 7 + 1, none⟩ = some (.int .u64 y.tk) ∧ w'.cell? ⟨b', off' + k * 7 + 2, none⟩ = some (.int .i64 y.id) ∧ w'.cell? ⟨b', off' + k * 7 + 3, none⟩ = some (.int .i64 y.fl) ∧ w'.cell? ⟨b', off' + k * 7 + 4, none⟩ = some (.int .i64 y.nn) ∧ w'.cell? ⟨b', off' + k * 7 + 5, none⟩ = some (.int .i64 y.er) ∧ w'.cell? ⟨b', off' + k * 7 + 6, none⟩ = some (.slice Ad' y.dt.length cd'))) (first | exact HK.out _ (Below.refl _ _) | exact HK.out _ (Below.refl _ _).drew | exact HK.out _ C1.out | exact HK.out _ C1.out.drew)
          ((go_at_call 64; refine (HO.out _ (by first | exact Below.refl _ _ | exact (Below.refl _ _).drew)).mono ?_; rintro e u1 ⟨rfl, bb⟩; have C1 : Hid (Below wq.heap.size wq u1) := Lib.hid (by first | exact bb | exact (Below.refl _ _).drew.trans bb); clear bb))
        all_goals
          cases o
          · go_wp2_with fail
            go_ret
            exact ⟨by rw [HST.out (by first | rfl | trivial)]; rfl, hW.trans (C1.out.mono hz1)⟩
          · go_wp2_with fail
            go_roundw
            case rel => exact ⟨k + 1, .inl (by omega), HGO.out (by first | rfl | trivial), by go_num, hW.trans (C1.out.mono hz1)⟩
            case measure => simp [intOf]; omega
      · have hkm' : (m : Int) ≤ (k : Int) := by omega
        have hkm3 : m ≤ k := by omega
        have HR := Lib.hid (parts_short HKC.out (by rw [HN.out]; exact hkn) (by rw [HM.out]; omega))
        clear hcx hdx hx
        go_wp2_with fail
        go_quiet (fail)
        go_wp2_with fail
        go_ret
        exact ⟨by rw [HR.out]; rfl, below_drewN hW _⟩
    · have hkn' : (n : Int) ≤ (k : Int) := by omega
      have hkn3 : n ≤ k := by omega
      by_cases hkm : k < m
      · have HR := Lib.hid (parts_short' HKC.out (by rw [HN.out]; omega) (by rw [HM.out]; exact hkm))
        have hkm' : (k : Int) < (m : Int) := by omega
        go_wp2_with fail
        go_quiet (fail)
        go_wp2_with fail
        go_ret
        exact ⟨by rw [HR.out]; rfl, below_drewN hW _⟩
      · have HR := Lib.hid (parts_end HKC.out (by rw [HN.out]; omega) (by rw [HM.out]; omega)).1
        have hkm' : ¬ ((k : Int) < (m : Int)) := by omega
        go_wp2_with fail
        go_ret
        exact ⟨by rw [HR.out]; rfl, hW⟩

theorem rsame_any (w : World) (va vb : Value) (ea eb : List En) (ha : Rd w va ea) (hb : Rd w vb eb) (hla : ea.length ≤ 10000000) (hlb : eb.length ≤ 10000000) :
    Calls Tryz.prog 19 #[va, vb] w fun e w' => e = .returned (.bool (sameF ea eb)) ∧ Below w.heap.size w w' := by
  have HP := Lib.hid (rparts_any w va vb ea eb ha hb hla hlb)
  have HS := Lib.hid (same_parts ea eb)
  clear ha hb
  go_enter Tryz.func19, Tryz.ntmps19
  go_wp2_with fail
  refine HP.out.mono ?_
  rintro e w1 ⟨rfl, b1⟩
  go_wp2_with fail
  go_ret
  exact ⟨by rw [← HS.out]; rfl, b1⟩

end Go.Proofs.YtbanfkpfijcmcaaGreatDoor
