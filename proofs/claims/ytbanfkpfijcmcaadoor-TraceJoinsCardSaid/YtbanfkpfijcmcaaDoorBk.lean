/- TraceBack, walked. -/
import Derived.Test.YtbanfkpfijcmcaaDoorPb
import Derived.Test.YtbanfkpfijcmcaaDoorAl
import Derived.Test.YtbanfkpfijcmcaaDoorCg
import Derived.Test.YtbanfkpfijcmcaaDoorCr
namespace Go.Proofs.YtbanfkpfijcmcaaDoor
open Go.RowKit
set_option linter.unusedSimpArgs false
set_option linter.unusedVariables false
set_option maxRecDepth 100000

set_option maxHeartbeats 2000000 in
/-- Great, whatever list. -/
theorem great_all (w : World) (va : Value) (ea : List En) (ha : Rd w va ea) : Calls Tryd.prog 12 #[va] w fun e w' => (e = .returned (.int .i64 0) ∨ e = .returned (.int .i64 1)) ∧ w = w' := by
  obtain ⟨A, c, rfl, hac, hcm, hA⟩ := ha.one
  have HA : Hid (∀ k, k < ea.length → ∃ (x : En) (Ad : Option Addr) (cd b off : Nat), ea[k]? = some x ∧ A = some ⟨b, off, none⟩ ∧ w.cell? ⟨b, off + k * 7 + 6, none⟩ = some (.slice Ad x.dt.length cd)) := Lib.hid (fun k hk => by
    obtain ⟨x, Ad, cd, b, off, hx, hA', hd, hc⟩ := hA k hk
    exact ⟨x, Ad, cd, b, off, hx, hA', (hc w (Below.refl _ _)).2.2.2.2.2.2⟩)
  clear hA ha
  unfold maxLen at hcm
  generalize hM : ea.length = n at *
  clear hM
  go_enter Tryd.func12, Tryd.ntmps12
  go_wp2_with fail
  go_loopw [3, 4] (fun s i wr => ∃ (k : Nat) (z : Int), k ≤ n ∧ i = .int .i64 k ∧ s = .int .i64 z ∧ w = wr) (fun _ i _ => n - (intOf i).toNat)
  case atStart => exact ⟨0, 0, Nat.zero_le _, rfl, rfl, rfl⟩
  case round =>
    obtain ⟨k, z, hk, rfl, rfl, rfl⟩ := hrel
    by_cases hkn : k < n
    · obtain ⟨x, Ad, cd, b, off, hx, rfl, c6⟩ := HA.out k hkn
      have hkn' : (k : Int) < (n : Int) := by omega
      clear hx
      generalize x.dt.length = l at *
      go_wp2_with fail
      go_roundw
      case rel => exact ⟨k + 1, _, by omega, by go_num, rfl, by first | rfl | trivial⟩
      case measure => simp [intOf]; omega
    · obtain rfl : k = n := by omega
      by_cases h2 : 6000 < z
      · go_wp2_with fail
        go_ret
        exact ⟨.inr rfl, rfl⟩
      · go_wp2_with fail
        go_ret
        exact ⟨.inl rfl, rfl⟩

theorem rd_nil (w : World) : Rd w (.slice none 0 0) [] := ⟨none, 0, rfl, Nat.le_refl _, Nat.zero_le _, fun k hk => absurd hk (Nat.not_lt_zero _)⟩
set_option maxHeartbeats 8000000 in
theorem back_walk (w : World) (va : Value) (s : ByteArray) (l : List En) (ha : Rd w va l) (hok : ∀ x ∈ l, EnOk x) (hE : Ep w) (hm : l.length ≤ maxLen) (hsz : s.size ≤ maxLen) :
    Calls Tryd.prog 5 #[va, .string s] w fun e w' => e = .returned (.bool true) ∧ Below w.heap.size w w' := by
  have HAL := Lib.hid (alive_any w hE.e)
  have HGR := Lib.hid (fun W (hW : Below w.heap.size w W) => great_all W va l (ha.below hW))
  have HTX := Lib.hid (fun W (hW : Below w.heap.size w W) => text_any W va l (ha.below hW) (hE.e.below hW) hm hok)
  have HTY := Lib.hid (fun W v (r : List En) (hW : Below w.heap.size w W) (hr : Rd W v r) (hl : r.length ≤ maxLen) (ho : ∀ x ∈ r, EnOk x) => text_any W v r hr (hE.e.below hW) hl ho)
  have HPA := Lib.hid (fun W (t : ByteArray) (hW : Below w.heap.size w W) (ht : Tok t) => parse_any t W (hE.below hW) ht)
  have HSM := Lib.hid (fun W v (hW : Below w.heap.size w W) (hr : Rd W v l) (hl : l.length ≤ 10000000) => rsame_any W v va l l hr (ha.below hW) hl hl)
  rw [sameF_self] at HSM
  have HC := Lib.hid (fun h : checkF l = true => ((check_iff l).1 h).1)
  have HTK := Lib.hid (fun h : checkF l = true => And.intro (Tok.text h hok) (parse_text h hok))
  unfold maxLen at hsz
  clear ha hok hE hm
  go_enter Tryd.func5, Tryd.ntmps5
  go_wp2_with fail
  refine HAL.out.mono ?_
  rintro e w1 ⟨rfl, b1⟩
  have B1 := Lib.hid b1; clear b1 HAL
  go_wp2_with fail
  refine (HGR.out _ B1.out).mono ?_
  rintro e w2 ⟨hg, rfl⟩
  rcases hg with rfl | rfl
  case inr =>
    go_wp2_with fail
    go_ret
    exact ⟨rfl, B1.out⟩
  by_cases hs4 : 4000 < s.size
  · have hs5 : (4000 : Int) < (s.size : Nat) := by omega
    go_wp2_with fail
    go_ret
    exact ⟨rfl, B1.out⟩
  have hs5 : ¬ (4000 : Int) < (s.size : Nat) := by omega
  have HT4 : Hid (Tok s) := Lib.hid (Tok.short (by omega))
  clear HGR hs4
  go_wp2_with fail
  refine (HTX.out _ B1.out).mono ?_
  rintro e w2 ⟨rfl, b2⟩
  have B2 := Lib.hid (B1.out.trans (b2.mono B1.out.size))
  clear b2 HTX
  have HEND : Hid (∀ W4, Below w.heap.size w W4 → Calls Tryd.prog 9 #[.string s] W4 (ParseP s W4)) := Lib.hid (fun W hW => HPA.out W s hW HT4.out)
  have HB : Hid (∀ r, parseF s = .inl r → checkF r = true ∧ textF r = s.data.toList ∧ (∀ x ∈ r, EnOk x) ∧ r.length ≤ maxLen) := Lib.hid (fun r h => by
    obtain ⟨h1, h2, h3⟩ := parse_back h
    exact ⟨h1, h2, h3, by have := ((check_iff r).1 h1).1; unfold maxLen; omega⟩)
  have HPOS : Hid (∀ m, parseF s = .inr m → 0 < m) := Lib.hid (fun m h => parse_pos h)
  have HST : Hid ((⟨s.data.toList.toArray⟩ : ByteArray) = s) := Lib.hid (mk_data s)
  cases hc : checkF l
  case' false =>
    simp only [errV, Bool.false_eq_true, if_false]
    have hp0 := HPA.out w2 ⟨([] : List UInt8).toArray⟩ B2.out (Tok.short (by decide))
    have e0 : parseF ⟨([] : List UInt8).toArray⟩ = .inl [] := rfl
    unfold ParseP at hp0
    rw [e0] at hp0
    have HP0 := Lib.hid hp0
    clear hp0 hc HC HTK HSM HPA HT4 e0
    go_wp2_with fail
    refine HP0.out.mono ?_
    rintro e w3 ⟨⟨v, rfl, hv⟩, b3⟩
    have B3 := Lib.hid (B2.out.trans (b3.mono B2.out.size))
    clear hv b3 HP0
  case' true =>
    simp only [errV, if_true]
    obtain ⟨htok, hpt⟩ := HTK.out hc
    have hp0 := HPA.out w2 ⟨(textF l).toArray⟩ B2.out htok
    unfold ParseP at hp0
    rw [hpt] at hp0
    have HP0 := Lib.hid hp0
    have hl2 : l.length ≤ 10000000 := by have := HC.out hc; omega
    clear hp0 hc HC HTK HPA HT4 htok hpt
    go_wp2_with fail
    refine HP0.out.mono ?_
    rintro e w3 ⟨⟨v, rfl, hv⟩, b3⟩
    have B3 := Lib.hid (B2.out.trans (b3.mono B2.out.size))
    have HS1 := Lib.hid (HSM.out w3 v B3.out hv hl2)
    clear hv b3 HP0 HSM
    go_wp2_with fail
    refine HS1.out.mono ?_
    rintro e w4 ⟨rfl, b4⟩
    have B3 := Lib.hid (B3.out.trans (b4.mono B3.out.size))
    clear b4 HS1
  all_goals
    have hq0 := HEND.out _ B3.out
    unfold ParseP at hq0
    cases hq : parseF s
    case' inl r =>
      rw [hq] at hq0
      obtain ⟨k1, k2, k3, k4⟩ := HB.out r hq
      have HQ0 := Lib.hid hq0
      clear hq0 hq HB HPOS HEND
      go_wp2_with fail
      refine HQ0.out.mono ?_
      rintro e w5 ⟨⟨u, rfl, hu⟩, b5⟩
      have B5 := Lib.hid (B3.out.trans (b5.mono B3.out.size))
      have hty := HTY.out w5 u r B5.out hu k4 k3
      rw [k1, k2] at hty
      simp only [errV, if_true, HST.out] at hty
      have HTY2 := Lib.hid hty
      clear hty hu b5 HQ0 HTY k1 k2 k3 k4
      go_wp2_with fail
      refine HTY2.out.mono ?_
      rintro e w6 ⟨rfl, b6⟩
      have B6 := Lib.hid (B5.out.trans (b6.mono B5.out.size))
      clear b6
      go_wp2_with fail
      go_ret
      exact ⟨rfl, B6.out⟩
    case' inr m =>
      rw [hq] at hq0
      have hm0 := HPOS.out m hq
      have hm1 : (0 : Int) < (m : Int) := by omega
      have HQ0 := Lib.hid hq0
      clear hq0 hq HB HPOS HEND
      go_wp2_with fail
      refine HQ0.out.mono ?_
      rintro e w5 ⟨rfl, b5⟩
      have B5 := Lib.hid (B3.out.trans (b5.mono B3.out.size))
      have hty := HTY.out w5 (.slice none 0 0) [] B5.out (rd_nil w5) (by unfold maxLen; decide) (by simp)
      have HTY2 := Lib.hid hty
      clear hty b5 HQ0 HTY
      go_wp2_with fail
      refine HTY2.out.mono ?_
      rintro e w6 ⟨rfl, b6⟩
      have B6 := Lib.hid (B5.out.trans (b6.mono B5.out.size))
      clear b6
      go_wp2_with fail
      go_ret
      exact ⟨rfl, B6.out⟩
end Go.Proofs.YtbanfkpfijcmcaaDoor
