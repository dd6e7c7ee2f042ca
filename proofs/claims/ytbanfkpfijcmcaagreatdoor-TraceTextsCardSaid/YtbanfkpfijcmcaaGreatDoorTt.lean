/- TraceTexts, walked; the law, whole. -/
import Derived.Test.YtbanfkpfijcmcaaGreatDoorGr2
import Derived.Test.YtbanfkpfijcmcaaGreatDoorLy
import Derived.Test.YtbanfkpfijcmcaaGreatDoorCg
import Derived.Test.YtbanfkpfijcmcaaGreatDoorCr
namespace Go.Proofs.YtbanfkpfijcmcaaGreatDoor
open Go.RowKit
set_option linter.unusedSimpArgs false
set_option linter.unusedVariables false
set_option maxRecDepth 100000

set_option maxHeartbeats 2000000 in
/-- Great, whatever list. -/
theorem great_all (w : World) (va : Value) (ea : List En) (ha : Rd w va ea) : Calls Tryz.prog 13 #[va] w fun e w' => (e = .returned (.int .i64 0) ∨ e = .returned (.int .i64 1)) ∧ w = w' := by
  obtain ⟨A, c, rfl, hac, hcm, hA⟩ := ha.one
  have HA : Hid (∀ k, k < ea.length → ∃ (x : En) (Ad : Option Addr) (cd b off : Nat), ea[k]? = some x ∧ A = some ⟨b, off, none⟩ ∧ w.cell? ⟨b, off + k * 7 + 6, none⟩ = some (.slice Ad x.dt.length cd)) := Lib.hid (fun k hk => by
    obtain ⟨x, Ad, cd, b, off, hx, hA', hd, hc⟩ := hA k hk
    exact ⟨x, Ad, cd, b, off, hx, hA', (hc w (Below.refl _ _)).2.2.2.2.2.2⟩)
  clear hA ha
  unfold maxLen at hcm
  generalize hM : ea.length = n at *
  clear hM
  go_enter Tryz.func13, Tryz.ntmps13
  go_wp2_with fail
  go_loopw [3, 4] (fun s i wr => ∃ (k : Nat) (z : Int), k ≤ n ∧ i = .int .i64 k ∧ s = .int .i64 z ∧ w = wr) (fun _ i _ => n - (intOf i).toNat)
  case atStart => exact ⟨0, 0, Nat.zero_le _, rfl, rfl, rfl⟩
  case round =>
    obtain ⟨k, z, hk, rfl, rfl, rfl⟩ := hrel
    by_cases hkn : k < n
    · obtain ⟨x, Ad, cd, b, off, hx, rfl, c6⟩ := HA.out k hkn
      have hkn' : (k : Int) < (n : Int) := by omega
      clear hx
      generalize x.dt.length = l at *
      go_wp2_with fail
      go_roundw
      case rel => exact ⟨k + 1, _, by omega, by go_num, rfl, by first | rfl | trivial⟩
      case measure => simp [intOf]; omega
    · obtain rfl : k = n := by omega
      by_cases h2 : 6000 < z
      · go_wp2_with fail
        go_ret
        exact ⟨.inr rfl, rfl⟩
      · go_wp2_with fail
        go_ret
        exact ⟨.inl rfl, rfl⟩

theorem rd_nil (w : World) : Rd w (.slice none 0 0) [] := ⟨none, 0, rfl, Nat.le_refl _, Nat.zero_le _, fun k hk => absurd hk (Nat.not_lt_zero _)⟩
set_option maxHeartbeats 8000000 in
theorem texts_walk (w : World) (va : Value) (s : ByteArray) (l : List En) (ha : Rd w va l) (hok : ∀ x ∈ l, EnOk x) (hE : Ep w) (hm : l.length ≤ maxLen) (hsz : s.size ≤ maxLen) :
    Calls Tryz.prog 4 #[va, .string s] w fun e w' => e = .returned (.bool true) ∧ Below w.heap.size w w' := by
  have HGR := Lib.hid (great_all w va l ha)
  have HCK := Lib.hid (check_any w va l ha hE.e hm)
  have HRC := Lib.hid (fun W (hW : Below w.heap.size w W) => rcheck_any W va l (ha.below hW))
  have HTX := Lib.hid (fun W (hW : Below w.heap.size w W) => text_any W va l (ha.below hW) (hE.e.below hW) hm hok)
  have HRT := Lib.hid (fun W (hW : Below w.heap.size w W) => rtext_any W va l (ha.below hW) hok)
  have HPA := Lib.hid (fun W (hW : Below w.heap.size w W) (ht : Tok s) => parse_any s W (hE.below hW) ht)
  have HRP := Lib.hid (fun W (ht : s.size ≤ 100000) => rparse_any s W ht)
  have HSM := Lib.hid (fun W u v (r : List En) (hu : Rd W u r) (hv : Rd W v r) (hl : r.length ≤ 10000000) => rsame_any W u v r r hu hv hl hl)
  simp only [sameF_self] at HSM
  unfold maxLen at hsz
  clear ha hok hE hm
  generalize (⟨(if checkF l then textF l else []).toArray⟩ : ByteArray) = S at *
  generalize errV (checkF l) = ev at *
  go_enter Tryz.func4, Tryz.ntmps4
  go_wp2_with fail
  refine HGR.out.mono ?_
  rintro e w2 ⟨hg, rfl⟩
  rcases hg with rfl | rfl
  case inr =>
    go_wp2_with fail
    go_ret
    exact ⟨rfl, Below.refl _ _⟩
  by_cases hs4 : 4000 < s.size
  · have hs5 : (4000 : Int) < (s.size : Nat) := by omega
    go_wp2_with fail
    go_ret
    exact ⟨rfl, Below.refl _ _⟩
  have hs5 : ¬ (4000 : Int) < (s.size : Nat) := by omega
  have HT4 : Hid (Tok s) := Lib.hid (Tok.short (by omega))
  have HB : Hid (∀ r, parseF s = .inl r → r.length ≤ 10000000) := Lib.hid (fun r h => by
    obtain ⟨h1, h2, h3⟩ := parse_back h
    have := ((check_iff r).1 h1).1; omega)
  have HRP2 := Lib.hid (fun W => HRP.out W (by omega))
  clear HGR hs4 HRP
  go_wp2_with fail
  refine HCK.out.mono ?_
  rintro e w1 ⟨rfl, b1⟩
  have B1 := Lib.hid b1; clear b1 HCK
  go_wp2_with fail
  refine (HTX.out _ B1.out).mono ?_
  rintro e w2 ⟨rfl, b2⟩
  have B2 := Lib.hid (B1.out.trans (b2.mono B1.out.size)); clear b2 HTX
  go_wp2_with fail
  refine (HRT.out _ B2.out).mono ?_
  rintro e w3 ⟨rfl, b3⟩
  have B3 := Lib.hid (B2.out.trans (b3.mono B2.out.size)); clear b3 HRT
  have hp := HPA.out w3 B3.out HT4.out
  have hq := fun W => HRP2.out W
  unfold ParseP at hp
  unfold RarseP at hq
  cases hF : parseF s
  case' inl r =>
    have hl := HB.out r hF
    rw [hF] at hp
    simp only [hF] at hq
    have HP := Lib.hid hp; have HQ := Lib.hid hq
    clear hp hq hF HPA HRP2 HB
    go_wp2_with fail
    refine HP.out.mono ?_
    rintro e w4 ⟨⟨v, rfl, hv⟩, b4⟩
    have B4 := Lib.hid (B3.out.trans (b4.mono B3.out.size))
    have V4 := Lib.hid hv
    clear b4 hv HP
    go_wp2_with fail
    refine (HQ.out _).mono ?_
    rintro e w5 ⟨⟨u, rfl, hu⟩, b5⟩
    have B5 := Lib.hid (B4.out.trans (b5.mono B4.out.size))
    have HS := Lib.hid (fun W (hW : Below w5.heap.size w5 W) => HSM.out W v u r ((V4.out.below b5).below hW) (hu.below hW) hl)
    clear b5 hu HQ HSM V4
  case' inr m =>
    rw [hF] at hp
    simp only [hF] at hq
    have HP := Lib.hid hp; have HQ := Lib.hid hq
    clear hp hq hF HPA HRP2 HB
    go_wp2_with fail
    refine HP.out.mono ?_
    rintro e w4 ⟨rfl, b4⟩
    have B4 := Lib.hid (B3.out.trans (b4.mono B3.out.size))
    clear b4 HP
    go_wp2_with fail
    refine (HQ.out _).mono ?_
    rintro e w5 ⟨rfl, b5⟩
    have B5 := Lib.hid (B4.out.trans (b5.mono B4.out.size))
    have HS := Lib.hid (fun W (hW : Below w5.heap.size w5 W) => HSM.out W (.slice none 0 0) (.slice none 0 0) [] (rd_nil _) (rd_nil _) (by decide))
    clear b5 HQ HSM
  all_goals
    go_wp2_with fail
    refine (HRC.out _ B5.out).mono ?_
    rintro e w6 ⟨rfl, b6⟩
    have B6 := Lib.hid (B5.out.trans (b6.mono B5.out.size))
    have C6 := Lib.hid b6
    clear b6
    go_wp2_with fail
    refine (HS.out _ C6.out).mono ?_
    rintro e w7 ⟨rfl, b7⟩
    have B7 := Lib.hid (B6.out.trans (b7.mono B6.out.size))
    clear b7
    go_wp2_with fail
    go_ret
    exact ⟨rfl, B7.out⟩
open Go.ChangeShapes Go.WideShapes Go.ChangeAt Go.WideMaps Go.WideElems in
theorem texts_top {H : Type} {enc : TypeId × Value → H} (v : Value) (d : DataW H) (p : List MemPlace) (t : ByteArray) (W : World) (hE : (Ev W ∧ (∃ ev, W.cell? ⟨3, 0, none⟩ = some ev ∧ EvOk ev) ∧ ∃ ev, W.cell? ⟨4, 0, none⟩ = some ev ∧ EvOk ev) ∧ Fl.Mx W) {base : Nat} {held : Bool}
    {r : Reach} {b0 : Nat} (hv : Value.okWide Tryz.prog W r b0 29 v) (k : DataW.Trod enc Tryz.prog W base (fun _ => true) held 29 v d p) (ws : t.size ≤ maxLen) :
    Calls Tryz.prog 4 #[v, .string t] W fun e W' => e = .returned (.bool true) ∧ Below W.heap.size W W' := by
  obtain ⟨xa, ha, -, -, ho⟩ := open_ents hv k
  exact texts_walk W v t (ents xa) (Rd.of ha) ho ⟨hE.1.1, hE.2, hE.1.2.1, hE.1.2.2⟩ (rd_len (Rd.of ha)) ws
end Go.Proofs.YtbanfkpfijcmcaaGreatDoor
