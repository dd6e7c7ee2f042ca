/- TraceJoins, walked. -/
import Derived.Test.YtbanfkpfijcmcaaDoorLb
namespace Go.Proofs.YtbanfkpfijcmcaaDoor
open Go.ChangeShapes Go.WideShapes Go.ChangeAt Go.WideMaps Go.WideElems Go.RowKit
set_option linter.unusedSimpArgs false
set_option linter.unusedVariables false
set_option maxRecDepth 100000

theorem strB_add (a b : List UInt8) : ((⟨a.toArray⟩ : ByteArray) ++ ⟨b.toArray⟩) = ⟨(a ++ b).toArray⟩ := by
  apply ByteArray.ext
  simp
theorem text_small {l : List En} (hc : checkF l = true) (hl : l.length ≤ 300) (ho : ∀ x ∈ l, EnOk x) : (textF l).length ≤ 400000000 := by
  have hm := check_may hc
  have := text_len 1000000 l l.length (fun j x _ hx => line_len2 x (ho x (List.mem_of_getElem? hx)) (hm x (List.mem_of_getElem? hx)))
  rw [List.take_length] at this
  have h2 : l.length * (1000000 + 1) ≤ 300 * (1000000 + 1) := Nat.mul_le_mul_right _ hl
  omega

set_option maxHeartbeats 16000000 in
theorem joins_walk (w : World) (va vb : Value) (ea eb : List En) (ha : Rd w va ea) (hb : Rd w vb eb) (na : Nz va) (nb : Nz vb) (hE : Ep w) (oa : ∀ x ∈ ea, EnOk x) (ob : ∀ x ∈ eb, EnOk x) :
    Calls Tryd.prog 3 #[va, vb] w fun e w' => e = .returned (.bool true) ∧ Below w.heap.size w w' := by
  have HAL := Lib.hid (alive_any w hE.e)
  have hma := rd_len ha
  have hmb := rd_len hb
  have HCA := Lib.hid (fun W (hW : Below w.heap.size w W) => check_any W va ea (ha.below hW) (hE.e.below hW) hma)
  have HCB := Lib.hid (fun W (hW : Below w.heap.size w W) => check_any W vb eb (hb.below hW) (hE.e.below hW) hmb)
  unfold maxLen at hma hmb
  obtain ⟨Aa, ca, rfl, ka1, ka2, ka3⟩ := ha.one
  obtain ⟨Ab, cb, rfl, kb1, kb2, kb3⟩ := hb.one
  obtain ⟨z, hz⟩ : ∃ z, wrap64 ((ea.length : Int) + (eb.length : Int)) = z := ⟨_, rfl⟩
  by_cases h300 : (300 : Int) < z
  · clear HCA HCB ha hb na nb hE oa ob ka1 ka2 ka3 kb1 kb2 kb3
    generalize ea.length = p at *
    generalize eb.length = q at *
    go_enter Tryd.func3, Tryd.ntmps3
    go_wp2_with fail
    refine HAL.out.mono ?_
    rintro e w1 ⟨rfl, b1⟩
    have B1 := Lib.hid b1; clear b1
    go_wp2_with fail
    go_ret
    exact ⟨rfl, B1.out⟩
  cases hca : checkF ea
  · rw [hca] at HCA
    simp only [errV, Bool.false_eq_true, if_false] at HCA
    clear HCB ha hb na nb hE oa ob ka1 ka2 ka3 kb1 kb2 kb3 hca
    generalize ea.length = p at *
    generalize eb.length = q at *
    go_enter Tryd.func3, Tryd.ntmps3
    go_wp2_with fail
    refine HAL.out.mono ?_
    rintro e w1 ⟨rfl, b1⟩
    have B1 := Lib.hid b1; clear b1
    go_wp2_with fail
    refine (HCA.out _ B1.out).mono ?_
    rintro e w2 ⟨rfl, b2⟩
    have B2 := Lib.hid (B1.out.trans (b2.mono B1.out.size)); clear b2
    go_wp2_with fail
    go_ret
    exact ⟨rfl, B2.out⟩
  cases hcb : checkF eb
  · rw [hca] at HCA
    rw [hcb] at HCB
    simp only [errV, Bool.false_eq_true, if_false, if_true] at HCA HCB
    clear ha hb na nb hE oa ob ka1 ka2 ka3 kb1 kb2 kb3 hca hcb
    generalize ea.length = p at *
    generalize eb.length = q at *
    go_enter Tryd.func3, Tryd.ntmps3
    go_wp2_with fail
    refine HAL.out.mono ?_
    rintro e w1 ⟨rfl, b1⟩
    have B1 := Lib.hid b1; clear b1
    go_wp2_with fail
    refine (HCA.out _ B1.out).mono ?_
    rintro e w2 ⟨rfl, b2⟩
    have B2 := Lib.hid (B1.out.trans (b2.mono B1.out.size)); clear b2
    go_wp2_with fail
    refine (HCB.out _ B2.out).mono ?_
    rintro e w3 ⟨rfl, b3⟩
    have B3 := Lib.hid (B2.out.trans (b3.mono B2.out.size)); clear b3
    go_wp2_with fail
    go_ret
    exact ⟨rfl, B3.out⟩
  have l1 := ((check_iff ea).1 hca).1
  have l2 := ((check_iff eb).1 hcb).1
  have hwr : IntKind.i64.wrap ((ea.length : Int) + (eb.length : Int)) = (ea.length : Int) + (eb.length : Int) := IntWalk.i64_in _ (by omega)
  have hwr2 : wrap64 ((ea.length : Int) + (eb.length : Int)) = (ea.length : Int) + (eb.length : Int) := IntWalk.wrap64_in _ (by omega)
  rw [hwr2] at hz
  subst hz
  have h3 : ¬ (300 : Int) < (ea.length : Int) + (eb.length : Int) := h300
  clear hma hmb
  rw [hca] at HCA
  rw [hcb] at HCB
  simp only [errV, if_true] at HCA HCB
  by_cases hb0 : eb.length = 0
  · clear ha hb na nb hE oa ob h300 ka1 ka2 ka3 kb1 kb2 kb3 hca hcb
    generalize eb.length = q at *
    subst hb0
    generalize ea.length = p at *
    go_enter Tryd.func3, Tryd.ntmps3
    go_wp2_with fail
    refine HAL.out.mono ?_
    rintro e w1 ⟨rfl, b1⟩
    have B1 := Lib.hid b1; clear b1
    go_wp2_with fail
    refine (HCA.out _ B1.out).mono ?_
    rintro e w2 ⟨rfl, b2⟩
    have B2 := Lib.hid (B1.out.trans (b2.mono B1.out.size)); clear b2
    go_wp2_with fail
    refine (HCB.out _ B2.out).mono ?_
    rintro e w3 ⟨rfl, b3⟩
    have B3 := Lib.hid (B2.out.trans (b3.mono B2.out.size)); clear b3
    go_wp2_with fail
    go_ret
    exact ⟨rfl, B3.out⟩
  obtain ⟨A', c', Xa, e1, xa1, xa2, ⟨xa3, -⟩, xa4, xa5⟩ := ha.list
  cases e1
  obtain ⟨A'', c'', Xb, e2, xb1, xb2, ⟨xb3, -⟩, xb4, xb5⟩ := hb.list
  cases e2
  have NA := Lib.hid (fun h : Aa = none => na _ _ (by rw [h]))
  have NB := Lib.hid (fun h : Ab = none => nb _ _ (by rw [h]))
  have CA := Lib.hid xa5; have CB := Lib.hid xb5
  have OA := Lib.hid (flat_one xa4); have OB := Lib.hid (flat_one xb4)
  have hsum : ea.length + eb.length ≤ 300 := by omega
  have HRD : Hid (∀ (base : Nat) (v : Value) (W : World), Below w.heap.size w W → W.ownsRow base 29 7 v (0 + ea.length + eb.length) ([] ++ flatX Xa ++ flatX Xb) → Rd W v (ea ++ eb)) := Lib.hid (by
    intro base v W hW ho
    have h1 : ents (Xa ++ Xb) = ea ++ eb := by unfold ents at *; rw [List.map_append, xa1, xb1]
    rw [← h1]
    refine rd_own (base := base) (n := 0 + ea.length + eb.length) (by rw [flatX_append]; simpa using ho) (by rw [List.length_append, xa2, xb2]; omega) (fun x hx => ?_)
    rcases List.mem_append.1 hx with hx | hx
    · exact (xa4 x hx).below hW
    · exact (xb4 x hx).below hW)
  have FA : Hid ((flatX Xa).length = ea.length * 7) := Lib.hid (by rw [flatX_len, xa2])
  have FB : Hid ((flatX Xb).length = eb.length * 7) := Lib.hid (by rw [flatX_len, xb2])
  have oab : ∀ x ∈ ea ++ eb, EnOk x := fun x hx => by rcases List.mem_append.1 hx with hx | hx; exact oa x hx; exact ob x hx
  have hlab : (ea ++ eb).length ≤ 300 := by rw [List.length_append]; exact hsum
  have HCX := Lib.hid (fun W v (hW : Below w.heap.size w W) (hr : Rd W v (ea ++ eb)) => check_any W v (ea ++ eb) hr (hE.e.below hW) (by unfold maxLen; omega))
  have HTA := Lib.hid (fun W (hW : Below w.heap.size w W) => text_any W _ ea (ha.below hW) (hE.e.below hW) (by unfold maxLen; omega) oa)
  have HTB := Lib.hid (fun W (hW : Below w.heap.size w W) => text_any W _ eb (hb.below hW) (hE.e.below hW) (by unfold maxLen; omega) ob)
  have HTX := Lib.hid (fun W v (hW : Below w.heap.size w W) (hr : Rd W v (ea ++ eb)) => text_any W v (ea ++ eb) hr (hE.e.below hW) (by unfold maxLen; omega) oab)
  have HPA := Lib.hid (fun W (t : ByteArray) (hW : Below w.heap.size w W) (ht : Tok t) => parse_any t W (hE.below hW) ht)
  have HSM := Lib.hid (fun W u v (hu : Rd W u (ea ++ eb)) (hv : Rd W v (ea ++ eb)) => same_any W u v (ea ++ eb) (ea ++ eb) hu hv (by omega) (by omega))
  rw [sameF_self] at HSM
  have HPF := Lib.hid (fun W v (hW : Below w.heap.size w W) (hr : Rd W v (ea ++ eb)) => parts_any W _ v ea (ea ++ eb) (ha.below hW) hr (by omega) (by omega))
  rw [parts_front ea eb (fun e => hb0 (by rw [e]; rfl))] at HPF
  have HPS := Lib.hid (fun W v (hr : Rd W v (ea ++ eb)) => parts_any W v v (ea ++ eb) (ea ++ eb) hr hr (by omega) (by omega))
  rw [parts_self] at HPS
  rw [hca] at HTA
  rw [hcb] at HTB
  simp only [errV, if_true] at HTA HTB
  obtain ⟨y, Ady, cdy, bb, ob', hy, rfl, -, hcy⟩ := kb3 0 (by omega)
  have HCY := Lib.hid (fun W (hW : Below w.heap.size w W) => (hcy W hW).2.1)
  have HNO := Lib.hid (fun x (hx : ea[ea.length - 1]? = some x) (h : y.tk < x.tk) => check_app_no hx hy h)
  have HYES := Lib.hid (fun (h : ∀ x, ea[ea.length - 1]? = some x → x.tk ≤ y.tk) => check_app hca hcb (by omega) (fun x y' hx hy' => by rw [hy] at hy'; cases hy'; exact h x hx))
  have HTT : Hid (checkF (ea ++ eb) = true → Tok ⟨(textF (ea ++ eb)).toArray⟩ ∧ parseF ⟨(textF (ea ++ eb)).toArray⟩ = .inl (ea ++ eb)) := Lib.hid (fun h => ⟨Tok.text h oab, parse_text h oab⟩)
  have z1 : (⟨(textF ea).toArray⟩ : ByteArray).size ≤ 400000000 := by rw [mk_size]; exact text_small hca (by omega) oa
  have z2 : (⟨(textF eb).toArray⟩ : ByteArray).size ≤ 400000000 := by rw [mk_size]; exact text_small hcb (by omega) ob
  have hadd : ((⟨(textF ea).toArray⟩ : ByteArray) ++ ⟨(textF eb).toArray⟩) = ⟨(textF (ea ++ eb)).toArray⟩ := by rw [strB_add, text_app]
  have hbl : ¬ (eb.length : Int) = 0 := by omega
  have HAX : Hid (0 < ea.length → ∃ (x : En) (ba oa' : Nat), ea[ea.length - 1]? = some x ∧ Aa = some ⟨ba, oa', none⟩ ∧ ∀ W, Below w.heap.size w W → W.cell? ⟨ba, oa' + (ea.length - 1) * 7 + 1, none⟩ = some (.int .u64 x.tk)) := Lib.hid (fun h => by
    obtain ⟨x, _, _, ba, oa', hx, hA, -, hcx⟩ := ka3 (ea.length - 1) (by omega)
    exact ⟨x, ba, oa', hx, hA, fun W hW => (hcx W hW).2.1⟩)
  clear ha hb na nb hE oa ob oab hlab ka3 kb3 hca hcb hb0 hy hcy xa1 xa2 xa4 xa5 xb1 xb2 xb4 xb5 h300
  generalize hL1 : (⟨(textF ea).toArray⟩ : ByteArray) = s1 at *
  generalize hL2 : (⟨(textF eb).toArray⟩ : ByteArray) = s2 at *
  generalize hL3 : (⟨(textF (ea ++ eb)).toArray⟩ : ByteArray) = s3 at *
  have HL3 := Lib.hid hL3
  clear hL1 hL2 hL3
  obtain ⟨i29, hi29, hz29, hs29, hy29⟩ := info_parts info29
  have I29 := Lib.hid hi29; have Z29 := Lib.hid hz29; have S29 := Lib.hid hs29; have Y29 := Lib.hid hy29
  clear hi29 hz29 hs29 hy29
  have HEMP := Lib.hid (fun (h : ea.length = 0) => HYES.out (fun x hx => by rw [List.eq_nil_of_length_eq_zero h] at hx; simp at hx))
  generalize hq : eb.length = q at *
  clear hq
  generalize hp : ea.length = p at *
  clear hp
  obtain ⟨z, hz⟩ : ∃ z, wrap64 ((p : Int) + (q : Int)) = z := ⟨_, rfl⟩
  have h3z : ¬ (300 : Int) < z := by rw [← hz, hwr2]; exact h3
  have hbl2 : ((q : Int) == 0) = false := by simpa using hbl
  clear hwr hwr2 h3 hbl
  go_enter Tryd.func3, Tryd.ntmps3
  go_wp2_with fail
  refine HAL.out.mono ?_
  rintro e w1 ⟨rfl, b1⟩
  have B1 := Lib.hid b1; clear b1 HAL
  go_wp2_with fail
  refine (HCA.out _ B1.out).mono ?_
  rintro e w2 ⟨rfl, b2⟩
  have B2 := Lib.hid (B1.out.trans (b2.mono B1.out.size)); clear b2 HCA B1
  go_wp2_with fail
  refine (HCB.out _ B2.out).mono ?_
  rintro e w3 ⟨rfl, b3⟩
  have B3 := Lib.hid (B2.out.trans (b3.mono B2.out.size)); clear b3 HCB B2
  go_wp2_with (first
    | (at_builtin; refine wpList_append_any rfl (.tmp 44) (.tmp 45) 22 rfl w3.heap.size 29 i29 _ 7 72 Tryd.underlying22 I29.out Z29.out S29.out Y29.out rfl (by decide) (.slice none 0 0) 0 [] rfl (World.ownsRow_nil _ _ _ _) Aa p ca (flatX Xa) rfl FA.out NA.out (CA.out _ B3.out) OA.out (by unfold maxLen; omega) (by omega) (Nat.le_refl _) ?_; intro v3 w4 own3 gr3; have R3 := Lib.hid own3; have G3 := Lib.hid gr3; have B4 : Hid (Below w.heap.size w w4) := Lib.hid (B3.out.grown gr3 B3.out.size (fun k hk => by simp [Value.ownBlock] at hk)); clear own3 gr3)
    | (at_builtin; refine wpList_append_any rfl (.tmp 46) (.tmp 47) 22 rfl w3.heap.size 29 i29 _ 7 72 Tryd.underlying22 I29.out Z29.out S29.out Y29.out rfl (by decide) v3 (0 + p) ([] ++ flatX Xa) rfl R3.out (some ⟨bb, ob', none⟩) q cb (flatX Xb) rfl FB.out NB.out (CB.out _ B4.out) OB.out (by unfold maxLen; omega) (by omega) G3.out.size ?_; intro v4 w5 own4 gr4; have R4 := Lib.hid own4; have B5 : Hid (Below w.heap.size w w5) := Lib.hid (B4.out.grown gr4 B4.out.size (fun k hk => Nat.le_trans B3.out.size (R3.out.lt k hk).1)); clear own4 gr4))
  have HALL := Lib.hid (fun W (hW : Below w5.heap.size w5 W) => (HRD.out _ _ _ B5.out R4.out).below hW)
  have RALL := Lib.hid (HRD.out _ _ _ B5.out R4.out)
  clear HRD R3 R4 G3 B3 B4 CA CB OA OB FA FB NA NB I29 Z29 S29 Y29
  refine (HCX.out _ _ B5.out RALL.out).mono ?_
  rintro e w6 ⟨rfl, b6⟩
  have C6 := Lib.hid b6
  have B6 := Lib.hid (B5.out.trans (b6.mono B5.out.size))
  clear b6 HCX RALL
  have B7 := Lib.hid (fun n => below_drewN B6.out n)
  have C7 := Lib.hid (fun n => below_drewN C6.out n)
  by_cases h0 : p = 0
  case' pos =>
    have hck := HEMP.out h0
    have h0' : ¬ (0 : Int) < (p : Int) := by omega
    have h0n : ¬ 0 < p := by omega
    have h0d : decide ((0 : Int) < (p : Int)) = false := decide_eq_false h0'
    have h0e : decide (0 < p) = false := decide_eq_false h0n
    obtain ⟨htok, hpar⟩ := HTT.out hck
    rw [hck]
    rw [hck] at HTX
    simp only [errV, if_true] at HTX ⊢
    rw [HL3.out] at HTX
    clear h0 HAX HCY HNO HYES HTT
    go_wp2_with fail
    go_quiet (fail)
    go_wp2_with fail
  case' neg =>
    obtain ⟨x, ba, oa', hx, rfl, hcx⟩ := HAX.out (by omega)
    have cx := hcx _ B6.out
    have cy := HCY.out _ B6.out
    simp only [Nat.zero_mul, Nat.add_zero] at cy
    have h0' : (0 : Int) < (p : Int) := by omega
    have h0n : 0 < p := by omega
    have h0d : decide ((0 : Int) < (p : Int)) = true := decide_eq_true h0'
    have h0e : decide (0 < p) = true := decide_eq_true h0n
    have hsub : IntKind.i64.wrap ((p : Int) - 1) = ((p - 1 : Nat) : Int) := by rw [show (p : Int) - 1 = ((p - 1 : Nat) : Int) by omega]; exact IntWalk.i64_in _ (by omega)
    have i0 : (0 : Int) ≤ ((p - 1 : Nat) : Int) := by omega
    have i1 : ((p - 1 : Nat) : Int) < (p : Int) := by omega
    have i2 : (0 : Int) < (q : Int) := by have h := beq_eq_false_iff_ne.1 hbl2; omega
    by_cases hle : x.tk ≤ y.tk
    case' neg =>
      have hgt : y.tk < x.tk := Int.not_le.1 hle
      have hck := HNO.out x hx hgt
      rw [hck]
      simp only [errV, Bool.false_eq_true, if_false]
      clear HAX HCY HNO HYES HTT hcx h0
      generalize hlm : p - 1 = j at *
      clear hlm
      generalize x.tk = xt at *
      generalize y.tk = yt at *
      go_wp2_with fail
      go_quiet (fail)
      go_wp2_with fail
      go_ret
      exact ⟨rfl, B7.out _⟩
    case' pos =>
      have hck := HYES.out (fun x' hx' => by rw [hx] at hx'; cases hx'; exact hle)
      have hgt : ¬ y.tk < x.tk := Int.not_lt.2 hle
      obtain ⟨htok, hpar⟩ := HTT.out hck
      rw [hck]
      rw [hck] at HTX
      simp only [errV, if_true] at HTX ⊢
      rw [HL3.out] at HTX
      clear HAX HCY HNO HYES HTT hcx h0
      generalize hlm : p - 1 = j at *
      clear hlm
      generalize x.tk = xt at *
      generalize y.tk = yt at *
      go_wp2_with fail
      go_quiet (fail)
      go_wp2_with fail
  all_goals
    refine (HTA.out _ (B7.out _)).mono ?_
    rintro e w7 ⟨rfl, b7⟩
    have C8 := Lib.hid ((C7.out _).trans (b7.mono (C7.out _).size))
    have B8 := Lib.hid ((B7.out _).trans (b7.mono (B7.out _).size))
    clear b7 HTA
    go_wp2_with fail
    refine (HTB.out _ B8.out).mono ?_
    rintro e w8 ⟨rfl, b8⟩
    have C9 := Lib.hid (C8.out.trans (b8.mono C8.out.size))
    have B9 := Lib.hid (B8.out.trans (b8.mono B8.out.size))
    clear b8 HTB
    go_wp2_with fail
    refine (HTX.out _ _ B9.out (HALL.out _ C9.out)).mono ?_
    rintro e w9 ⟨rfl, b9⟩
    have C10 := Lib.hid (C9.out.trans (b9.mono C9.out.size))
    have B10 := Lib.hid (B9.out.trans (b9.mono B9.out.size))
    have hp := HPA.out w9 s3 B10.out htok
    unfold ParseP at hp
    rw [hpar] at hp
    have HP := Lib.hid hp
    clear b9 HTX hp HPA htok hpar
    go_wp2_with fail
    refine HP.out.mono ?_
    rintro e w10 ⟨⟨vl, rfl, hvl⟩, b10⟩
    have C11 := Lib.hid (C10.out.trans (b10.mono C10.out.size))
    have B11 := Lib.hid (B10.out.trans (b10.mono B10.out.size))
    have HS1 := Lib.hid (HSM.out w10 vl _ hvl (HALL.out _ C11.out))
    clear b10 HP hvl HSM
    go_wp2_with fail
    refine HS1.out.mono ?_
    rintro e w11 ⟨rfl, b11⟩
    have C12 := Lib.hid (C11.out.trans (b11.mono C11.out.size))
    have B12 := Lib.hid (B11.out.trans (b11.mono B11.out.size))
    clear b11 HS1
    go_wp2_with fail
    refine (HPF.out _ _ B12.out (HALL.out _ C12.out)).mono ?_
    rintro e w12 ⟨rfl, b12⟩
    have C13 := Lib.hid (C12.out.trans (b12.mono C12.out.size))
    have B13 := Lib.hid (B12.out.trans (b12.mono B12.out.size))
    clear b12 HPF
    go_wp2_with fail
    refine (HPS.out _ _ (HALL.out _ C13.out)).mono ?_
    rintro e w13 ⟨rfl, b13⟩
    have B14 := Lib.hid (B13.out.trans (b13.mono B13.out.size))
    clear b13
    go_wp2_with fail
    go_ret
    exact ⟨rfl, B14.out⟩
theorem of_laidJ {W : World} (h : laidMetH Tryd.prog Rows.traceJoinsRow.laid W) : Ev W ∧ (∃ ev, W.cell? ⟨3, 0, none⟩ = some ev ∧ EvOk ev) ∧ ∃ ev, W.cell? ⟨4, 0, none⟩ = some ev ∧ EvOk ev := by
  rw [MakeChecks.laidMetH_plain _ _ _ (by kernel_rfl)] at h
  obtain ⟨ps, ⟨_, _, _, _, _, _, _, _, _, _, ⟨_, _, _, _, _, _, _, _, _, _, ⟨g0, t0, cs0, f0, p0, q0, hg0, ht0, hv0, hd0, ⟨_, _, _, _, _, _, _, _, _, _, ⟨g1, t1, cs1, f1, p1, q1, hg1, ht1, hv1, hd1, ⟨g2, t2, cs2, f2, p2, q2, hg2, ht2, hv2, hd2, ⟨g3, t3, cs3, f3, p3, q3, hg3, ht3, hv3, hd3, ⟨g4, t4, cs4, f4, p4, q4, hg4, ht4, hv4, hd4, _⟩, _⟩, _⟩, _⟩, _⟩, _⟩, _⟩, _⟩, _, _⟩ := h
  exact ⟨⟨Fl.wd_of hg3 ht3 hv3 hd3, tw_of hg4 ht4 hv4 hd4, tab_of hg0 ht0 hv0 hd0⟩, err_of (show Tryd.prog.globalNamed "strconv.ErrSyntax" = some 3 by kernel_rfl) (by kernel_rfl) hg2 ht2 hv2 hd2, err_of (show Tryd.prog.globalNamed "strconv.ErrRange" = some 4 by kernel_rfl) (by kernel_rfl) hg1 ht1 hv1 hd1⟩
theorem joins_top {H : Type} {enc : TypeId × Value → H} (v0 : Value) (d0 : DataW H) (p0 : List MemPlace) (v1 : Value) (d1 : DataW H) (p1 : List MemPlace) (W : World) (hE : (Ev W ∧ (∃ ev, W.cell? ⟨3, 0, none⟩ = some ev ∧ EvOk ev) ∧ ∃ ev, W.cell? ⟨4, 0, none⟩ = some ev ∧ EvOk ev) ∧ Fl.Mx W) {base base1 : Nat} {r r1 : Reach} {b0 b1 : Nat} {held held1 : Bool}
    (hv0 : Value.okWide Tryd.prog W r b0 22 v0) (k0 : DataW.Trod enc Tryd.prog W base (fun _ => true) held 22 v0 d0 p0) (hv1 : Value.okWide Tryd.prog W r1 b1 22 v1) (k1 : DataW.Trod enc Tryd.prog W base1 (fun _ => true) held1 22 v1 d1 p1) :
    Calls Tryd.prog 3 #[v0, v1] W fun e W' => e = .returned (.bool true) ∧ Below W.heap.size W W' := by
  obtain ⟨xa, ha, -, na, oa⟩ := open_ents hv0 k0
  obtain ⟨xb, hb, -, nb, ob⟩ := open_ents hv1 k1
  exact joins_walk W v0 v1 (ents xa) (ents xb) (Rd.of ha) (Rd.of hb) na nb ⟨hE.1.1, hE.2, hE.1.2.1, hE.1.2.2⟩ oa ob
end Go.Proofs.YtbanfkpfijcmcaaDoor
