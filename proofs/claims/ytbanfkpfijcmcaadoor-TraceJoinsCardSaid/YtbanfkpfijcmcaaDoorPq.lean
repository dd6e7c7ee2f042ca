/- TraceParts, walked. (Printed by tools/genPq.py.) -/
import Derived.Test.YtbanfkpfijcmcaaDoorPt
namespace Go.Proofs.YtbanfkpfijcmcaaDoor
open Go.RowKit
set_option linter.unusedSimpArgs false
set_option linter.unusedVariables false
set_option maxRecDepth 100000

def Nz (v : Value) : Prop := ∀ n c, v = .slice none n c → n = 0 ∧ c = 0
theorem great_yes {l : List En} (h : 6000 < grt l) : grtV l = 1 := by unfold grtV; rw [if_pos h]
theorem great_no {l : List En} (h : ¬ 6000 < grt l) : grtV l = 0 := by unfold grtV; rw [if_neg h]
theorem grt_len (l : List En) : l.length * 10 ≤ grt l := by
  unfold grt
  induction l with
  | nil => simp
  | cons x l ih => simp only [List.map_cons, List.sum_cons, List.length_cons]; omega

set_option maxHeartbeats 16000000 in
theorem tparts_walk (w : World) (va vb vc : Value) (ea eb ec : List En) (ha : Rd w va ea) (hb : Rd w vb eb) (hc : Rd w vc ec) (na : Nz va) (nb : Nz vb) (nc : Nz vc) (hE : Ev w) (hga : grt ea ≤ 4611686018427387904) (hgb : grt eb ≤ 4611686018427387904) (hgc : grt ec ≤ 4611686018427387904) :
    Calls Tryd.prog 4 #[va, vb, vc] w fun e w' => e = .returned (.bool true) ∧ Below w.heap.size w w' := by
  have HAL := Lib.hid (alive_any w hE)
  have HGA := Lib.hid (fun W (hW : Below w.heap.size w W) => great_any W va ea (ha.below hW) hga)
  have HGB := Lib.hid (fun W (hW : Below w.heap.size w W) => great_any W vb eb (hb.below hW) hgb)
  have HGC := Lib.hid (fun W (hW : Below w.heap.size w W) => great_any W vc ec (hc.below hW) hgc)
  by_cases g1 : 6000 < grt ea
  · rw [great_yes g1] at HGA
    clear ha hb hc na nb nc hE hga hgb hgc g1 HGB HGC
    go_enter Tryd.func4, Tryd.ntmps4
    go_wp2_with fail
    refine HAL.out.mono ?_
    rintro e w1 ⟨rfl, b1⟩
    have B1 := Lib.hid b1; clear b1
    go_wp2_with fail
    refine (HGA.out _ B1.out).mono ?_
    rintro e w2 ⟨rfl, rfl⟩
    go_wp2_with fail
    go_ret
    exact ⟨rfl, B1.out⟩
  rw [great_no g1] at HGA
  by_cases g2 : 6000 < grt eb
  · rw [great_yes g2] at HGB
    clear ha hb hc na nb nc hE hga hgb hgc g1 g2 HGC
    go_enter Tryd.func4, Tryd.ntmps4
    go_wp2_with fail
    refine HAL.out.mono ?_
    rintro e w1 ⟨rfl, b1⟩
    have B1 := Lib.hid b1; clear b1
    go_wp2_with fail
    refine (HGA.out _ B1.out).mono ?_
    rintro e w2 ⟨rfl, rfl⟩
    go_wp2_with fail
    refine (HGB.out _ B1.out).mono ?_
    rintro e w2 ⟨rfl, rfl⟩
    go_wp2_with fail
    go_ret
    exact ⟨rfl, B1.out⟩
  rw [great_no g2] at HGB
  by_cases g3 : 6000 < grt ec
  · rw [great_yes g3] at HGC
    clear ha hb hc na nb nc hE hga hgb hgc g1 g2 g3
    go_enter Tryd.func4, Tryd.ntmps4
    go_wp2_with fail
    refine HAL.out.mono ?_
    rintro e w1 ⟨rfl, b1⟩
    have B1 := Lib.hid b1; clear b1
    go_wp2_with fail
    refine (HGA.out _ B1.out).mono ?_
    rintro e w2 ⟨rfl, rfl⟩
    go_wp2_with fail
    refine (HGB.out _ B1.out).mono ?_
    rintro e w2 ⟨rfl, rfl⟩
    go_wp2_with fail
    refine (HGC.out _ B1.out).mono ?_
    rintro e w2 ⟨rfl, rfl⟩
    go_wp2_with fail
    go_ret
    exact ⟨rfl, B1.out⟩
  rw [great_no g3] at HGC
  have la : ea.length ≤ 600 := by have := grt_len ea; omega
  have lb : eb.length ≤ 600 := by have := grt_len eb; omega
  have lc : ec.length ≤ 600 := by have := grt_len ec; omega
  obtain ⟨Aa, ca, Xa, rfl, xa1, xa2, ⟨xa3, -⟩, xa4, xa5⟩ := ha.list
  obtain ⟨Ab, cb, Xb, rfl, xb1, xb2, ⟨xb3, -⟩, xb4, xb5⟩ := hb.list
  obtain ⟨Ac, cc, Xc, rfl, xc1, xc2, ⟨xc3, -⟩, xc4, xc5⟩ := hc.list
  have NA := Lib.hid (fun h : Aa = none => na _ _ (by rw [h]))
  have NB := Lib.hid (fun h : Ab = none => nb _ _ (by rw [h]))
  have NC := Lib.hid (fun h : Ac = none => nc _ _ (by rw [h]))
  have CA := Lib.hid xa5; have CB := Lib.hid xb5; have CC := Lib.hid xc5
  have OA := Lib.hid (flat_one xa4); have OB := Lib.hid (flat_one xb4); have OC := Lib.hid (flat_one xc4)
  have HXY : Hid (∀ (X Y : List Ex) (eX eY : List En) (base : Nat) (v : Value) (W : World), (X = Xc ∧ eX = ec) → ((Y = Xa ∧ eY = ea) ∨ (Y = Xb ∧ eY = eb)) → Below w.heap.size w W → W.ownsRow base 29 7 v (0 + eX.length + eY.length) ([] ++ flatX X ++ flatX Y) → Rd W v (eX ++ eY)) := Lib.hid (by
    rintro X Y eX eY base v W ⟨rfl, rfl⟩ hY hW ho
    have hY2 : ents Y = eY ∧ Y.length = eY.length ∧ ∀ x ∈ Y, DataAt w x.dv x.e.dt := by
      rcases hY with ⟨rfl, rfl⟩ | ⟨rfl, rfl⟩
      · exact ⟨xa1, xa2, xa4⟩
      · exact ⟨xb1, xb2, xb4⟩
    have h1 : ents (X ++ Y) = eX ++ eY := by unfold ents at *; rw [List.map_append, xc1, hY2.1]
    rw [← h1]
    refine rd_own (base := base) (n := 0 + eX.length + eY.length) (by rw [flatX_append]; simpa using ho) (by rw [List.length_append, xc2, hY2.2.1]; omega) (fun x hx => ?_)
    rcases List.mem_append.1 hx with hx | hx
    · exact (xc4 x hx).below hW
    · exact (hY2.2.2 x hx).below hW)
  have FA : Hid ((flatX Xa).length = ea.length * 7) := Lib.hid (by rw [flatX_len, xa2])
  have FB : Hid ((flatX Xb).length = eb.length * 7) := Lib.hid (by rw [flatX_len, xb2])
  have FC : Hid ((flatX Xc).length = ec.length * 7) := Lib.hid (by rw [flatX_len, xc2])
  have HP := Lib.hid (fun W (hW : Below w.heap.size w W) => parts_any W _ _ ea eb (ha.below hW) (hb.below hW) (by omega) (by omega))
  have HPS := Lib.hid (fun W (hW : Below w.heap.size w W) => parts_any W _ _ eb ea (hb.below hW) (ha.below hW) (by omega) (by omega))
  rw [parts_symm ea eb] at HPS
  have HSM := Lib.hid (fun W (hW : Below w.heap.size w W) => same_any W _ _ ea eb (ha.below hW) (hb.below hW) (by omega) (by omega))
  have hcl := cpl_le ea eb
  have HST := Lib.hid (fun W (hW : Below w.heap.size w W) => same_any W _ _ (ea.take (cpl ea eb)) (eb.take (cpl ea eb)) ((ha.take _ hcl.1).below hW) ((hb.take _ hcl.2).below hW) (by rw [List.length_take]; omega) (by rw [List.length_take]; omega))
  rw [same_take] at HST
  have HPX := Lib.hid (fun W vx vy (hx : Rd W vx (ec ++ ea)) (hy : Rd W vy (ec ++ eb)) => parts_any W vx vy (ec ++ ea) (ec ++ eb) hx hy (by rw [List.length_append]; omega) (by rw [List.length_append]; omega))
  have HN1 := Lib.hid (fun h : partsF ea eb < 0 => And.intro (parts_app_neg ec h) (same_neg h))
  have HN2 := Lib.hid (fun h : ¬ partsF ea eb < 0 => And.intro (parts_app_pos ec h) (And.intro (same_pos h) (parts_pos h).1))
  clear xa1 xa2 xa4 xa5 xb1 xb2 xb4 xb5 xc1 xc2 xc4 xc5 ha hb hc na nb nc hE hga hgb hgc g1 g2 g3
  obtain ⟨i29, hi29, hz29, hs29, hy29⟩ := info_parts info29
  have I29 := Lib.hid hi29; have Z29 := Lib.hid hz29; have S29 := Lib.hid hs29; have Y29 := Lib.hid hy29
  clear hi29 hz29 hs29 hy29
  go_enter Tryd.func4, Tryd.ntmps4
  go_wp2_with fail
  refine HAL.out.mono ?_
  rintro e w1 ⟨rfl, b1⟩
  have B1 := Lib.hid b1; clear b1
  go_wp2_with fail
  refine (HGA.out _ B1.out).mono ?_
  rintro e w2 ⟨rfl, rfl⟩
  go_wp2_with fail
  refine (HGB.out _ B1.out).mono ?_
  rintro e w2 ⟨rfl, rfl⟩
  go_wp2_with fail
  refine (HGC.out _ B1.out).mono ?_
  rintro e w2 ⟨rfl, rfl⟩
  go_wp2_with fail
  refine (HP.out _ B1.out).mono ?_
  rintro e w2 ⟨rfl, b2⟩
  have B2 := Lib.hid (B1.out.trans (b2.mono B1.out.size))
  have Z2 := Lib.hid (zero_made w2)
  have B3 := Lib.hid (B2.out.alloc B2.out.size (.cells #[] 29))
  clear b2 HAL HGA HGB HGC HP B1
  go_wp2_with (first
    | (at_builtin; refine wpList_append_any rfl (.tmp 34) (.tmp 35) 22 rfl w2.heap.size 29 i29 _ 7 72 Tryd.underlying22 I29.out Z29.out S29.out Y29.out rfl (by decide) _ 0 [] rfl Z2.out Ac ec.length cc (flatX Xc) rfl FC.out NC.out (CC.out _ B3.out) OC.out (by unfold maxLen; omega) (by omega) (by simp) ?_; intro v3 w3 own3 gr3; have R3 := Lib.hid own3; have G3 := Lib.hid gr3; have B4 : Hid (Below w.heap.size w w3) := Lib.hid (B3.out.grown gr3 B3.out.size (fun k hk => Nat.le_trans B2.out.size (Z2.out.lt k hk).1)); clear own3 gr3)
    | (at_builtin; refine wpList_append_any rfl (.tmp 36) (.tmp 37) 22 rfl w2.heap.size 29 i29 _ 7 72 Tryd.underlying22 I29.out Z29.out S29.out Y29.out rfl (by decide) _ (0 + ec.length) ([] ++ flatX Xc) rfl R3.out Aa ea.length ca (flatX Xa) rfl FA.out NA.out (CA.out _ B4.out) OA.out (by unfold maxLen; omega) (by omega) (by exact Nat.le_trans (by simp) G3.out.size) ?_; intro v4 w4 own4 gr4; have R4 := Lib.hid own4; have B5 : Hid (Below w.heap.size w w4) := Lib.hid (B4.out.grown gr4 B4.out.size (fun k hk => Nat.le_trans B2.out.size (R3.out.lt k hk).1)); have Z4 := Lib.hid (zero_made w4); have B6 := Lib.hid (B5.out.alloc B5.out.size (.cells #[] 29)); clear own4 gr4)
    | (at_builtin; refine wpList_append_any rfl (.tmp 39) (.tmp 40) 22 rfl w4.heap.size 29 i29 _ 7 72 Tryd.underlying22 I29.out Z29.out S29.out Y29.out rfl (by decide) _ 0 [] rfl Z4.out Ac ec.length cc (flatX Xc) rfl FC.out NC.out (CC.out _ B6.out) OC.out (by unfold maxLen; omega) (by omega) (by simp) ?_; intro v5 w5 own5 gr5; have R5 := Lib.hid own5; have B7 : Hid (Below w.heap.size w w5) := Lib.hid (B6.out.grown gr5 B6.out.size (fun k hk => Nat.le_trans B5.out.size (Z4.out.lt k hk).1)); have K5 : Hid (Below w4.heap.size w4 w5) := Lib.hid (((Below.refl _ w4).alloc (Nat.le_refl _) (.cells #[] 29)).grown gr5 (by simp) (fun k hk => (Z4.out.lt k hk).1)); clear own5 gr5)
    | (at_builtin; refine wpList_append_any rfl (.tmp 41) (.tmp 42) 22 rfl w4.heap.size 29 i29 _ 7 72 Tryd.underlying22 I29.out Z29.out S29.out Y29.out rfl (by decide) _ (0 + ec.length) ([] ++ flatX Xc) rfl R5.out Ab eb.length cb (flatX Xb) rfl FB.out NB.out (CB.out _ B7.out) OB.out (by unfold maxLen; omega) (by omega) (by exact K5.out.size) ?_; intro v6 w6 own6 gr6; have R6 := Lib.hid own6; have B8 : Hid (Below w.heap.size w w6) := Lib.hid (B7.out.grown gr6 B7.out.size (fun k hk => Nat.le_trans B5.out.size (R5.out.lt k hk).1)); have K6 : Hid (Below w4.heap.size w4 w6) := Lib.hid (K5.out.grown gr6 K5.out.size (fun k hk => (R5.out.lt k hk).1)); clear own6 gr6))
  have RX := (HXY.out Xc Xa ec ea _ _ _ ⟨rfl, rfl⟩ (.inl ⟨rfl, rfl⟩) B5.out R4.out).below K6.out
  have RY := HXY.out Xc Xb ec eb _ _ _ ⟨rfl, rfl⟩ (.inr ⟨rfl, rfl⟩) B8.out R6.out
  refine (HPX.out _ _ _ RX RY).mono ?_
  rintro e w7 ⟨rfl, b7⟩
  have B9 := Lib.hid (B8.out.trans (b7.mono B8.out.size))
  clear b7 RX RY HXY R3 R4 R5 R6 Z2 Z4 K5 K6 B2 B3 B4 B5 B6 B7 B8 CA CB CC OA OB OC FA FB FC NA NB NC
  by_cases hneg : partsF ea eb < 0
  · obtain ⟨e1, e2, e3⟩ := HN1.out hneg
    rw [e1]
    rw [e2] at HSM
    clear HN1 HN2 HST HPS HPX e1 e2
    generalize partsF ea eb = n at *
    generalize ea.length = p at *
    generalize eb.length = q at *
    subst e3
    go_wp2_with fail
    refine (HSM.out _ B9.out).mono ?_
    rintro e w8 ⟨rfl, b8⟩
    have B10 := Lib.hid (B9.out.trans (b8.mono B9.out.size))
    clear b8
    go_wp2_with fail
    go_ret
    exact ⟨rfl, B10.out⟩
  · obtain ⟨e1, e2, e3⟩ := HN2.out (by omega)
    rw [e1]
    rw [e2] at HSM
    rw [e3] at HPS ⊢
    clear HN1 HN2 HPX e1 e2 hneg e3
    generalize cpl ea eb = n at *
    generalize ea.length = p at *
    generalize eb.length = q at *
    generalize ec.length = r at *
    have h1 : IntKind.i64.wrap ((n : Int) + (r : Int)) = (n : Int) + (r : Int) := IntWalk.i64_in _ (by omega)
    have h2 : ¬ ((p : Int) < (n : Int)) := by omega
    have h3 : ¬ ((q : Int) < (n : Int)) := by omega
    have h4 : ¬ ((n : Int) < 0) := by omega
    have slA := fun W => cut_any Aa p ca n hcl.1 xa3 W
    have slB := fun W => cut_any Ab q cb n hcl.2 xb3 W
    go_upto_region 12 with (fail)
    go_region_held3 (fun W => Below w.heap.size w W)
      (first | assumption | exact B9.out | exact B9.out.drew | exact C1.out | exact C1.out.drew | exact C2.out | exact C2.out.drew | exact C3.out | exact C3.out.drew)
      (first
        | (go_at_call 11; refine (HPS.out _ (by first | exact B9.out | exact B9.out.drew)).mono ?_; rintro e u1 ⟨rfl, b⟩; have C1 : Hid (Below w.heap.size w u1) := Lib.hid (by first | exact B9.out.trans (b.mono B9.out.size) | exact B9.out.drew.trans (b.mono B9.out.drew.size)); clear b)
        | (have _z := C2; clear _z; go_at_call 10; refine (HSM.out _ (by first | exact C2.out | exact C2.out.drew)).mono ?_; rintro e u3 ⟨rfl, b⟩; have C3 : Hid (Below w.heap.size w u3) := Lib.hid (by first | exact C2.out.trans (b.mono C2.out.size) | exact C2.out.drew.trans (b.mono C2.out.drew.size)); clear b)
        | (go_at_call 10; refine (HST.out _ (by first | exact C1.out | exact C1.out.drew)).mono ?_; rintro e u2 ⟨rfl, b⟩; have C2 : Hid (Below w.heap.size w u2) := Lib.hid (by first | exact C1.out.trans (b.mono C1.out.size) | exact C1.out.drew.trans (b.mono C1.out.drew.size)); clear b))
    go_wp2_with fail
    go_ret
    exact ⟨rfl, C3.out⟩
end Go.Proofs.YtbanfkpfijcmcaaDoor
