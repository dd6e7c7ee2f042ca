/- Parse, walked. -/
import Derived.Test.YtljfnfaljadjdaaDoorPr
namespace Go.Proofs.YtljfnfaljadjdaaDoor
open Go.RowKit
set_option linter.unusedSimpArgs false
set_option linter.unusedVariables false
set_option maxRecDepth 100000

theorem below_drewN (w : World) (n : Nat) : Below w.heap.size w (w.drewN n) := ⟨rfl, rfl, rfl, Nat.le_refl _, fun _ _ => rfl⟩

/-- What Parse's loop keeps: the set, and the pieces. -/
structure PaS (w wr : World) (a b : Nat) (l : List ByteArray) : Prop where
  o : OfS w wr a b
  p : wr.heap[w.heap.size + 2]? = some (.cells (l.map Value.string).toArray 9)
theorem PaS.cell {w wr : World} {a b : Nat} {l : List ByteArray} (h : PaS w wr a b l) (i : Nat) (hi : i < l.length) : wr.cell? ⟨w.heap.size + 2, i, none⟩ = some (.string (l.getD i ByteArray.empty)) := by
  unfold World.cell?
  simp only [h.p]
  simp [hi, List.getD]
theorem PaS.below {w wr w1 : World} {a b : Nat} {l : List ByteArray} (h : PaS w wr a b l) (hb : Below wr.heap.size wr w1) : PaS w w1 a b l :=
  ⟨⟨h.o.r.below hb h.o.r.lt, h.o.s.below hb h.o.s.lt, h.o.bel.trans (hb.mono h.o.bel.size)⟩, (hb.block _ (Array.getElem?_eq_some_iff.1 h.p).1).trans h.p⟩
theorem PaS.put {w wr : World} {a b : Nat} {l : List ByteArray} (h : PaS w wr a b l) (c d : Nat) : PaS w ((wr.setCell ⟨w.heap.size + 1, 0, none⟩ (.int .u32 c)).setCell ⟨w.heap.size + 1, 1, none⟩ (.int .u32 d)) c d l :=
  ⟨⟨h.o.r.other _ _ (by omega), h.o.s.put _ _, (h.o.bel.setCell (by simp) _).setCell (by simp) _⟩, by
    rw [Below.heap_setCell _ _ _ _ (by simp), Below.heap_setCell _ _ _ _ (by simp)]; exact h.p⟩
theorem OfS.start {w W2 : World} (hW2 : W2 = (w.alloc (.cells #[.int .u32 0, .int .u32 0] 24)).alloc (.cells #[.int .u32 0, .int .u32 0] 24)) : OfS w W2 0 0 := by
  rw [hW2]
  exact ⟨(Sb.new w 0 0).below ((Below.refl _ _).alloc (Nat.le_refl _) _) (by simp), by show Sb _ (w.heap.size + 1) 0 0; have := Sb.new (w.alloc (.cells #[.int .u32 0, .int .u32 0] 24)) 0 0; simpa using this, ((Below.refl _ _).alloc (Nat.le_refl _) _).alloc (by simp) _⟩
theorem PaS.start {w W2 W3 : World} {l : List ByteArray} (hW2 : W2 = (w.alloc (.cells #[.int .u32 0, .int .u32 0] 24)).alloc (.cells #[.int .u32 0, .int .u32 0] 24)) (hW3 : W3 = W2.alloc (.cells (l.map Value.string).toArray 9)) : PaS w W3 0 0 l := by
  have z2 : W2.heap.size = w.heap.size + 2 := by rw [hW2]; simp
  have o2 : OfS w W2 0 0 := OfS.start hW2
  have hb : Below W2.heap.size W2 W3 := by rw [hW3]; exact (Below.refl _ _).alloc (Nat.le_refl _) _
  exact ⟨⟨o2.r.below hb o2.r.lt, o2.s.below hb o2.s.lt, o2.bel.trans (hb.mono o2.bel.size)⟩, by rw [hW3, ← z2]; exact World.alloc_heap_new W2 _⟩

/-- What Parse answers. -/
def ParR (s : ByteArray) (w : World) (e : Ending) (w' : World) : Prop := (∃ (p : Nat × Nat) (ev : Int), (parseF s = some p ∧ ev = 0 ∨ parseF s = none ∧ p = (0, 0) ∧ ev = 11) ∧ e = .returned (.tuple #[sv p.1 p.2, .int .i64 ev])) ∧ Below w.heap.size w w'
theorem ParR.good {s : ByteArray} {w w' : World} {a b : Nat} (h : parseF s = some (a, b)) (hb : Below w.heap.size w w') : ParR s w (.returned (.tuple #[.agg #[.int .u32 a, .int .u32 b], .int .i64 0])) w' := ⟨⟨(a, b), 0, .inl ⟨h, rfl⟩, rfl⟩, hb⟩
theorem ParR.bad {s : ByteArray} {w w' : World} (h : parseF s = none) (hb : Below w.heap.size w w') : ParR s w (.returned (.tuple #[.agg #[.int .u32 0, .int .u32 0], .int .i64 11])) w' := ⟨⟨(0, 0), 11, .inr ⟨h, rfl, rfl⟩, rfl⟩, hb⟩

set_option maxHeartbeats 4000000 in
theorem parse_any (s : ByteArray) (w : World) (hE : Env w) (hs : s.size ≤ 1000) : Calls Tryd.prog 23 #[.string s] w (ParR s w) := by
  have HE := Lib.hid hE
  clear hE
  by_cases hn : s.data.toList = [110, 111, 110, 101]
  · have eq2 : s.toList = [110, 111, 110, 101] := by rw [ByteArray.toList_eq, hn]
    have eq1 : (s.toList == [110, 111, 110, 101]) = true := by rw [eq2]; rfl
    have HP : Hid (parseF s = some (0, 0)) := Lib.hid (if_pos hn)
    have o2 := OfS.start (w := w) rfl
    have O2 := Lib.hid o2
    clear hn o2
    go_enter Tryd.func23, Tryd.ntmps23
    go_wp2_with fail
    obtain ⟨f0, f1⟩ := (O2.out.r.put 0 0).cells
    simp only [show ((0 : Nat) : Int) = 0 from rfl] at f0 f1
    refine bodyPost_ret (v := .tuple #[.agg #[.int .u32 0, .int .u32 0], .int .i64 0]) (by simp [results, Tryd.results23, go_sem, f0, f1]) rfl (ParR.good HP.out ?_)
    exact O2.out.bel
  · have eq2 : ¬ s.toList = [110, 111, 110, 101] := by rw [ByteArray.toList_eq]; exact hn
    have eq1 : (s.toList == [110, 111, 110, 101]) = false := by simpa using eq2
    have BADf : Hid (foldP (pcs s) = none → parseF s = none) := Lib.hid fun h => by unfold parseF; rw [if_neg hn, h]
    have BADt : Hid (∀ a b, foldP (pcs s) = some (a, b) → ¬ textL a b = s.data.toList → parseF s = none) := Lib.hid fun a b h h2 => by unfold parseF; rw [if_neg hn, h]; exact if_neg h2
    have GOOD : Hid (∀ a b, foldP (pcs s) = some (a, b) → textL a b = s.data.toList → parseF s = some (a, b)) := Lib.hid fun a b h h2 => by unfold parseF; rw [if_neg hn, h]; exact if_pos h2
    clear hn
    obtain ⟨W2, hW2⟩ : ∃ W2, W2 = (w.alloc (.cells #[.int .u32 0, .int .u32 0] 24)).alloc (.cells #[.int .u32 0, .int .u32 0] 24) := ⟨_, rfl⟩
    have z2 : W2.heap.size = w.heap.size + 2 := by rw [hW2]; simp
    have b2 : Below w.heap.size w W2 := by rw [hW2]; exact ((Below.refl _ _).alloc (Nat.le_refl _) _).alloc (by simp) _
    obtain ⟨mx, hmx⟩ := (HE.out.below b2).m
    have HS := Lib.hid (Tryd.strings_Split s ⟨#[44]⟩ mx W2 (by omega) hmx (by decide))
    have hl := pcs_len s
    have hle := pcs_le s
    have HSZ := Lib.hid (fun x h => pcs_size s x h)
    rw [← hl] at HS
    have e1 : Lib.splitB ⟨#[44]⟩ 0 (Lib.countB s ⟨#[44]⟩) s = pcs s := rfl
    rw [e1] at HS
    clear e1 hl hmx b2
    obtain ⟨W3, hW3⟩ : ∃ W3, W3 = W2.alloc (.cells ((pcs s).map Value.string).toArray 9) := ⟨_, rfl⟩
    have T0 := Lib.hid (PaS.start hW2 hW3)
    rw [← hW3, z2] at HS
    clear hW3 z2
    have HB2 := Lib.hid hW2; clear hW2
    generalize pcs s = l at *
    go_enter Tryd.func23, Tryd.ntmps23
    go_wp2_with fail
    rw [← HB2.out]
    refine HS.out.mono ?_
    rintro e w' ⟨rfl, rfl⟩
    clear HS HB2
    go_wp2_with fail
    go_loopw [21] (fun i wr => ∃ (k a b : Nat), k ≤ l.length ∧ i = .int .i64 k ∧ Hid (foldP (l.take k) = some (a, b)) ∧ a < 4294967296 ∧ b < 4294967296 ∧ PaS w wr a b l) (fun i _ => l.length - (intOf i).toNat)
    case atStart => exact ⟨0, 0, 0, Nat.zero_le _, rfl, Lib.hid rfl, by decide, by decide, T0.out⟩
    case round =>
      obtain ⟨k, a, b, hk, rfl, HK, ha, hb, T⟩ := hrel
      have TT := Lib.hid T
      by_cases hlt : k < l.length
      · have hck := T.cell k hlt
        have hrs : (l.getD k ByteArray.empty).size ≤ 1000 := by
          have hm : l.getD k ByteArray.empty ∈ l := by simp [List.getD, hlt]
          have := HSZ.out _ hm; omega
        have HST := Lib.hid (foldP_take l k hlt)
        rw [HK.out] at HST
        generalize l.getD k ByteArray.empty = r at hck hrs HST
        have sA := cutA_size r
        have sB := toB_size r
        have HCt : Hid (∀ W, Env W → Calls Tryd.prog 35 #[.string r, .string ⟨#[45]⟩] W fun e w' => e = .returned (.tuple #[.string (cutA r), .string (cutB r), .bool (cutM r)]) ∧ ∃ n, w' = W.drewN n) := Lib.hid fun W hW => by
          obtain ⟨mx, hmx⟩ := hW.m
          exact Tryd.strings_Cut r ⟨#[45]⟩ mx W (by omega) hmx
        have HN1 := Lib.hid (fun W hW => number_any (cutA r) W hW (by omega))
        have HN2 : Hid (∀ W, Env W → Calls Tryd.prog 36 #[.string (if cutM r then cutB r else cutA r)] W (NumR (toB r) W)) := Lib.hid (fun W hW => number_any (toB r) W hW (by omega))
        have HPR : Hid (∀ n1 n2 : Int, (∀ k, numO (cutA r) = some k → n1 = k) → (∀ k, numO (toB r) = some k → n2 = k) → (((numO (cutA r)).isSome && (numO (toB r)).isSome) = false ∧ pairO r = none) ∨ ((numO (cutA r)).isSome = true ∧ (numO (toB r)).isSome = true ∧ ∃ x y : Nat, n1 = x ∧ n2 = y ∧ x < 64 ∧ y < 64 ∧ pairO r = some (x, y))) := Lib.hid fun n1 n2 h1 h2 => by
          cases hp : pairO r with
          | none => exact .inl ⟨by rcases pairO_none hp with e | e <;> simp [e], rfl⟩
          | some q =>
            obtain ⟨x, y⟩ := q
            obtain ⟨e1, e2, hx, hy⟩ := pairO_lt hp
            exact .inr ⟨by rw [e1]; rfl, by rw [e2]; rfl, x, y, h1 x e1, h2 y e2, hx, hy, rfl⟩
        have EW := Lib.hid (HE.out.below T.o.bel)
        clear T hrs sA sB
        generalize cutA r = rA at *
        generalize cutB r = rB at *
        generalize toB r = rT at *
        generalize cutM r = rM at *
        go_wp2_with fail
        refine (HCt.out _ EW.out).mono ?_
        rintro e w1 ⟨rfl, n, rfl⟩
        have T1 := Lib.hid (TT.out.below (below_drewN wr n))
        have E1 := Lib.hid (EW.out.below (below_drewN wr n))
        generalize wr.drewN n = w1 at T1 E1 ⊢
        clear TT EW hck HCt
        cases rM
        all_goals
          go_wp2_with fail
          refine (HN1.out _ E1.out).mono ?_
          rintro e w2 ⟨⟨n1, rfl, hn1⟩, b2⟩
          have T2 := Lib.hid (T1.out.below b2)
          have E2 := Lib.hid (E1.out.below b2)
          clear b2 T1 E1
          have HQ1 := Lib.hid hn1; clear hn1
          go_wp2_with fail
          refine (HN2.out _ E2.out).mono ?_
          rintro e w3 ⟨⟨n2, rfl, hn2⟩, b3⟩
          have T3 := Lib.hid (T2.out.below b3)
          clear b3 T2 E2
          have hpr := HPR.out n1 n2 HQ1.out hn2
          clear hn2 HQ1 HPR HN1 HN2
          rcases hpr with ⟨hbb, hp⟩ | ⟨h1, h2, x, y, rfl, rfl, hx, hy, hp⟩
          · have HP : Hid (parseF s = none) := Lib.hid (BADf.out (foldP_stop l (k + 1) (by rw [HST.out]; simp only [stepP, hp])))
            obtain ⟨z0, z1, z2, z3⟩ := T3.out.o.r.full
            clear hp HST BADf BADt GOOD
            generalize (numO rA).isSome = q1 at hbb ⊢
            generalize (numO rT).isSome = q2 at hbb ⊢
            cases q1
            case' true => cases q2
            case' true.true => cases hbb
            all_goals
              clear hbb
              go_wp2_with fail
              obtain ⟨f0, f1⟩ := (T3.out.o.r.put 0 0).cells
              simp only [show ((0 : Nat) : Int) = 0 from rfl] at f0 f1
              refine bodyPost_ret (v := .tuple #[.agg #[.int .u32 0, .int .u32 0], .int .i64 11]) (by simp [results, Tryd.results23, go_sem, f0, f1]) rfl (ParR.bad HP.out ?_)
              exact (T3.out.o.bel.setCell (by simp) _).setCell (by simp) _
          · have HAD : Hid (foldP (l.take (k + 1)) = some (adR (a, b) x (y + 1 - x))) := Lib.hid (by rw [HST.out]; simp only [stepP, hp])
            simp only [h1, h2]
            clear hp HST BADf BADt GOOD h1 h2
            go_wp2_with fail
            go_loopw [14] (fun fd wi => ∃ (j c d : Nat), j ≤ y + 1 - x ∧ fd = .int .i64 ((x + j : Nat) : Int) ∧ Hid (adR (a, b) x j = (c, d)) ∧ c < 4294967296 ∧ d < 4294967296 ∧ PaS w wi c d l) (fun fd _ => y + 1 - (intOf fd).toNat)
            case atStart => exact ⟨0, a, b, Nat.zero_le _, by simp, Lib.hid rfl, ha, hb, T3.out⟩
            case round =>
              obtain ⟨j, c, d, hj, rfl, HJ, hc, hd, T⟩ := hrel
              have TT := Lib.hid T
              by_cases hle : x + j ≤ y
              · obtain ⟨x0, x1, x2, x3⟩ := T.o.s.full
                have HS1 := Lib.hid (adR_succ (a, b) x j)
                rw [HJ.out] at HS1
                have lc := wi_lt c (x + j) hc (by omega)
                have ld := wi_lt' d (x + j) hd (by omega)
                have HWi := Lib.hid (fun W => with_yes c d ((x + j : Nat) : Int) W hc hd (by omega) (by omega))
                rw [Int.toNat_natCast] at HWi
                simp only at HS1
                clear T HJ
                generalize wiA c (x + j) = c' at *
                generalize wiB d (x + j) = d' at *
                generalize hm : x + j = m at *
                have HM := Lib.hid hm
                go_wp2_with fail
                refine (HWi.out _).mono ?_
                rintro e w4 ⟨rfl, b4⟩
                have T4 := Lib.hid (TT.out.below b4)
                obtain ⟨y0, y1, y2, y3⟩ := T4.out.o.s.full
                clear b4 TT x0 x1 x2 x3 HWi
                simp only [sv]
                go_wp2_with fail
                go_roundw
                case rel => exact ⟨j + 1, c', d', by omega, by have := HM.out; go_num, HS1, lc, ld, T4.out.put _ _⟩
                case measure => simp [intOf]; omega
              · have hje : j = y + 1 - x := by omega
                have HAD2 : Hid (foldP (l.take (k + 1)) = some (c, d)) := Lib.hid (by rw [HAD.out, ← hje, HJ.out])
                clear T HJ HAD
                generalize hm : x + j = m at *
                go_wp2_with fail
                go_roundw
                case rel => exact ⟨k + 1, c, d, by omega, by go_num, HAD2, hc, hd, TT.out⟩
                case measure => simp [intOf]; omega
      · obtain rfl : k = l.length := by omega
        have HF : Hid (foldP l = some (a, b)) := by have := HK.out; rw [List.take_length] at this; exact Lib.hid this
        clear HK
        obtain ⟨x0, x1, x2, x3⟩ := T.o.s.full
        have HT := Lib.hid (text_any a b wr ha hb)
        have HSB := Lib.hid (bytes_eq (l := textL a b) (s := s))
        have HBT := Lib.hid (BADt.out a b HF.out)
        have HGD := Lib.hid (GOOD.out a b HF.out)
        clear T
        by_cases ht : textL a b = s.data.toList
        all_goals
          generalize (⟨(textL a b).toArray⟩ : ByteArray) = t at HT HSB
        · have eq3 : t.toList = s.toList := by rw [HSB.out.2 ht.symm]
          have eq4 : (t.toList == s.toList) = true := by rw [eq3]; simp
          have HP := Lib.hid (HGD.out ht)
          clear ht HSB HGD HBT
          go_wp2_with fail
          refine HT.out.mono ?_
          rintro e w1 ⟨rfl, b1⟩
          have T1 := Lib.hid (TT.out.below b1)
          obtain ⟨y0, y1, y2, y3⟩ := T1.out.o.s.full
          obtain ⟨z0, z1, z2, z3⟩ := T1.out.o.r.full
          clear b1 TT x0 x1 x2 x3
          go_wp2_with fail
          obtain ⟨f0, f1⟩ := (T1.out.o.r.put a b).cells
          refine bodyPost_ret (v := .tuple #[.agg #[.int .u32 a, .int .u32 b], .int .i64 0]) (by simp [results, Tryd.results23, go_sem, f0, f1]) rfl (ParR.good HP.out ?_)
          exact (T1.out.o.bel.setCell (by simp) _).setCell (by simp) _
        · have eq4 : (t.toList == s.toList) = false := Bool.eq_false_iff.2 fun h => ht (HSB.out.1 ((Lib.bytes_beq_iff _ _).1 h)).symm
          have eq3 : ¬ t.toList = s.toList := by simpa using eq4
          have HP := Lib.hid (HBT.out ht)
          clear ht HSB HGD HBT
          go_wp2_with fail
          refine HT.out.mono ?_
          rintro e w1 ⟨rfl, b1⟩
          have T1 := Lib.hid (TT.out.below b1)
          obtain ⟨y0, y1, y2, y3⟩ := T1.out.o.s.full
          obtain ⟨z0, z1, z2, z3⟩ := T1.out.o.r.full
          clear b1 TT x0 x1 x2 x3
          go_wp2_with fail
          obtain ⟨f0, f1⟩ := (T1.out.o.r.put 0 0).cells
          simp only [show ((0 : Nat) : Int) = 0 from rfl] at f0 f1
          refine bodyPost_ret (v := .tuple #[.agg #[.int .u32 0, .int .u32 0], .int .i64 11]) (by simp [results, Tryd.results23, go_sem, f0, f1]) rfl (ParR.bad HP.out ?_)
          exact (T1.out.o.bel.setCell (by simp) _).setCell (by simp) _
end Go.Proofs.YtljfnfaljadjdaaDoor
