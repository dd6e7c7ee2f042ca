/- The reference's queues: Cut, Batch; same. -/
import Derived.Test.YtncfggcbdliepaaRb
namespace Go.Proofs.Ytncfggcbdliepaa
open Go.RowKit
set_option linter.unusedSimpArgs false
set_option linter.unusedVariables false
set_option maxRecDepth 100000

theorem wpList_slice {P : Program} {w : World} {ops : Array Oper} {rest : List Oper} {o : Oper} {a : Act} {Q : Exit → Act → World → Prop} (hgd : o.guard = none) (t : TypeId) (x : Operand) (lo hi : Option Operand) (ho : o.op = .slice t x lo hi none) (v : Value)
    (hr : (Instr.sliceAt t (a.eval x) (lo.map a.eval) (hi.map a.eval) none).run P w = .ok v w) (h : wpList P ops Q rest (a.put o.dst v) w) : wpList P ops Q (o :: rest) a w := by
  refine wpList_plain hgd fun K hK => ?_
  unfold Oper.wp
  simp [execOp, ho, hr, Result.andThen]
  exact hK _ _ h
theorem size48 (w : World) : (sizeOf (Try.prog.elem 48)).run Try.prog w = .ok 4 w := by
  have e : Try.prog.elem 48 = 58 := by kernel_rfl
  rw [e]
  have h5 : (Try.prog.info? 58).map (·.size) = some 4 := by kernel_rfl
  obtain ⟨i, hi, hs⟩ := Option.map_eq_some_iff.1 h5
  simp [sizeOf, typeInfo, hi, hs, go_sem]
theorem elem48 : Try.prog.underlying 48 = some (.slice (Try.prog.elem 48)) := by kernel_rfl
theorem cut48_hi (b ln cc n : Nat) (hn : n ≤ ln) (hlc : ln ≤ cc) (w : World) : (Instr.sliceAt 48 (.slice (some ⟨b, 0, none⟩) ln cc) none (some (.int .i64 (n : Int))) none).run Try.prog w = .ok (.slice (some ⟨b, 0, none⟩) n cc) w := by
  rw [run_sliceAt_slice _ _ _ _ _ _ elem48, run_slice_h (w := w) 48 _ ln cc elem48 .i64 n (by omega) (by omega), size48]
  simp [Result.andThen, sliced, add_plain]
theorem cut48_lo (b ln cc n : Nat) (x : Int) (hx : x = n) (hn : n ≤ ln) (hlc : ln ≤ cc) (w : World) : (Instr.sliceAt 48 (.slice (some ⟨b, 0, none⟩) ln cc) (some (.int .i64 x)) none none).run Try.prog w = .ok (.slice (some ⟨b, if cc = n then 0 else n * 4, none⟩) (ln - n) (cc - n)) w := by
  subst hx
  rw [run_sliceAt_slice _ _ _ _ _ _ elem48, run_slice_l (w := w) 48 _ ln cc elem48 .i64 n (by omega) (by omega), size48]
  by_cases h : cc = n
  · simp [Result.andThen, sliced, h]
  · simp [Result.andThen, sliced, add_plain, h]

theorem rcut_no (w : World) (r : Nat) (v : Value) (N m : Nat) (L : List It) (x : Int) (h : Rf w r v N m L) (hN : N ≤ 10000) (hl : look L x = none) :
    Calls Try.prog 20 #[.pointer (some ⟨r, 0, none⟩), .int .i64 x] w fun e w' => e = .returned (.bool false) ∧ w = w' := by
  have HF := Lib.hid (find_no w r v N m L x h hN hl)
  clear h hl
  go_enter Try.func20, Try.ntmps20
  go_wp2_with fail
  refine HF.out.mono ?_
  rintro e w1 ⟨rfl, rfl⟩
  go_wp2_with fail
  go_ret
  exact ⟨rfl, rfl⟩

set_option maxHeartbeats 4000000 in
theorem rcut_yes (w : World) (r : Nat) (v : Value) (N m : Nat) (L : List It) (x : Int) (t : It) (h : Rf w r v N m L) (hN : N ≤ 10000) (hl : look L x = some t) :
    Calls Try.prog 20 #[.pointer (some ⟨r, 0, none⟩), .int .i64 x] w fun e w' => e = .returned (.bool true) ∧ ∃ v', Rf w' r v' N m (cutL L x) ∧ Stp (RFoot r v) w (RFoot r v') w' := by
  obtain ⟨i58, hi0, hz0, hz1, hz2⟩ := info_parts info58
  have I58 := Lib.hid hi0; have Z58 := Lib.hid hz0; have S58 := Lib.hid hz1; have Y58 := Lib.hid hz2
  clear hi0 hz0 hz1 hz2
  have HF := Lib.hid (find_yes w r v N m L x t h hN hl)
  obtain ⟨hp1, hp2⟩ := plc_of_look hl
  obtain ⟨htm, rfl⟩ := look_some hl
  have hE := cut_plc h.ok htm
  obtain ⟨q0, q1, zq1⟩ := h.cells
  obtain ⟨A, cc, rfl, hlc, hcm, -, -, hcell⟩ := row4_cells h.o
  obtain ⟨b, rfl, hbl, hob, -⟩ := hcell _ t hp2
  obtain ⟨A2, c2, hv2, -, -, -, hsrc⟩ := row_src h.o
  injection hv2 with e1 _ e2
  subst e1 e2
  obtain ⟨-, -, hsrc⟩ := hsrc _ rfl
  have hln := h.ln
  have hr := lt_of_block h.q
  have hsp : flat4 L = flat4 (L.take (plc L t.id)) ++ flat4 (L.drop (plc L t.id)) := by rw [← flat4_append, List.take_append_drop]
  have hsp2 : flat4 L = flat4 (L.take (plc L t.id + 1)) ++ flat4 (L.drop (plc L t.id + 1)) := by rw [← flat4_append, List.take_append_drop]
  have hl1 : (flat4 (L.take (plc L t.id))).length = plc L t.id * 4 := by rw [flat4_len, List.length_take]; omega
  have hl1' : (flat4 (L.take (plc L t.id + 1))).length = (plc L t.id + 1) * 4 := by rw [flat4_len, List.length_take]; omega
  have hl2 : (flat4 (L.drop (plc L t.id + 1))).length = (L.length - (plc L t.id + 1)) * 4 := by rw [flat4_len, List.length_drop]
  have HN1 : Hid (∀ W : World, W.heap[b]? = w.heap[b]? → ∀ j u, (flat4 (L.take (plc L t.id)))[j]? = some u → W.cell? ((⟨b, 0, none⟩ : Addr).add j) = some u) := Lib.hid (fun W hW j u hj => hsrc W hW j u (by
    rw [hsp, List.getElem?_append_left (List.getElem?_eq_some_iff.1 hj).1]; exact hj))
  have HN2 : Hid (∀ W : World, W.heap[b]? = w.heap[b]? → ∀ j u, (flat4 (L.drop (plc L t.id + 1)))[j]? = some u → W.cell? ((⟨b, if cc = plc L t.id + 1 then 0 else (plc L t.id + 1) * 4, none⟩ : Addr).add j) = some u) := Lib.hid (fun W hW j u hj => by
    have hj2 := (List.getElem?_eq_some_iff.1 hj).1
    rw [hl2] at hj2
    have := hsrc W hW ((plc L t.id + 1) * 4 + j) u (by rw [hsp2, List.getElem?_append_right (by omega), hl1', Nat.add_sub_cancel_left]; exact hj)
    rw [if_neg (by omega), add_plain]
    rw [add_plain] at this
    simpa using this)
  have HL1 := Lib.hid hl1; have HL2 := Lib.hid hl2; have HE := Lib.hid hE; have HH := Lib.hid h
  have FO1 := Lib.hid (flat4_one (L.take (plc L t.id))); have FO2 := Lib.hid (flat4_one (L.drop (plc L t.id + 1)))
  have HLN : Hid ((cutL L t.id).length = plc L t.id + (L.length - (plc L t.id + 1))) := Lib.hid (by rw [hE, List.length_append, List.length_take, List.length_drop]; omega)
  have HFE : Hid (flat4 (cutL L t.id) = flat4 (L.take (plc L t.id)) ++ flat4 (L.drop (plc L t.id + 1))) := Lib.hid (by rw [hE, flat4_append])
  clear h hl hcell hsrc hsp hsp2 hl1 hl1' hl2 hE hp2 htm hob
  unfold maxLen at hcm
  have CH := Lib.hid (fun W => cut48_hi b L.length cc (plc L t.id) (by omega) hlc W)
  have CL := Lib.hid (fun W => cut48_lo b L.length cc (plc L t.id + 1) ((plc L t.id : Int) + 1) (by omega) (by omega) hlc W)
  generalize flat4 (L.take (plc L t.id)) = F1 at *
  generalize flat4 (L.drop (plc L t.id + 1)) = F2 at *
  generalize (if cc = plc L t.id + 1 then 0 else (plc L t.id + 1) * 4) = off at *
  generalize plc L t.id = i at *
  generalize hM : L.length = ln at *
  have HM := Lib.hid hM
  clear hM
  have hwr : IntKind.i64.wrap ((i : Int) + 1) = (i : Int) + 1 := IntWalk.i64_in _ (by omega)
  go_enter Try.func20, Try.ntmps20
  go_wp2_with fail
  refine HF.out.mono ?_
  rintro e w1 ⟨rfl, rfl⟩
  go_wp2_with (first
    | (refine wpList_slice (by rfl) 48 (.tmp 16) none (some (.tmp 17)) (by rfl) _ (CH.out _) ?_)
    | (refine wpList_slice (by rfl) 48 (.tmp 25) (some (.tmp 27)) none (by rfl) _ (CL.out _) ?_)
    | (at_builtin; refine wpList_append_own _ rfl (.tmp 12) (.tmp 18) 48 rfl w.heap.size 58 i58 _ 4 32 Try.underlying48 I58.out Z58.out S58.out Y58.out rfl (by decide) _ 0 [] rfl (World.ownsRow_nil w _ _ _) ⟨b, 0, none⟩ i cc F1 rfl HL1.out (HN1.out _ rfl) FO1.out (by unfold maxLen; omega) (by omega) (Nat.le_refl _) ?_; intro v1 w5 own1 gr1 _; have B5 : Hid (Below w.heap.size w w5) := Lib.hid ((Below.refl _ w).grown gr1 (Nat.le_refl _) (fun k e => by cases e)); rw [Nat.zero_add, List.nil_append] at own1; obtain ⟨A1, c1, rfl, -⟩ := row_form own1; have O1 := Lib.hid own1; have y1 := (B5.out.cell (p := ⟨r, 1, none⟩) hr).trans q1; clear gr1 own1)
    | (have _z := O1; clear _z; at_builtin; refine wpList_append_own _ rfl (.tmp 21) (.tmp 28) 48 rfl w.heap.size 58 i58 _ 4 32 Try.underlying48 I58.out Z58.out S58.out Y58.out rfl (by decide) _ i F1 rfl O1.out ⟨b, off, none⟩ (ln - (i + 1)) (cc - (i + 1)) F2 rfl HL2.out (HN2.out _ (B5.out.block b hbl)) FO2.out (by unfold maxLen; omega) (by omega) B5.out.size ?_; intro v2 w6 own2 gr2 _; have B6 : Hid (Below w.heap.size w w6) := Lib.hid (B5.out.grown gr2 B5.out.size (fun k e => (O1.out.lt k e).1)); obtain ⟨A2, c2, rfl, -⟩ := row_form own2; have O2 := Lib.hid own2; have y2 := (B6.out.cell (p := ⟨r, 1, none⟩) hr).trans q1; have z2 := (B6.out.frozen (p := ⟨r, 1, none⟩) hr).trans zq1; clear gr2 own2))
  go_ret
  obtain ⟨q', st⟩ := HH.out.turn (L' := cutL L t.id) (N' := N) (by rw [HLN.out, HFE.out]; exact row_base O2.out) (grown_of_below B6.out _) (fun b' e => .inr (O2.out.lt b' e).1) (HH.out.ok.cut t.id) (by have := HH.out.ln; rw [HM.out] at this; rw [HLN.out]; omega)
  exact ⟨rfl, _, q', st⟩
theorem rcut_any (w : World) (r : Nat) (v : Value) (N m : Nat) (L : List It) (x : Int) (h : Rf w r v N m L) (hN : N ≤ 10000) :
    Calls Try.prog 20 #[.pointer (some ⟨r, 0, none⟩), .int .i64 x] w fun e w' => e = .returned (.bool (look L x).isSome) ∧ ∃ v', Rf w' r v' N m (cutL L x) ∧ Stp (RFoot r v) w (RFoot r v') w' := by
  cases hl : look L x with
  | none =>
    refine (rcut_no w r v N m L x h hN hl).mono ?_
    rintro e w' ⟨rfl, rfl⟩
    rw [cut_none (look_none.1 hl)]
    exact ⟨rfl, v, h, Stp.refl _ _⟩
  | some t => exact rcut_yes w r v N m L x t h hN hl

/-- Behind some Cuts. -/
def cuts (L : List It) (R : List It) : List It := R.foldl (fun M t => cutL M t.id) L
theorem cuts_snoc (L R : List It) (t : It) : cuts L (R ++ [t]) = cutL (cuts L R) t.id := by simp [cuts]
set_option maxHeartbeats 4000000 in
theorem rbatch_any (w : World) (r : Nat) (v : Value) (N m : Nat) (L : List It) (h : Rf w r v N m L) (hN : N ≤ 10000) :
    Calls Try.prog 23 #[.pointer (some ⟨r, 0, none⟩)] w fun e w' => ∃ u v', e = .returned u ∧ w'.ownsRow 0 58 4 u (row L (least L)).length (flat4 (row L (least L))) ∧ Rf w' r v' N m (restL L (least L)) ∧ Stp (RFoot r v) w (RFoot r v') w' := by
  have HLE := Lib.hid (rleast_any w r v N m L h hN)
  have HLI := Lib.hid (rlist_any w r v N m L (least L) h hN)
  have HRE := Lib.hid (cuts_rest h.ok (least L))
  have HH := Lib.hid h
  have hrl : (row L (least L)).length ≤ 10000 := by have := row_len L (least L); have := h.ln; omega
  clear h
  generalize least L = p at *
  generalize hR : row L p = R at *
  have HR := Lib.hid hR
  clear hR
  go_enter Try.func23, Try.ntmps23
  go_wp2_with fail
  refine HLE.out.mono ?_
  rintro e w1 ⟨rfl, rfl⟩
  go_wp2_with fail
  refine HLI.out.mono ?_
  rintro e w2 ⟨⟨u, rfl, ru⟩, b2⟩
  obtain ⟨A, c, rfl, -, -, -, -, hcell⟩ := row4_cells ru
  have HC := Lib.hid hcell; have RU := Lib.hid ru
  have R2 : Hid (Rf w2 r v N m (cuts L (R.take 0))) := Lib.hid (HH.out.below b2)
  have S2 : Hid (Stp (RFoot r v) w (RFoot r v) w2) := Lib.hid (Stp.of_below b2)
  clear b2 ru hcell HLE HLI
  generalize hM : R.length = rl at *
  have HM := Lib.hid hM
  clear hM
  go_wp2_with fail
  go_loopw [5] (fun i wr => ∃ (k : Nat) (v' : Value), k ≤ rl ∧ i = .int .i64 k ∧ Hid (Rf wr r v' N m (cuts L (R.take k))) ∧ Hid (Stp (RFoot r v) w (RFoot r v') wr) ∧ Hid (∀ b, (Value.slice A rl c).ownBlock = some b → wr.heap[b]? = w2.heap[b]? ∧ ¬ RFoot r v' b)) (fun i _ => rl - (intOf i).toNat)
  case atStart => exact ⟨0, v, Nat.zero_le _, rfl, R2, S2, Lib.hid (fun b e => ⟨rfl, fun h => by have := HH.out.foot_lt h; have := (RU.out.lt b e).1; omega⟩)⟩
  case round =>
    clear R2 S2
    obtain ⟨k, v', hk, rfl, HRk, HST, HU⟩ := hrel
    by_cases hkl : k < rl
    · have hk2 : k < R.length := by rw [HM.out]; exact hkl
      obtain ⟨b, rfl, hb, hob, hW⟩ := HC.out k _ (List.getElem?_eq_getElem hk2)
      have hst := cuts_snoc L (R.take k) R[k]
      rw [← List.take_succ_eq_append_getElem hk2] at hst
      have HSN := Lib.hid hst
      obtain ⟨⟨c0, -⟩, -⟩ := hW wr (HU.out b hob).1
      have HCU := Lib.hid (rcut_any wr r v' N m _ R[k].id HRk.out hN)
      rw [← HSN.out] at HCU
      clear hW hst hob
      generalize R[k] = t at *
      obtain ⟨ti, tf, tc, tp⟩ := t
      simp only at c0 HCU
      go_wp2_with fail
      refine HCU.out.mono ?_
      rintro e w4 ⟨rfl, v4, q4, st4⟩
      have HU4 : Hid (∀ b', (Value.slice (some ⟨b, 0, none⟩) rl c).ownBlock = some b' → w4.heap[b']? = w2.heap[b']? ∧ ¬ RFoot r v4 b') := Lib.hid (fun b' e => by
        obtain ⟨h1, h2⟩ := HU.out b' e
        have hlt : b' < wr.heap.size := (Array.getElem?_eq_some_iff.1 (h1.trans (Array.getElem?_eq_getElem (RU.out.lt b' e).2))).1
        refine ⟨(st4.f.block b' hlt h2).trans h1, fun h => ?_⟩
        rcases st4.s b' h with h3 | h3
        · exact h2 h3
        · omega)
      have HST4 := Lib.hid (HST.out.trans st4)
      have HQ4 := Lib.hid q4
      clear q4 st4 HCU
      go_wp2_with fail
      go_roundw
      case rel => exact ⟨k + 1, v4, by omega, by go_num, HQ4, HST4, HU4⟩
      case measure => simp [intOf]; omega
    · obtain rfl : k = rl := by omega
      have htk : R.take k = R := List.take_of_length_le (by rw [HM.out]; exact Nat.le_refl _)
      rw [htk] at HRk
      go_wp2_with fail
      go_ret
      refine ⟨_, v', rfl, ?_, ?_, HST.out⟩
      · rw [HM.out]
        exact row_same (row_base RU.out) (fun b e => (HU.out b e).1)
      · rw [← HRE.out]; exact HRk.out

/-! ### same -/
set_option maxHeartbeats 4000000 in
theorem same_any (w : World) (u v : Value) (l : List It) (hl : l.length ≤ 20000) (hu : w.ownsRow 0 35 3 u l.length (flat l)) (hv : w.ownsRow 0 58 4 v l.length (flat4 l)) :
    Calls Try.prog 22 #[u, v] w fun e w' => e = .returned (.bool true) ∧ Below w.heap.size w w' := by
  obtain ⟨A, c, rfl, -, -, hcu⟩ := row_cells hu
  obtain ⟨A', c', rfl, -, -, -, -, hcv⟩ := row4_cells hv
  have HC := Lib.hid hcu; have HD := Lib.hid hcv
  clear hcu hcv hu hv
  generalize hM : l.length = n at *
  have HM := Lib.hid hM
  clear hM
  go_enter Try.func22, Try.ntmps22
  go_wp2_with fail
  go_loopw [5] (fun i wr => ∃ k : Nat, k ≤ n ∧ i = .int .i64 k ∧ Below w.heap.size w wr) (fun i _ => n - (intOf i).toNat)
  case atStart => exact ⟨0, Nat.zero_le _, rfl, Below.refl _ _⟩
  case round =>
    obtain ⟨wq, rfl⟩ : ∃ wq : World, wq = wr := ⟨_, rfl⟩
    obtain ⟨k, hk, rfl, hB⟩ := hrel
    by_cases hkn : k < n
    · have hk2 : k < l.length := by rw [HM.out]; exact hkn
      obtain ⟨b, rfl, hb, -, hW⟩ := HC.out k _ (List.getElem?_eq_getElem hk2)
      obtain ⟨b', rfl, hb', -, hW'⟩ := HD.out k _ (List.getElem?_eq_getElem hk2)
      generalize l[k] = t at *
      obtain ⟨ti, tf, tc, tp⟩ := t
      obtain ⟨c0, c1, c2, -⟩ := hW wq (hB.block _ hb)
      obtain ⟨⟨d0, d1, d2, -⟩, -⟩ := hW' wq (hB.block _ hb')
      simp only at c0 c1 c2 d0 d1 d2
      clear hW hW'
      have hkn' : (k : Int) < (n : Int) := by omega
      go_wp2_with fail
      go_quiet (fail)
      go_wp2_with fail
      go_roundw
      case rel => exact ⟨k + 1, by omega, by go_num, below_drewN hB _⟩
      case measure => simp [intOf]; omega
    · obtain rfl : k = n := by omega
      go_wp2_with fail
      go_ret
      exact ⟨rfl, hB⟩
end Go.Proofs.Ytncfggcbdliepaa
