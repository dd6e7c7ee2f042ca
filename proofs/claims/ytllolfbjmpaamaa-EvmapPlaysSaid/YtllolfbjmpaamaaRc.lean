/- The reference's map: cut, Cut, CutSignal, Hits. -/
import Derived.Test.YtllolfbjmpaamaaRb
import Derived.Test.YtllolfbjmpaamaaHw
namespace Go.Proofs.Ytllolfbjmpaamaa
open Go.RowKit
set_option linter.unusedSimpArgs false
set_option linter.unusedVariables false
set_option maxRecDepth 100000

theorem wpList_slice {P : Program} {w : World} {ops : Array Oper} {rest : List Oper} {o : Oper} {a : Act} {Q : Exit → Act → World → Prop} (hgd : o.guard = none) (t : TypeId) (x : Operand) (lo hi : Option Operand) (ho : o.op = .slice t x lo hi none) (v : Value)
    (hr : (Instr.sliceAt t (a.eval x) (lo.map a.eval) (hi.map a.eval) none).run P w = .ok v w) (h : wpList P ops Q rest (a.put o.dst v) w) : wpList P ops Q (o :: rest) a w := by
  refine wpList_plain hgd fun K hK => ?_
  unfold Oper.wp
  simp [execOp, ho, hr, Result.andThen]
  exact hK _ _ h
theorem size47 (w : World) : (sizeOf (Try.prog.elem 47)).run Try.prog w = .ok 3 w := by
  have e : Try.prog.elem 47 = 83 := by kernel_rfl
  rw [e]
  have h5 : (Try.prog.info? 83).map (·.size) = some 3 := by kernel_rfl
  obtain ⟨i, hi, hs⟩ := Option.map_eq_some_iff.1 h5
  simp [sizeOf, typeInfo, hi, hs, go_sem]
theorem elem47 : Try.prog.underlying 47 = some (.slice (Try.prog.elem 47)) := by kernel_rfl
theorem cut47_hi (b ln cc n : Nat) (hn : n ≤ ln) (hlc : ln ≤ cc) (w : World) : (Instr.sliceAt 47 (.slice (some ⟨b, 0, none⟩) ln cc) none (some (.int .i64 (n : Int))) none).run Try.prog w = .ok (.slice (some ⟨b, 0, none⟩) n cc) w := by
  rw [run_sliceAt_slice _ _ _ _ _ _ elem47, run_slice_h (w := w) 47 _ ln cc elem47 .i64 n (by omega) (by omega), size47]
  simp [Result.andThen, sliced, add_plain]
theorem cut47_lo (b ln cc n : Nat) (x : Int) (hx : x = n) (hn : n ≤ ln) (hlc : ln ≤ cc) (w : World) : (Instr.sliceAt 47 (.slice (some ⟨b, 0, none⟩) ln cc) (some (.int .i64 x)) none none).run Try.prog w = .ok (.slice (some ⟨b, if cc = n then 0 else n * 3, none⟩) (ln - n) (cc - n)) w := by
  subst hx
  rw [run_sliceAt_slice _ _ _ _ _ _ elem47, run_slice_l (w := w) 47 _ ln cc elem47 .i64 n (by omega) (by omega), size47]
  by_cases h : cc = n
  · simp [Result.andThen, sliced, h]
  · simp [Result.andThen, sliced, add_plain, h]

set_option maxHeartbeats 4000000 in
theorem rcut_at (w : World) (r : Nat) (v : Value) (N : Nat) (L : List It) (x : Int) (t : It) (h : Rf w r v N L) (hN : N ≤ 10000) (hl : look L x = some t) :
    Calls Try.prog 41 #[.pointer (some ⟨r, 0, none⟩), .int .i64 (plc L x : Nat)] w fun e w' => e = .returned (.tuple #[]) ∧ ∃ v', Rf w' r v' N (cutL L x) ∧ Stp (RFoot r v) w (RFoot r v') w' := by
  obtain ⟨i83, hi0, hz0, hz1, hz2⟩ := info_parts info83
  have I83 := Lib.hid hi0; have Z83 := Lib.hid hz0; have S83 := Lib.hid hz1; have Y83 := Lib.hid hz2
  clear hi0 hz0 hz1 hz2
  obtain ⟨hp1, hp2⟩ := plc_of_look hl
  obtain ⟨htm, rfl⟩ := look_some hl
  have hE := cut_plc h.ok htm
  obtain ⟨q1, zq1⟩ := h.cells
  obtain ⟨A, cc, rfl, hlc, hcm, hcell⟩ := row3_cells h.o
  obtain ⟨b, rfl, hbl, hob, -⟩ := hcell _ t hp2
  obtain ⟨A2, c2, hv2, -, -, -, hsrc⟩ := row_src h.o
  injection hv2 with e1 _ e2
  subst e1 e2
  obtain ⟨-, -, hsrc⟩ := hsrc _ rfl
  have hln := h.ln
  have hr := lt_of_block h.q
  have hsp : flat3 L = flat3 (L.take (plc L t.id)) ++ flat3 (L.drop (plc L t.id)) := by rw [← flat3_append, List.take_append_drop]
  have hsp2 : flat3 L = flat3 (L.take (plc L t.id + 1)) ++ flat3 (L.drop (plc L t.id + 1)) := by rw [← flat3_append, List.take_append_drop]
  have hl1 : (flat3 (L.take (plc L t.id))).length = plc L t.id * 3 := by rw [flat3_len, List.length_take]; omega
  have hl1' : (flat3 (L.take (plc L t.id + 1))).length = (plc L t.id + 1) * 3 := by rw [flat3_len, List.length_take]; omega
  have hl2 : (flat3 (L.drop (plc L t.id + 1))).length = (L.length - (plc L t.id + 1)) * 3 := by rw [flat3_len, List.length_drop]
  have HN1 : Hid (∀ W : World, W.heap[b]? = w.heap[b]? → ∀ j u, (flat3 (L.take (plc L t.id)))[j]? = some u → W.cell? ((⟨b, 0, none⟩ : Addr).add j) = some u) := Lib.hid (fun W hW j u hj => hsrc W hW j u (by
    rw [hsp, List.getElem?_append_left (List.getElem?_eq_some_iff.1 hj).1]; exact hj))
  have HN2 : Hid (∀ W : World, W.heap[b]? = w.heap[b]? → ∀ j u, (flat3 (L.drop (plc L t.id + 1)))[j]? = some u → W.cell? ((⟨b, if cc = plc L t.id + 1 then 0 else (plc L t.id + 1) * 3, none⟩ : Addr).add j) = some u) := Lib.hid (fun W hW j u hj => by
    have hj2 := (List.getElem?_eq_some_iff.1 hj).1
    rw [hl2] at hj2
    have := hsrc W hW ((plc L t.id + 1) * 3 + j) u (by rw [hsp2, List.getElem?_append_right (by omega), hl1', Nat.add_sub_cancel_left]; exact hj)
    rw [if_neg (by omega), add_plain]
    rw [add_plain] at this
    simpa using this)
  have HL1 := Lib.hid hl1; have HL2 := Lib.hid hl2; have HE := Lib.hid hE; have HH := Lib.hid h
  have FO1 := Lib.hid (flat3_one (L.take (plc L t.id))); have FO2 := Lib.hid (flat3_one (L.drop (plc L t.id + 1)))
  have HLN : Hid ((cutL L t.id).length = plc L t.id + (L.length - (plc L t.id + 1))) := Lib.hid (by rw [hE, List.length_append, List.length_take, List.length_drop]; omega)
  have HFE : Hid (flat3 (cutL L t.id) = flat3 (L.take (plc L t.id)) ++ flat3 (L.drop (plc L t.id + 1))) := Lib.hid (by rw [hE, flat3_append])
  clear h hl hcell hsrc hsp hsp2 hl1 hl1' hl2 hE hp2 htm hob
  unfold maxLen at hcm
  have CH := Lib.hid (fun W => cut47_hi b L.length cc (plc L t.id) (by omega) hlc W)
  have CL := Lib.hid (fun W => cut47_lo b L.length cc (plc L t.id + 1) ((plc L t.id : Int) + 1) (by omega) (by omega) hlc W)
  generalize flat3 (L.take (plc L t.id)) = F1 at *
  generalize flat3 (L.drop (plc L t.id + 1)) = F2 at *
  generalize (if cc = plc L t.id + 1 then 0 else (plc L t.id + 1) * 3) = off at *
  generalize plc L t.id = i at *
  generalize hM : L.length = ln at *
  have HM := Lib.hid hM
  clear hM
  have hwr : IntKind.i64.wrap ((i : Int) + 1) = (i : Int) + 1 := IntWalk.i64_in _ (by omega)
  go_enter Try.func41, Try.ntmps41
  go_wp2_with (first
    | (refine wpList_slice (by rfl) 47 (.tmp 9) none (some (.tmp 10)) (by rfl) _ (CH.out _) ?_)
    | (refine wpList_slice (by rfl) 47 (.tmp 18) (some (.tmp 20)) none (by rfl) _ (CL.out _) ?_)
    | (at_builtin; refine wpList_append_own _ rfl (.tmp 5) (.tmp 11) 47 rfl w.heap.size 83 i83 _ 3 24 Try.underlying47 I83.out Z83.out S83.out Y83.out rfl (by decide) _ 0 [] rfl (World.ownsRow_nil w _ _ _) ⟨b, 0, none⟩ i cc F1 rfl HL1.out (HN1.out _ rfl) FO1.out (by unfold maxLen; omega) (by omega) (Nat.le_refl _) ?_; intro v1 w5 own1 gr1 _; have B5 : Hid (Below w.heap.size w w5) := Lib.hid ((Below.refl _ w).grown gr1 (Nat.le_refl _) (fun k e => by cases e)); rw [Nat.zero_add, List.nil_append] at own1; obtain ⟨A1, c1, rfl, -⟩ := row_form own1; have O1 := Lib.hid own1; have y1 := (B5.out.cell (p := ⟨r, 0, none⟩) hr).trans q1; clear gr1 own1)
    | (have _z := O1; clear _z; at_builtin; refine wpList_append_own _ rfl (.tmp 14) (.tmp 21) 47 rfl w.heap.size 83 i83 _ 3 24 Try.underlying47 I83.out Z83.out S83.out Y83.out rfl (by decide) _ i F1 rfl O1.out ⟨b, off, none⟩ (ln - (i + 1)) (cc - (i + 1)) F2 rfl HL2.out (HN2.out _ (B5.out.block b hbl)) FO2.out (by unfold maxLen; omega) (by omega) B5.out.size ?_; intro v2 w6 own2 gr2 _; have B6 : Hid (Below w.heap.size w w6) := Lib.hid (B5.out.grown gr2 B5.out.size (fun k e => (O1.out.lt k e).1)); obtain ⟨A2, c2, rfl, -⟩ := row_form own2; have O2 := Lib.hid own2; have y2 := (B6.out.cell (p := ⟨r, 0, none⟩) hr).trans q1; have z2 := (B6.out.frozen (p := ⟨r, 0, none⟩) hr).trans zq1; clear gr2 own2))
  go_end0
  obtain ⟨q', st⟩ := HH.out.turn (L' := cutL L t.id) (N' := N) (by rw [HLN.out, HFE.out]; exact row_base O2.out) (grown_of_below B6.out _) (fun b' e => .inr (O2.out.lt b' e).1) (HH.out.ok.cut t.id) (by have := HH.out.ln; rw [HM.out] at this; rw [HLN.out]; omega)
  exact ⟨rfl, _, q', st⟩

/-! ### Cut -/
theorem rcut_bad (w : World) (r : Nat) (v : Value) (N : Nat) (L : List It) (x : Int) (h : Rf w r v N L) (hN : N ≤ 9000) (hb : (itOf L x).wn = 0) :
    Calls Try.prog 23 #[.pointer (some ⟨r, 0, none⟩), .int .i64 x] w fun e w' => e = .returned (.tuple #[.int .i64 0, .int .i64 0, .int .i64 0, .int .i64 181]) ∧ Below w.heap.size w w' := by
  cases hl : look L x with
  | none =>
    have HF := Lib.hid (find_no w r v N L x h (by omega) hl)
    clear h hl hb
    go_enter Try.func23, Try.ntmps23
    go_wp2_with fail
    refine HF.out.mono ?_
    rintro e w1 ⟨rfl, rfl⟩
    go_wp2_with fail
    exact bodyPost_ret (v := .tuple #[.int .i64 0, .int .i64 0, .int .i64 0, .int .i64 181]) (by simp [results, Try.results23, go_sem]) rfl ⟨rfl, Below.refl _ _⟩
  | some t =>
    rw [it_some hl] at hb
    have HF := Lib.hid (find_yes w r v N L x t h (by omega) hl)
    obtain ⟨hp1, hp2⟩ := plc_of_look hl
    obtain ⟨A, cc, rfl, hlc, hcm, hq, hcell⟩ := h.at
    have q1 := hq w (Below.refl _ _)
    obtain ⟨t', b, ht', rfl, hW⟩ := hcell _ hp1
    rw [hp2] at ht'
    cases ht'
    obtain ⟨c0, c1, c2⟩ := hW w (Below.refl _ _)
    rw [hb] at c2
    have hln := h.ln
    clear h hl hb hcell hq hW hp2
    unfold maxLen at hcm
    generalize plc L x = p at *
    generalize L.length = ln at *
    go_enter Try.func23, Try.ntmps23
    go_wp2_with fail
    refine HF.out.mono ?_
    rintro e w1 ⟨rfl, rfl⟩
    go_wp2_with fail
    exact bodyPost_ret (v := .tuple #[.int .i64 0, .int .i64 0, .int .i64 0, .int .i64 181]) (by simp [results, Try.results23, go_sem]) rfl ⟨rfl, Below.refl _ _⟩
set_option maxHeartbeats 2000000 in
theorem rcut_ok (w : World) (r : Nat) (v : Value) (N : Nat) (L : List It) (t : It) (h : Rf w r v N L) (hN : N ≤ 9000) (ht : t ∈ L) (hwn : t.wn ≠ 0) :
    Calls Try.prog 23 #[.pointer (some ⟨r, 0, none⟩), .int .i64 t.id] w fun e w' => e = .returned (.tuple #[.int .i64 t.nu, .int .i64 (wants L t.nu), .int .i64 (wants (cutL L t.id) t.nu), .int .i64 0]) ∧ ∃ v', Rf w' r v' N (cutL L t.id) ∧ Stp (RFoot r v) w (RFoot r v') w' := by
  have hl := look_mem h.ok ht
  have HF := Lib.hid (find_yes w r v N L t.id t h (by omega) hl)
  have HW := Lib.hid (rwants_any w r v N L t.nu h (by omega))
  have HC := Lib.hid (rcut_at w r v N L t.id t h (by omega) hl)
  obtain ⟨hp1, hp2⟩ := plc_of_look hl
  obtain ⟨A, cc, rfl, hlc, hcm, hq, hcell⟩ := h.at
  have q1 := hq w (Below.refl _ _)
  obtain ⟨t', b, ht', rfl, hW⟩ := hcell _ hp1
  rw [hp2] at ht'
  cases ht'
  obtain ⟨c0, c1, c2⟩ := hW w (Below.refl _ _)
  have hln := h.ln
  have hz : (t.wn == 0) = false := by simpa using hwn
  clear h hl hcell hq hW hp2 ht hwn
  unfold maxLen at hcm
  generalize plc L t.id = p at *
  generalize hM : L.length = ln at *
  clear hM
  generalize cutL L t.id = L2 at *
  generalize wants L t.nu = ws at *
  generalize t.nu = tn at *
  generalize t.wn = tw at *
  generalize t.id = ti at *
  go_enter Try.func23, Try.ntmps23
  go_wp2_with fail
  refine HF.out.mono ?_
  rintro e w1 ⟨rfl, rfl⟩
  go_wp2_with fail
  refine HW.out.mono ?_
  rintro e w1 ⟨rfl, rfl⟩
  go_wp2_with fail
  refine HC.out.mono ?_
  rintro e w2 ⟨rfl, v2, q2, st2⟩
  have Q2 := Lib.hid q2; have ST := Lib.hid st2
  clear q2 st2
  go_wp2_with fail
  refine (rwants_any w2 r v2 N L2 tn Q2.out (by omega)).mono ?_
  rintro e w3 ⟨rfl, rfl⟩
  go_wp2_with fail
  exact bodyPost_ret (v := .tuple #[.int .i64 tn, .int .i64 ws, .int .i64 (wants L2 tn), .int .i64 0]) (by simp [results, Try.results23, go_sem]) rfl ⟨rfl, v2, Q2.out, ST.out⟩

/-! ### CutSignal -/
theorem rcuts_bad (w : World) (r : Nat) (v : Value) (N : Nat) (L : List It) (x : Int) (h : Rf w r v N L) (hN : N ≤ 9000) (hb : look L x = none ∨ (itOf L x).wn ≠ 0) :
    Calls Try.prog 25 #[.pointer (some ⟨r, 0, none⟩), .int .i64 x] w fun e w' => e = .returned (.tuple #[.int .i64 0, .bool false, .int .i64 181]) ∧ Below w.heap.size w w' := by
  cases hl : look L x with
  | none =>
    have HF := Lib.hid (find_no w r v N L x h (by omega) hl)
    clear h hl hb
    go_enter Try.func25, Try.ntmps25
    go_wp2_with fail
    refine HF.out.mono ?_
    rintro e w1 ⟨rfl, rfl⟩
    go_wp2_with fail
    exact bodyPost_ret (v := .tuple #[.int .i64 0, .bool false, .int .i64 181]) (by simp [results, Try.results25, go_sem]) rfl ⟨rfl, Below.refl _ _⟩
  | some t =>
    have hb : t.wn ≠ 0 := by
      rcases hb with h1 | h1
      · rw [h1] at hl; cases hl
      · rw [it_some hl] at h1; exact h1
    have hz : (t.wn != 0) = true := by simpa using hb
    have HF := Lib.hid (find_yes w r v N L x t h (by omega) hl)
    obtain ⟨hp1, hp2⟩ := plc_of_look hl
    obtain ⟨A, cc, rfl, hlc, hcm, hq, hcell⟩ := h.at
    have q1 := hq w (Below.refl _ _)
    obtain ⟨t', b, ht', rfl, hW⟩ := hcell _ hp1
    rw [hp2] at ht'
    cases ht'
    obtain ⟨c0, c1, c2⟩ := hW w (Below.refl _ _)
    have hln := h.ln
    clear h hl hb hcell hq hW hp2
    unfold maxLen at hcm
    generalize plc L x = p at *
    generalize L.length = ln at *
    generalize t.wn = tw at *
    go_enter Try.func25, Try.ntmps25
    go_wp2_with fail
    refine HF.out.mono ?_
    rintro e w1 ⟨rfl, rfl⟩
    go_wp2_with fail
    exact bodyPost_ret (v := .tuple #[.int .i64 0, .bool false, .int .i64 181]) (by simp [results, Try.results25, go_sem]) rfl ⟨rfl, Below.refl _ _⟩
theorem len_zero (n : Nat) : ((n : Int) == 0) = (n == 0) := by
  cases n with
  | zero => rfl
  | succ n => rw [show (n + 1 == 0) = false from rfl, beq_eq_false_iff_ne]; omega
set_option maxHeartbeats 2000000 in
theorem rcuts_ok (w : World) (r : Nat) (v : Value) (N : Nat) (L : List It) (t : It) (h : Rf w r v N L) (hN : N ≤ 9000) (ht : t ∈ L) (hwn : t.wn = 0) :
    Calls Try.prog 25 #[.pointer (some ⟨r, 0, none⟩), .int .i64 t.id] w fun e w' => e = .returned (.tuple #[.int .i64 t.nu, .bool ((sigL (cutL L t.id) t.nu).length == 0), .int .i64 0]) ∧ ∃ v', Rf w' r v' N (cutL L t.id) ∧ Stp (RFoot r v) w (RFoot r v') w' := by
  have hl := look_mem h.ok ht
  have HF := Lib.hid (find_yes w r v N L t.id t h (by omega) hl)
  have HC := Lib.hid (rcut_at w r v N L t.id t h (by omega) hl)
  obtain ⟨hp1, hp2⟩ := plc_of_look hl
  obtain ⟨A, cc, rfl, hlc, hcm, hq, hcell⟩ := h.at
  have q1 := hq w (Below.refl _ _)
  obtain ⟨t', b, ht', rfl, hW⟩ := hcell _ hp1
  rw [hp2] at ht'
  cases ht'
  obtain ⟨c0, c1, c2⟩ := hW w (Below.refl _ _)
  rw [hwn] at c2
  have hln := h.ln
  clear h hl hcell hq hW hp2 ht hwn
  unfold maxLen at hcm
  rw [← len_zero]
  generalize plc L t.id = p at *
  generalize hM : L.length = ln at *
  clear hM
  generalize cutL L t.id = L2 at *
  generalize t.nu = tn at *
  generalize t.id = ti at *
  go_enter Try.func25, Try.ntmps25
  go_wp2_with fail
  refine HF.out.mono ?_
  rintro e w1 ⟨rfl, rfl⟩
  go_wp2_with fail
  refine HC.out.mono ?_
  rintro e w2 ⟨rfl, v2, q2, st2⟩
  have Q2 := Lib.hid q2; have ST := Lib.hid st2
  have HO := rof_any w2 r v2 N L2 tn true q2 (by omega)
  rw [rof_sig q2.ok] at HO
  have hsl := sigL_len L2 tn
  have hl2 := q2.ln
  have HO := Lib.hid HO
  clear q2 st2
  generalize hsn : (sigL L2 tn).length = sn at *
  have HSN := Lib.hid hsn
  clear hsn
  go_wp2_with fail
  refine HO.out.mono ?_
  rintro e w3 ⟨⟨u, rfl, ru⟩, b3⟩
  obtain ⟨A1, c1', rfl, -⟩ := row_form ru
  have B3 := Lib.hid b3
  clear ru b3
  go_wp2_with fail
  exact bodyPost_ret (v := .tuple #[.int .i64 tn, .bool ((sn : Int) == 0), .int .i64 0]) (by simp [results, Try.results25, go_sem]) rfl ⟨by rw [HSN.out], v2, Q2.out.below B3.out, ST.out.trans (Stp.of_below B3.out)⟩

/-! ### Hits -/
def numL (L : List It) (fd : Int) : List It := L.filter fun t => t.nu == fd
theorem numL_append (L M : List It) (a : Int) : numL (L ++ M) a = numL L a ++ numL M a := List.filter_append ..
theorem numL_one (t : It) (a : Int) : numL [t] a = if t.nu = a then [t] else [] := by
  unfold numL
  by_cases h1 : t.nu = a <;> simp [h1]
theorem rhits_eq {L : List It} (ho : Ok L) (fd fl : Int) : hitsL (numL L fd) fl = hitsL (ofL L fd) fl := by
  rw [← rof_of ho]
  clear ho
  induction L with
  | nil => rfl
  | cons t r ih =>
    have e1 : numL (t :: r) fd = numL [t] fd ++ numL r fd := numL_append [t] r fd
    have e2 : rof (t :: r) fd false = rof [t] fd false ++ rof r fd false := rof_append [t] r fd false
    have happ : ∀ a b : List It, hitsL (a ++ b) fl = hitsL a fl ++ hitsL b fl := fun a b => by unfold hitsL; rw [List.map_append, List.filter_append]
    rw [e1, e2, happ, happ, ih]
    congr 1
    rw [numL_one, rof_one]
    by_cases h1 : t.nu = fd
    · by_cases h2 : t.wn = 0
      · have : nF fl t.wn = 0 := by rw [h2]; exact nF_zero fl
        rw [if_pos h1, if_neg (fun h => by rw [h2] at h; exact absurd h.2 (by simp))]
        rw [hits_cons, if_pos this]; rfl
      · rw [if_pos h1, if_pos ⟨h1, by simpa using h2⟩]
    · rw [if_neg h1, if_neg (fun h => h1 h.1)]

set_option maxHeartbeats 2000000 in
theorem rhits_any (w : World) (r : Nat) (v : Value) (N : Nat) (L : List It) (fd fl : Int) (h : Rf w r v N L) (hN : N ≤ 9000) :
    Calls Try.prog 27 #[.pointer (some ⟨r, 0, none⟩), .int .i64 fd, .int .i64 fl] w fun e w' => (∃ v', e = .returned v' ∧ w'.ownsRow w.heap.size 31 2 v' (hitsL (ofL L fd) fl).length (flatH (hitsL (ofL L fd) fl))) ∧ Below w.heap.size w w' := by
  rw [← rhits_eq h.ok]
  obtain ⟨i31, hi0, hz0, hz1, hz2⟩ := info_parts info31
  have I3 := Lib.hid hi0; have Z3 := Lib.hid hz0; have S3 := Lib.hid hz1; have Y3 := Lib.hid hz2
  clear hi0 hz0 hz1 hz2
  obtain ⟨A, c, rfl, hlc, hcm, hq, hcell⟩ := h.at
  have hln := h.ln
  have HC := Lib.hid hcell; have HQ := Lib.hid hq
  have HT : Hid (L.take L.length = L) := Lib.hid (List.take_length ..)
  have HRL : Hid (∀ k, (hitsL (numL (L.take k) fd) fl).length ≤ 10000) := Lib.hid (fun k => Nat.le_trans (hits_len _ _) (Nat.le_trans (List.length_filter_le _ _) (by rw [List.length_take]; omega)))
  clear hcell h hq
  unfold maxLen at hcm
  generalize hll : L.length = ln at *
  clear hll
  go_enter Try.func27, Try.ntmps27
  go_wp2_with fail
  go_loopw [7, 8] (fun o i wr => ∃ k : Nat, k ≤ ln ∧ i = .int .i64 k ∧ wr.ownsRow w.heap.size 31 2 o (hitsL (numL (L.take k) fd) fl).length (flatH (hitsL (numL (L.take k) fd) fl)) ∧ Below w.heap.size w wr) (fun _ i _ => ln - (intOf i).toNat)
  case atStart => exact ⟨0, Nat.zero_le _, rfl, World.ownsRow_nil _ _ _ _, Below.refl _ _⟩
  case round =>
    obtain ⟨k, hk, rfl, hown, hb⟩ := hrel
    have hsz := hb.size
    have q1 := HQ.out _ hb
    by_cases hkl : k < ln
    · obtain ⟨t, b, ht, rfl, hW⟩ := HC.out k hkl
      obtain ⟨c0, c1, c2⟩ := hW wr hb
      have hst := take_step ht
      have hrl := HRL.out k
      obtain ⟨A', c', rfl, hc'⟩ := row_form hown
      have HF := Lib.hid (show flatH [hitOf fl t] = [.int .i64 t.id, .int .i64 (nF fl t.wn)] from rfl)
      have HN := Lib.hid (show bits .and .i64 (bits .and .i64 t.wn fl) 6 = nF fl t.wn from rfl)
      have hn := HN.out
      by_cases he : t.nu = fd ∧ nF fl t.wn ≠ 0
      · have hst2 : hitsL (numL (L.take (k + 1)) fd) fl = hitsL (numL (L.take k) fd) fl ++ [hitOf fl t] := by rw [hst, numL_append, numL_one, if_pos he.1, hits_snoc, if_neg he.2]
        have HST := Lib.hid hst2
        have e1 : (t.nu == fd) = true := by simpa using he.1
        have e2 : (nF fl t.wn != 0) = true := by simpa using he.2
        have H0 := Lib.hid hown; have HB := Lib.hid hb
        clear hst hst2 he hW ht hown hb HN
        generalize hitsL (numL (L.take k) fd) fl = R at *
        generalize hrn : R.length = rn at *
        have HRN := Lib.hid hrn
        clear hrn
        generalize t.id = ti at *
        generalize t.nu = tn at *
        generalize nF fl t.wn = nn at *
        generalize t.wn = tw at *
        go_wp2_with (at_builtin; refine wpList_append_own _ rfl _ _ 26 rfl w.heap.size 31 i31 (.agg #[.int .i64 0, .int .i64 0]) 2 16 Try.underlying26 I3.out Z3.out S3.out Y3.out rfl (by decide) _ _ _ rfl (H0.out.alloc _) ⟨wr.heap.size, 0, none⟩ 1 1 [.int .i64 ti, .int .i64 nn] rfl rfl (cell_two_new _ _ _ _) (by simp [Value.oneCell']) (by unfold maxLen; omega) (by omega) (by simp; omega) ?_; intro v' w5 hown' hgrow _; have hb5 := Lib.hid (below_append HB.out H0.out hgrow (Nat.le_refl _) hsz); have H5 := Lib.hid hown'; clear hgrow hown')
        go_roundw
        case rel => exact ⟨k + 1, by omega, by go_num, by rw [HST.out, flatH_append, List.length_append, HRN.out, HF.out]; exact H5.out, hb5.out⟩
        case measure => simp [intOf]; omega
      · have hst2 : hitsL (numL (L.take (k + 1)) fd) fl = hitsL (numL (L.take k) fd) fl := by
          rw [hst, numL_append, numL_one]
          by_cases h1 : t.nu = fd
          · rw [if_pos h1, hits_snoc, if_pos (Decidable.byContradiction fun h => he ⟨h1, h⟩), List.append_nil]
          · rw [if_neg h1, List.append_nil]
        have HST := Lib.hid hst2
        have H0 := Lib.hid hown; have HB := Lib.hid hb
        by_cases he1 : t.nu = fd
        case' neg => have e1 : (t.nu == fd) = false := by simpa using he1
        case' pos =>
          have e1 : (t.nu == fd) = true := by simpa using he1
          have e2 : (nF fl t.wn != 0) = false := by
            rw [Bool.eq_false_iff]
            intro h
            exact he ⟨he1, by simpa using h⟩
        all_goals
          clear hst hst2 he he1 hW ht hown hb HN
          generalize t.id = ti at *
          generalize t.nu = tn at *
          generalize nF fl t.wn = nn at *
          generalize t.wn = tw at *
          go_wp2_with fail
          go_roundw
          case rel => exact ⟨k + 1, by omega, by go_num, by rw [HST.out]; exact H0.out, HB.out⟩
          case measure => simp [intOf]; omega
    · obtain rfl : k = ln := by omega
      rw [HT.out] at hown
      obtain ⟨A', c', rfl, hc'⟩ := row_form hown
      have H0 := Lib.hid hown
      clear hown
      generalize hrp : (hitsL (numL L fd) fl).length = rl at *
      have HRP := Lib.hid hrp
      clear hrp
      go_wp2_with fail
      go_ret
      refine ⟨⟨_, rfl, ?_⟩, hb⟩
      rw [HRP.out]
      exact H0.out
end Go.Proofs.Ytllolfbjmpaamaa
