/- Grow and Clear. -/
import Derived.Test.YtebnfcpikhehkaaE
namespace Go.Proofs.Ytebnfcpikhehkaa
open Go.RowKit Go.Shelf
set_option linter.unusedSimpArgs false
set_option linter.unusedVariables false
set_option maxRecDepth 100000

theorem Len_any (g gb C : Nat) (L : List Int) (ip op : Nat) (w : World) (h : Rg w g gb C L ip op) : Calls Try.prog 13 #[.pointer (some ⟨g, 0, none⟩)] w fun e w' => e = .returned (.int .i64 L.length) ∧ w = w' := by
  obtain ⟨fr, cs, rk, _⟩ := h
  exact len_any g gb C fr L.length ip op w rk
theorem Room_any (g gb C : Nat) (L : List Int) (ip op : Nat) (w : World) (h : Rg w g gb C L ip op) : Calls Try.prog 14 #[.pointer (some ⟨g, 0, none⟩)] w fun e w' => e = .returned (.int .i64 ((C - L.length : Nat) : Int)) ∧ Below w.heap.size w w' := by
  obtain ⟨fr, cs, rk, _, _, hL, hC, _⟩ := h
  exact room_any g gb C fr L.length ip op w rk hC hL
theorem Counts_any (g gb C : Nat) (L : List Int) (ip op : Nat) (w : World) (h : Rg w g gb C L ip op) : Calls Try.prog 16 #[.pointer (some ⟨g, 0, none⟩)] w fun e w' => e = .returned (.tuple #[.int .u64 ip, .int .u64 op]) ∧ Below w.heap.size w w' := by
  obtain ⟨fr, cs, rk, _⟩ := h
  exact counts_any g gb C fr L.length ip op w rk
theorem New_ok (C : Nat) (w : World) (h : C ≤ 65536) : Calls Try.prog 10 #[.int .i64 C] w fun e w' => e = .returned (.tuple #[.pointer (some ⟨w.heap.size + 1, 0, none⟩), .int .i64 0]) ∧ Rg w' (w.heap.size + 1) w.heap.size C [] 0 0 ∧ Below w.heap.size w w' :=
  (new_ok C w h).mono fun e w' ⟨h1, h2, h3, h4⟩ => ⟨h1, ⟨0, List.replicate C 0, h2, h3, by simp, by simp, h, by omega, rfl, fun x hx => by rw [List.eq_of_mem_replicate hx]; omega, by omega⟩, h4⟩

set_option maxHeartbeats 1000000 in
theorem Clear_any (g gb C : Nat) (L : List Int) (ip op : Nat) (w : World) (h : Rg w g gb C L ip op) (hop : op ≤ 1000000000000) : Calls Try.prog 17 #[.pointer (some ⟨g, 0, none⟩)] w fun e w' => e = .returned (.int .i64 L.length) ∧ Rg w' g gb C [] ip (op + L.length) ∧ w.grownBy w' (some g) := by
  have HL := Lib.hid (Len_any g gb C L ip op w h)
  have hT := Take_any g gb C L ip op (L.length : Int) w h hop
  rw [Int.toNat_natCast, List.take_length, List.drop_length] at hT
  have HT := Lib.hid hT
  clear h hT
  go_enter Try.func17, Try.ntmps17
  go_wp2_with fail
  refine HL.out.mono ?_
  rintro e w' ⟨rfl, rfl⟩
  go_wp2_with fail
  refine HT.out.mono ?_
  rintro e w1 ⟨⟨v, rfl, hv⟩, hr, hg⟩
  unfold Got at hv
  obtain ⟨A, c, rfl, hc⟩ := row_form hv
  clear hv
  have HR := Lib.hid hr
  have HG := Lib.hid hg
  clear hr hg
  go_wp2_with fail
  go_ret
  exact ⟨rfl, HR.out, HG.out⟩

set_option maxHeartbeats 1000000 in
theorem Grow_nil (cap : Int) (w : World) : Calls Try.prog 19 #[.pointer none, .int .i64 cap] w fun e w' => e = .returned (.int .i64 1) ∧ w = w' := by
  go_enter Try.func19, Try.ntmps19
  go_wp2_with fail
  refine (none_yes w).mono ?_
  rintro e w' ⟨rfl, rfl⟩
  go_wp2_with fail
  go_ret
  exact ⟨rfl, rfl⟩
set_option maxHeartbeats 1000000 in
theorem Grow_bad (g gb C : Nat) (L : List Int) (ip op : Nat) (cap : Int) (w : World) (h : Rg w g gb C L ip op) (hc : cap < (L.length : Int) ∨ 65536 < cap) : Calls Try.prog 19 #[.pointer (some ⟨g, 0, none⟩), .int .i64 cap] w fun e w' => e = .returned (.int .i64 2) ∧ w = w' := by
  obtain ⟨fr, cs, rk, _⟩ := h
  generalize L.length = n at *
  obtain ⟨k0, k1, k2, k3, k4, k5, z0, z1, z2, z3, z4⟩ := rk.cells
  have HN := Lib.hid (none_no g gb C fr n ip op w rk)
  clear rk k0 k1 k3 k4 k5 z0 z1 z2 z3 z4
  by_cases h1 : cap < (n : Int)
  · clear hc
    go_enter Try.func19, Try.ntmps19
    go_wp2_with fail
    refine HN.out.mono ?_
    rintro e w' ⟨rfl, rfl⟩
    go_wp2_with fail
    go_ret
    exact ⟨rfl, rfl⟩
  · have h2 : 65536 < cap := by omega
    have h3 : (n : Int) ≤ cap := by omega
    clear hc h1
    go_enter Try.func19, Try.ntmps19
    go_wp2_with fail
    refine HN.out.mono ?_
    rintro e w' ⟨rfl, rfl⟩
    go_wp2_with fail
    go_ret
    exact ⟨rfl, rfl⟩

theorem Rk.grew {w : World} {g gb C fr n : Nat} {ip op : Int} (k : Rk w g gb C fr n ip op) (gb' C' : Nat) :
    Rk ((w.setCell ⟨g, 0, none⟩ (.slice (some ⟨gb', 0, none⟩) C' C')).setCell ⟨g, 1, none⟩ (.int .i64 0)) g gb' C' 0 n ip op ∧ w.grownBy ((w.setCell ⟨g, 0, none⟩ (.slice (some ⟨gb', 0, none⟩) C' C')).setCell ⟨g, 1, none⟩ (.int .i64 0)) (some g) := by
  unfold Rk at *
  constructor
  · simp [World.setCell, Array.getElem?_modify, k]
  · refine ⟨rfl, rfl, rfl, by simp [World.setCell], fun i hi hne => ?_⟩
    have hne' : ¬ g = i := fun e => hne (by rw [e])
    simp [World.setCell, Array.getElem?_modify, hne']

set_option maxHeartbeats 2000000 in
theorem Grow_ok (g gb C : Nat) (L : List Int) (ip op : Nat) (c : Nat) (w : World) (h : Rg w g gb C L ip op) (h1 : L.length ≤ c) (h2 : c ≤ 65536) : Calls Try.prog 19 #[.pointer (some ⟨g, 0, none⟩), .int .i64 c] w fun e w' => e = .returned (.int .i64 0) ∧ Rg w' g w.heap.size c L ip op ∧ w.grownBy w' (some g) := by
  have hmk := make_run c h2
  have hb1 : Below w.heap.size w (w.alloc (.cells ((List.replicate c (0 : Int)).map (Value.int .u8)).toArray 5)) := (Below.refl _ w).alloc (Nat.le_refl _) _
  have hnew : (w.alloc (.cells ((List.replicate c (0 : Int)).map (Value.int .u8)).toArray 5)).heap[w.heap.size]? = some (.cells ((List.replicate c (0 : Int)).map (Value.int .u8)).toArray 5 (0, 0)) := World.alloc_heap_new w _
  have hlt := h.lt
  have hr1 := h.below hb1 hlt.1 hlt.2
  have hlk := Look_any g gb C L ip op (L.length : Int) _ hr1
  rw [Int.toNat_natCast, List.take_length, World.size_alloc] at hlk
  have hbyte := h.byte
  obtain ⟨hLC, hC, hgg⟩ := h.len
  obtain ⟨fr, cs, rk, _⟩ := h
  generalize hn : L.length = n at *
  obtain ⟨k0, k1, k2, k3, k4, k5, z0, z1, z2, z3, z4⟩ := rk.cells
  have HN := Lib.hid (none_no g gb C fr n ip op w rk)
  have e2 := (hb1.cell (p := ⟨g, 2, none⟩) hlt.1).trans k2
  have HRK := Lib.hid rk
  clear rk k0 k1 k3 k4 k5 z0 z1 z2 z3 z4 hr1
  have hg63 : c ≤ maxLen := by unfold maxLen; omega
  generalize hcur : (List.replicate c (0 : Int)).map (Value.int .u8) = cur at *
  have hcl : cur.length = c := by rw [← hcur]; simp
  have hspl : splice cur 0 (L.map (Value.int .u8)) = (splice (List.replicate c (0 : Int)) 0 L).map (Value.int .u8) := by rw [← hcur]; unfold splice; simp
  generalize hw1 : w.alloc (.cells cur.toArray 5) = w1 at *
  have hs1 : w1.heap.size = w.heap.size + 1 := by rw [← hw1]; simp
  have HMK := Lib.hid hmk
  have hmk2 : (Instr.makeSlice 22 (.int .i64 c) (.int .i64 c)).run Try.prog w = .ok (.slice (some ⟨w.heap.size, 0, none⟩) c c) w1 := by rw [hmk, hw1]
  have H1 := Lib.hid hw1
  have H2 := Lib.hid hcur
  have H3 := Lib.hid hspl
  have H4 := Lib.hid hnew
  have H5 := Lib.hid hlk
  have H6 := Lib.hid hcl
  have H7 := Lib.hid hn
  have H8 := Lib.hid hs1
  have H9 := Lib.hid hb1
  have HZ := Lib.hid (show (Try.prog.info? 5).map (·.size) = some 1 by kernel_rfl)
  have HBY := Lib.hid hbyte
  clear hw1 hcur hspl hnew hlk hcl hn hmk hs1 hb1 hbyte
  have i0 : (n : Int) ≤ (c : Int) := by omega
  have i1 : (c : Int) ≤ 65536 := by omega
  go_enter Try.func19, Try.ntmps19
  go_wp2_with fail
  refine HN.out.mono ?_
  rintro e w' ⟨rfl, rfl⟩
  go_wp2_with fail
  clear hmk2
  refine H5.out.mono ?_
  rintro e w2 ⟨⟨v, rfl, hv⟩, hb2⟩
  unfold Got at hv
  obtain ⟨A, c', rfl, hc'⟩ := row_form hv
  rw [H7.out] at hc' hv ⊢
  have hpos : 0 < (L.map (Value.int .u8)).length → ∃ ad, A = some ad ∧ ∀ j v, (L.map (Value.int .u8))[j]? = some v → w2.cell? (ad.add j) = some v := by
    intro h0
    rcases hv.2 with ⟨hv1, hv2⟩ | ⟨g', cap, cur', hv1, _⟩
    · have := H7.out; rw [List.length_map] at h0; omega
    · injection hv1 with hA _ _
      exact ⟨_, hA, hv.cells (by rw [hA]; rfl)⟩
  have hbA : Below w.heap.size w w2 := H9.out.trans (hb2.mono (by omega))
  have hg2 : w2.heap[w.heap.size]? = some (.cells cur.toArray 5 (0, 0)) := (hb2.block _ (by omega)).trans H4.out
  have hln : (L.map (Value.int .u8)).length = Nat.min n c := by rw [List.length_map, H7.out]; show n = min n c; omega
  have hft : 0 + (L.map (Value.int .u8)).length ≤ cur.length := by rw [H6.out, List.length_map, H7.out]; omega
  have hon : ∀ v ∈ L.map (Value.int .u8), v.oneCell' = true := fun u hu => by obtain ⟨y, _, rfl⟩ := List.mem_map.1 hu; rfl
  have P1 := Lib.hid hpos
  have P2 := Lib.hid hbA
  have P3 := Lib.hid hg2
  have P4 := Lib.hid hln
  have P5 := Lib.hid hft
  have P6 := Lib.hid hon
  have hres : ∀ W : World, W.heap[w.heap.size]? = some (.cells (splice cur 0 (L.map (Value.int .u8))).toArray 5 (0, 0)) → By W w.heap.size (splice (List.replicate c 0) 0 L) := fun W h => by rw [H3.out] at h; exact h
  have P7 := Lib.hid hres
  clear hpos hbA hg2 hln hft hon hv hb2 hres
  generalize L.map (Value.int .u8) = Lv at P1 P4 P5 P6 P7
  go_wp2_with (refine wpList_copy_splice (by rfl) (.tmp 22) (.tmp 28) 22 22 (by rfl) 5 Try.underlying22 HZ.out (some ⟨w.heap.size, 0, none⟩) A c c n c' (by rfl) (by rfl) w.heap.size 0 cur 5 P3.out Lv P4.out (fun h => ⟨rfl, P1.out h⟩) P5.out P6.out w.heap.size w P2.out (Nat.le_refl _) ?_; intro w3 HG3 hb3; have rk3 := Lib.hid (show Rk w3 g gb C fr n ip op from (hb3.block _ hlt.1).trans HRK.out); obtain ⟨-, -, -, -, -, -, z0, z1, z2, z3, z4⟩ := rk3.out.cells; obtain ⟨c0, c1, -⟩ := rk3.out.cells; have P9 := Lib.hid hb3; clear hb3)
  go_ret
  obtain ⟨t1, t2⟩ := rk3.out.grew w.heap.size c
  have hby3 := P7.out w3 HG3.out
  refine ⟨rfl, ⟨0, splice (List.replicate c 0) 0 L, by rw [H7.out]; exact t1, ?_, ?_, by rw [H7.out]; omega, by omega, by omega, ?_, ?_, by omega⟩, grown_trans (grown_of_below P9.out _) t2⟩
  · exact (t2.block _ hby3.lt (fun e => by injection e with e; omega)).trans hby3
  · rw [length_splice _ _ _ (by simp; rw [H7.out]; omega)]; simp
  · exact (rd_head L c (by rw [H7.out]; omega)).symm
  · exact splice_mem _ _ _ (fun x hx => by rw [List.eq_of_mem_replicate hx]; omega) HBY.out
end Go.Proofs.Ytebnfcpikhehkaa
