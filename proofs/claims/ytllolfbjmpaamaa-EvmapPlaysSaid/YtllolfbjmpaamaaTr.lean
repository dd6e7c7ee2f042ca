/- EvmapTraces. -/
import Derived.Test.YtllolfbjmpaamaaGr
namespace Go.Proofs.Ytllolfbjmpaamaa
open Go.RowKit
set_option linter.unusedSimpArgs false
set_option linter.unusedVariables false
set_option maxRecDepth 100000

/-- A list's numbers in a slice beside the map. -/
structure Rw (W : World) (S : Nat → Prop) (v : Value) (l : List It) : Prop where
  r : W.ownsRow 0 3 1 v l.length (flat l)
  d : ∀ b, v.ownBlock = some b → ¬ S b
theorem Rw.keep {W W' : World} {S : Nat → Prop} {v : Value} {l : List It} (h : Rw W S v l) (hb : Below W.heap.size W W') : Rw W' S v l :=
  ⟨row_same h.r (fun b e => hb.block b (h.r.lt _ e).2), h.d⟩
theorem Rw.step {W W' : World} {S S' : Nat → Prop} {v : Value} {l : List It} (h : Rw W S v l) (st : Stp S W S' W') : Rw W' S' v l :=
  ⟨row_same h.r (fun b e => st.f.block b (h.r.lt _ e).2 (h.d b e)), fun b e hs => by
    rcases st.s b hs with h1 | h1
    · exact h.d b e h1
    · have := (h.r.lt _ e).2; omega⟩
theorem Rw.new {W W' : World} {g : Nat} {S : Nat → Prop} {N : Nat} {L : List It} {v : Value} {l : List It} (q : Qw W g S N L) (h : W'.ownsRow W.heap.size 3 1 v l.length (flat l)) : Rw W' S v l :=
  ⟨row_base h, fun b e hs => by have := q.lt hs; have := (h.lt _ e).1; omega⟩
/-- What is there for the numbers of a slice. -/
theorem Rw.cells {W : World} {S : Nat → Prop} {v : Value} {l : List It} (h : Rw W S v l) : W.ownsRow 0 3 1 v (ids l).length ((ids l).map (Value.int .i64)) := by
  have := h.r
  unfold flat at this
  rw [show (ids l).length = l.length by simp [ids]]
  exact this

/-- A call's box. -/
def Bx (W : World) (bx : Nat) (o : OpV) : Prop := W.heap[bx]? = some (.cells #[.int .i64 o.kd, .int .i64 o.ev, .int .i64 o.fd, .int .i64 o.wn] 35 (0, 0))
theorem Bx.cells {W : World} {bx : Nat} {o : OpV} (h : Bx W bx o) : W.cell? ⟨bx, 0, none⟩ = some (.int .i64 o.kd) ∧ W.cell? ⟨bx, 1, none⟩ = some (.int .i64 o.ev) ∧ W.cell? ⟨bx, 2, none⟩ = some (.int .i64 o.fd) ∧ W.cell? ⟨bx, 3, none⟩ = some (.int .i64 o.wn) := by
  have hc := cell_of h
  have c0 := (hc 0).1; have c1 := (hc 1).1; have c2 := (hc 2).1; have c3 := (hc 3).1
  simp at c0 c1 c2 c3
  exact ⟨c0, c1, c2, c3⟩
theorem Bx.below {W W' : World} {bx : Nat} {o : OpV} (h : Bx W bx o) (hb : Below W.heap.size W W') : Bx W' bx o := (hb.block _ (lt_of_block h)).trans h
theorem Bx.stp {W W' : World} {S S' : Nat → Prop} {bx : Nat} {o : OpV} (h : Bx W bx o) (st : Stp S W S' W') (hs : ¬ S bx) : Bx W' bx o := (st.f.block _ (lt_of_block h) hs).trans h

theorem Wants_quiet (w : World) (g : Nat) (S : Nat → Prop) (N : Nat) (L : List It) (fd : Int) (h : Qw w g S N L) (hN : N ≤ 10000) (n : Nat) :
    Calls Try.prog 13 #[.pointer (some ⟨g, 0, none⟩), .int .i64 fd] (w.drewN n) fun e w'' => e = .returned (.int .i64 (wants L fd)) ∧ ∃ m, w'' = w.drewN m :=
  Calls.quiet_of_same ((Wants_any (w.drewN n) g S N L fd (h.keep (fun _ _ => rfl)) hN).mono fun _ _ ⟨h1, h2⟩ => ⟨h1, h2.symm⟩)
theorem Len_quiet (w : World) (g : Nat) (S : Nat → Prop) (N : Nat) (L : List It) (h : Qw w g S N L) (n : Nat) :
    Calls Try.prog 14 #[.pointer (some ⟨g, 0, none⟩)] (w.drewN n) fun e w'' => e = .returned (.int .i64 L.length) ∧ ∃ m, w'' = w.drewN m :=
  Calls.quiet_of_same ((Len_any (w.drewN n) g S N L (h.keep (fun _ _ => rfl))).mono fun _ _ ⟨h1, h2⟩ => ⟨h1, h2.symm⟩)

theorem traces_out (a : Option Addr) (n cap : Nat) (o : OpV) (w : World) (hn : n ≤ maxLen) (h : 200 < n) :
    Calls Try.prog 4 #[.slice a n cap, .agg #[.int .i64 o.kd, .int .i64 o.ev, .int .i64 o.fd, .int .i64 o.wn]] w fun e w' => e = .returned (.bool true) ∧ Below w.heap.size w w' := by
  unfold maxLen at hn
  have h2 : (200 : Int) < (n : Int) := by omega
  go_enter Try.func4, Try.ntmps4
  go_wp2_with fail
  refine (alive_any _).mono ?_
  rintro e w1 ⟨rfl, b1⟩
  have B1 := Lib.hid (((Below.refl _ w).alloc (Nat.le_refl _) _).trans (b1.mono (by simp)))
  clear b1
  go_wp2_with fail
  go_ret
  exact ⟨rfl, B1.out⟩

set_option maxHeartbeats 8000000 in
theorem traces_in (a : Option Addr) (cap : Nat) (os : List OpV) (o : OpV) (w : World) (hl : os.length ≤ 200) (ho : OpsAt w a os) (hk : ∀ o ∈ os, o.ok) (hok : o.ok) :
    Calls Try.prog 4 #[.slice a os.length cap, .agg #[.int .i64 o.kd, .int .i64 o.ev, .int .i64 o.fd, .int .i64 o.wn]] w fun e w' => e = .returned (.bool true) ∧ Below w.heap.size w w' := by
  obtain ⟨kd, ev, fd, wn⟩ := o
  have HOK := Lib.hid hok; clear hok
  obtain ⟨W0, hW0⟩ : ∃ W0, W0 = w.alloc (.cells #[.int .i64 kd, .int .i64 ev, .int .i64 fd, .int .i64 wn] 35) := ⟨_, rfl⟩
  have B0 : Hid (Below w.heap.size w W0) := Lib.hid (by rw [hW0]; exact (Below.refl _ w).alloc (Nat.le_refl _) _)
  have X0 : Hid (Bx W0 w.heap.size ⟨kd, ev, fd, wn⟩) := Lib.hid (by rw [hW0]; exact new_block _ _)
  have O0 : Hid (OpsAt W0 a os) := Lib.hid (ho.below B0.out)
  have hsz : W0.heap.size = w.heap.size + 1 := by rw [hW0]; simp
  have HK := Lib.hid hk
  clear ho hk
  have HG := Lib.hid (fun (W : World) (hb : Below W0.heap.size W0 W) => grown_any a cap os W hl (O0.out.below hb) HK.out)
  generalize hlen : os.length = len at *
  have HL := Lib.hid hlen; clear hlen
  go_enter Try.func4, Try.ntmps4
  go_wp2_with fail
  rw [← hW0]
  refine (alive_any _).mono ?_
  rintro e w1 ⟨rfl, b1⟩
  clear hW0
  have B1 := Lib.hid b1; have z1 := b1.size
  clear b1
  go_wp2_with fail
  refine (HG.out _ B1.out).mono ?_
  rintro e w2 ⟨g, S, rfl, r2⟩
  have HX : Hid (∀ W, Below w1.heap.size w1 W → Bx W w.heap.size ⟨kd, ev, fd, wn⟩) := Lib.hid (fun W h => (((B1.out.trans (h.mono B1.out.size)).block _ (by omega)).trans X0.out))
  have R2 := Lib.hid r2
  have B2 : Hid (Below w.heap.size w w1) := Lib.hid (B0.out.trans (B1.out.mono (by omega)))
  clear r2 B0 B1 X0 O0 HG HK
  generalize grownL os = L at *
  obtain ⟨-, x1, x2, x3⟩ := (HX.out _ R2.out.b).cells
  simp only at x1 x2 x3
  go_wp2_with fail
  refine (Of_any w2 g S 200 L fd R2.out.q (by omega)).mono ?_
  rintro e w3 ⟨⟨v3, rfl, r3⟩, b3⟩
  have V3 := Lib.hid (Rw.new R2.out.q r3)
  have R3 := Lib.hid (R2.out.below b3)
  obtain ⟨A3, c3, rfl, -⟩ := row_form r3
  clear r3 b3 R2 x1 x2 x3
  obtain ⟨-, x1, x2, x3⟩ := (HX.out _ R3.out.b).cells
  simp only at x1 x2 x3
  go_wp2_with fail
  refine (Wants_any w3 g S 200 L fd R3.out.q (by omega)).mono ?_
  rintro e w4 ⟨rfl, rfl⟩
  go_wp2_with fail
  refine (Len_any w3 g S 200 L R3.out.q).mono ?_
  rintro e w4 ⟨rfl, rfl⟩
  go_wp2_with fail
  have hln := R3.out.q.ln
  have hol : (ofL L fd).length ≤ 200 := by
    unfold ofL
    split
    · have := row_len L fd; omega
    · simp
  by_cases hc : chk L ev fd wn = 0
  case neg =>
    refine (Add_bad w3 g S 200 L ev fd wn R3.out.q (by omega) HOK.out.e HOK.out.w hc).mono ?_
    rintro e w5 ⟨rfl, b5⟩
    have V5 := Lib.hid (V3.out.keep b5)
    have R5 := Lib.hid (R3.out.below b5)
    clear V3 R3 b5 x1 x2 x3
    obtain ⟨-, x1, x2, x3⟩ := (HX.out _ R5.out.b).cells
    simp only at x1 x2 x3
    generalize chk L ev fd wn = c at *
    have hc2 : (c == 0) = false := by simpa using hc
    go_wp2_with fail
    refine (Wants_any w5 g S 200 L fd R5.out.q (by omega)).mono ?_
    rintro e w6 ⟨rfl, rfl⟩
    go_wp2_with fail
    refine (Of_any w5 g S 200 L fd R5.out.q (by omega)).mono ?_
    rintro e w6 ⟨⟨v6, rfl, r6⟩, b6⟩
    have V6 := Lib.hid (V5.out.keep b6)
    have R6 := Lib.hid (R5.out.below b6)
    have U6 := Lib.hid (Rw.new R5.out.q r6)
    clear V5 R5 b6 x1 x2 x3
    go_wp2_with fail
    refine (same_any w6 _ _ (ids (ofL L fd)) (by simp [ids]; omega) U6.out.cells V6.out.cells).mono ?_
    rintro e w7 ⟨rfl, b7⟩
    have R7 := Lib.hid (R6.out.below b7)
    clear R6 V6 U6 b7
    go_wp2_with fail
    refine (Len_any w7 g S 200 L R7.out.q).mono ?_
    rintro e w8 ⟨rfl, rfl⟩
    go_wp2_with fail
    go_ret
    exact ⟨rfl, B2.out.trans (R7.out.b.mono B2.out.size)⟩
  obtain ⟨hfd, hmw, hlk⟩ := chk_zero hc
  have eo : ofL (L ++ [⟨ev, wn, fd, fd⟩]) fd = ofL L fd ++ [⟨ev, wn, fd, fd⟩] := by
    unfold ofL
    rw [if_pos hfd, if_pos hfd]
    exact row_snoc_same L ⟨ev, wn, fd, fd⟩
  have ew : wants (L ++ [⟨ev, wn, fd, fd⟩]) fd = bits .or .i64 (wants L fd) wn := by
    unfold wants
    rw [eo, wntL_snoc]
  have ec : cutL (L ++ [⟨ev, wn, fd, fd⟩]) ev = L := cut_snoc (t := ⟨ev, wn, fd, fd⟩) hlk
  have hne : wn ≠ 0 := by unfold MayW at hmw; omega
  have EO := Lib.hid eo; have EW := Lib.hid ew; have EC := Lib.hid ec; have HLK := Lib.hid hlk
  clear eo ew ec hlk hmw hfd
  refine (Add_ok w3 g S 200 L ev fd wn R3.out.q (by omega) HOK.out.e HOK.out.w hc).mono ?_
  rintro e w5 ⟨rfl, S5, q5, st5⟩
  have V5 := Lib.hid (V3.out.step st5)
  have R5 := Lib.hid (R3.out.step q5 st5)
  clear V3 R3 q5 st5 x1 x2 x3 hc
  obtain ⟨-, x1, x2, x3⟩ := (HX.out _ R5.out.b).cells
  simp only at x1 x2 x3
  go_wp2_with fail
  refine (Of_any w5 g S5 201 _ fd R5.out.q (by omega)).mono ?_
  rw [EO.out]
  rintro e w6 ⟨⟨v6, rfl, r6⟩, b6⟩
  have V6 := Lib.hid (V5.out.keep b6)
  have R6 := Lib.hid (R5.out.below b6)
  obtain ⟨A6, c6, rfl, h6, -, hcell⟩ := row_cells r6
  obtain ⟨b, rfl, hb, -, hcl⟩ := hcell (ofL L fd).length ⟨ev, wn, fd, fd⟩ (by simp)
  have m6 := hcl w6 rfl
  clear hcl hcell r6 b6 V5 R5 x1 x2 x3 hb
  obtain ⟨-, x1, x2, x3⟩ := (HX.out _ R6.out.b).cells
  simp only at x1 x2 x3 m6
  have HW := Lib.hid (Wants_quiet w6 g S5 201 _ fd R6.out.q (by omega))
  have HN := Lib.hid (Len_quiet w6 g S5 201 _ R6.out.q)
  rw [EW.out] at HW
  have HT : Hid ((⟨ev, wn, fd, fd⟩ : It) ∈ L ++ [⟨ev, wn, fd, fd⟩]) := Lib.hid (by simp)
  have hl6 : (ofL L fd ++ [(⟨ev, wn, fd, fd⟩ : It)]).length = (ofL L fd).length + 1 := by simp
  have hl7 : (L ++ [(⟨ev, wn, fd, fd⟩ : It)]).length = L.length + 1 := by simp
  rw [hl7] at HN
  rw [hl6] at h6 ⊢
  obtain ⟨p, hp⟩ : ∃ p, p = (ofL L fd).length := ⟨_, rfl⟩
  obtain ⟨q, hq⟩ : ∃ q, q = L.length := ⟨_, rfl⟩
  rw [← hp] at h6 hol m6 ⊢
  rw [← hq] at HN hln ⊢
  have HP := Lib.hid hp; have HQ := Lib.hid hq
  clear hp hq hl6 hl7
  generalize hws : wants L fd = ws at *
  have HWS := Lib.hid hws
  clear hws
  go_wp2_with fail
  go_quiet (first | (go_at_call 13; exact HW.out _) | (go_at_call 14; exact HN.out _))
  have b7 : Below w6.heap.size w6 (w6.drewN nq) := below_drewN (Below.refl _ _) nq
  have R7 := Lib.hid (R6.out.below b7)
  have V7 : Hid (Rw (w6.drewN nq) S5 (.slice A3 p c3) (ofL L fd)) := Lib.hid (by rw [HP.out]; exact V6.out.keep b7)
  clear V6 R6 b7 x1 x2 x3 HN HW m6
  generalize w6.drewN nq = w7 at *
  obtain ⟨-, x1, x2, x3⟩ := (HX.out _ R7.out.b).cells
  simp only at x1 x2 x3
  have HC := Cut_ok w7 g S5 _ _ ⟨ev, wn, fd, fd⟩ R7.out.q (by omega) HT.out hne
  simp only at HC
  rw [EC.out, EW.out, HWS.out] at HC
  have HC := Lib.hid HC
  go_wp2_with fail
  refine HC.out.mono ?_
  rintro e w8 ⟨rfl, S8, q8, st8⟩
  have V8 := Lib.hid (V7.out.step st8)
  have R8 := Lib.hid (R7.out.step q8 st8)
  clear V7 R7 q8 st8 x1 x2 x3 HC
  obtain ⟨-, x1, x2, x3⟩ := (HX.out _ R8.out.b).cells
  simp only at x1 x2 x3
  go_wp2_with fail
  refine (Of_any w8 g S8 _ L fd R8.out.q (by omega)).mono ?_
  rintro e w9 ⟨⟨v9, rfl, r9⟩, b9⟩
  have V9 := Lib.hid (V8.out.keep b9)
  have R9 := Lib.hid (R8.out.below b9)
  have U9 := Lib.hid (Rw.new R8.out.q r9)
  clear V8 R8 b9 r9 x1 x2 x3
  go_wp2_with fail
  refine (same_any w9 _ _ (ids (ofL L fd)) (by have := HP.out; simp [ids]; omega) U9.out.cells V9.out.cells).mono ?_
  rintro e w10 ⟨rfl, b10⟩
  have R10 := Lib.hid (R9.out.below b10)
  clear R9 V9 U9 b10
  obtain ⟨-, x1, x2, x3⟩ := (HX.out _ R10.out.b).cells
  simp only at x1 x2 x3
  go_wp2_with fail
  refine (Len_any w10 g S8 _ L R10.out.q).mono ?_
  rw [← HQ.out]
  rintro e w11 ⟨rfl, rfl⟩
  go_wp2_with fail
  refine (Has_any w10 g S8 _ L ev R10.out.q HOK.out.e).mono ?_
  rw [HLK.out]
  rintro e w11 ⟨rfl, b11⟩
  have R11 := Lib.hid (R10.out.below b11)
  clear R10 b11
  go_wp2_with fail
  go_ret
  exact ⟨rfl, B2.out.trans (R11.out.b.mono B2.out.size)⟩

theorem traces_top {H : Type} {enc : TypeId × Value → H} {base : Nat} {held : Bool} (v : Value) (d : DataW H) (p : List MemPlace) (x1 x2 x3 x4 : Int) (w : World) {r : Reach} {b0 : Nat} (hv : Value.okWide Try.prog w r b0 22 v) (h : DataW.Trod enc Try.prog w base (fun _ => true) held 22 v d p) (w1 : (Lit.int .i64 x1).wf = true) (w2 : (Lit.int .i64 x2).wf = true) (w3 : (Lit.int .i64 x3).wf = true) (w4 : (Lit.int .i64 x4).wf = true) :
    Calls Try.prog 4 #[v, .agg #[.int .i64 x1, .int .i64 x2, .int .i64 x3, .int .i64 x4]] w fun e w' => e = .returned (.bool true) ∧ Below w.heap.size w w' := by
  obtain ⟨a, cap, os, rfl, hm, ho, hk⟩ := open_ops hv h
  by_cases hin : os.length ≤ 200
  · exact traces_in a cap os ⟨x1, x2, x3, x4⟩ w hin ho hk ⟨w1, w2, w3, w4⟩
  · exact traces_out a os.length cap ⟨x1, x2, x3, x4⟩ w hm (by omega)
end Go.Proofs.Ytllolfbjmpaamaa
