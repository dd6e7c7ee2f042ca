/- A drawn region that may panic in a function that defers: what its post says of a panic hangs on two slots alone. -/
/- read, walked: its cases. (Printed by tools/genRw.py.) -/
import Derived.Test.YtbanfkpfijcmcaaGreatDoorRw

namespace Go.Proofs.YtbanfkpfijcmcaaGreatDoor
open Go.RowKit
set_option linter.unusedSimpArgs false
set_option linter.unusedVariables false

theorem leaves_same {P : Program} {fn : Func} {R : Ending → World → Prop} {t t' : Array Value} (h : results fn t = results fn t') :
    ∀ (ds : List Deferred) (u : FrameMode) (w : World), Leaves P fn t R ds u w → Leaves P fn t' R ds u w
  | [], u, w, hl => by
    cases u with
    | run => exact hl.elim
    | returning => obtain ⟨v, hr, hR⟩ := hl; exact ⟨v, h ▸ hr, hR⟩
    | panicking c => exact hl
  | d :: ds, u, w, hl => by
    obtain ⟨hu, fv, cap, f, args, h1, h2, h3⟩ := hl
    refine ⟨hu, fv, cap, f, args, h1, h2, h3.mono fun e u' w' he => ?_⟩
    cases e with
    | returned _ => exact leaves_same h ds _ _ he
    | panicked c => exact leaves_same h ds _ _ he
    | outgrown => exact he
theorem results20_same {t t' : Array Value} (h2 : t.getD 2 undef = t'.getD 2 undef) (h3 : t.getD 3 undef = t'.getD 3 undef) : results Tryz.f34 t = results Tryz.f34 t' := by
  have h2' : t[2]?.getD undef = t'[2]?.getD undef := by simpa using h2
  have h3' : t[3]?.getD undef = t'[3]?.getD undef := by simpa using h3
  simp [results, Tryz.results34, h2', h3']
/-- What the region's laws ask of the post at a panic. -/
theorem hq20 {R : Ending → World → Prop} {d : Option Tmp} {v : Value} (h2 : d ≠ some 2) (h3 : d ≠ some 3) (c : List PanicEntry) (a : Act) (w : World)
    (h : bodyPostD Tryz.prog Tryz.f34 R (.panic c) (a.put d v) w) : bodyPostD Tryz.prog Tryz.f34 R (.panic c) a w := by
  cases d with
  | none => exact h
  | some d =>
    have n2 : d ≠ 2 := fun e => h2 (by rw [e])
    have n3 : d ≠ 3 := fun e => h3 (by rw [e])
    refine leaves_same (results20_same ?_ ?_) _ _ _ h
    · simp [Act.put, Array.getElem?_setIfInBounds, n2]
    · simp [Act.put, Array.getElem?_setIfInBounds, n3]
end Go.Proofs.YtbanfkpfijcmcaaGreatDoor

namespace Go.Proofs.YtbanfkpfijcmcaaGreatDoor
open Go.RowKit
set_option linter.unusedSimpArgs false
set_option linter.unusedVariables false
set_option maxRecDepth 100000

theorem cells7 {W : World} {g : Nat} {a0 a1 a2 a3 a4 a5 a6 : Value} (h : W.heap[g]? = some (.cells #[a0, a1, a2, a3, a4, a5, a6] 28 (0, 0))) :
    W.cell? ⟨g, 0, none⟩ = some a0 ∧ W.frozen? ⟨g, 0, none⟩ = false ∧ W.cell? ⟨g, 1, none⟩ = some a1 ∧ W.frozen? ⟨g, 1, none⟩ = false ∧ W.cell? ⟨g, 2, none⟩ = some a2 ∧ W.frozen? ⟨g, 2, none⟩ = false ∧ W.cell? ⟨g, 3, none⟩ = some a3 ∧ W.frozen? ⟨g, 3, none⟩ = false ∧ W.cell? ⟨g, 4, none⟩ = some a4 ∧ W.frozen? ⟨g, 4, none⟩ = false ∧ W.cell? ⟨g, 5, none⟩ = some a5 ∧ W.frozen? ⟨g, 5, none⟩ = false ∧ W.cell? ⟨g, 6, none⟩ = some a6 ∧ W.frozen? ⟨g, 6, none⟩ = false := by
  refine ⟨(cell_of h 0).1, (cell_of h 0).2, (cell_of h 1).1, (cell_of h 1).2, (cell_of h 2).1, (cell_of h 2).2, (cell_of h 3).1, (cell_of h 3).2, (cell_of h 4).1, (cell_of h 4).2, (cell_of h 5).1, (cell_of h 5).2, (cell_of h 6).1, (cell_of h 6).2⟩

theorem cells1 {W : World} {g : Nat} {v : Value} (h : W.heap[g]? = some (.cells #[v] 4 (0, 0))) : W.cell? ⟨g, 0, none⟩ = some v ∧ W.frozen? ⟨g, 0, none⟩ = false := ⟨(cell_of h 0).1, (cell_of h 0).2⟩

set_option maxHeartbeats 8000000 in
theorem read_bad (s : ByteArray) (w : World) (hE : Ep w) (hs : s.size ≤ 1000000) (hk : kindF (wAt (pcW s) 0) < 1 ∨ (pcW s).length ≠ cntF (kindF (wAt (pcW s) 0))) : Calls Tryz.prog 34 #[.string s] w (ReadP s w) := by
  have hmf : ∀ (fn : Fn) (first cap : Array Value) (w : World), (Instr.makeFunc fn first cap).run Tryz.prog w = .ok (.func fn first cap) w := fun _ _ _ _ => rfl
  have HR : Hid (readF s = none) := Lib.hid (read_none (by unfold guessL; rw [if_pos hk]))
  have hkb := kind_bd (wAt (pcW s) 0)
  have HSP := Lib.hid (fun W (hW : Below w.heap.size w W) => split_any s W (hE.below hW) hs)
  have HTW := Lib.hid (fun W (hW : Below w.heap.size w W) => (hE.below hW).e.tw)
  have X0 := Lib.hid (XI.start w zeroX)
  have hpos := pcW_pos s
  clear hE
  generalize hL : pcW s = L at *
  clear hL
  have hp0 : (0 : Int) < L.length := by omega
  go_enter_defers Tryz.func34, Tryz.ntmps34
  go_upto_region 2 with (fail)
  have e0 : ((w.alloc (.cells #[.int .i64 0, .int .u64 0, .int .i64 0, .int .i64 0, .int .i64 0, .int .i64 0, .slice none 0 0] 28)).alloc (.cells #[.bool false] 4)) = ((w.alloc (.cells zeroX 28)).alloc (.cells #[.bool false] 4)) := rfl
  rw [e0]
  clear e0
  generalize ((w.alloc (.cells zeroX 28)).alloc (.cells #[.bool false] 4)) = W1 at *
  go_wp2_with fail
  refine (HSP.out _ X0.out.b).mono ?_
  rintro e W2 ⟨b, rfl, hc, hb, hle, bel⟩
  have X2 : Hid (XL w W2 zeroX L b) := Lib.hid ⟨X0.out.below bel, by have := lt_of_block X0.out.i; omega, hb, hc⟩
  have t0 := HTW.out _ X2.out.h.b 0 (by omega)
  have t1 := HTW.out _ X2.out.h.b 1 (by omega)
  have t2 := HTW.out _ X2.out.h.b 2 (by omega)
  have t3 := HTW.out _ X2.out.h.b 3 (by omega)
  have t4 := HTW.out _ X2.out.h.b 4 (by omega)
  simp only [twl, List.getD_cons_zero, List.getD_cons_succ] at t0 t1 t2 t3 t4
  clear bel hb hc hle X0
  go_wp2_with fail
  have s3 := new_block W2 (.cells #[.string ⟨#[]⟩, .string ⟨#[116, 117, 114, 110]⟩, .string ⟨#[114, 117, 110]⟩, .string ⟨#[100, 105, 100]⟩, .string ⟨#[101, 110, 100]⟩] 73)
  have b3 := ((Below.refl W2.heap.size W2).alloc (Nat.le_refl _) (.cells #[.string ⟨#[]⟩, .string ⟨#[116, 117, 114, 110]⟩, .string ⟨#[114, 117, 110]⟩, .string ⟨#[100, 105, 100]⟩, .string ⟨#[101, 110, 100]⟩] 73))
  generalize (W2.alloc (.cells #[.string ⟨#[]⟩, .string ⟨#[116, 117, 114, 110]⟩, .string ⟨#[114, 117, 110]⟩, .string ⟨#[100, 105, 100]⟩, .string ⟨#[101, 110, 100]⟩] 73)) = W3 at *
  clear t0 t1 t2 t3 t4
  have X3 := Lib.hid (X2.out.below b3)
  have HC3 := Lib.hid (fun W (hW : Below W3.heap.size W3 W) => (X3.out.below hW).c)
  have HIX := Lib.hid (fun W (hW : Below W3.heap.size W3 W) (x : ByteArray) => index_any (w := w) ((hW.block _ (lt_of_block s3)).trans s3) x)
  clear b3 s3 X2
  generalize hK : kindF (wAt L 0) = k at *
  generalize hx0 : wAt L 0 = x0 at *
  have HK := Lib.hid hK; have HX0 := Lib.hid hx0
  clear hK hx0
  go_region_held3 (fun W => Below W3.heap.size W3 W ∧ W.cell? ⟨b, 0, none⟩ = some (.string x0))
    (first | exact ⟨(Below.refl _ _).drew, by rw [← HX0.out]; exact HC3.out _ (Below.refl _ _).drew 0 hpos⟩ | exact ⟨C1.out, by rw [← HX0.out]; exact HC3.out _ C1.out 0 hpos⟩)
    (first | (go_at_call 54; refine (HIX.out _ (Below.refl _ _).drew _).mono ?_; rintro e u1 ⟨rfl, c1⟩; rw [HK.out]; have C1 : Hid (Below W3.heap.size W3 u1) := Lib.hid ((Below.refl _ _).drew.trans c1); clear c1))
  have X5 := Lib.hid (X3.out.below C1.out)
  obtain ⟨c0, f0, c1, f1, c2, f2, c3, f3, c4, f4, c5, f5, c6, f6⟩ := cells7 X5.out.h.x
  obtain ⟨d0, e0⟩ := cells1 X5.out.h.i
  clear C1 HC3 HIX X3 HSP HTW hmf
  have XF := Lib.hid (((X5.out.h.row (.int .i64 0) (.int .u64 0) (.int .i64 0) (.int .i64 0) (.int .i64 0) (.int .i64 0) (.slice none 0 0)).fin (.bool false)))
  have FIN := Lib.hid (fun W (hb : Below w.heap.size w W) => (⟨⟨0, 0, 0, 0, 0, 0, []⟩, none, 0, 0, (by rw [HR.out]; rfl), (fun y hy => by rw [HR.out] at hy; cases hy), hb⟩ : ReadP s w (.returned (.tuple #[.agg #[.int .i64 0, .int .u64 0, .int .i64 0, .int .i64 0, .int .i64 0, .int .i64 0, .slice none 0 0], .bool false])) W))
  by_cases hk1 : k < 1
  · clear hk hkb
    go_wp2_with fail
    exact leave_ok (g := w.heap.size) rfl rfl XF.out.1 XF.out.2.1 (FIN.out _ XF.out.2.2)
  · have hk2 : L.length ≠ cntF k := by rcases hk with h | h; exact absurd h hk1; exact h
    clear hk
    by_cases hk2 : k = 1
    · subst hk2
      have hn : ¬ ((L.length : Int) = 3) := by have : cntF 1 = 3 := rfl; omega
      have hn2 : ((L.length : Int) == 3) = false := beq_eq_false_iff_ne.2 hn
      have XB := Lib.hid (fin_alloc XF.out (.cells #[.int .i64 0, .int .i64 3, .int .i64 5, .int .i64 6, .int .i64 4] 3))
      have l1 := lt_of_block X5.out.h.x
      have l2 := lt_of_block X5.out.h.i
      clear hk2 hkb hk1
      go_wp2_with fail
      exact leave_ok (g := w.heap.size) rfl rfl XB.out.1 XB.out.2.1 (FIN.out _ XB.out.2.2)
    by_cases hk3 : k = 2
    · subst hk3
      have hn : ¬ ((L.length : Int) = 5) := by have : cntF 2 = 5 := rfl; omega
      have hn2 : ((L.length : Int) == 5) = false := beq_eq_false_iff_ne.2 hn
      have XB := Lib.hid (fin_alloc XF.out (.cells #[.int .i64 0, .int .i64 3, .int .i64 5, .int .i64 6, .int .i64 4] 3))
      have l1 := lt_of_block X5.out.h.x
      have l2 := lt_of_block X5.out.h.i
      clear hk2 hkb hk1
      go_wp2_with fail
      exact leave_ok (g := w.heap.size) rfl rfl XB.out.1 XB.out.2.1 (FIN.out _ XB.out.2.2)
    by_cases hk4 : k = 3
    · subst hk4
      have hn : ¬ ((L.length : Int) = 6) := by have : cntF 3 = 6 := rfl; omega
      have hn2 : ((L.length : Int) == 6) = false := beq_eq_false_iff_ne.2 hn
      have XB := Lib.hid (fin_alloc XF.out (.cells #[.int .i64 0, .int .i64 3, .int .i64 5, .int .i64 6, .int .i64 4] 3))
      have l1 := lt_of_block X5.out.h.x
      have l2 := lt_of_block X5.out.h.i
      clear hk2 hkb hk1
      go_wp2_with fail
      exact leave_ok (g := w.heap.size) rfl rfl XB.out.1 XB.out.2.1 (FIN.out _ XB.out.2.2)
    by_cases hk5 : k = 4
    · subst hk5
      have hn : ¬ ((L.length : Int) = 4) := by have : cntF 4 = 4 := rfl; omega
      have hn2 : ((L.length : Int) == 4) = false := beq_eq_false_iff_ne.2 hn
      have XB := Lib.hid (fin_alloc XF.out (.cells #[.int .i64 0, .int .i64 3, .int .i64 5, .int .i64 6, .int .i64 4] 3))
      have l1 := lt_of_block X5.out.h.x
      have l2 := lt_of_block X5.out.h.i
      clear hk2 hkb hk1
      go_wp2_with fail
      exact leave_ok (g := w.heap.size) rfl rfl XB.out.1 XB.out.2.1 (FIN.out _ XB.out.2.2)
    omega

end Go.Proofs.YtbanfkpfijcmcaaGreatDoor
