/- Two entries: one, One. -/
import Derived.Test.YtbanfkpfijcmcaaDoorA
namespace Go.Proofs.YtbanfkpfijcmcaaDoor
open Go.RowKit
set_option linter.unusedSimpArgs false
set_option linter.unusedVariables false
set_option maxRecDepth 100000

/-- The box of an entry. -/
def XBx (W : World) (b : Nat) (x : Ex) : Prop := W.heap[b]? = some (.cells #[.int .i64 x.e.kd, .int .u64 x.e.tk, .int .i64 x.e.id, .int .i64 x.e.fl, .int .i64 x.e.nn, .int .i64 x.e.er, x.dv] 29 (0, 0))
theorem XBx.cells {W : World} {b : Nat} {x : Ex} (h : XBx W b x) : W.cell? ⟨b, 0, none⟩ = some (.int .i64 x.e.kd) ∧ W.cell? ⟨b, 1, none⟩ = some (.int .u64 x.e.tk) ∧ W.cell? ⟨b, 2, none⟩ = some (.int .i64 x.e.id) ∧ W.cell? ⟨b, 3, none⟩ = some (.int .i64 x.e.fl) ∧ W.cell? ⟨b, 4, none⟩ = some (.int .i64 x.e.nn) ∧ W.cell? ⟨b, 5, none⟩ = some (.int .i64 x.e.er) ∧ W.cell? ⟨b, 6, none⟩ = some x.dv := by
  have hc := cell_of h
  have c0 := (hc 0).1; have c1 := (hc 1).1; have c2 := (hc 2).1; have c3 := (hc 3).1; have c4 := (hc 4).1; have c5 := (hc 5).1; have c6 := (hc 6).1
  simp at c0 c1 c2 c3 c4 c5 c6
  exact ⟨c0, c1, c2, c3, c4, c5, c6⟩
theorem XBx.below {W W' : World} {b : Nat} {x : Ex} (h : XBx W b x) (hb : Below W.heap.size W W') : XBx W' b x := (hb.block _ (lt_of_block h)).trans h

set_option maxHeartbeats 4000000 in
theorem one_any (w : World) (x y : Ex) (hx : DataAt w x.dv x.e.dt) (hy : DataAt w y.dv y.e.dt) :
    Calls Tryd.prog 22 #[agX x, agX y] w fun e w' => e = .returned (.bool (oneF x.e y.e)) ∧ Below w.heap.size w w' := by
  unfold agX
  have B2 : Hid (Below w.heap.size w ((w.alloc (.cells #[.int .i64 x.e.kd, .int .u64 x.e.tk, .int .i64 x.e.id, .int .i64 x.e.fl, .int .i64 x.e.nn, .int .i64 x.e.er, x.dv] 29)).alloc (.cells #[.int .i64 y.e.kd, .int .u64 y.e.tk, .int .i64 y.e.id, .int .i64 y.e.fl, .int .i64 y.e.nn, .int .i64 y.e.er, y.dv] 29))) := Lib.hid (((Below.refl _ w).alloc (Nat.le_refl _) _).alloc (by simp) _)
  have HE := Lib.hid (equal_any _ x.dv y.dv x.e.dt y.e.dt (hx.below B2.out) (hy.below B2.out))
  clear hx hy
  obtain ⟨⟨a1, a2, a3, a4, a5, a6, ad⟩, av⟩ := x
  obtain ⟨⟨b1, b2, b3, b4, b5, b6, bd⟩, bv⟩ := y
  simp only at HE B2 ⊢
  unfold oneF
  simp only
  cases e1 : (a1 == b1)
  case' true =>
    cases e2 : (a2 == b2)
    case' true =>
      cases e3 : (a3 == b3)
      case' true =>
        cases e4 : (a4 == b4)
        case' true =>
          cases e5 : (a5 == b5)
          case' true =>
            cases e6 : (a6 == b6)
  all_goals
    first
      | (go_enter Tryd.func22, Tryd.ntmps22
         go_wp2_with fail
         refine HE.out.mono ?_
         rintro e w1 ⟨rfl, bb⟩
         go_wp2_with fail
         go_ret
         exact ⟨rfl, B2.out.trans (bb.mono B2.out.size)⟩)
      | (clear HE
         go_enter Tryd.func22, Tryd.ntmps22
         go_wp2_with fail
         go_ret
         exact ⟨rfl, B2.out⟩)

set_option maxHeartbeats 4000000 in
theorem rone_any (w : World) (x y : Ex) (hx : DataAt w x.dv x.e.dt) (hy : DataAt w y.dv y.e.dt) :
    Calls Tryd.prog 41 #[agX x, agX y] w fun e w' => e = .returned (.bool (oneF x.e y.e)) ∧ Below w.heap.size w w' := by
  unfold agX
  have B2 : Hid (Below w.heap.size w ((w.alloc (.cells #[.int .i64 x.e.kd, .int .u64 x.e.tk, .int .i64 x.e.id, .int .i64 x.e.fl, .int .i64 x.e.nn, .int .i64 x.e.er, x.dv] 29)).alloc (.cells #[.int .i64 y.e.kd, .int .u64 y.e.tk, .int .i64 y.e.id, .int .i64 y.e.fl, .int .i64 y.e.nn, .int .i64 y.e.er, y.dv] 29))) := Lib.hid (((Below.refl _ w).alloc (Nat.le_refl _) _).alloc (by simp) _)
  have sx := (hx.below B2.out).str
  have sy := (hy.below B2.out).str
  have tx := str_toL x.e.dt
  have ty := str_toL y.e.dt
  clear hx hy
  obtain ⟨⟨a1, a2, a3, a4, a5, a6, ad⟩, av⟩ := x
  obtain ⟨⟨b1, b2, b3, b4, b5, b6, bd⟩, bv⟩ := y
  simp only at sx sy tx ty B2 ⊢
  unfold oneF
  simp only
  cases e1 : (a1 == b1)
  case' true =>
    cases e2 : (a2 == b2)
    case' true =>
      cases e3 : (a3 == b3)
      case' true =>
        cases e4 : (a4 == b4)
        case' true =>
          cases e5 : (a5 == b5)
          case' true =>
            cases e6 : (a6 == b6)
  all_goals
    go_enter Tryd.func41, Tryd.ntmps41
    go_wp2_with fail
    go_ret
    exact ⟨by first | rfl | simp, B2.out⟩
end Go.Proofs.YtbanfkpfijcmcaaDoor
