/- The law RingPlays, whole. -/
import Derived.Test.YtebnfcpikhehkaaPl
namespace Go.Proofs.Ytebnfcpikhehkaa
open Go.ChangeShapes Go.WideShapes Go.ChangeAt Go.RowKit
set_option linter.unusedSimpArgs false
set_option linter.unusedVariables false
set_option maxRecDepth 100000

set_option maxHeartbeats 2000000 in
theorem plays_bad (c : Int) (a : Option Addr) (n acap : Nat) (w : World) (h : c < 0 ∨ 65536 < c)
    (hG : Calls Try.prog 18 #[.slice a n acap] w (GreatR n w)) :
    Calls Try.prog 7 #[.int .i64 c, .slice a n acap] w fun e w' => e = .returned (.bool true) ∧ Below w.heap.size w w' := by
  have HG := Lib.hid hG
  have HN := Lib.hid (new_bad c w h)
  have HR := Lib.hid (rnew_bad c w h)
  clear hG h
  go_enter Try.func7, Try.ntmps7
  go_wp2_with fail
  refine HG.out.mono ?_
  rintro e w' ⟨⟨g, rfl, hg⟩, rfl⟩
  cases g with
  | true =>
    clear hg
    go_wp2_with fail
    go_ret
    exact ⟨rfl, Below.refl _ _⟩
  | false =>
  skip
  clear hg
  go_wp2_with fail
  refine HN.out.mono ?_
  rintro e w2 ⟨rfl, rfl⟩
  go_wp2_with fail
  refine HR.out.mono ?_
  rintro e w3 ⟨rfl, b3⟩
  have B3 := Lib.hid b3; have z3 := b3.size; clear b3
  go_wp2_with fail
  go_ret
  exact ⟨rfl, B3.out.alloc z3 _⟩

theorem plays_top {H : Type} {enc : TypeId × Value → H} {base : Nat} {held : Bool} (c : Int) (v : Value) (d : DataW H) (p : List MemPlace) (w : World) (w0 : (Lit.int .i64 c).wf = true) {r : Reach} {b0 : Nat} (hv : Value.okWide Try.prog w r b0 36 v) (h : DataW.Trod enc Try.prog w base (fun _ => true) held 36 v d p) (hs : ∀ n ∈ d.weights Try.prog 36, n ≤ reachBytes) :
    Calls Try.prog 7 #[.int .i64 c, v] w fun e w' => e = .returned (.bool true) ∧ Below w.heap.size w w' := by
  obtain ⟨a, cap, os, rfl, hm, ho, hsz⟩ := open_ops2 hv h hs
  have hG : Calls Try.prog 18 #[.slice a os.length cap] w (GreatR os.length w) := great_any a cap os w ho hm
  by_cases hin : 0 ≤ c ∧ c ≤ 65536
  · obtain ⟨C, rfl⟩ := Int.eq_ofNat_of_zero_le hin.1
    exact plays_in C a cap os w (by omega) ho hm hsz hG
  · exact plays_bad c a os.length cap w (by omega) hG
end Go.Proofs.Ytebnfcpikhehkaa
