/- Callers of the iterator. -/
import Derived.Test.YtljfnfaljadjdaaN
namespace Go.Proofs.Ytljfnfaljadjdaa
open Go.RowKit Go.Shelf
attribute [local go_sem] Oper.semAt_some
set_option linter.unusedSimpArgs false
set_option linter.unusedVariables false

theorem all_any (a b : Nat) (w : World) : Calls Try.prog 26 #[.agg #[.int .u32 a, .int .u32 b]] w fun e w' => e = .returned (.func (.func 30) #[] #[.pointer (some ⟨w.heap.size, 0, none⟩)]) ∧ w' = w.alloc (.cells #[.int .u32 a, .int .u32 b] 24) := by
  go_enter Try.func26, Try.ntmps26
  go_wp2
  go_ret
  exact ⟨rfl, rfl⟩

/-- The iterator's contract. -/
theorem all_stops (n : Nat) (hn : 1 ≤ n) (Bn a b : Nat) (ha : a < 4294967296) (hb : b < 4294967296) (w : World) (hS : Sb w Bn a b) :
    SeqStopsK Fence.wide n Try.prog 30 #[.pointer (some ⟨Bn, 0, none⟩)] (fun x : Int => #[.int .i64 x]) (KB Bn) (fun xs => xs = L a b) (fun pre => pre <+: L a b) 64 w :=
  fun l J Jx W hW hJ _ hY h0 => all1_in n hn l Bn a b ha hb J Jx hY W (hS.below hW hS.lt) hJ h0
end Go.Proofs.Ytljfnfaljadjdaa
