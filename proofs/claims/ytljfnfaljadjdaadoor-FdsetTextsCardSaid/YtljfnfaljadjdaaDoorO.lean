/- Callers of the iterator. -/
import Derived.Test.YtljfnfaljadjdaaDoorN
namespace Go.Proofs.YtljfnfaljadjdaaDoor
open Go.RowKit Go.Shelf
attribute [local go_sem] Oper.semAt_some
set_option linter.unusedSimpArgs false
set_option linter.unusedVariables false
set_option maxRecDepth 100000

theorem all_any (a b : Nat) (w : World) : Calls Tryd.prog 32 #[.agg #[.int .u32 a, .int .u32 b]] w fun e w' => e = .returned (.func (.func 43) #[] #[.pointer (some ⟨w.heap.size, 0, none⟩)]) ∧ w' = w.alloc (.cells #[.int .u32 a, .int .u32 b] 24) := by
  go_enter Tryd.func32, Tryd.ntmps32
  go_wp2
  go_ret
  exact ⟨rfl, rfl⟩

/-- The iterator's contract. -/
theorem all_stops (n : Nat) (hn : 1 ≤ n) (Bn a b : Nat) (ha : a < 4294967296) (hb : b < 4294967296) (w : World) (hS : Sb w Bn a b) :
    SeqStopsK Fence.wide n Tryd.prog 43 #[.pointer (some ⟨Bn, 0, none⟩)] (fun x : Int => #[.int .i64 x]) (KB Bn) (fun xs => xs = L a b) (fun pre => pre <+: L a b) 64 w :=
  fun l J Jx W hW hJ _ hY h0 => all1_in n hn l Bn a b ha hb J Jx (fun pre x W h _ _ hl => hY pre x W h hl) W (hS.below hW hS.lt) hJ h0

/-- The numbers that come, as numbers below 64. -/
def vals (l : List (Fin 64)) : List Int := l.map (fun x => (x.val : Int))
theorem vals_snoc (l : List (Fin 64)) (x : Fin 64) : vals (l ++ [x]) = vals l ++ [(x.val : Int)] := by simp [vals]
theorem vals_len (l : List (Fin 64)) : (vals l).length = l.length := by simp [vals]
theorem all_stopsF (n : Nat) (hn : 1 ≤ n) (Bn a b : Nat) (ha : a < 4294967296) (hb : b < 4294967296) (w : World) (hS : Sb w Bn a b) :
    SeqStopsK Fence.wide n Tryd.prog 43 #[.pointer (some ⟨Bn, 0, none⟩)] (fun x : Fin 64 => #[.int .i64 (x.val : Int)]) (KB Bn) (fun xs => vals xs = L a b) (fun pre => vals pre <+: L a b) 64 w := by
  intro l J Jx W hW hJ hJx hY h0
  refine (all1_in n hn l Bn a b ha hb (fun pre W => ∃ q, vals q = pre ∧ J q W) (fun pre W => ∃ q, vals q = pre ∧ Jx q W) ?_ W (hS.below hW hS.lt) ?_ ⟨[], rfl, h0⟩).mono ?_
  · rintro pre x W1 ⟨q, rfl, hq⟩ h1 h2 hl
    rw [vals_len] at hl
    have hx : ((⟨x.toNat, by omega⟩ : Fin 64).val : Int) = x := by simp; omega
    have := hY q ⟨x.toNat, by omega⟩ W1 hq hl
    simp only [hx] at this
    refine this.mono ?_
    rintro e W2 (⟨he, hj, hk⟩ | ⟨he, hj⟩)
    · exact .inl ⟨he, ⟨_, by rw [vals_snoc, hx], hj⟩, hk⟩
    · exact .inr ⟨he, ⟨_, by rw [vals_snoc, hx], hj⟩⟩
  · rintro s A B row ⟨q, rfl, hq⟩ hg hr
    exact ⟨q, rfl, hJ q A B row hq hg hr⟩
  · rintro e W2 ⟨hv, (⟨ys, hy, q, rfl, hq⟩ | ⟨pre, hp, q, rfl, hq⟩)⟩
    · exact ⟨hv, .inl ⟨q, hy, hq⟩⟩
    · exact ⟨hv, .inr ⟨q, hp, hq⟩⟩
end Go.Proofs.YtljfnfaljadjdaaDoor
