/- The iterator over a set. -/
import Derived.RangeFuncNested
import Derived.RangeFuncBound
import Derived.RangeFuncCalls
import Derived.RangeFuncLeaves
import Derived.Shelf.Abstract
import Derived.Shelf.RegionOpen
import Derived.OwnWalkIn
import Derived.TacticsInMore
import Derived.LoopNIn
import Derived.LoopIn
import Derived.Test.YtljfnfaljadjdaaDoorK
namespace Go.Proofs.YtljfnfaljadjdaaDoor
open Go.RowKit Go.Shelf
attribute [local go_sem] Oper.semAt_some
set_option linter.unusedSimpArgs false
set_option linter.unusedVariables false
set_option maxRecDepth 100000

theorem lst_prefix (p : Nat → Bool) (k m : Nat) (h : k ≤ m) : lst p k <+: lst p m := by
  induction m with
  | zero => obtain rfl : k = 0 := by omega
            exact List.prefix_refl _
  | succ m ih =>
    by_cases e : k = m + 1
    · subst e; exact List.prefix_refl _
    · refine (ih (by omega)).trans ?_
      cases hp : p m
      · rw [lst_no _ _ hp]; exact List.prefix_refl _
      · rw [lst_yes _ _ hp]; exact List.prefix_append _ _

/-- A round keeps the block in which the iterator has its set. -/
def KB (Bn : Nat) (W W' : World) : Prop := W'.heap[Bn]? = W.heap[Bn]?
theorem KB.t {Bn : Nat} {A B C : World} (h : KB Bn A B) (k : KB Bn B C) : KB Bn A C := Eq.trans k h
theorem KB.b {Bn : Nat} {w : World} (hn : Bn < w.heap.size) (W : World) (l : Nat) (o o' : Obj) (hl : w.heap.size ≤ l) (h : W.heap[l]? = some o) (_ : o.isCells = false) (_ : o.isWalk = false) : KB Bn W (W.putObj l o') := World.putObj_heap_other (by omega)
theorem KB.below {Bn n₀ : Nat} {W W' : World} (h : Below n₀ W W') (hB : Bn < n₀) : KB Bn W W' := h.block Bn hB
theorem KB.set {Bn : Nat} (W : World) (a : Addr) (v : Value) (hB : Bn ≠ a.block) : KB Bn W (W.setCell a v) := Below.heap_setCell W a v Bn hB

set_option maxHeartbeats 1000000 in
theorem all1_in (n : Nat) (hn : 1 ≤ n) (l Bn a b : Nat) (ha : a < 4294967296) (hb : b < 4294967296) (J Jx : List Int → World → Prop)
    (hY : ∀ pre (x : Int) W, J pre W → 0 ≤ x → x < 64 → pre.length < 64 → YieldAt Fence.wide (n - 1) Tryd.prog l #[.int .i64 x] W fun e W' =>
      (e = .returned (.bool true) ∧ J (pre ++ [x]) W' ∧ KB Bn W W') ∨ (e = .returned (.bool false) ∧ Jx (pre ++ [x]) W'))
    (W : World) (hS : Sb W Bn a b) (hJ : AbidesFrom W.heap.size J) (h0 : J [] W) :
    CallsIn Fence.wide n Tryd.prog 43 #[.func (.yield l) #[] #[], .pointer (some ⟨Bn, 0, none⟩)] W fun e W' => (∃ v, e = .returned v) ∧
      ((∃ ys, ys = L a b ∧ J ys W') ∨ (∃ pre, pre <+: L a b ∧ Jx pre W')) := by
  refine callsIn_of_wp Tryd.func43 rfl trivial ?_ rfl
  simp only [Tryd.ntmps43, List.size_toArray, List.length_cons, List.length_nil, Nat.reduceAdd, Nat.reduceSub, Array.replicate_succ, Array.replicate_zero, List.push_toArray, List.append_toArray, List.nil_append, List.cons_append]
  gi_wp2
  gi_loopw [4] (fun i wr => ∃ k : Nat, k ≤ 64 ∧ i = .int .i64 k ∧ J (lst (hasN a b) k) wr ∧ Sb wr Bn a b) (fun i _ => 64 - (intOf i).toNat)
  case atStart => exact ⟨0, by omega, rfl, h0, hS⟩
  case round =>
    obtain ⟨k, hk, rfl, hj, hs⟩ := hrel
    by_cases hlt : k < 64
    · obtain ⟨c0, c1⟩ := hs.cells
      have hlen := lst_len (hasN a b) k
      gi_wp2_with fail
      refine ⟨trivial, (callsIn_wide.2 (has_yes a b k wr ha hb (by omega) (by omega))).mono ?_⟩
      rintro e W1 ⟨he, b1⟩
      rw [show ((k : Nat) : Int).toNat = k by omega] at he
      have hj1 := hJ _ _ _ none hj (grown_of_below b1 none) (fun r e => by cases e)
      have hs1 := hs.below b1 hs.lt
      clear hj hs b1 c0 c1
      cases hp : hasN a b k
      · rw [hp] at he
        subst he
        gi_wp2
        refine ⟨fun _ h => (by cases h), ?_⟩
        gi_wp2
        go_roundw
        case rel => exact ⟨k + 1, by omega, by go_num, by rw [lst_no _ _ hp]; exact hj1, hs1⟩
        case measure => simp [intOf]; omega
      · rw [hp] at he
        subst he
        obtain ⟨fn, tmps, assign, body, hy, hR⟩ := hY _ (k : Int) W1 hj1 (by omega) (by omega) (by omega)
        gi_wp2
        refine hR.mono ?_
        rintro e W3 (⟨rfl, hJ3, hk3⟩ | ⟨rfl, hJx3⟩)
        · gi_wp2
          go_roundw
          case rel => exact ⟨k + 1, by omega, by go_num, by rw [lst_yes _ _ hp]; exact hJ3, Eq.trans hk3 hs1⟩
          case measure => simp [intOf]; omega
        · gi_wp2
          refine bodyPost_ret (results_none rfl _ _ _) rfl ?_
          refine ⟨⟨_, rfl⟩, .inr ⟨_, ?_, hJx3⟩⟩
          rw [← lst_yes _ _ hp]
          exact lst_prefix _ _ _ (by omega)
    · obtain rfl : k = 64 := by omega
      gi_wp2
      go_end0
      exact ⟨⟨_, rfl⟩, .inl ⟨_, rfl, hj⟩⟩
end Go.Proofs.YtljfnfaljadjdaaDoor
