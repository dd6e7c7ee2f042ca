/- The iterator over the rows that have items. -/
import Derived.RangeFuncNested
import Derived.RangeFuncBound
import Derived.RangeFuncCalls
import Derived.RangeFuncLeaves
import Derived.Test.YtncfggcbdliepaaE
namespace Go.Proofs.Ytncfggcbdliepaa
open Go.RowKit Go.Shelf
attribute [local go_sem] Oper.semAt_some
set_option linter.unusedSimpArgs false
set_option linter.unusedVariables false
set_option maxRecDepth 100000

/-- The numbers below k that p holds of. -/
def lst (p : Nat → Bool) (k : Nat) : List Nat := (List.range k).filter p
theorem lst_no (p : Nat → Bool) (k : Nat) (h : p k = false) : lst p (k + 1) = lst p k := by simp [lst, List.range_succ, List.filter_append, h]
theorem lst_yes (p : Nat → Bool) (k : Nat) (h : p k = true) : lst p (k + 1) = lst p k ++ [k] := by simp [lst, List.range_succ, List.filter_append, h]
theorem lst_len (p : Nat → Bool) (k : Nat) : (lst p k).length ≤ k := by unfold lst; exact Nat.le_trans (List.length_filter_le _ _) (by simp)
theorem lst_prefix (p : Nat → Bool) (k m : Nat) (h : k ≤ m) : lst p k <+: lst p m := by
  induction m with
  | zero => obtain rfl : k = 0 := by omega
            exact List.prefix_refl _
  | succ m ih =>
    by_cases e : k = m + 1
    · subst e; exact List.prefix_refl _
    · refine (ih (by omega)).trans ?_
      cases hp : p m
      · rw [lst_no _ _ hp]; exact List.prefix_refl _
      · rw [lst_yes _ _ hp]; exact List.prefix_append _ _

/-- What the iterator reads. -/
structure Src (W : World) (Bn g lb mb m : Nat) (vs : List Value) : Prop where
  b : Boxed W Bn 24 (.pointer (some ⟨g, 0, none⟩))
  q : W.heap[g]? = some (.cells #[.slice (some ⟨lb, 0, none⟩) m m, .map (some mb)] 65 (0, 0))
  l : W.heap[lb]? = some (.cells vs.toArray 32 (0, 0))
/-- A round keeps it. -/
def KQ (Bn g lb : Nat) (W W' : World) : Prop := W'.heap[Bn]? = W.heap[Bn]? ∧ W'.heap[g]? = W.heap[g]? ∧ W'.heap[lb]? = W.heap[lb]?
theorem KQ.t {Bn g lb : Nat} {A B C : World} (h : KQ Bn g lb A B) (k : KQ Bn g lb B C) : KQ Bn g lb A C := ⟨k.1.trans h.1, k.2.1.trans h.2.1, k.2.2.trans h.2.2⟩
theorem KQ.b {Bn g lb : Nat} {w : World} (h1 : Bn < w.heap.size) (h2 : g < w.heap.size) (h3 : lb < w.heap.size) (W : World) (l : Nat) (o o' : Obj) (hl : w.heap.size ≤ l) (h : W.heap[l]? = some o) (_ : o.isCells = false) (_ : o.isWalk = false) : KQ Bn g lb W (W.putObj l o') :=
  ⟨World.putObj_heap_other (by omega), World.putObj_heap_other (by omega), World.putObj_heap_other (by omega)⟩
theorem KQ.below {Bn g lb n₀ : Nat} {W W' : World} (h : Below n₀ W W') (h1 : Bn < n₀) (h2 : g < n₀) (h3 : lb < n₀) : KQ Bn g lb W W' := ⟨h.block _ h1, h.block _ h2, h.block _ h3⟩
theorem Src.kept {W W' : World} {Bn g lb mb m : Nat} {vs : List Value} (h : Src W Bn g lb mb m vs) (k : KQ Bn g lb W W') : Src W' Bn g lb mb m vs := ⟨k.1.trans h.b, k.2.1.trans h.q, k.2.2.trans h.l⟩
theorem Src.lt {W : World} {Bn g lb mb m : Nat} {vs : List Value} (h : Src W Bn g lb mb m vs) : Bn < W.heap.size ∧ g < W.heap.size ∧ lb < W.heap.size := ⟨lt_of_block h.b, lt_of_block h.q, lt_of_block h.l⟩

set_option maxHeartbeats 2000000 in
theorem iter_in (n : Nat) (hn : 1 ≤ n) (l Bn g lb mb m : Nat) (vs : List Value) (nr : Nat → Nat) (hm : m ≤ 8) (hvs : vs.length = m) (hf : ∀ p v, vs[p]? = some v → ∃ A c, v = .slice A (nr p) c ∧ nr p ≤ 100000) (J Jx : List Nat → World → Prop)
    (hY : ∀ pre (x : Nat) W, J pre W → pre.length < 8 → YieldAt Fence.wide (n - 1) Try.prog l #[.int .i64 (x : Int), vs.getD x (.slice none 0 0)] W fun e W' =>
      (e = .returned (.bool true) ∧ J (pre ++ [x]) W' ∧ KQ Bn g lb W W') ∨ (e = .returned (.bool false) ∧ Jx (pre ++ [x]) W'))
    (W : World) (hS : Src W Bn g lb mb m vs) (hJ : AbidesFrom W.heap.size J) (h0 : J [] W) :
    CallsIn Fence.wide n Try.prog 36 #[.func (.yield l) #[] #[], .pointer (some ⟨Bn, 0, none⟩)] W fun e W' => (∃ v, e = .returned v) ∧
      ((∃ ys, ys = lst (fun p => decide (0 < nr p)) m ∧ J ys W') ∨ (∃ pre, pre <+: lst (fun p => decide (0 < nr p)) m ∧ Jx pre W')) := by
  have cb := hS.b.cell
  obtain ⟨cq, -⟩ := cell_of hS.q 0
  simp at cq
  have MA := Lib.hid (many_cell g lb m W cq)
  clear cq
  refine callsIn_of_wp Try.func36 rfl trivial ?_ rfl
  simp only [Try.ntmps36, List.size_toArray, List.length_cons, List.length_nil, Nat.reduceAdd, Nat.reduceSub, Array.replicate_succ, Array.replicate_zero, List.push_toArray, List.append_toArray, List.nil_append, List.cons_append]
  gi_wp2_with fail
  refine ⟨trivial, (callsIn_wide.2 MA.out).mono ?_⟩
  rintro e W1 ⟨rfl, rfl⟩
  clear MA cb
  gi_wp2_with fail
  gi_loopw [6] (fun i wr => ∃ k : Nat, k ≤ m ∧ i = .int .i64 k ∧ J (lst (fun p => decide (0 < nr p)) k) wr ∧ Src wr Bn g lb mb m vs) (fun i _ => m - (intOf i).toNat)
  case atStart => exact ⟨0, by omega, rfl, h0, hS⟩
  case round =>
    obtain ⟨k, hk, rfl, hj, hs⟩ := hrel
    by_cases hlt : k < m
    · have hkv : k < vs.length := by omega
      have cb := hs.b.cell
      obtain ⟨cq, -⟩ := cell_of hs.q 0
      obtain ⟨cl, -⟩ := cell_of hs.l k
      simp at cq
      obtain ⟨A, c, hv, hnr⟩ := hf k _ (List.getElem?_eq_getElem hkv)
      have hgd : vs.getD k (.slice none 0 0) = .slice A (nr k) c := by rw [← hv]; simp [List.getD, hkv]
      have cl2 : wr.cell? ⟨lb, k, none⟩ = some (.slice A (nr k) c) := by rw [cl, ← hv]; simp [hkv]
      have hlen := lst_len (fun p => decide (0 < nr p)) k
      clear cl hv
      by_cases hp : 0 < nr k
      · obtain ⟨fn, tmps, assign, body, hy, hR⟩ := hY _ k wr hj (by omega)
        rw [hgd] at hy
        have hst := lst_yes (fun p => decide (0 < nr p)) k (by simpa using hp)
        have HST := Lib.hid hst
        clear hst hgd
        generalize nr k = nk at *
        gi_wp2_with fail
        refine hR.mono ?_
        rintro e W3 (⟨rfl, hJ3, hk3⟩ | ⟨rfl, hJx3⟩)
        · gi_wp2_with fail
          go_roundw
          case rel => exact ⟨k + 1, by omega, by go_num, by rw [HST.out]; exact hJ3, hs.kept hk3⟩
          case measure => simp [intOf]; omega
        · gi_wp2_with fail
          refine bodyPost_ret (results_none rfl _ _ _) rfl ?_
          refine ⟨⟨_, rfl⟩, .inr ⟨_, ?_, hJx3⟩⟩
          rw [← HST.out]
          exact lst_prefix _ _ _ (by omega)
      · have hst := lst_no (fun p => decide (0 < nr p)) k (by simpa using hp)
        have HST := Lib.hid hst
        have h00 : nr k = 0 := by omega
        rw [h00] at cl2
        clear hst hgd hp hnr h00
        gi_wp2_with fail
        refine ⟨fun _ h => (by cases h), ?_⟩
        gi_wp2_with fail
        go_roundw
        case rel => exact ⟨k + 1, by omega, by go_num, by rw [HST.out]; exact hj, hs⟩
        case measure => simp [intOf]; omega
    · obtain rfl : k = m := by omega
      gi_wp2_with fail
      go_end0
      exact ⟨⟨_, rfl⟩, .inl ⟨_, rfl, hj⟩⟩
end Go.Proofs.Ytncfggcbdliepaa
