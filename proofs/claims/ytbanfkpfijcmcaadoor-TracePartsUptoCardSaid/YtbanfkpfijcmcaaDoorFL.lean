/- The iterator bits. -/
import Derived.Test.YtbanfkpfijcmcaaDoorShelf
import Derived.Test.YtbanfkpfijcmcaaDoorFF
import Derived.RangeFuncNested
import Derived.RangeFuncBound
import Derived.RangeFuncCalls
import Derived.RangeFuncLeaves
import Derived.RangeFuncFrom
import Derived.Shelf.Abstract
import Derived.Shelf.RegionOpen
import Derived.OwnWalkIn
import Derived.TacticsInMore
import Derived.LoopNIn
import Derived.LoopIn
import Derived.WalkMore
import Derived.Maps.AppendAt
namespace Go.Proofs.YtbanfkpfijcmcaaDoor.Fl
open Go.RowKit Go.Shelf
attribute [local go_sem] Oper.semAt_some
set_option linter.unusedSimpArgs false
set_option linter.unusedVariables false
set_option maxRecDepth 100000

theorem lt_of_block {w : World} {g : Nat} {o : Obj} (h : w.heap[g]? = some o) : g < w.heap.size := (Array.getElem?_eq_some_iff.1 h).1
theorem grown_refl (w : World) (r : Option Nat) : w.grownBy w r := ⟨rfl, rfl, rfl, Nat.le_refl _, fun _ _ _ => rfl⟩
theorem grown_of_below {a w : World} (h : Below a.heap.size a w) (row : Option Nat) : a.grownBy w row := ⟨h.os, h.tape, h.output, h.size, fun i hi _ => h.block i hi⟩
theorem below_append {B base : Nat} {a w w' : World} {o : Obj} {e : TypeId} {s : Nat} {v : Value} {n : Nat} {xs : List Value} (h : Below B a w) (hown : w.ownsRow base e s v n xs) (hg : (w.alloc o).grownBy w' v.ownBlock) (hB : B ≤ base) (hs : base ≤ w.heap.size) : Below B a w' := by
  have h1 : Below B a (w.alloc o) := h.alloc (by omega) o
  refine h1.grown hg (by simp; omega) (fun k e => ?_)
  have := (hown.lt k e).1
  omega
theorem wpIn_scope_wide {n : Nat} {P : Program} {Q : Exit → Act → World → Prop} {a : Act} {w : World} {c : Code} (h : c.wpIn Fence.wide n P (Exit.noGoto Q) a w) : (Code.scope c).wpIn Fence.wide n P Q a w := wpIn_wide.2 (wp_scope_straight (wpIn_wide.1 h))
theorem Boxed.ow {A B : World} {row : Option Nat} {g : Nat} {t : TypeId} {v : Value} (h : Boxed A g t v) (hg : A.grownBy B row) (hr : ∀ r, row = some r → ∃ o : Obj, A.heap[r]? = some o ∧ o.isCells = false) : Boxed B g t v :=
  Go.Boxed.kept h hg (fun e => by obtain ⟨o, ho, hc⟩ := hr g e.symm; rw [show A.heap[g]? = _ from h] at ho; cases ho; cases hc)
theorem Boxed.low {W W1 : World} {g B : Nat} {t : TypeId} {v : Value} (h : Boxed W g t v) (hb : Below B W W1) (hg : g < B) : Boxed W1 g t v := (hb.block g hg).trans h

theorem Wd.same {w w' : World} (h : Wd w) (e : w'.heap[1]? = w.heap[1]?) : Wd w' := fun i hi => by
  have := h i hi
  unfold World.cell? at this ⊢
  simp only at this ⊢
  rw [e]; exact this
theorem Wd.lt {w : World} (h : Wd w) : 1 < w.heap.size := (cell_lt (h 0 (by decide))).1

/-- What a round keeps: the table of words, and the iterator's two boxes. -/
def KT (Bt Bm : Nat) (W W' : World) : Prop := W'.heap[1]? = W.heap[1]? ∧ W'.heap[Bt]? = W.heap[Bt]? ∧ W'.heap[Bm]? = W.heap[Bm]?
theorem KT.t {Bt Bm : Nat} {A B C : World} (h : KT Bt Bm A B) (k : KT Bt Bm B C) : KT Bt Bm A C := ⟨k.1.trans h.1, k.2.1.trans h.2.1, k.2.2.trans h.2.2⟩
theorem KT.b {Bt Bm : Nat} {w : World} (h0 : 1 < w.heap.size) (h1 : Bt < w.heap.size) (h2 : Bm < w.heap.size) (W : World) (l : Nat) (o o' : Obj) (hl : w.heap.size ≤ l) (h : W.heap[l]? = some o) (_ : o.isCells = false) (_ : o.isWalk = false) : KT Bt Bm W (W.putObj l o') :=
  ⟨World.putObj_heap_other (by omega), World.putObj_heap_other (by omega), World.putObj_heap_other (by omega)⟩
theorem KT.below {Bt Bm n₀ : Nat} {W W' : World} (h : Below n₀ W W') (h0 : 1 < n₀) (h1 : Bt < n₀) (h2 : Bm < n₀) : KT Bt Bm W W' := ⟨h.block _ h0, h.block _ h1, h.block _ h2⟩
theorem KT.set {Bt Bm g : Nat} (W : World) (v : Value) (h0 : 1 ≠ g) (h1 : Bt ≠ g) (h2 : Bm ≠ g) : KT Bt Bm W (W.setCell ⟨g, 0, none⟩ v) := ⟨Below.heap_setCell _ _ _ _ h0, Below.heap_setCell _ _ _ _ h1, Below.heap_setCell _ _ _ _ h2⟩

/-- How many words a table has. -/
def nT (T : Nat) : Nat := if T = 0 then 6 else 4
/-- The bits of a mask that come, below k. -/
def wb (m : Nat) (k : Nat) : List (Fin 6) := (List.finRange 6).filter (fun i => decide (i.val < k) && m.testBit i.val)
theorem wb_zero (m : Nat) : wb m 0 = [] := by unfold wb; simp
theorem wb_step : ∀ m : Fin 64, ∀ k : Fin 6, wb m.val (k.val + 1) = if m.val.testBit k.val then wb m.val k.val ++ [k] else wb m.val k.val := by decide +kernel
theorem wb_len (m k : Nat) : (wb m k).length ≤ 6 := by
  unfold wb
  exact Nat.le_trans (List.length_filter_le _ _) (by simp)
theorem bit_eq : ∀ m : Fin 64, ∀ k : Fin 6, (bits .and .i64 ((m.val : Int) / 2 ^ k.val) 1 == 1) = m.val.testBit k.val := by decide +kernel
theorem many_any (T : Nat) (w : World) (h : Wd w) (hT : T < 2) : Calls Tryd.prog 56 #[.int .i64 (T : Int)] w fun e w' => e = .returned (.int .i64 (nT T : Nat)) ∧ w = w' := by
  rcases (show T = 0 ∨ T = 1 by omega) with rfl | rfl
  · exact many0 w h
  · exact many1 w h
theorem wb_pre (m k : Nat) (hm : m < 64) (hk : k ≤ 6) (j : Nat) (hj : j ≤ k) : wb m j <+: wb m k := by
  induction k with
  | zero => obtain rfl : j = 0 := by omega
            exact List.prefix_refl _
  | succ k ih =>
    by_cases e : j = k + 1
    · subst e; exact List.prefix_refl _
    · refine (ih (by omega) (by omega)).trans ?_
      have := wb_step ⟨m, hm⟩ ⟨k, by omega⟩
      simp only at this
      rw [this]
      split
      · exact List.prefix_append _ _
      · exact List.prefix_refl _

theorem wb_short (m k : Nat) (hm : m < 64) (hk : k < 6) : (wb m k).length < 6 := by
  have H : ∀ m : Fin 64, ∀ k : Fin 6, (wb m.val k.val).length < 6 := by decide +kernel
  exact H ⟨m, hm⟩ ⟨k, hk⟩

set_option maxHeartbeats 2000000 in
theorem bits1_in (n : Nat) (hn : 1 ≤ n) (l Bt Bm T m : Nat) (hT : T < 2) (hm : m < 64) (J Jx : List (Fin 6) → World → Prop)
    (hY : ∀ pre (x : Fin 6) W, J pre W → pre.length < 6 → YieldAt Fence.wide (n - 1) Tryd.prog l #[.string (wl.getD (T * 6 + x.val) ByteArray.empty)] W fun e W' =>
      (e = .returned (.bool true) ∧ J (pre ++ [x]) W' ∧ KT Bt Bm W W') ∨ (e = .returned (.bool false) ∧ Jx (pre ++ [x]) W'))
    (W : World) (hW : Wd W) (hBt : Boxed W Bt 3 (.int .i64 (T : Int))) (hBm : Boxed W Bm 3 (.int .i64 (m : Int))) (hJ : AbidesFrom W.heap.size J) (h0 : J [] W) :
    CallsIn Fence.wide n Tryd.prog 76 #[.func (.yield l) #[] #[], .pointer (some ⟨Bt, 0, none⟩), .pointer (some ⟨Bm, 0, none⟩)] W fun e W' => (∃ v, e = .returned v) ∧
      ((∃ ys, ys = wb m (nT T) ∧ J ys W') ∨ (∃ pre, pre <+: wb m (nT T) ∧ Jx pre W')) := by
  have hN : nT T ≤ 6 := by unfold nT; split <;> omega
  have kt := hBt.cell
  have HM := Lib.hid (many_any T W hW hT)
  refine callsIn_of_wp Tryd.func76 rfl trivial ?_ rfl
  simp only [Tryd.ntmps76, List.size_toArray, List.length_cons, List.length_nil, Nat.reduceAdd, Nat.reduceSub, Array.replicate_succ, Array.replicate_zero, List.push_toArray, List.append_toArray, List.nil_append, List.cons_append]
  gi_wp2_with fail
  refine wpIn_scope_wide ?_
  gi_wp2_with fail
  refine wpIn_label ?_
  gi_wp2_with fail
  refine ⟨trivial, (callsIn_wide.2 HM.out).mono ?_⟩
  rintro e W1 ⟨rfl, rfl⟩
  clear kt HM
  gi_wp2_with fail
  gi_loopw [7] (fun i wr => ∃ k : Nat, k ≤ nT T ∧ i = .int .i64 k ∧ J (wb m k) wr ∧ Wd wr ∧ Boxed wr Bt 3 (.int .i64 (T : Int)) ∧ Boxed wr Bm 3 (.int .i64 (m : Int))) (fun i _ => nT T - (intOf i).toNat)
  case atStart => exact ⟨0, by omega, rfl, by rw [wb_zero]; exact h0, hW, hBt, hBm⟩
  case round =>
    obtain ⟨k, hk, rfl, hj, hw, bt, bm⟩ := hrel
    by_cases hlt : k < nT T
    · have hk6 : k < 6 := by omega
      have kt := bt.cell
      have km := bm.cell
      have hbit := bit_eq ⟨m, hm⟩ ⟨k, hk6⟩
      have hst := wb_step ⟨m, hm⟩ ⟨k, hk6⟩
      simp only at hbit hst
      have hcell := hw (T * 6 + k) (by omega)
      have hlen : (wb m k).length < 6 := wb_short m k hm hk6
      have HST := Lib.hid hst
      clear hst
      cases hp : m.testBit k
      · rw [hp] at hbit HST
        gi_wp2_with fail
        refine ⟨fun _ h => (by cases h), ?_⟩
        gi_wp2_with fail
        go_roundw
        case rel => exact ⟨k + 1, by omega, by go_num, by rw [HST.out]; exact hj, hw, bt, bm⟩
        case measure => simp [intOf]; omega
      · rw [hp] at hbit HST
        obtain ⟨fn, tmps, assign, body, hy, hR⟩ := hY _ ⟨k, hk6⟩ wr hj hlen
        dsimp only at hy
        generalize wl.getD (T * 6 + k) ByteArray.empty = X at *
        gi_wp2_with fail
        refine hR.mono ?_
        rintro e W3 (⟨rfl, hJ3, hk3⟩ | ⟨rfl, hJx3⟩)
        · gi_wp2_with fail
          go_roundw
          case rel => exact ⟨k + 1, by omega, by go_num, by rw [HST.out]; exact hJ3, hw.same hk3.1, hk3.2.1.trans bt, hk3.2.2.trans bm⟩
          case measure => simp [intOf]; omega
        · gi_wp2_with fail
          rw [Exit.noGoto_normal]
          go_end0
          refine ⟨⟨_, rfl⟩, .inr ⟨_, ?_, hJx3⟩⟩
          have := wb_pre m (nT T) hm hN (k + 1) (by omega)
          rw [HST.out] at this
          exact this
    · obtain rfl : k = nT T := by omega
      gi_wp2_with fail
      rw [Exit.noGoto_normal]
      go_end0
      exact ⟨⟨_, rfl⟩, .inl ⟨_, rfl, hj⟩⟩
end Go.Proofs.YtbanfkpfijcmcaaDoor.Fl
