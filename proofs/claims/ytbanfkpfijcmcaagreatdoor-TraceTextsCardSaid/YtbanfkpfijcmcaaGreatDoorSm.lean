/- A range over an iterator that keeps state of its own in cells, whose body may leave: the caller's law. No program in sight. -/
/- The iterators over a text's lines. -/
/- The iterator over a text's lines (trace's own). -/
import Derived.RangeFuncNested
import Derived.RangeFuncBound
import Derived.RangeFuncCalls
import Derived.RangeFuncLeaves
import Derived.Test.YtbanfkpfijcmcaaGreatDoorRs
import Derived.Shelf.Abstract
import Derived.Shelf.RegionOpen
import Derived.OwnWalkIn
import Derived.TacticsInMore
import Derived.LoopNIn
import Derived.LoopIn

namespace Go.Proofs.YtbanfkpfijcmcaaGreatDoor
open Go.RowKit
set_option linter.unusedVariables false

/-- J abides new blocks, and such turns of a block as S lets. -/
def AbidS {β : Type} (S : World → World → Nat → Prop) (J : β → World → Prop) : Prop :=
  ∀ s A B row, J s A → A.grownBy B row → (∀ r, row = some r → S A B r) → J s B

/-- The contract of an iterator that hands over the elements of L, or a beginning of them if a round says so. (V: the world in which it begins; S V: which turns of blocks it makes; Kp V: what a round keeps.) -/
def SeqSc {α : Type} (F : Fence) (n : Nat) (P : Program) (g : Nat) (lb : Array Value) (encs : α → Array Value) (S : World → World → World → Nat → Prop) (Kp : World → World → World → Prop) (L : List α) (w : World) : Prop :=
  ∀ (l : Nat) (J Jx : List α → World → Prop) (V : World), Below w.heap.size w V → AbidS (S V) J → AbidS (S V) Jx →
    (∀ pre x A, J pre A → pre ++ [x] <+: L → YieldAt F (n - 1) P l (encs x) A fun e B => (e = .returned (.bool true) ∧ J (pre ++ [x]) B ∧ Kp V A B) ∨ (e = .returned (.bool false) ∧ Jx (pre ++ [x]) B ∧ Kp V A B)) →
    J [] V →
    CallsIn F n P g (#[.func (.yield l) #[] #[]] ++ lb) V fun e W' => (∃ v, e = .returned v) ∧ (J L W' ∨ ∃ pre, pre <+: L ∧ Jx pre W')

/-- The turns that the caller's invariant has to abide. -/
def OwnT (S : World → World → World → Nat → Prop) (n₀ : Nat) (V A B : World) (r : Nat) : Prop := S V A B r ∨ (n₀ ≤ r ∧ r < n₀ + 2 ∧ ∃ o : Obj, A.heap[r]? = some o ∧ o.isCells = false)

theorem AbidS.put {β : Type} {S : World → World → World → Nat → Prop} {n₀ : Nat} {V : World} {I : β → World → Prop} (h : AbidS (OwnT S n₀ V) I) {s : β} {A : World} {l : Nat} {o : Obj} (o' : Obj) (hs : I s A) (hB : n₀ ≤ l) (hB2 : l < n₀ + 2) (hl : A.heap[l]? = some o) (ho : o.isCells = false) : I s (A.putObj l o') :=
  h s A _ (some l) hs (grownBy_putObj' A l o') (fun r e => by cases e; exact .inr ⟨hB, hB2, o, hl, ho⟩)
theorem AbidS.new {β : Type} {S : World → World → Nat → Prop} {I : β → World → Prop} (h : AbidS S I) {s : β} {A : World} (o : Obj) (hs : I s A) : I s (A.alloc o) :=
  h s A _ none hs (World.grownBy_alloc A o none) (fun r e => by cases e)

/-- How a round ends. -/
def endSc {α : Type} (n₀ : Nat) (Kp : World → World → Prop) (I : List α → World → Prop) (Ix : Code → List α → World → Prop) (xs : List α) (W : World) : Exit → Act → World → Prop
  | .normal, _, W' => KeepsFrom n₀ W W' ∧ Kp W W' ∧ I xs W'
  | .ret, _, W' => KeepsFrom n₀ W W' ∧ Kp W W' ∧ Ix .ret xs W'
  | .exit id, _, W' => KeepsFrom n₀ W W' ∧ Kp W W' ∧ Ix (.exit id) xs W'
  | _, _, _ => False

variable {F : Fence} {n : Nat} {P : Program}

theorem wpIn_range_sc {α : Type} {g : Operand} {ps : Array Tmp} {assign body : Code} {Q : Exit → Act → World → Prop} {a : Act} {w : World}
    (hro : F.round = none) (h1 : 1 ≤ n) {gf : Nat} {lb : Array Value} (hg : a.eval g = .func (.func gf) #[] lb) (hFg : F.fn gf) (eg : ∀ args w, (callFunc gf args).run P w = .ok (.enter gf args) w)
    {encs : α → Array Value} {S : World → World → World → Nat → Prop} {Kp : World → World → World → Prop} {L : List α}
    (hS : ∀ V A B r o, V.heap.size = w.heap.size + 2 → S V A B r → A.heap[r]? = some o → o.isCells = false → V.heap.size ≤ r) (hseq : SeqSc F (n - 1) P gf lb encs S Kp L w)
    (hKt : ∀ {V A B C : World}, Kp V A B → Kp V B C → Kp V A C) (hKb : ∀ (V W : World) (l : Nat) (o o' : Obj), V.heap.size = w.heap.size + 2 → w.heap.size ≤ l → l < w.heap.size + 2 → W.heap[l]? = some o → o.isCells = false → Kp V W (W.putObj l o')) (hps : ∀ x, (encs x).size = ps.size)
    (I : List α → World → Prop) (Ix : Code → List α → World → Prop)
    (hI : ∀ V, V.heap.size = w.heap.size + 2 → AbidS (OwnT S w.heap.size V) I) (hIx : ∀ c V, V.heap.size = w.heap.size + 2 → AbidS (OwnT S w.heap.size V) (Ix c)) (hI0 : ∀ s o, I s w → I s (w.alloc o)) (hI1 : ∀ s o o', I s (w.alloc o) → I s ((w.alloc o).alloc o')) (h0 : I [] w) (a₁ : α → Act)
    (hassign : ∀ (l : Nat) (x : α) (W : World) (K : Act → World → Prop), K (a₁ x) W →
      assign.wpIn (F.inRound l) (n - 1 - 1) P (Exit.then K (fun _ _ _ => False)) { tmps := (ps.zip (encs x)).foldl (fun t (p, v) => t.setIfInBounds p v) a.tmps, defers := [] } W)
    (hbody : ∀ (V : World), V.heap.size = w.heap.size + 2 → ∀ (l : Nat) (pre : List α) (x : α) (W : World), I pre W → pre ++ [x] <+: L → body.wpIn (F.inRound l) (n - 1 - 1) P (endSc w.heap.size (Kp V) I Ix (pre ++ [x]) W) (a₁ x) W)
    (hdone : ∀ (D : Nat) (W : World), w.heap.size ≤ D → I L W → W.heap[D]? = some (.deferred (some [])) → Q .normal { a with defers := { target := .collected D, args := #[] } :: a.defers } W)
    (hstop : ∀ (D : Nat) (c : Code) (pre : List α) (W : World), w.heap.size ≤ D → pre <+: L → Ix c pre W → W.heap[D]? = some (.deferred (some [])) → c.wpIn F n P Q { a with defers := { target := .collected D, args := #[] } :: a.defers } W) :
    (Code.rangeFunc g ps assign body).wpIn F n P Q a w := by
  refine wpIn_rangeFunc fun fn hfn => ?_
  rw [hro]
  obtain ⟨rc, hrc⟩ : ∃ rc : LoopState → Option Code → Loop, rc = fun st pe => { state := st, pending := pe, fn, tmps := a.tmps, params := ps, assign, body, defers := w.heap.size } := ⟨_, rfl⟩
  obtain ⟨V, hV⟩ : ∃ V, (w.alloc (.deferred (some []))).alloc (.loop (rc .ready none)) = V := ⟨_, rfl⟩
  have vL : V.heap[w.heap.size + 1]? = some (.loop (rc .ready none)) := by
    rw [← hV]; have := World.alloc_heap_new (w.alloc (.deferred (some []))) (.loop (rc .ready none)); rwa [World.size_alloc] at this
  have vD : V.heap[w.heap.size]? = some (.deferred (some [])) := by
    rw [← hV]; exact (Below.heap_alloc _ _ _ (by simp)).trans (World.alloc_heap_new w _)
  have vS : V.heap.size = w.heap.size + 2 := by rw [← hV, World.size_alloc, World.size_alloc]
  have vI : I [] V := by rw [← hV]; exact hI1 _ _ _ (hI0 _ _ h0)
  have vB : Below w.heap.size w V := by rw [← hV]; exact ((Below.refl _ w).alloc (Nat.le_refl _) _).alloc (by simp) _
  have hI' := hI V vS
  have hIx' := fun c => hIx c V vS
  have keep : ∀ {A B : World} {row : Option Nat} {k : Nat} {o : Obj}, A.grownBy B row → (∀ r, row = some r → S V A B r) → A.heap[k]? = some o → o.isCells = false → k < V.heap.size → B.heap[k]? = some o := by
    intro A B row k o hg' hr hk ho hlt
    refine (hg'.block k (Array.getElem?_eq_some_iff.1 hk).1 (fun e => ?_)).trans hk
    have := hS V A B k o vS (hr k e.symm) hk ho
    omega
  refine ⟨w.heap.size + 1, [{ target := .collected w.heap.size, args := #[] }], V, { target := .fn (.func gf) lb, args := #[.func (.yield (w.heap.size + 1)) #[] #[]] }, V, gf,
    #[.func (.yield (w.heap.size + 1)) #[] #[]] ++ lb, V, ?_, ?_, ?_, ?_, fun _ => h1, ?_⟩
  · rw [← hV, hrc]; exact run_enterLoop_outer _ _ _ _ _
  · simp only [resolve, hg]
    simp [go_sem]
  · intro f' hf'; simp [Target.leads] at hf'; subst hf'; exact hFg
  · simp [invoke, go_sem, eg]
  · refine (hseq (w.heap.size + 1)
      (fun pre A => I pre A ∧ A.heap[w.heap.size + 1]? = some (.loop (rc .ready none)) ∧ A.heap[w.heap.size]? = some (.deferred (some [])))
      (fun pre A => ∃ c, Ix c pre A ∧ A.heap[w.heap.size + 1]? = some (.loop (rc .done (some c))) ∧ A.heap[w.heap.size]? = some (.deferred (some []))) V vB
      (fun s A B row hs hg' hr => ⟨hI' s A B row hs.1 hg' (fun r e => .inl (hr r e)), keep hg' hr hs.2.1 rfl (by omega), keep hg' hr hs.2.2 rfl (by omega)⟩)
      (fun s A B row hs hg' hr => by
        obtain ⟨c, hc, hl, hk⟩ := hs
        exact ⟨c, hIx' c s A B row hc hg' (fun r e => .inl (hr r e)), keep hg' hr hl rfl (by omega), keep hg' hr hk rfl (by omega)⟩)
      ?_ ⟨vI, vL, vD⟩).mono ?_
    · rintro pre x W ⟨hi, hl, hk⟩ hpx
      have hlt : w.heap.size + 1 < W.heap.size := (Array.getElem?_eq_some_iff.1 hl).1
      have hy := run_yield (P := P) (args := encs x) hl (by rw [hrc]; exact hps x)
      rw [hrc] at hy
      refine ⟨fn, _, assign, body, hy, roundIn_of_wpIn hfn (hassign _ x W _ ⟨_, run_beginRound hl (by rw [hrc]), ?_⟩)⟩
      have hl2 : (W.putObj (w.heap.size + 1) (.loop { rc .ready none with state := .busy })).heap[w.heap.size + 1]? = some (.loop { rc .ready none with state := .busy }) := World.putObj_heap_same hlt
      have hk2 : (W.putObj (w.heap.size + 1) (.loop { rc .ready none with state := .busy })).heap[w.heap.size]? = some (.deferred (some [])) := (World.putObj_heap_other (by omega)).trans hk
      have hw2 : Kp V W (W.putObj (w.heap.size + 1) (.loop { rc .ready none with state := .busy })) := hKb _ _ _ _ _ vS (by omega) (by omega) hl rfl
      refine wpIn_mono (hbody V vS _ pre x _ (hI'.put _ hi (by omega) (by omega) hl rfl) hpx) ?_
      have fin : ∀ (jump : Option Code) (W3 : World), KeepsFrom w.heap.size (W.putObj (w.heap.size + 1) (.loop { rc .ready none with state := .busy })) W3 →
          (Instr.endRound (w.heap.size + 1) jump).run P W3 = .ok (.bool jump.isNone) (W3.putObj (w.heap.size + 1) (.loop (rc (if jump.isNone then .ready else .done) jump))) ∧
          W3.heap[w.heap.size + 1]? = some (.loop { rc .ready none with state := .busy }) ∧
          (W3.putObj (w.heap.size + 1) (.loop (rc (if jump.isNone then .ready else .done) jump))).heap[w.heap.size + 1]? = some (.loop (rc (if jump.isNone then .ready else .done) jump)) ∧
          (W3.putObj (w.heap.size + 1) (.loop (rc (if jump.isNone then .ready else .done) jump))).heap[w.heap.size]? = some (.deferred (some [])) := fun jump W3 hk3 => by
        have hl3 := hk3.same _ _ (by omega) hl2 rfl
        have := run_endRound (P := P) jump hl3
        rw [hrc] at this ⊢
        exact ⟨this, by rw [hrc] at hl3; exact hl3, World.putObj_heap_same (Array.getElem?_eq_some_iff.1 hl3).1, (World.putObj_heap_other (by omega)).trans (hk3.same _ _ (Nat.le_refl _) hk2 rfl)⟩
      rintro e a3 W3 hp
      cases e with
      | normal =>
        obtain ⟨hk3, hkp3, hi3⟩ := hp
        obtain ⟨hr, hl3, hl4, hk4⟩ := fin none W3 hk3
        exact ⟨_, _, hr, .inl ⟨rfl, ⟨hI'.put _ hi3 (by omega) (by omega) hl3 rfl, hl4, hk4⟩, hKt (hKt hw2 hkp3) (hKb _ _ _ _ _ vS (by omega) (by omega) hl3 rfl)⟩⟩
      | ret =>
        obtain ⟨hk3, hkp3, hi3⟩ := hp
        obtain ⟨hr, hl3, hl4, hk4⟩ := fin (some .ret) W3 hk3
        exact ⟨_, _, hr, .inr ⟨rfl, ⟨.ret, (hIx' _).put _ hi3 (by omega) (by omega) hl3 rfl, hl4, hk4⟩, hKt (hKt hw2 hkp3) (hKb _ _ _ _ _ vS (by omega) (by omega) hl3 rfl)⟩⟩
      | exit id =>
        obtain ⟨hk3, hkp3, hi3⟩ := hp
        obtain ⟨hr, hl3, hl4, hk4⟩ := fin (some (.exit id)) W3 hk3
        exact ⟨_, _, hr, .inr ⟨rfl, ⟨.exit id, (hIx' _).put _ hi3 (by omega) (by omega) hl3 rfl, hl4, hk4⟩, hKt (hKt hw2 hkp3) (hKb _ _ _ _ _ vS (by omega) (by omega) hl3 rfl)⟩⟩
      | goto t => exact hp.elim
      | panic ch => exact hp.elim
      | outgrown => exact hp.elim
    · rintro e W2 ⟨⟨v, rfl⟩, (⟨hi, hl, hk⟩ | ⟨pre, hpre, c, hi, hl, hk⟩)⟩
      · exact ⟨none, _, by have := run_endLoop (P := P) hl (by rw [hrc]; simp); rw [hrc] at this; exact this, hdone _ _ (Nat.le_refl _) (hI'.put _ hi (by omega) (by omega) hl rfl) ((World.putObj_heap_other (by omega)).trans hk)⟩
      · exact ⟨some c, _, by have := run_endLoop (P := P) hl (by rw [hrc]; simp); rw [hrc] at this; exact this, hstop _ c pre _ (Nat.le_refl _) hpre ((hIx' c).put _ hi (by omega) (by omega) hl rfl) ((World.putObj_heap_other (by omega)).trans hk)⟩
end Go.Proofs.YtbanfkpfijcmcaaGreatDoor

namespace Go.Proofs.YtbanfkpfijcmcaaGreatDoor
open Go.RowKit Go.Shelf
attribute [local go_sem] Oper.semAt_some
set_option linter.unusedSimpArgs false
set_option linter.unusedVariables false
set_option maxRecDepth 100000

/-- The block holds a string. -/
def StrC (A : World) (b : Nat) : Prop := ∃ v, Boxed A b 9 v
/-- What turns the library's iterator makes: of the block in which it has what is left. -/
def S0 (B : Nat) (V X Y : World) (r : Nat) : Prop := r = B ∧ StrC X B ∧ StrC Y B
def K0 (B : Nat) (V X Y : World) : Prop := Y.heap[B]? = X.heap[B]?

theorem grown_dr {w w' : World} {row : Option Nat} (h : w.grownBy w' row) : w.grownBy w'.drew row := ⟨h.os, h.tape, h.output, h.size, h.block⟩
set_option maxHeartbeats 4000000 in
theorem lines1_in (n : Nat) (hn : 1 ≤ n) (l Bs : Nat) (s0 : ByteArray) (hs0 : s0.size ≤ 1099511627776) (V : World) (J Jx : List ByteArray → World → Prop)
    (hJ : AbidS (S0 Bs V) J)
    (hY : ∀ pre x A, J pre A → pre ++ [x] <+: rawS s0 → YieldAt Fence.wide (n - 1) Tryz.prog l #[.string x] A fun e B => (e = .returned (.bool true) ∧ J (pre ++ [x]) B ∧ K0 Bs V A B) ∨ (e = .returned (.bool false) ∧ Jx (pre ++ [x]) B ∧ K0 Bs V A B))
    (W : World) (hS : Boxed W Bs 9 (.string s0)) (h0 : J [] W) :
    CallsIn Fence.wide n Tryz.prog 72 #[.func (.yield l) #[] #[], .pointer (some ⟨Bs, 0, none⟩)] W fun e W' => (∃ v, e = .returned v) ∧ (J (rawS s0) W' ∨ ∃ pre, pre <+: rawS s0 ∧ Jx pre W') := by
  refine callsIn_of_wp Tryz.func72 rfl trivial ?_ rfl
  simp only [Tryz.ntmps72, List.size_toArray, List.length_cons, List.length_nil, Nat.reduceAdd, Nat.reduceSub, Array.replicate_succ, Array.replicate_zero, List.push_toArray, List.append_toArray, List.nil_append, List.cons_append]
  gi_wp2_with fail
  gi_loopw [] (fun wr => ∃ (pre : List ByteArray) (s : ByteArray), s.size ≤ 1099511627776 ∧ rawS s0 = pre ++ rawS s ∧ J pre wr ∧ Boxed wr Bs 9 (.string s)) (fun wr => match wr.cell? ⟨Bs, 0, none⟩ with | some (.string s) => s.size | _ => 0)
  case atStart => exact ⟨[], s0, hs0, rfl, h0, hS⟩
  case round =>
    obtain ⟨pre, s, hsz, hraw, hj, hb⟩ := hrel
    have c0 := hb.cell
    have f0 := hb.frozen
    by_cases hz : s.size = 0
    · have hraw' : rawS s0 = pre := by rw [hraw, rawS_nil hz, List.append_nil]
      have hz' : ((s.size : Nat) : Int) = 0 := by omega
      clear hraw
      gi_wp2_with fail
      go_end0
      exact ⟨⟨_, rfl⟩, .inl (by rw [hraw']; exact hj)⟩
    · have hpos : (0 : Int) < ((s.size : Nat) : Int) := by omega
      have raw := rawS_cons hz
      have hA : J pre (wr.setCell ⟨Bs, 0, none⟩ (.string (restS s))) := hJ _ _ _ (some Bs) hj (grownBy_setCell' wr Bs _) (fun r e => by cases e; exact ⟨rfl, ⟨_, hb⟩, ⟨_, hb.set _⟩⟩)
      have hpx : pre ++ [frontS s] <+: rawS s0 := by rw [hraw, raw]; exact ⟨rawS (restS s), by simp⟩
      have hraw' : rawS s0 = (pre ++ [frontS s]) ++ rawS (restS s) := by rw [hraw, raw]; simp
      have hlt := rest_lt hz
      have HB := Lib.hid (hb.set (.string (restS s)))
      have HY := Lib.hid (hY pre (frontS s) _ hA hpx)
      have hA2 : J pre (wr.setCell ⟨Bs, 0, none⟩ (.string (restS s))).drew := hJ _ _ _ (some Bs) hj (grown_dr (grownBy_setCell' wr Bs _)) (fun r e => by cases e; exact ⟨rfl, ⟨_, hb⟩, ⟨_, hb.set _⟩⟩)
      have HYD := Lib.hid (hY pre (frontS s) _ hA2 hpx)
      have HIB : Hid (∀ W, Calls Tryz.prog 73 #[.string s, .int .u8 10] W fun e w' => e = .returned (.int .i64 (Lib.indexByte s.data.toList 10)) ∧ W = w') := Lib.hid fun W => (Tryz.strings_IndexByte s 10 W).mono fun e w' ⟨h1, h2⟩ => ⟨by rw [h1]; rfl, h2.symm⟩
      have HRAW := Lib.hid hraw'
      clear raw hpx hraw hraw' hA hA2 hb hY
      by_cases hi : Lib.indexByte s.data.toList 10 < 0
      · have e1 : frontS s = s := by unfold frontS; rw [if_pos hi]
        have e2 : restS s = ⟨#[]⟩ := by unfold restS; rw [if_pos hi]
        rw [e1, e2] at HY HRAW
        rw [e2] at HB hlt
        clear e1 e2 HYD
        generalize Lib.indexByte s.data.toList 10 = i at *
        gi_wp2_with fail
        refine ⟨trivial, (callsIn_wide.2 (HIB.out _)).mono ?_⟩
        rintro e w' ⟨rfl, rfl⟩
        obtain ⟨fn, tmps, assign, body, hy, hR⟩ := HY.out
        gi_wp2_with fail
        refine hR.mono ?_
        rintro e W3 (⟨rfl, hJ3, hk3⟩ | ⟨rfl, hJx3, -⟩)
        · have hb3 : Boxed W3 Bs 9 (.string ⟨#[]⟩) := hk3.trans HB.out
          have HB3 := Lib.hid hb3
          have c3 := hb3.cell
          clear hk3 hb3 hR
          gi_wp2_with fail
          go_roundw
          case rel => exact ⟨_, _, Nat.le_trans (Nat.le_of_lt hlt) hsz, HRAW.out, hJ3, HB3.out⟩
          case measure => simp only [c3, c0]; exact hlt
        · gi_wp2_with fail
          refine bodyPost_ret (results_none rfl _ _ _) rfl ?_
          exact ⟨⟨_, rfl⟩, .inr ⟨_, ⟨_, HRAW.out.symm⟩, hJx3⟩⟩
      · have hi2 := Lib.indexByte_ge s.data.toList 10
        have e1 : frontS s = s.extract 0 ((Lib.indexByte s.data.toList 10).toNat + 1) := by unfold frontS; rw [if_neg hi]
        have e2 : restS s = s.extract ((Lib.indexByte s.data.toList 10).toNat + 1) s.size := by unfold restS; rw [if_neg hi]
        rw [e1, e2] at HYD HRAW
        rw [e2] at HB hlt
        clear e1 e2 HY
        obtain ⟨i, hix⟩ : ∃ i, Lib.indexByte s.data.toList 10 = i := ⟨_, rfl⟩
        have HIX := Lib.hid hix
        rw [hix] at HIB HYD HRAW HB hlt hi hi2
        clear hix
        obtain ⟨k, rfl⟩ : ∃ k : Nat, i = (k : Int) := ⟨i.toNat, by omega⟩
        simp only [Int.toNat_natCast] at HYD HRAW HB hlt
        have hks : k < s.size := by
          have := (Lib.indexByte_some HIX.out).1
          have := (List.getElem?_eq_some_iff.1 this).1
          rw [sz_data] at this
          exact this
        clear HIX
        clear hi2 hi
        have hw1 : IntKind.i64.wrap ((k : Int) + 1) = (k : Int) + 1 := IntWalk.i64_in _ (by omega)
        have ht1 : ((k : Int) + 1).toNat = k + 1 := by omega
        gi_wp2_with fail
        refine ⟨trivial, (callsIn_wide.2 (HIB.out _)).mono ?_⟩
        rintro e w' ⟨rfl, rfl⟩
        gi_wp2_with fail
        gi_region
        obtain ⟨fn, tmps, assign, body, hy, hR⟩ := HYD.out
        gi_wp2_with fail
        refine hR.mono ?_
        rintro e W3 (⟨rfl, hJ3, hk3⟩ | ⟨rfl, hJx3, -⟩)
        · have hb3 : Boxed W3 Bs 9 (.string (s.extract (k + 1) s.size)) := hk3.trans HB.out
          have HB3 := Lib.hid hb3
          have c3 := hb3.cell
          clear hk3 hb3 hR
          gi_wp2_with fail
          go_roundw
          case rel => exact ⟨_, _, Nat.le_trans (Nat.le_of_lt hlt) hsz, HRAW.out, hJ3, HB3.out⟩
          case measure => simp only [c3, c0]; exact hlt
        · gi_wp2_with fail
          refine bodyPost_ret (results_none rfl _ _ _) rfl ?_
          exact ⟨⟨_, rfl⟩, .inr ⟨_, ⟨_, HRAW.out.symm⟩, hJx3⟩⟩

end Go.Proofs.YtbanfkpfijcmcaaGreatDoor

namespace Go.Proofs.YtbanfkpfijcmcaaGreatDoor
open Go.RowKit Go.Shelf
attribute [local go_sem] Oper.semAt_some
set_option linter.unusedSimpArgs false
set_option linter.unusedVariables false
set_option maxRecDepth 100000

theorem Lines_any (s : ByteArray) (w : World) : Calls Tryz.prog 50 #[.string s] w fun e w' => e = .returned (.func (.func 72) #[] #[.pointer (some ⟨w.heap.size, 0, none⟩)]) ∧ w' = w.alloc (.cells #[.string s] 9) := by
  go_enter Tryz.func50, Tryz.ntmps50
  go_wp2
  go_ret
  exact ⟨rfl, rfl⟩
theorem lines_any (s : ByteArray) (w : World) : Calls Tryz.prog 33 #[.string s] w fun e w' => e = .returned (.func (.func 49) #[] #[.pointer (some ⟨w.heap.size, 0, none⟩)]) ∧ w' = w.alloc (.cells #[.string s] 9) := by
  go_enter Tryz.func33, Tryz.ntmps33
  go_wp2
  go_ret
  exact ⟨rfl, rfl⟩
theorem lines1_seq (n : Nat) (hn : 1 ≤ n) (Bs : Nat) (s0 : ByteArray) (hs0 : s0.size ≤ 1099511627776) (w : World) (hB : Boxed w Bs 9 (.string s0)) :
    SeqSc Fence.wide n Tryz.prog 72 #[.pointer (some ⟨Bs, 0, none⟩)] (fun x => #[.string x]) (S0 Bs) (K0 Bs) (rawS s0) w :=
  fun l J Jx V hV hJ _ hY h0 => lines1_in n hn l Bs s0 hs0 V J Jx hJ hY V ((hV.block _ hB.lt).trans hB) h0
theorem rest_size (s : ByteArray) : (restS s).size ≤ s.size := by
  by_cases h : s.size = 0
  · unfold restS
    split
    · exact Nat.zero_le _
    · rw [ByteArray.size_extract]; omega
  · exact Nat.le_of_lt (rest_lt h)
theorem rawK_size : ∀ (k : Nat) (s x : ByteArray), x ∈ rawK k s → x.size ≤ s.size
  | 0, s, x, h => by cases h
  | k + 1, s, x, h => by
    have e1 : rawK (k + 1) s = if s.size = 0 then [] else frontS s :: rawK k (restS s) := rfl
    rw [e1] at h
    by_cases hz : s.size = 0
    · rw [if_pos hz] at h; cases h
    · rw [if_neg hz] at h
      rcases List.mem_cons.1 h with rfl | h
      · exact front_size s
      · exact Nat.le_trans (rawK_size k _ x h) (rest_size s)
theorem rawS_size {s x : ByteArray} (h : x ∈ rawS s) : x.size ≤ s.size := rawK_size _ _ _ h
theorem round_deep {l : Nat} {n m : Nat} {P : Program} {l' : Nat} {f : FuncId} {tmps : Array Value} {assign body : Code} {w : World} {R : Ending → World → Prop} (h : RoundIn Fence.wide n P l' f tmps assign body w R) : RoundIn (Fence.wide.inRound l) m P l' f tmps assign body w R :=
  ⟨h.1, fun c cs _ => h.2 c cs (fun d hd => by cases hd)⟩
/-- What turns the iterator over lines makes: of blocks that it has made, of strings or of none's. -/
def S1 (V X Y : World) (r : Nat) : Prop := V.heap.size ≤ r ∧ ((StrC X r ∧ StrC Y r) ∨ ∃ o : Obj, X.heap[r]? = some o ∧ o.isCells = false)
/-- What a round keeps: what is no cells, and cells of strings and of functions, behind the world in which the iterator begins. -/
structure K1 (V X Y : World) : Prop where
  size : X.heap.size ≤ Y.heap.size
  same : ∀ b o, V.heap.size ≤ b → X.heap[b]? = some o → (o.isCells = false ∨ ∃ v t, (t = 9 ∨ t = 82) ∧ o = .cells #[v] t (0, 0)) → Y.heap[b]? = some o
theorem K1.trans {V X Y Z : World} (h : K1 V X Y) (k : K1 V Y Z) : K1 V X Z := ⟨Nat.le_trans h.size k.size, fun b o hb ho hc => k.same b o hb (h.same b o hb ho hc) hc⟩
theorem AbidS.putS {β : Type} {V : World} {J : β → World → Prop} (h : AbidS (S1 V) J) {s : β} {A : World} {l : Nat} {o : Obj} (o' : Obj) (hs : J s A) (hB : V.heap.size ≤ l) (hl : A.heap[l]? = some o) (ho : o.isCells = false) : J s (A.putObj l o') :=
  h s A _ (some l) hs (grownBy_putObj' A l o') (fun r e => by cases e; exact ⟨hB, .inr ⟨o, hl, ho⟩⟩)
/-- What lines$1 holds between two rounds. -/
structure L1 (V : World) (l : Nat) (J : List ByteArray → World → Prop) (pre : List ByteArray) (A : World) : Prop where
  j : J pre A
  y : Boxed A V.heap.size 82 (.func (.yield l) #[] #[])
  s : StrC A (V.heap.size + 1)
theorem L1.abid {V V1 : World} {l : Nat} {J : List ByteArray → World → Prop} (hJ : AbidS (S1 V) J) : AbidS (OwnT (S0 (V.heap.size + 1)) (V.heap.size + 2) V1) (L1 V l J) := by
  intro s A B row h hg hr
  have hy := h.y.lt
  obtain ⟨v, hv⟩ := h.s
  refine ⟨hJ s A B row h.j hg (fun r e => ?_), (hg.block _ hy (fun e => ?_)).trans h.y, ?_⟩
  · rcases hr r e with ⟨rfl, h1, h2⟩ | ⟨h1, h2, h3⟩
    · exact ⟨by omega, .inl ⟨h1, h2⟩⟩
    · exact ⟨by omega, .inr h3⟩
  · rcases hr _ e.symm with ⟨h1, _, _⟩ | ⟨h1, _, _⟩ <;> omega
  · by_cases e : row = some (V.heap.size + 1)
    · rcases hr _ e with ⟨_, _, h2⟩ | ⟨h1, _, _⟩
      · exact h2
      · omega
    · exact ⟨v, (hg.block _ hv.lt (fun e2 => e e2.symm)).trans hv⟩

set_option maxHeartbeats 4000000 in
theorem linesT_in (n : Nat) (hn : 3 ≤ n) (l Bt : Nat) (s0 : ByteArray) (hs0 : s0.size ≤ 1099511627776) (W : World) (J Jx : List ByteArray → World → Prop) (hJ : AbidS (S1 W) J) (hJx : AbidS (S1 W) Jx)
    (hY : ∀ pre x A, J pre A → pre ++ [x] <+: rawS s0 → YieldAt Fence.wide (n - 1) Tryz.prog l #[.string (cutS x), .bool (cutB x)] A fun e B => (e = .returned (.bool true) ∧ J (pre ++ [x]) B ∧ K1 W A B) ∨ (e = .returned (.bool false) ∧ Jx (pre ++ [x]) B ∧ K1 W A B))
    (hS : Boxed W Bt 9 (.string s0)) (h0 : J [] W) :
    CallsIn Fence.wide n Tryz.prog 49 #[.func (.yield l) #[] #[], .pointer (some ⟨Bt, 0, none⟩)] W fun e W' => (∃ v, e = .returned v) ∧ (J (rawS s0) W' ∨ ∃ pre, pre <+: rawS s0 ∧ Jx pre W') := by
  have h1 : 1 ≤ n := by omega
  have h2 : 1 ≤ n - 1 - 1 := by omega
  have hc : (W.alloc (.cells #[.func (.yield l) #[] #[]] 82)).cell? ⟨Bt, 0, none⟩ = some (.string s0) := (hS.alloc _).cell
  have hf : (W.alloc (.cells #[.func (.yield l) #[] #[]] 82)).frozen? ⟨Bt, 0, none⟩ = false := (hS.alloc _).frozen
  have HY := Lib.hid hY
  have HS := Lib.hid hS
  clear hY hS
  refine callsIn_of_wp_marks Tryz.func49 rfl trivial ?_ rfl
  simp only [Tryz.ntmps49, List.size_toArray, List.length_cons, List.length_nil, Nat.reduceAdd, Nat.reduceSub, Array.replicate_succ, Array.replicate_zero, List.push_toArray, List.append_toArray, List.nil_append, List.cons_append]
  gi_wp2_with fail
  refine ⟨trivial, (callsIn_wide.2 (Lines_any _ _)).mono ?_⟩
  rintro e w' ⟨rfl, rfl⟩
  gi_wp2_with fail
  obtain ⟨W0, hW0⟩ : ∃ W0, W0 = (W.alloc (.cells #[.func (.yield l) #[] #[]] 82)).alloc (.cells #[.string s0] 9) := ⟨_, rfl⟩
  have z0 : W0.heap.size = W.heap.size + 2 := by rw [hW0]; simp
  have y0 : Boxed W0 W.heap.size 82 (.func (.yield l) #[] #[]) := by rw [hW0]; exact (Boxed.new W 82 _).alloc _
  have t0 : Boxed W0 (W.heap.size + 1) 9 (.string s0) := by rw [hW0]; have := Boxed.new (W.alloc (.cells #[.func (.yield l) #[] #[]] 82)) 9 (.string s0); rwa [World.size_alloc] at this
  have j0 : J [] W0 := by
    rw [hW0]
    exact AbidS.new hJ _ (AbidS.new hJ _ h0)
  rw [← hW0]
  clear hW0 hc hf h0
  refine wpIn_range_sc rfl h1 (gf := 72) (lb := #[.pointer (some ⟨W.heap.size + 1, 0, none⟩)]) rfl trivial (enters_of Tryz.func72 (by kernel_rfl) rfl) (encs := fun x => #[.string x]) (S := S0 (W.heap.size + 1)) (Kp := K0 (W.heap.size + 1)) (L := rawS s0)
    (fun V A B r o hV h1 h2 h3 => by
      obtain ⟨rfl, ⟨v, hv⟩, _⟩ := h1
      unfold Boxed at hv
      rw [hv] at h2; cases h2; cases h3)
    (lines1_seq (n - 1) (by omega) (W.heap.size + 1) s0 hs0 W0 t0) (fun h k => k.trans h) (fun V A l' o o' hV hl _ _ _ => World.putObj_heap_other (by omega)) (fun _ => rfl)
    (fun pre A => L1 W l J pre A) (fun c pre A => c = .ret ∧ Jx pre A)
    (fun V hV => by rw [z0]; exact L1.abid hJ) ?hIx (fun s o h => ⟨AbidS.new hJ o h.j, h.y.alloc _, h.s.imp fun v hv => hv.alloc _⟩) (fun s o o' h => ⟨AbidS.new hJ o' h.j, h.y.alloc _, h.s.imp fun v hv => hv.alloc _⟩) ⟨j0, y0, _, t0⟩
    (fun x => { tmps := #[.func (.yield l) #[] #[], .pointer (some ⟨Bt, 0, none⟩), .pointer (some ⟨W.heap.size, 0, none⟩), .string x, undef, undef, .string s0, .func (.func 72) #[] #[.pointer (some ⟨W.heap.size + 1, 0, none⟩)], .string x, undef, undef, undef, undef, undef, undef, undef, undef, undef, undef], defers := [] })
    ?assign ?body ?done ?stop
  case hIx =>
    intro c V hV s A B row hs hg hr
    refine ⟨hs.1, hJx s A B row hs.2 hg (fun r e => ?_)⟩
    rcases hr r e with ⟨rfl, h1, h2⟩ | ⟨h1, h2, h3⟩
    · exact ⟨by omega, .inl ⟨h1, h2⟩⟩
    · exact ⟨by omega, .inr h3⟩
  case assign =>
    intro l x W K hK
    gi_wp2_with fail
    exact hK
  case body =>
    intro V hV l' pre x A hI hpx
    have k1 := hI.y.cell
    have HI := Lib.hid hI
    have hx9 : x ∈ rawS s0 := hpx.subset (by simp)
    have hxs := rawS_size hx9
    have HC : Hid (∀ A, Calls Tryz.prog 51 #[.string x, .string ⟨#[10]⟩] A fun e w' => e = .returned (.tuple #[.string (cutS x), .bool (cutB x)]) ∧ A = w') := Lib.hid (fun A => (Tryz.strings_CutSuffix x ⟨#[10]⟩ A (by omega)).mono fun e w' ⟨a, b⟩ => ⟨a, b.symm⟩)
    have HY1 := Lib.hid (HY.out pre x A hI.j hpx)
    clear hxs hx9 hI
    generalize cutS x = cx at *
    generalize cutB x = cb at *
    gi_wp2_with fail
    refine ⟨trivial, (((callsIn_wide (n := n - 1 - 1 - 1)).2 (HC.out A)).inRound l').mono ?_⟩
    rintro e w' ⟨rfl, rfl⟩
    obtain ⟨fn, tmps, assign, bd, hy, hR⟩ := HY1.out
    gi_wp2_with fail
    refine (round_deep hR).mono ?_
    rintro e B (⟨rfl, hJ3, hk3⟩ | ⟨rfl, hJx3, hk3⟩)
    · have HJ := Lib.hid hJ3
      have HK := Lib.hid hk3
      clear hJ3 hk3 hR hy
      gi_wp2_with fail
      obtain ⟨v, hv⟩ := HI.out.s
      have e1 := HK.out.same _ _ (Nat.le_succ _) hv (.inr ⟨v, 9, .inl rfl, rfl⟩)
      refine ⟨?_, e1.trans hv.symm, HJ.out, HK.out.same _ _ (Nat.le_refl _) HI.out.y (.inr ⟨_, 82, .inr rfl, rfl⟩), v, e1⟩
      exact ⟨HK.out.size, fun b o hb ho hc => HK.out.same b o (by omega) ho (.inl hc)⟩
    · have HJ := Lib.hid hJx3
      have HK := Lib.hid hk3
      clear hJx3 hk3 hR hy
      gi_wp2_with fail
      obtain ⟨v, hv⟩ := HI.out.s
      have e1 := HK.out.same _ _ (Nat.le_succ _) hv (.inr ⟨v, 9, .inl rfl, rfl⟩)
      refine ⟨?_, e1.trans hv.symm, rfl, HJ.out⟩
      exact ⟨HK.out.size, fun b o hb ho hc => HK.out.same b o (by omega) ho (.inl hc)⟩
  case done =>
    intro D A hD hI hK
    gi_wp2_with fail
    refine ⟨by simp, .inl ⟨_, _, rfl, run_takeDeferred hK, ?_⟩⟩
    refine ⟨_, results_none rfl _ _ _, ⟨_, rfl⟩, .inl (hJ.putS _ hI.j (by omega) hK rfl)⟩
  case stop =>
    rintro D c pre A hD hpre ⟨rfl, hx⟩ hK
    gi_wp2_with fail
    refine ⟨by simp, .inl ⟨_, _, rfl, run_takeDeferred hK, ?_⟩⟩
    refine ⟨_, results_none rfl _ _ _, ⟨_, rfl⟩, .inr ⟨pre, hpre, hJx.putS _ hx (by omega) hK rfl⟩⟩
end Go.Proofs.YtbanfkpfijcmcaaGreatDoor
