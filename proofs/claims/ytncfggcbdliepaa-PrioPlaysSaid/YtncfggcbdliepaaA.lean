/- The queues in memory; Many, is. -/
import Derived.Test.YtncfggcbdliepaaRow
import Derived.Test.YtncfggcbdliepaaM
import Derived.Maps.OwnSet
import Derived.StillTailTactics
import Derived.Laws.Rows
import Derived.RangeFuncFrom
import Derived.RangeFuncWrites
import Derived.Shelf.Abstract
import Derived.Shelf.RegionOpen
import Derived.OwnWalkIn
import Derived.TacticsInMore
import Derived.LoopNIn
import Derived.LoopIn
import Derived.WalkMore
import Derived.Laws.AppendOwnNone
import Derived.Deep.DeepCutAuto
import Derived.Deep.CutBlock
namespace Go.Proofs.Ytncfggcbdliepaa
open Go.RowKit
open Go.Maps (Keyed)
set_option linter.unusedSimpArgs false
set_option linter.unusedVariables false
set_option maxRecDepth 100000

theorem info35 : (Try.prog.info? 35).map (fun i => (i.zero, i.size, i.bytes)) = some (some (.agg #[.int .i64 0, .int .i64 0, .int .i64 0]), 3, 24) := by kernel_rfl
theorem key3 : Keyed Try.prog 3 := Go.Maps.int_keyed Try.underlying3
theorem zero3 (w : World) : (zeroValue 3).run Try.prog w = .ok (.int .i64 0) w := by kernel_rfl

/-- An item's cells. -/
def enc (t : It) : List Value := [.int .i64 t.id, .int .i64 t.fl, .int .i64 t.ct]
def flat (l : List It) : List Value := l.flatMap enc
theorem flat_len (l : List It) : (flat l).length = l.length * 3 := by
  induction l with
  | nil => rfl
  | cons a r ih => simp only [flat, List.flatMap_cons, List.length_append, List.length_cons] at ih ⊢; rw [ih]; simp [enc]; omega
theorem flat_append (l m : List It) : flat (l ++ m) = flat l ++ flat m := List.flatMap_append ..
theorem flat_get (l : List It) (k j : Nat) (hj : j < 3) (t : It) (h : l[k]? = some t) : (flat l)[k * 3 + j]? = (enc t)[j]? := by
  induction l generalizing k with
  | nil => simp at h
  | cons a r ih =>
    have e : flat (a :: r) = enc a ++ flat r := rfl
    rw [e]
    cases k with
    | zero =>
      simp at h; subst h
      rw [Nat.zero_mul, Nat.zero_add, List.getElem?_append_left (by simp [enc]; omega)]
    | succ k =>
      rw [List.getElem?_append_right (by simp [enc]; omega)]
      have : (k + 1) * 3 + j - (enc a).length = k * 3 + j := by simp [enc]; omega
      rw [this]
      exact ih k (by simpa using h)

/-- The queues' blocks. -/
def Foot (g lb mb : Nat) (vs : List Value) (b : Nat) : Prop := b = g ∨ b = lb ∨ b = mb ∨ ∃ v ∈ vs, v.ownBlock = some b

/-- Queues in block g: the rows' slices vs in block lb, the map in block mb. -/
structure Qb (w : World) (g lb mb N : Nat) (D : DataW Unit) (vs : List Value) (m : Nat) (L : List It) : Prop where
  q : w.heap[g]? = some (.cells #[.slice (some ⟨lb, 0, none⟩) m m, .map (some mb)] 65 (0, 0))
  l : w.heap[lb]? = some (.cells vs.toArray 32 (0, 0))
  vl : vs.length = m
  r : ∀ (p : Nat) (v : Value), vs[p]? = some v → w.ownsRow 0 35 3 v (row L p).length (flat (row L p))
  mp : w.ownsMap Try.prog 3 (plainElem Try.prog 3) mb N D
  hd : ∀ x, (Lit.int .i64 x).wf = true → Maps.has D (.int .i64 x) = (look L x).isSome
  ad : ∀ x t, look L x = some t → D.atKey (.int .i64 x) (.lit (.int .i64 0)) = .lit (.int .i64 t.pr)
  ap : lb ≠ g ∧ mb ≠ g ∧ lb ≠ mb
  ar : ∀ (p : Nat) (v : Value) (b : Nat), vs[p]? = some v → v.ownBlock = some b → b ≠ g ∧ b ≠ lb ∧ b ≠ mb
  aa : ∀ (p p' : Nat) (v v' : Value) (b : Nat), vs[p]? = some v → vs[p']? = some v' → v.ownBlock = some b → v'.ownBlock = some b → p = p'
  ok : Ok m L
  ln : L.length ≤ N
  m8 : 1 ≤ m ∧ m ≤ 8

theorem Qb.foot_lt {w : World} {g lb mb N : Nat} {D : DataW Unit} {vs : List Value} {m : Nat} {L : List It} (h : Qb w g lb mb N D vs m L) {b : Nat} (hb : Foot g lb mb vs b) : b < w.heap.size := by
  rcases hb with rfl | rfl | rfl | ⟨v, hv, e⟩
  · exact lt_of_block h.q
  · exact lt_of_block h.l
  · exact h.mp.lt
  · obtain ⟨p, hp, rfl⟩ := List.getElem_of_mem hv
    exact ((h.r p _ (List.getElem?_eq_getElem hp)).lt _ e).2

theorem row_same {w w' : World} {base : Nat} {e : TypeId} {s : Nat} {v : Value} {n : Nat} {xs : List Value} (h : w.ownsRow base e s v n xs) (hk : ∀ b, v.ownBlock = some b → w'.heap[b]? = w.heap[b]?) : w'.ownsRow base e s v n xs := by
  refine ⟨h.1, ?_⟩
  rcases h.2 with h0 | ⟨g, cap, cur, rfl, hb, hg, h1⟩
  · exact .inl h0
  · exact .inr ⟨g, cap, cur, rfl, hb, (hk g rfl).trans hg, h1⟩
theorem map_same {w w' : World} {k : TypeId} {R : Value → Option (DataW Unit × List MemPlace)} {b n : Nat} {D : DataW Unit} (h : w.ownsMap Try.prog k R b n D) (hk : w'.heap[b]? = w.heap[b]?) : w'.ownsMap Try.prog k R b n D := by
  obtain ⟨es, clock, hb, r⟩ := h
  exact ⟨es, clock, hk.trans hb, r⟩
theorem Qb.keep {w w' : World} {g lb mb N : Nat} {D : DataW Unit} {vs : List Value} {m : Nat} {L : List It} (h : Qb w g lb mb N D vs m L) (hk : ∀ b, Foot g lb mb vs b → w'.heap[b]? = w.heap[b]?) : Qb w' g lb mb N D vs m L :=
  ⟨(hk _ (.inl rfl)).trans h.q, (hk _ (.inr (.inl rfl))).trans h.l, h.vl, fun p v hv => row_same (h.r p v hv) (fun b e => hk b (.inr (.inr (.inr ⟨v, List.mem_of_getElem? hv, e⟩)))), map_same h.mp (hk _ (.inr (.inr (.inl rfl)))), h.hd, h.ad, h.ap, h.ar, h.aa, h.ok, h.ln, h.m8⟩
theorem Qb.cells {w : World} {g lb mb N : Nat} {D : DataW Unit} {vs : List Value} {m : Nat} {L : List It} (h : Qb w g lb mb N D vs m L) :
    w.cell? ⟨g, 0, none⟩ = some (.slice (some ⟨lb, 0, none⟩) m m) ∧ w.cell? ⟨g, 1, none⟩ = some (.map (some mb)) := by
  have k := h.q
  simp [World.cell?, k]
theorem Qb.cell {w : World} {g lb mb N : Nat} {D : DataW Unit} {vs : List Value} {m : Nat} {L : List It} (h : Qb w g lb mb N D vs m L) (p : Nat) (hp : p < m) :
    ∃ v, vs[p]? = some v ∧ w.cell? ⟨lb, p, none⟩ = some v ∧ w.frozen? ⟨lb, p, none⟩ = false ∧ w.ownsRow 0 35 3 v (row L p).length (flat (row L p)) := by
  have k := h.l
  have hp' : p < vs.length := by rw [h.vl]; exact hp
  refine ⟨vs[p], List.getElem?_eq_getElem hp', ?_, ?_, h.r p _ (List.getElem?_eq_getElem hp')⟩
  · simp [World.cell?, k, hp']
  · simp [World.frozen?, k]

theorem below_drewN {B : Nat} {a w : World} (h : Below B a w) (n : Nat) : Below B a (w.drewN n) := ⟨h.os, h.tape, h.output, h.size, h.block⟩

/-- w' is w but for blocks of S, and new ones. -/
structure Fr (S : Nat → Prop) (w w' : World) : Prop where
  os : w'.os = w.os
  tape : w'.tape = w.tape
  output : w'.output = w.output
  size : w.heap.size ≤ w'.heap.size
  block : ∀ b, b < w.heap.size → ¬ S b → w'.heap[b]? = w.heap[b]?
theorem Fr.refl (S : Nat → Prop) (w : World) : Fr S w w := ⟨rfl, rfl, rfl, Nat.le_refl _, fun _ _ _ => rfl⟩
theorem Fr.of_below {S : Nat → Prop} {w w' : World} (h : Below w.heap.size w w') : Fr S w w' := ⟨h.os, h.tape, h.output, h.size, fun b hb _ => h.block b hb⟩
theorem Fr.of_grown {S : Nat → Prop} {w w' : World} {r : Option Nat} (h : w.grownBy w' r) (hr : ∀ b, r = some b → S b) : Fr S w w' := ⟨h.os, h.tape, h.output, h.size, fun b hb hn => h.block b hb (fun e => hn (hr b e.symm))⟩
theorem Fr.trans {S S' : Nat → Prop} {a b c : World} (h : Fr S a b) (hs : ∀ x, S' x → S x ∨ a.heap.size ≤ x) (k : Fr S' b c) : Fr S a c :=
  ⟨k.os.trans h.os, k.tape.trans h.tape, k.output.trans h.output, Nat.le_trans h.size k.size, fun x hx hn => (k.block x (Nat.lt_of_lt_of_le hx h.size) (fun hS => by rcases hs x hS with h1 | h1; exact hn h1; omega)).trans (h.block x hx hn)⟩
theorem Fr.below {S : Nat → Prop} {B : Nat} {w w' : World} (h : Fr S w w') (hs : ∀ b, S b → B ≤ b) (hB : B ≤ w.heap.size) : Below B w w' :=
  ⟨h.os, h.tape, h.output, h.size, fun b hb => h.block b (by omega) (fun e => by have := hs b e; omega)⟩
theorem Fr.drewn {S : Nat → Prop} {w w' : World} (h : Fr S w w') : Fr S w w'.drew := ⟨h.os, h.tape, h.output, h.size, h.block⟩
theorem Fr.undrew {S : Nat → Prop} {w w' : World} (h : Fr S w.drew w') : Fr S w w' := ⟨h.os, h.tape, h.output, h.size, h.block⟩

/-- Queues in block g, whose blocks are S. -/
def Qw (w : World) (g : Nat) (S : Nat → Prop) (N m : Nat) (L : List It) : Prop := ∃ lb mb D vs, Qb w g lb mb N D vs m L ∧ ∀ b, S b ↔ Foot g lb mb vs b
theorem Qw.lt {w : World} {g : Nat} {S : Nat → Prop} {N m : Nat} {L : List It} (h : Qw w g S N m L) {b : Nat} (hb : S b) : b < w.heap.size := by
  obtain ⟨lb, mb, D, vs, h, hS⟩ := h
  exact h.foot_lt ((hS b).1 hb)
theorem Qw.own {w : World} {g : Nat} {S : Nat → Prop} {N m : Nat} {L : List It} (h : Qw w g S N m L) : S g := by
  obtain ⟨lb, mb, D, vs, h, hS⟩ := h
  exact (hS g).2 (.inl rfl)
theorem Qw.ok {w : World} {g : Nat} {S : Nat → Prop} {N m : Nat} {L : List It} (h : Qw w g S N m L) : Ok m L := by
  obtain ⟨lb, mb, D, vs, h, hS⟩ := h
  exact h.ok
theorem Qw.m8 {w : World} {g : Nat} {S : Nat → Prop} {N m : Nat} {L : List It} (h : Qw w g S N m L) : 1 ≤ m ∧ m ≤ 8 := by
  obtain ⟨lb, mb, D, vs, h, hS⟩ := h
  exact h.m8
theorem Qw.ln {w : World} {g : Nat} {S : Nat → Prop} {N m : Nat} {L : List It} (h : Qw w g S N m L) : L.length ≤ N := by
  obtain ⟨lb, mb, D, vs, h, hS⟩ := h
  exact h.ln
theorem Qw.keep {w w' : World} {g : Nat} {S : Nat → Prop} {N m : Nat} {L : List It} (h : Qw w g S N m L) (hk : ∀ b, S b → w'.heap[b]? = w.heap[b]?) : Qw w' g S N m L := by
  obtain ⟨lb, mb, D, vs, h, hS⟩ := h
  exact ⟨lb, mb, D, vs, h.keep (fun b hb => hk b ((hS b).2 hb)), hS⟩
theorem Qw.below {w w' : World} {g : Nat} {S : Nat → Prop} {N m : Nat} {L : List It} (h : Qw w g S N m L) (hb : Below w.heap.size w w') : Qw w' g S N m L := h.keep (fun b hS => hb.block b (h.lt hS))
theorem Qw.drew {w : World} {g : Nat} {S : Nat → Prop} {N m : Nat} {L : List It} (h : Qw w g S N m L) : Qw w.drew g S N m L := h.keep (fun _ _ => rfl)

set_option maxHeartbeats 400000 in
theorem many_cell (g lb m : Nat) (w : World) (h : w.cell? ⟨g, 0, none⟩ = some (.slice (some ⟨lb, 0, none⟩) m m)) :
    Calls Try.prog 26 #[.pointer (some ⟨g, 0, none⟩)] w fun e w' => e = .returned (.int .i64 m) ∧ w = w' := by
  go_enter Try.func26, Try.ntmps26
  go_wp2_with fail
  go_ret
  exact ⟨rfl, rfl⟩
theorem new_block (w : World) (o : Obj) : (w.alloc o).heap[w.heap.size]? = some o := Go.heap_alloc_new w o
theorem set_block {w : World} {b : Nat} {cs : Array Value} {T : TypeId} {fr : Nat × Nat} (h : w.heap[b]? = some (.cells cs T fr)) (j : Nat) (v : Value) : (w.setCell ⟨b, j, none⟩ v).heap[b]? = some (.cells (cs.setIfInBounds j v) T fr) := by
  unfold World.setCell
  simp only [Array.getElem?_modify, if_pos, h, Option.map_some, Option.isSome_none, Bool.false_eq_true, if_false]
theorem set_other (w : World) {b c : Nat} (h : c ≠ b) (j : Nat) (v : Value) : (w.setCell ⟨b, j, none⟩ v).heap[c]? = w.heap[c]? := Below.heap_setCell _ _ _ _ h
theorem cell_of {w : World} {b : Nat} {cs : Array Value} {T : TypeId} (h : w.heap[b]? = some (.cells cs T (0, 0))) (j : Nat) : w.cell? ⟨b, j, none⟩ = cs[j]? ∧ w.frozen? ⟨b, j, none⟩ = false := by
  unfold World.cell? World.frozen?
  simp only [h]
  exact ⟨by cases cs[j]? <;> rfl, by simp⟩
theorem set3c {w : World} {b : Nat} {a0 a1 a2 : Value} {T : TypeId} (h : w.heap[b]? = some (.cells #[a0, a1, a2] T (0, 0))) (v0 v1 v2 : Value) :
    (w.setCell ⟨b, 0, none⟩ v0).cell? ⟨b, 0, none⟩ = some v0 ∧ ((w.setCell ⟨b, 0, none⟩ v0).setCell ⟨b, 1, none⟩ v1).cell? ⟨b, 1, none⟩ = some v1 ∧ (((w.setCell ⟨b, 0, none⟩ v0).setCell ⟨b, 1, none⟩ v1).setCell ⟨b, 2, none⟩ v2).cell? ⟨b, 2, none⟩ = some v2 :=
  ⟨(cell_of (set_block h 0 v0) 0).1, (cell_of (set_block (set_block h 0 v0) 1 v1) 1).1, (cell_of (set_block (set_block (set_block h 0 v0) 1 v1) 2 v2) 2).1⟩
theorem far_cell {w w' : World} {b : Nat} (g : w.grownBy w' (some b)) {a : Addr} {u : Value} (h : w.cell? a = some u) (hne : a.block ≠ b) : w'.cell? a = some u ∧ w'.frozen? a = w.frozen? a :=
  have e := g.block a.block (cell_lt h).1 (fun e => hne (by injection e))
  ⟨(World.cell?_of_block e).trans h, World.frozen?_of_block e⟩
theorem far_row {w1 w2 : World} {o : Obj} {r : Option Nat} (g : (w1.alloc o).grownBy w2 r) {a : Addr} {u : Value} (h : w1.cell? a = some u) (hne : r ≠ some a.block) : w2.cell? a = some u ∧ w2.frozen? a = w1.frozen? a :=
  have hl := (cell_lt h).1
  have e := (g.block a.block (by simp; omega) (fun e => hne e.symm)).trans (Below.heap_alloc _ _ _ hl)
  ⟨(World.cell?_of_block e).trans h, World.frozen?_of_block e⟩
/-- Behind 'row = append(row, item)': the row, and the slice in its place. -/
def Apd (w2 : World) (v : Value) (lb p : Nat) (cs : Array Value) (ln : Nat) (xs : List Value) (wr : World) : Prop :=
  ∃ gg cap w3, wr = w3.setCell ⟨lb, p, none⟩ (.slice (some ⟨gg, 0, none⟩) (ln + 1) cap) ∧ (w2.alloc (.cells cs 35)).grownBy w3 v.ownBlock ∧ w3.ownsRow 0 35 3 (.slice (some ⟨gg, 0, none⟩) (ln + 1) cap) (ln + 1) xs ∧ (v.ownBlock = some gg ∨ gg = w2.heap.size + 1)
theorem many_nil (w : World) : Calls Try.prog 26 #[.pointer none] w fun e w' => e = .returned (.int .i64 0) ∧ w = w' := by
  go_enter Try.func26, Try.ntmps26
  go_wp2_with fail
  go_ret
  exact ⟨rfl, rfl⟩
theorem is_cell (g lb m : Nat) (p : Int) (w : World) (h : w.cell? ⟨g, 0, none⟩ = some (.slice (some ⟨lb, 0, none⟩) m m)) (b : Bool) (hb : decide (0 ≤ p ∧ p < m) = b) :
    Calls Try.prog 28 #[.pointer (some ⟨g, 0, none⟩), .int .i64 p] w fun e w' => e = .returned (.bool b) ∧ w = w' := by
  have hk := many_cell g lb m w h
  have HK := Lib.hid hk
  clear hk
  by_cases h0 : 0 ≤ p
  case' neg =>
    have h0 : p < 0 := by omega
  all_goals
    have HB := Lib.hid hb
    clear hb
    go_enter Try.func28, Try.ntmps28
    go_wp2_with (go_at_call 26; refine HK.out.mono ?_; rintro e w' ⟨rfl, rfl⟩)
    go_ret
    refine ⟨?_, rfl⟩
    rw [← HB.out]
    congr 2
    simp
    omega
theorem Many_any (w : World) (g : Nat) (S : Nat → Prop) (N m : Nat) (L : List It) (h : Qw w g S N m L) :
    Calls Try.prog 26 #[.pointer (some ⟨g, 0, none⟩)] w fun e w' => e = .returned (.int .i64 m) ∧ w = w' := by
  obtain ⟨lb, mb, D, vs, h, hS⟩ := h
  exact many_cell g lb m w h.cells.1
theorem is_any (w : World) (g : Nat) (S : Nat → Prop) (N m : Nat) (L : List It) (p : Int) (h : Qw w g S N m L) (b : Bool) (hb : decide (0 ≤ p ∧ p < m) = b) :
    Calls Try.prog 28 #[.pointer (some ⟨g, 0, none⟩), .int .i64 p] w fun e w' => e = .returned (.bool b) ∧ w = w' := by
  obtain ⟨lb, mb, D, vs, h, hS⟩ := h
  exact is_cell g lb m p w h.cells.1 b hb
end Go.Proofs.Ytncfggcbdliepaa
