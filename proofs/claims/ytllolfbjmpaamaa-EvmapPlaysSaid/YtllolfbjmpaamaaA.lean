/- The map in memory; none, in, May. -/
import Derived.Test.YtllolfbjmpaamaaRow
import Derived.Test.YtllolfbjmpaamaaM
import Derived.Maps.OwnSet
import Derived.Maps.RangeWalk
import Derived.StillTailTactics
import Derived.Laws.Rows
import Derived.RangeFuncFrom
import Derived.RangeFuncWrites
import Derived.Shelf.Abstract
import Derived.Shelf.RegionOpen
import Derived.OwnWalkIn
import Derived.TacticsInMore
import Derived.LoopNIn
import Derived.LoopIn
import Derived.WalkMore
import Derived.Laws.AppendOwnNone
import Derived.Deep.DeepCutAuto
import Derived.Deep.CutBlock
import Derived.Deep.AppendLies
import Derived.Lib.SliceRun
namespace Go.Proofs.Ytllolfbjmpaamaa
open Go.RowKit
open Go.Maps (Keyed)
set_option linter.unusedSimpArgs false
set_option linter.unusedVariables false
set_option maxRecDepth 100000

theorem info3 : (Try.prog.info? 3).map (fun i => (i.zero, i.size, i.bytes)) = some (some (.int .i64 0), 1, 8) := by kernel_rfl
theorem key3 : Keyed Try.prog 3 := Go.Maps.int_keyed Try.underlying3
theorem zero78 (w : World) : (zeroValue 78).run Try.prog w = .ok (.agg #[.int .i64 0, .int .i64 0]) w := by kernel_rfl
theorem wf64 {x : Int} (h0 : -9223372036854775808 ≤ x) (h1 : x ≤ 9223372036854775807) : (Lit.int .i64 x).wf = true := by
  simp [Lit.wf, IntKind.min, IntKind.max, IntKind.signed, IntKind.bits]; omega

/-- How a place reads. -/
def plR (v : Value) : Option (DataW Unit × List MemPlace) := match v with
  | .agg cs => match cs.toList with
    | [.int .i64 a, .int .i64 b] => some (.agg [.lit (.int .i64 a), .lit (.int .i64 b)], [])
    | _ => none
  | _ => none
theorem plR_mk (a b : Int) : plR (.agg #[.int .i64 a, .int .i64 b]) = some (.agg [.lit (.int .i64 a), .lit (.int .i64 b)], []) := rfl
theorem plR_inv {v : Value} {z : DataW Unit × List MemPlace} (h : plR v = some z) : ∃ a b, v = .agg #[.int .i64 a, .int .i64 b] ∧ z = (.agg [.lit (.int .i64 a), .lit (.int .i64 b)], []) := by
  unfold plR at h
  split at h
  · split at h
    · rename_i cs a b e
      cases h
      refine ⟨a, b, ?_, rfl⟩
      congr 1
      exact Array.toList_inj.1 e
    · cases h
  · cases h
/-- What a place's datum is. -/
def plD (a b : Int) : DataW Unit := .agg [.lit (.int .i64 a), .lit (.int .i64 b)]
theorem plR_plD {v : Value} {a b : Int} {ps : List MemPlace} (h : plR v = some (plD a b, ps)) : v = .agg #[.int .i64 a, .int .i64 b] := by
  obtain ⟨c, d, rfl, e⟩ := plR_inv h
  unfold plD at e
  simp only [Prod.mk.injEq, DataW.agg.injEq, List.cons.injEq, DataW.lit.injEq, Lit.int.injEq, true_and, and_true] at e
  rw [e.1.1, e.1.2]

/-- The cells of numbers. -/
def flat (l : List It) : List Value := (ids l).map (Value.int .i64)
theorem flat_len (l : List It) : (flat l).length = l.length := by simp [flat, ids]
theorem flat_append (l m : List It) : flat (l ++ m) = flat l ++ flat m := by simp [flat, ids]
theorem flat_get (l : List It) (k : Nat) (t : It) (h : l[k]? = some t) : (flat l)[k]? = some (.int .i64 t.id) := by simp [flat, ids, h]

/-- The map's blocks. -/
def Foot (g mb : Nat) (vs : List Value) (b : Nat) : Prop := b = g ∨ b = mb ∨ ∃ v ∈ vs, v.ownBlock = some b

/-- A map in block g: the lists' slices vs, the Go map in block mb. -/
structure Qb (w : World) (g mb N : Nat) (D : DataW Unit) (vs : List Value) (L : List It) : Prop where
  q : w.heap[g]? = some (.cells (Value.map (some mb) :: vs).toArray 69 (0, 0))
  vl : vs.length = 128
  r : ∀ (p : Nat) (v : Value), vs[p]? = some v → w.ownsRow 0 3 1 v (row L p).length (flat (row L p))
  mp : w.ownsMap Try.prog 3 plR mb N D
  hd : ∀ x, (Lit.int .i64 x).wf = true → Maps.has D (.int .i64 x) = (look L x).isSome
  ad : ∀ x, (Lit.int .i64 x).wf = true → D.atKey (.int .i64 x) (plD 0 0) = plD (itOf L x).nu (itOf L x).wn
  sz : Maps.size D = L.length
  ap : mb ≠ g
  ar : ∀ (p : Nat) (v : Value) (b : Nat), vs[p]? = some v → v.ownBlock = some b → b ≠ g ∧ b ≠ mb
  aa : ∀ (p p' : Nat) (v v' : Value) (b : Nat), vs[p]? = some v → vs[p']? = some v' → v.ownBlock = some b → v'.ownBlock = some b → p = p'
  ok : Ok L
  ln : L.length ≤ N

theorem Qb.foot_lt {w : World} {g mb N : Nat} {D : DataW Unit} {vs : List Value} {L : List It} (h : Qb w g mb N D vs L) {b : Nat} (hb : Foot g mb vs b) : b < w.heap.size := by
  rcases hb with rfl | rfl | ⟨v, hv, e⟩
  · exact lt_of_block h.q
  · exact h.mp.lt
  · obtain ⟨p, hp, rfl⟩ := List.getElem_of_mem hv
    exact ((h.r p _ (List.getElem?_eq_getElem hp)).lt _ e).2
theorem row_same {w w' : World} {base : Nat} {e : TypeId} {s : Nat} {v : Value} {n : Nat} {xs : List Value} (h : w.ownsRow base e s v n xs) (hk : ∀ b, v.ownBlock = some b → w'.heap[b]? = w.heap[b]?) : w'.ownsRow base e s v n xs := by
  refine ⟨h.1, ?_⟩
  rcases h.2 with h0 | ⟨g, cap, cur, rfl, hb, hg, h1⟩
  · exact .inl h0
  · exact .inr ⟨g, cap, cur, rfl, hb, (hk g rfl).trans hg, h1⟩
theorem row_base {w : World} {base : Nat} {e : TypeId} {s : Nat} {v : Value} {n : Nat} {xs : List Value} (h : w.ownsRow base e s v n xs) : w.ownsRow 0 e s v n xs := by
  refine ⟨h.1, ?_⟩
  rcases h.2 with h0 | ⟨g, cap, cur, h1, _, h2⟩
  · exact .inl h0
  · exact .inr ⟨g, cap, cur, h1, Nat.zero_le _, h2⟩
theorem map_same {w w' : World} {k : TypeId} {R : Value → Option (DataW Unit × List MemPlace)} {b n : Nat} {D : DataW Unit} (h : w.ownsMap Try.prog k R b n D) (hk : w'.heap[b]? = w.heap[b]?) : w'.ownsMap Try.prog k R b n D := by
  obtain ⟨es, clock, hb, r⟩ := h
  exact ⟨es, clock, hk.trans hb, r⟩
theorem Qb.keep {w w' : World} {g mb N : Nat} {D : DataW Unit} {vs : List Value} {L : List It} (h : Qb w g mb N D vs L) (hk : ∀ b, Foot g mb vs b → w'.heap[b]? = w.heap[b]?) : Qb w' g mb N D vs L :=
  ⟨(hk _ (.inl rfl)).trans h.q, h.vl, fun p v hv => row_same (h.r p v hv) (fun b e => hk b (.inr (.inr ⟨v, List.mem_of_getElem? hv, e⟩))), map_same h.mp (hk _ (.inr (.inl rfl))), h.hd, h.ad, h.sz, h.ap, h.ar, h.aa, h.ok, h.ln⟩
theorem Qb.mono {w : World} {g mb N N' : Nat} {D : DataW Unit} {vs : List Value} {L : List It} (h : Qb w g mb N D vs L) (hN : N ≤ N') : Qb w g mb N' D vs L :=
  ⟨h.q, h.vl, h.r, h.mp.mono hN, h.hd, h.ad, h.sz, h.ap, h.ar, h.aa, h.ok, Nat.le_trans h.ln hN⟩
theorem cell_of {w : World} {b : Nat} {cs : Array Value} {T : TypeId} (h : w.heap[b]? = some (.cells cs T (0, 0))) (j : Nat) : w.cell? ⟨b, j, none⟩ = cs[j]? ∧ w.frozen? ⟨b, j, none⟩ = false := by
  unfold World.cell? World.frozen?
  simp only [h]
  exact ⟨by cases cs[j]? <;> rfl, by simp⟩
theorem new_block (w : World) (o : Obj) : (w.alloc o).heap[w.heap.size]? = some o := Go.heap_alloc_new w o
theorem set_block {w : World} {b : Nat} {cs : Array Value} {T : TypeId} {fr : Nat × Nat} (h : w.heap[b]? = some (.cells cs T fr)) (j : Nat) (v : Value) : (w.setCell ⟨b, j, none⟩ v).heap[b]? = some (.cells (cs.setIfInBounds j v) T fr) := by
  unfold World.setCell
  simp only [Array.getElem?_modify, if_pos, h, Option.map_some, Option.isSome_none, Bool.false_eq_true, if_false]
theorem set_other (w : World) {b c : Nat} (h : c ≠ b) (j : Nat) (v : Value) : (w.setCell ⟨b, j, none⟩ v).heap[c]? = w.heap[c]? := Below.heap_setCell _ _ _ _ h
theorem grown_set (w : World) (b j : Nat) (v : Value) : w.grownBy (w.setCell ⟨b, j, none⟩ v) (some b) :=
  ⟨rfl, rfl, rfl, by simp [World.setCell], fun i _ hi => set_other w (fun e => hi (by rw [e])) _ _⟩
theorem far_cell {w w' : World} {b : Nat} (g : w.grownBy w' (some b)) {a : Addr} {u : Value} (h : w.cell? a = some u) (hne : a.block ≠ b) : w'.cell? a = some u ∧ w'.frozen? a = w.frozen? a :=
  have e := g.block a.block (cell_lt h).1 (fun e => hne (by injection e))
  ⟨(World.cell?_of_block e).trans h, World.frozen?_of_block e⟩
theorem far_row {w1 w2 : World} {o : Obj} {r : Option Nat} (g : (w1.alloc o).grownBy w2 r) {a : Addr} {u : Value} (h : w1.cell? a = some u) (hne : r ≠ some a.block) : w2.cell? a = some u ∧ w2.frozen? a = w1.frozen? a :=
  have hl := (cell_lt h).1
  have e := (g.block a.block (by simp; omega) (fun e => hne e.symm)).trans (Below.heap_alloc _ _ _ hl)
  ⟨(World.cell?_of_block e).trans h, World.frozen?_of_block e⟩
theorem below_drewN {B : Nat} {a w : World} (h : Below B a w) (n : Nat) : Below B a (w.drewN n) := ⟨h.os, h.tape, h.output, h.size, h.block⟩
theorem add_plain (b off k : Nat) : (⟨b, off, none⟩ : Addr).add k = ⟨b, off + k, none⟩ := by
  unfold Addr.add; split
  · rename_i h; subst h; rfl
  · rfl
theorem Qb.cell0 {w : World} {g mb N : Nat} {D : DataW Unit} {vs : List Value} {L : List It} (h : Qb w g mb N D vs L) : w.cell? ⟨g, 0, none⟩ = some (.map (some mb)) := by
  have := (cell_of h.q 0).1
  simpa using this
/-- The slice in a place. -/
theorem Qb.cell {w : World} {g mb N : Nat} {D : DataW Unit} {vs : List Value} {L : List It} (h : Qb w g mb N D vs L) (p : Nat) (hp : p < 128) :
    ∃ v, vs[p]? = some v ∧ w.cell? ⟨g, 1 + p, none⟩ = some v ∧ w.frozen? ⟨g, 1 + p, none⟩ = false ∧ w.ownsRow 0 3 1 v (row L p).length (flat (row L p)) := by
  have hp' : p < vs.length := by rw [h.vl]; exact hp
  have hc := cell_of h.q (1 + p)
  refine ⟨vs[p], List.getElem?_eq_getElem hp', ?_, hc.2, h.r p _ (List.getElem?_eq_getElem hp')⟩
  rw [hc.1]
  simp [Nat.add_comm 1 p, hp']

theorem Qb.look1 {w : World} {g mb N : Nat} {D : DataW Unit} {vs : List Value} {L : List It} (h : Qb w g mb N D vs L) {x : Int} (hx : (Lit.int .i64 x).wf = true) : (Instr.lookup 65 (.map (some mb)) (.int .i64 x) false).run Try.prog w = .ok (.agg #[.int .i64 (itOf L x).nu, .int .i64 (itOf L x).wn]) w := by
  obtain ⟨v, ps, h1, h2⟩ := h.mp.lookup key3 Try.underlying65 (zero78 w) (plR_mk 0 0) (Go.Maps.keyOf_int_mk (P := Try.prog) Try.underlying3 hx)
  rw [show (DataW.agg [DataW.lit (Lit.int .i64 0), DataW.lit (Lit.int .i64 0)] : DataW Unit) = plD 0 0 from rfl, h.ad x hx] at h2
  rw [h1, plR_plD h2]
theorem Qb.look2 {w : World} {g mb N : Nat} {D : DataW Unit} {vs : List Value} {L : List It} (h : Qb w g mb N D vs L) {x : Int} (hx : (Lit.int .i64 x).wf = true) : (Instr.lookup 65 (.map (some mb)) (.int .i64 x) true).run Try.prog w = .ok (.tuple #[.agg #[.int .i64 (itOf L x).nu, .int .i64 (itOf L x).wn], .bool (look L x).isSome]) w := by
  obtain ⟨v, ps, h1, h2⟩ := h.mp.look_ok key3 Try.underlying65 (zero78 w) (plR_mk 0 0) (Go.Maps.keyOf_int_mk (P := Try.prog) Try.underlying3 hx)
  rw [show (DataW.agg [DataW.lit (Lit.int .i64 0), DataW.lit (Lit.int .i64 0)] : DataW Unit) = plD 0 0 from rfl, h.ad x hx] at h2
  rw [h1, plR_plD h2, h.hd x hx]

/-- w' is w but for blocks of S, and new ones. -/
structure Fr (S : Nat → Prop) (w w' : World) : Prop where
  os : w'.os = w.os
  tape : w'.tape = w.tape
  output : w'.output = w.output
  size : w.heap.size ≤ w'.heap.size
  block : ∀ b, b < w.heap.size → ¬ S b → w'.heap[b]? = w.heap[b]?
theorem Fr.refl (S : Nat → Prop) (w : World) : Fr S w w := ⟨rfl, rfl, rfl, Nat.le_refl _, fun _ _ _ => rfl⟩
theorem Fr.of_below {S : Nat → Prop} {w w' : World} (h : Below w.heap.size w w') : Fr S w w' := ⟨h.os, h.tape, h.output, h.size, fun b hb _ => h.block b hb⟩
theorem Fr.trans {S S' : Nat → Prop} {a b c : World} (h : Fr S a b) (hs : ∀ x, S' x → S x ∨ a.heap.size ≤ x) (k : Fr S' b c) : Fr S a c :=
  ⟨k.os.trans h.os, k.tape.trans h.tape, k.output.trans h.output, Nat.le_trans h.size k.size, fun x hx hn => (k.block x (Nat.lt_of_lt_of_le hx h.size) (fun hS => by rcases hs x hS with h1 | h1; exact hn h1; omega)).trans (h.block x hx hn)⟩
theorem Fr.below {S : Nat → Prop} {B : Nat} {w w' : World} (h : Fr S w w') (hs : ∀ b, S b → B ≤ b) (hB : B ≤ w.heap.size) : Below B w w' :=
  ⟨h.os, h.tape, h.output, h.size, fun b hb => h.block b (by omega) (fun e => by have := hs b e; omega)⟩
theorem Fr.drewn {S : Nat → Prop} {w w' : World} (h : Fr S w w') : Fr S w w'.drew := ⟨h.os, h.tape, h.output, h.size, h.block⟩
theorem Fr.undrew {S : Nat → Prop} {w w' : World} (h : Fr S w.drew w') : Fr S w w' := ⟨h.os, h.tape, h.output, h.size, h.block⟩
/-- From a map with blocks S to a map with blocks S'. -/
structure Stp (S : Nat → Prop) (w : World) (S' : Nat → Prop) (w' : World) : Prop where
  f : Fr S w w'
  s : ∀ b, S' b → S b ∨ w.heap.size ≤ b
theorem Stp.refl (S : Nat → Prop) (w : World) : Stp S w S w := ⟨Fr.refl _ _, fun _ h => .inl h⟩
theorem Stp.of_below {S : Nat → Prop} {w w' : World} (h : Below w.heap.size w w') : Stp S w S w' := ⟨Fr.of_below h, fun _ h => .inl h⟩
theorem Stp.trans {S S' S'' : Nat → Prop} {a b c : World} (h : Stp S a S' b) (k : Stp S' b S'' c) : Stp S a S'' c :=
  ⟨h.f.trans h.s k.f, fun x hx => by
    rcases k.s x hx with h1 | h1
    · exact h.s x h1
    · have := h.f.size; exact .inr (by omega)⟩
theorem Stp.undrew {S S' : Nat → Prop} {w w' : World} (h : Stp S w.drew S' w') : Stp S w S' w' := ⟨h.f.undrew, h.s⟩
theorem Stp.below {S S' : Nat → Prop} {B : Nat} {w w' : World} (h : Stp S w S' w') (hs : ∀ b, S b → B ≤ b) (hB : B ≤ w.heap.size) : Below B w w' ∧ ∀ b, S' b → B ≤ b :=
  ⟨h.f.below hs hB, fun b hb => by
    rcases h.s b hb with h1 | h1
    · exact hs b h1
    · omega⟩

/-- A map in block g, whose blocks are S. -/
def Qw (w : World) (g : Nat) (S : Nat → Prop) (N : Nat) (L : List It) : Prop := ∃ mb D vs, Qb w g mb N D vs L ∧ ∀ b, S b ↔ Foot g mb vs b
theorem Qw.lt {w : World} {g : Nat} {S : Nat → Prop} {N : Nat} {L : List It} (h : Qw w g S N L) {b : Nat} (hb : S b) : b < w.heap.size := by
  obtain ⟨mb, D, vs, h, hS⟩ := h
  exact h.foot_lt ((hS b).1 hb)
theorem Qw.own {w : World} {g : Nat} {S : Nat → Prop} {N : Nat} {L : List It} (h : Qw w g S N L) : S g := by
  obtain ⟨mb, D, vs, h, hS⟩ := h
  exact (hS g).2 (.inl rfl)
theorem Qw.ok {w : World} {g : Nat} {S : Nat → Prop} {N : Nat} {L : List It} (h : Qw w g S N L) : Ok L := by
  obtain ⟨mb, D, vs, h, hS⟩ := h
  exact h.ok
theorem Qw.ln {w : World} {g : Nat} {S : Nat → Prop} {N : Nat} {L : List It} (h : Qw w g S N L) : L.length ≤ N := by
  obtain ⟨mb, D, vs, h, hS⟩ := h
  exact h.ln
theorem Qw.keep {w w' : World} {g : Nat} {S : Nat → Prop} {N : Nat} {L : List It} (h : Qw w g S N L) (hk : ∀ b, S b → w'.heap[b]? = w.heap[b]?) : Qw w' g S N L := by
  obtain ⟨mb, D, vs, h, hS⟩ := h
  exact ⟨mb, D, vs, h.keep (fun b hb => hk b ((hS b).2 hb)), hS⟩
theorem Qw.below {w w' : World} {g : Nat} {S : Nat → Prop} {N : Nat} {L : List It} (h : Qw w g S N L) (hb : Below w.heap.size w w') : Qw w' g S N L := h.keep (fun b hS => hb.block b (h.lt hS))
theorem Qw.mono {w : World} {g : Nat} {S : Nat → Prop} {N N' : Nat} {L : List It} (h : Qw w g S N L) (hN : N ≤ N') : Qw w g S N' L := by
  obtain ⟨mb, D, vs, h, hS⟩ := h
  exact ⟨mb, D, vs, h.mono hN, hS⟩

/-! ### none, in, May -/
theorem eql_some (mb : Nat) (w : World) : (binOp .eql 65 (.map (some mb)) (.map none)).run Try.prog w = .ok (.bool false) w := by kernel_rfl
theorem eql_none (w : World) : (binOp .eql 65 (.map none) (.map none)).run Try.prog w = .ok (.bool true) w := by kernel_rfl
theorem none_cell (g mb : Nat) (w : World) (h : w.cell? ⟨g, 0, none⟩ = some (.map (some mb))) :
    Calls Try.prog 33 #[.pointer (some ⟨g, 0, none⟩)] w fun e w' => e = .returned (.bool false) ∧ w = w' := by
  have qn := fun w => eql_some mb w
  go_enter Try.func33, Try.ntmps33
  go_wp2_with fail
  go_ret
  exact ⟨rfl, rfl⟩
theorem none_any (w : World) (g : Nat) (S : Nat → Prop) (N : Nat) (L : List It) (h : Qw w g S N L) :
    Calls Try.prog 33 #[.pointer (some ⟨g, 0, none⟩)] w fun e w' => e = .returned (.bool false) ∧ w = w' := by
  obtain ⟨mb, D, vs, h, hS⟩ := h
  exact none_cell g mb w h.cell0
theorem none_zero (g : Nat) (w : World) (h : w.cell? ⟨g, 0, none⟩ = some (.map none)) :
    Calls Try.prog 33 #[.pointer (some ⟨g, 0, none⟩)] w fun e w' => e = .returned (.bool true) ∧ w = w' := by
  have qn := fun w => eql_none w
  go_enter Try.func33, Try.ntmps33
  go_wp2_with fail
  go_ret
  exact ⟨rfl, rfl⟩
theorem none_nil (w : World) : Calls Try.prog 33 #[.pointer none] w fun e w' => e = .returned (.bool true) ∧ w = w' := by
  go_enter Try.func33, Try.ntmps33
  go_wp2_with fail
  go_ret
  exact ⟨rfl, rfl⟩
theorem in_any (x : Int) (w : World) (b : Bool) (hb : decide (0 ≤ x ∧ x ≤ 95) = b) :
    Calls Try.prog 34 #[.int .i64 x] w fun e w' => e = .returned (.bool b) ∧ w = w' := by
  by_cases h0 : 0 ≤ x
  case' neg =>
    have h0 : x < 0 := by omega
  all_goals
    have HB := Lib.hid hb
    clear hb
    go_enter Try.func34, Try.ntmps34
    go_wp2_with fail
    go_ret
    refine ⟨?_, rfl⟩
    rw [← HB.out]
    congr 2
    simp
    omega
theorem may_any (x : Int) (w : World) (hx : (Lit.int .i64 x).wf = true) (b : Bool) (hb : decide (x = 0 ∨ MayW x) = b) :
    Calls Try.prog 42 #[.int .i64 x] w fun e w' => e = .returned (.bool b) ∧ w = w' := by
  have hbd := bd_i64 hx
  have key := andnot38 x hbd.1 hbd.2
  by_cases h : x = 0 ∨ x = 2 ∨ x = 4 ∨ x = 6 ∨ x = 32 ∨ x = 34 ∨ x = 36 ∨ x = 38
  · have HB := Lib.hid hb
    clear hb key hbd hx
    rcases h with rfl | rfl | rfl | rfl | rfl | rfl | rfl | rfl
    all_goals
      go_enter Try.func42, Try.ntmps42
      go_wp2_with fail
      go_ret
      refine ⟨?_, rfl⟩
      rw [← HB.out]
      first | rfl | decide +kernel
  · have hn : (bits .andNot .i64 x 38 == 0) = false := by
      rw [beq_eq_false_iff_ne]
      exact fun e => h (key.1 e)
    have hb2 : b = false := by rw [← hb]; exact decide_eq_false (by unfold MayW; omega)
    subst hb2
    clear key h hb hbd hx
    go_enter Try.func42, Try.ntmps42
    go_wp2_with fail
    go_ret
    exact ⟨rfl, rfl⟩
end Go.Proofs.Ytllolfbjmpaamaa
