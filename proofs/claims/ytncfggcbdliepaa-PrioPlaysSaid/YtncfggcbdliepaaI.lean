/- A row is turned: what the queues are then. Cut. -/
import Derived.Test.YtncfggcbdliepaaH
namespace Go.Proofs.Ytncfggcbdliepaa
open Go.RowKit
set_option linter.unusedSimpArgs false
set_option linter.unusedVariables false
set_option maxRecDepth 100000

/-- From queues with blocks S to queues with blocks S'. -/
structure Stp (S : Nat → Prop) (w : World) (S' : Nat → Prop) (w' : World) : Prop where
  f : Fr S w w'
  s : ∀ b, S' b → S b ∨ w.heap.size ≤ b
theorem Stp.refl (S : Nat → Prop) (w : World) : Stp S w S w := ⟨Fr.refl _ _, fun _ h => .inl h⟩
theorem Stp.of_below {S : Nat → Prop} {w w' : World} (h : Below w.heap.size w w') : Stp S w S w' := ⟨Fr.of_below h, fun _ h => .inl h⟩
theorem Stp.trans {S S' S'' : Nat → Prop} {a b c : World} (h : Stp S a S' b) (k : Stp S' b S'' c) : Stp S a S'' c :=
  ⟨h.f.trans h.s k.f, fun x hx => by
    rcases k.s x hx with h1 | h1
    · exact h.s x h1
    · have := h.f.size; exact .inr (by omega)⟩
theorem Stp.below {S S' : Nat → Prop} {B : Nat} {w w' : World} (h : Stp S w S' w') (hs : ∀ b, S b → B ≤ b) (hB : B ≤ w.heap.size) : Below B w w' ∧ ∀ b, S' b → B ≤ b :=
  ⟨h.f.below hs hB, fun b hb => by rcases h.s b hb with h1 | h1; exact hs b h1; omega⟩
theorem Stp.undrew {S S' : Nat → Prop} {w w' : World} (h : Stp S w.drew S' w') : Stp S w S' w' := ⟨h.f.undrew, h.s⟩
theorem Stp.size {S S' : Nat → Prop} {w w' : World} (h : Stp S w S' w') : w.heap.size ≤ w'.heap.size := h.f.size

theorem turn' {w w1 w2 w3 : World} {g lb mb N N' : Nat} {D D' : DataW Unit} {vs : List Value} {m : Nat} {L L' : List It} {S : Nat → Prop} (h : Qb w g lb mb N D vs m L) (hS : ∀ b, S b ↔ Foot g lb mb vs b) (p : Nat) (v v' : Value) (hv : vs[p]? = some v)
    (g1 : w.grownBy w1 v.ownBlock) (own : w1.ownsRow 0 35 3 v' (row L' p).length (flat (row L' p))) (fresh : ∀ b, v'.ownBlock = some b → v.ownBlock = some b ∨ w.heap.size ≤ b)
    (g2 : w1.grownBy w2 (some lb)) (l2 : w2.heap[lb]? = some (.cells (vs.set p v').toArray 32 (0, 0)))
    (g3 : w2.grownBy w3 (some mb)) (mp : w3.ownsMap Try.prog 3 (plainElem Try.prog 3) mb N' D')
    (hr : ∀ q : Nat, q ≠ p → row L' q = row L q) (hd : ∀ x, (Lit.int .i64 x).wf = true → Maps.has D' (.int .i64 x) = (look L' x).isSome) (ad : ∀ x t, look L' x = some t → D'.atKey (.int .i64 x) (.lit (.int .i64 0)) = .lit (.int .i64 t.pr))
    (ok : Ok m L') (ln : L'.length ≤ N') : Qw w3 g (Foot g lb mb (vs.set p v')) N' m L' ∧ Stp S w (Foot g lb mb (vs.set p v')) w3 := by
  have hgl := h.foot_lt (.inl rfl)
  have hll := h.foot_lt (.inr (.inl rfl))
  have hml := h.foot_lt (.inr (.inr (.inl rfl)))
  obtain ⟨a1, a2, a3⟩ := h.ap
  have hown : ∀ b, v.ownBlock = some b → b ≠ g ∧ b ≠ lb ∧ b ≠ mb := fun b e => h.ar p v b hv e
  have hpv : p < vs.length := (List.getElem?_eq_some_iff.1 hv).1
  have hlt : ∀ b, v.ownBlock = some b → b < w.heap.size := fun b e => ((h.r p v hv).lt b e).2
  have hgs : w.heap.size ≤ w1.heap.size := g1.size
  -- what is none of the three
  have key : ∀ b, b < w.heap.size → v.ownBlock ≠ some b → b ≠ lb → b ≠ mb → w3.heap[b]? = w.heap[b]? := fun b hb h1 h2 h3 =>
    (g3.block b (Nat.lt_of_lt_of_le hb (Nat.le_trans hgs g2.size)) (fun e => h3 (by injection e))).trans ((g2.block b (Nat.lt_of_lt_of_le hb hgs) (fun e => h2 (by injection e))).trans (g1.block b hb (fun e => h1 e.symm)))
  have hv'lt : ∀ b, v'.ownBlock = some b → b < w1.heap.size := fun b e => (own.lt b e).2
  have hap' : ∀ b, v'.ownBlock = some b → b ≠ g ∧ b ≠ lb ∧ b ≠ mb := fun b e => by
    rcases fresh b e with h1 | h1
    · exact hown b h1
    · exact ⟨by omega, by omega, by omega⟩
  have hset : ∀ q u, (vs.set p v')[q]? = some u → (q = p ∧ u = v') ∨ (q ≠ p ∧ vs[q]? = some u) := fun q u hq => by
    by_cases e : p = q
    · subst e
      rw [List.getElem?_set_self hpv] at hq
      exact .inl ⟨rfl, by injection hq with hq; exact hq.symm⟩
    · rw [List.getElem?_set_ne e] at hq
      exact .inr ⟨fun e2 => e e2.symm, hq⟩
  have hq3 : w3.heap[g]? = some (.cells #[.slice (some ⟨lb, 0, none⟩) m m, .map (some mb)] 65 (0, 0)) :=
    (key g hgl (fun e => (hown g e).1 rfl) (fun e => a1 e.symm) (fun e => a2 e.symm)).trans h.q
  have hl3 : w3.heap[lb]? = some (.cells (vs.set p v').toArray 32 (0, 0)) := (g3.block lb (lt_of_block l2) (fun e => a3 (by injection e))).trans l2
  have Q : Qb w3 g lb mb N' D' (vs.set p v') m L' := by
    refine ⟨hq3, hl3, by rw [List.length_set]; exact h.vl, fun q u hq => ?_, mp, hd, ad, h.ap, fun q u b hq e => ?_, fun q q' u u' b hq hq' e e' => ?_, ok, ln, h.m8⟩
    · rcases hset q u hq with ⟨rfl, rfl⟩ | ⟨hne, hq⟩
      · refine row_same own (fun b e => ?_)
        have h4 := hap' b e
        have h5 := hv'lt b e
        exact (g3.block b (Nat.lt_of_lt_of_le h5 g2.size) (fun e => h4.2.2 (by injection e))).trans (g2.block b h5 (fun e => h4.2.1 (by injection e)))
      · rw [hr q hne]
        refine row_same (h.r q u hq) (fun b e => ?_)
        have h4 := h.ar q u b hq e
        exact key b ((h.r q u hq).lt b e).2 (fun e2 => hne (h.aa q p u v b hq hv e e2)) h4.2.1 h4.2.2
    · rcases hset q u hq with ⟨rfl, rfl⟩ | ⟨hne, hq⟩
      · exact hap' b e
      · exact h.ar q u b hq e
    · rcases hset q u hq with ⟨rfl, rfl⟩ | ⟨hne, hq3⟩
      · rcases hset q' u' hq' with ⟨rfl, rfl⟩ | ⟨hne', hq'⟩
        · rfl
        · rcases fresh b e with h1 | h1
          · exact (h.aa q' q u' v b hq' hv e' h1).symm
          · have := ((h.r q' u' hq').lt b e').2; omega
      · rcases hset q' u' hq' with ⟨rfl, rfl⟩ | ⟨hne', hq4⟩
        · rcases fresh b e' with h1 | h1
          · exact h.aa q q' u v b hq3 hv e h1
          · have := ((h.r q u hq3).lt b e).2; omega
        · exact h.aa q q' u u' b hq3 hq4 e e'
  refine ⟨⟨lb, mb, D', _, Q, fun _ => Iff.rfl⟩, ⟨g3.os.trans (g2.os.trans g1.os), g3.tape.trans (g2.tape.trans g1.tape), g3.output.trans (g2.output.trans g1.output), Nat.le_trans hgs (Nat.le_trans g2.size g3.size), fun b hb hn => ?_⟩, fun b hb => ?_⟩
  · refine key b hb (fun e => hn ((hS b).2 (.inr (.inr (.inr ⟨v, List.mem_of_getElem? hv, e⟩))))) (fun e => hn ((hS b).2 (.inr (.inl e)))) (fun e => hn ((hS b).2 (.inr (.inr (.inl e)))))
  · rcases hb with rfl | rfl | rfl | ⟨u, hu, e⟩
    · exact .inl ((hS _).2 (.inl rfl))
    · exact .inl ((hS _).2 (.inr (.inl rfl)))
    · exact .inl ((hS _).2 (.inr (.inr (.inl rfl))))
    · obtain ⟨q, hq, rfl⟩ := List.getElem_of_mem hu
      rcases hset q _ (List.getElem?_eq_getElem hq) with ⟨rfl, e2⟩ | ⟨hne, hq2⟩
      · rw [e2] at e
        rcases fresh b e with h1 | h1
        · exact .inl ((hS _).2 (.inr (.inr (.inr ⟨v, List.mem_of_getElem? hv, h1⟩))))
        · exact .inr h1
      · exact .inl ((hS _).2 (.inr (.inr (.inr ⟨_, List.mem_of_getElem? hq2, e⟩))))
theorem turn {w w1 w2 w3 : World} {g lb mb N N' : Nat} {D D' : DataW Unit} {vs : List Value} {m : Nat} {L L' : List It} {S : Nat → Prop} (h : Qb w g lb mb N D vs m L) (hS : ∀ b, S b ↔ Foot g lb mb vs b) (p : Nat) (v v' : Value) (hv : vs[p]? = some v)
    (g1 : w.grownBy w1 v.ownBlock) (own : w1.ownsRow 0 35 3 v' (row L' p).length (flat (row L' p))) (fresh : ∀ b, v'.ownBlock = some b → v.ownBlock = some b ∨ w.heap.size ≤ b)
    (g2 : w1.grownBy w2 (some lb)) (l2 : w2.heap[lb]? = some (.cells (vs.set p v').toArray 32 (0, 0)))
    (g3 : w2.grownBy w3 (some mb)) (mp : w3.ownsMap Try.prog 3 (plainElem Try.prog 3) mb N' D')
    (hr : ∀ q : Nat, q ≠ p → row L' q = row L q) (hd : ∀ x, (Lit.int .i64 x).wf = true → Maps.has D' (.int .i64 x) = (look L' x).isSome) (ad : ∀ x t, look L' x = some t → D'.atKey (.int .i64 x) (.lit (.int .i64 0)) = .lit (.int .i64 t.pr))
    (ok : Ok m L') (ln : L'.length ≤ N') : ∃ S', Qw w3 g S' N' m L' ∧ Stp S w S' w3 :=
  ⟨_, turn' h hS p v v' hv g1 own fresh g2 l2 g3 mp hr hd ad ok ln⟩
end Go.Proofs.Ytncfggcbdliepaa
