/- A place is turned: what the map is then. Add. -/
import Derived.Test.YtllolfbjmpaamaaE
namespace Go.Proofs.Ytllolfbjmpaamaa
open Go.RowKit
set_option linter.unusedSimpArgs false
set_option linter.unusedVariables false
set_option maxRecDepth 100000

theorem turn {w w3 : World} {g mb N N' : Nat} {D D' : DataW Unit} {vs : List Value} {L L' : List It} {S : Nat → Prop} (h : Qb w g mb N D vs L) (hS : ∀ b, S b ↔ Foot g mb vs b) (p : Nat) (v v' : Value) (hv : vs[p]? = some v)
    (hf : Fr (fun b => v.ownBlock = some b ∨ b = g ∨ b = mb) w w3) (q3 : w3.heap[g]? = some (.cells (Value.map (some mb) :: vs.set p v').toArray 69 (0, 0))) (own : w3.ownsRow 0 3 1 v' (row L' p).length (flat (row L' p))) (fresh : ∀ b, v'.ownBlock = some b → v.ownBlock = some b ∨ w.heap.size ≤ b)
    (mp : w3.ownsMap Try.prog 3 plR mb N' D') (hr : ∀ q : Nat, q ≠ p → row L' q = row L q) (hd : ∀ x, (Lit.int .i64 x).wf = true → Maps.has D' (.int .i64 x) = (look L' x).isSome) (ad : ∀ x, (Lit.int .i64 x).wf = true → D'.atKey (.int .i64 x) (plD 0 0) = plD (itOf L' x).nu (itOf L' x).wn) (sz : Maps.size D' = L'.length)
    (ok : Ok L') (ln : L'.length ≤ N') : ∃ S', Qw w3 g S' N' L' ∧ Stp S w S' w3 := by
  have hgl := h.foot_lt (.inl rfl)
  have hml := h.foot_lt (.inr (.inl rfl))
  have a2 := h.ap
  have hown : ∀ b, v.ownBlock = some b → b ≠ g ∧ b ≠ mb := fun b e => h.ar p v b hv e
  have hpv : p < vs.length := (List.getElem?_eq_some_iff.1 hv).1
  have hap' : ∀ b, v'.ownBlock = some b → b ≠ g ∧ b ≠ mb := fun b e => by
    rcases fresh b e with h1 | h1
    · exact hown b h1
    · exact ⟨by omega, by omega⟩
  have hset : ∀ q u, (vs.set p v')[q]? = some u → (q = p ∧ u = v') ∨ (q ≠ p ∧ vs[q]? = some u) := fun q u hq => by
    by_cases e : p = q
    · subst e
      rw [List.getElem?_set_self hpv] at hq
      exact .inl ⟨rfl, by injection hq with hq; exact hq.symm⟩
    · rw [List.getElem?_set_ne e] at hq
      exact .inr ⟨fun e2 => e e2.symm, hq⟩
  have Q : Qb w3 g mb N' D' (vs.set p v') L' := by
    refine ⟨q3, by rw [List.length_set]; exact h.vl, fun q u hq => ?_, mp, hd, ad, sz, a2, fun q u b hq e => ?_, fun q q' u u' b hq hq' e e' => ?_, ok, ln⟩
    · rcases hset q u hq with ⟨rfl, rfl⟩ | ⟨hne, hq⟩
      · exact own
      · rw [hr q hne]
        refine row_same (h.r q u hq) (fun b e => ?_)
        have h4 := h.ar q u b hq e
        refine hf.block b ((h.r q u hq).lt b e).2 (fun hh => ?_)
        rcases hh with e2 | e2 | e2
        · exact hne (h.aa q p u v b hq hv e e2)
        · exact h4.1 e2
        · exact h4.2 e2
    · rcases hset q u hq with ⟨rfl, rfl⟩ | ⟨hne, hq⟩
      · exact hap' b e
      · exact h.ar q u b hq e
    · rcases hset q u hq with ⟨rfl, rfl⟩ | ⟨hne, hq3⟩
      · rcases hset q' u' hq' with ⟨rfl, rfl⟩ | ⟨hne', hq'⟩
        · rfl
        · rcases fresh b e with h1 | h1
          · exact (h.aa q' q u' v b hq' hv e' h1).symm
          · have := ((h.r q' u' hq').lt b e').2; omega
      · rcases hset q' u' hq' with ⟨rfl, rfl⟩ | ⟨hne', hq4⟩
        · rcases fresh b e' with h1 | h1
          · exact h.aa q q' u v b hq3 hv e h1
          · have := ((h.r q u hq3).lt b e).2; omega
        · exact h.aa q q' u u' b hq3 hq4 e e'
  refine ⟨Foot g mb (vs.set p v'), ⟨mb, D', _, Q, fun _ => Iff.rfl⟩, ⟨hf.os, hf.tape, hf.output, hf.size, fun b hb hn => hf.block b hb (fun hh => hn ((hS b).2 ?_))⟩, fun b hb => ?_⟩
  · rcases hh with e | e | e
    · exact .inr (.inr ⟨v, List.mem_of_getElem? hv, e⟩)
    · exact .inl e
    · exact .inr (.inl e)
  · rcases hb with rfl | rfl | ⟨u, hu, e⟩
    · exact .inl ((hS _).2 (.inl rfl))
    · exact .inl ((hS _).2 (.inr (.inl rfl)))
    · obtain ⟨q, hq, rfl⟩ := List.getElem_of_mem hu
      rcases hset q _ (List.getElem?_eq_getElem hq) with ⟨rfl, e2⟩ | ⟨hne, hq2⟩
      · rw [e2] at e
        rcases fresh b e with h1 | h1
        · exact .inl ((hS _).2 (.inr (.inr ⟨v, List.mem_of_getElem? hv, h1⟩)))
        · exact .inr h1
      · exact .inl ((hS _).2 (.inr (.inr ⟨_, List.mem_of_getElem? hq2, e⟩)))

theorem put_map {L : List It} {D : DataW Unit} (hT : Maps.Tidy D) (hD : Maps.IsMap D) (t : It) (hw : (Lit.int .i64 t.id).wf = true) (hn : look L t.id = none) (hd : ∀ y, (Lit.int .i64 y).wf = true → Maps.has D (.int .i64 y) = (look L y).isSome) (ad : ∀ y, (Lit.int .i64 y).wf = true → D.atKey (.int .i64 y) (plD 0 0) = plD (itOf L y).nu (itOf L y).wn) (sz : Maps.size D = L.length) :
    (∀ y, (Lit.int .i64 y).wf = true → Maps.has (D.put (.int .i64 t.id) (plD t.nu t.wn)) (.int .i64 y) = (look (L ++ [t]) y).isSome) ∧ (∀ y, (Lit.int .i64 y).wf = true → (D.put (.int .i64 t.id) (plD t.nu t.wn)).atKey (.int .i64 y) (plD 0 0) = plD (itOf (L ++ [t]) y).nu (itOf (L ++ [t]) y).wn) ∧ Maps.size (D.put (.int .i64 t.id) (plD t.nu t.wn)) = (L ++ [t]).length := by
  have key : ∀ y, y ≠ t.id → (Lit.int .i64 y) ≠ Lit.int .i64 t.id := fun y h e => h (by injection e)
  refine ⟨fun y hy => ?_, fun y hy => ?_, ?_⟩
  · rw [look_snoc L t y hn]
    by_cases h : y = t.id
    · subst h; rw [if_pos rfl, Maps.has_put_same hD (show Go.WideAt.IsKeyLit (.int .i64 t.id) from trivial)]; rfl
    · rw [if_neg h, Maps.has_put_other (key y h)]; exact hd y hy
  · unfold itOf
    rw [look_snoc L t y hn]
    by_cases h : y = t.id
    · subst h; rw [if_pos rfl, Maps.atKey_put_same hD (show Go.WideAt.IsKeyLit (.int .i64 t.id) from trivial)]; rfl
    · rw [if_neg h, Maps.atKey_put_other (key y h)]; exact ad y hy
  · have h1 := Maps.size_put (k := .int .i64 t.id) hT (plD t.nu t.wn)
    rw [hd _ hw, hn] at h1
    simp only [Option.isSome_none, Bool.false_eq_true, if_false] at h1
    rw [h1, sz]
    simp
theorem cut_len {L : List It} (ho : Ok L) {t : It} (ht : t ∈ L) : (cutL L t.id).length + 1 = L.length := by
  have h := plc_lt ht
  rw [cut_plc ho ht, List.length_append, List.length_take, List.length_drop]
  omega
theorem cut_map {L : List It} {D : DataW Unit} (hT : Maps.Tidy D) (ho : Ok L) (t : It) (ht : t ∈ L) (hw : (Lit.int .i64 t.id).wf = true) (hd : ∀ y, (Lit.int .i64 y).wf = true → Maps.has D (.int .i64 y) = (look L y).isSome) (ad : ∀ y, (Lit.int .i64 y).wf = true → D.atKey (.int .i64 y) (plD 0 0) = plD (itOf L y).nu (itOf L y).wn) (sz : Maps.size D = L.length) :
    (∀ y, (Lit.int .i64 y).wf = true → Maps.has (D.del (.int .i64 t.id)) (.int .i64 y) = (look (cutL L t.id) y).isSome) ∧ (∀ y, (Lit.int .i64 y).wf = true → (D.del (.int .i64 t.id)).atKey (.int .i64 y) (plD 0 0) = plD (itOf (cutL L t.id) y).nu (itOf (cutL L t.id) y).wn) ∧ Maps.size (D.del (.int .i64 t.id)) = (cutL L t.id).length := by
  have key : ∀ y, y ≠ t.id → (Lit.int .i64 y) ≠ Lit.int .i64 t.id := fun y h e => h (by injection e)
  refine ⟨fun y hy => ?_, fun y hy => ?_, ?_⟩
  · rw [look_cut]
    by_cases h : y = t.id
    · subst h; rw [if_pos rfl, Maps.has_del_same]; rfl
    · rw [if_neg h, Maps.has_del_other (key y h)]; exact hd y hy
  · unfold itOf
    rw [look_cut]
    by_cases h : y = t.id
    · subst h; rw [if_pos rfl, Maps.atKey_del_same]; rfl
    · rw [if_neg h, Maps.atKey_del_other (key y h)]; exact ad y hy
  · have h1 := Maps.size_del (k := .int .i64 t.id) hT
    rw [hd _ hw, look_mem ho ht] at h1
    simp only [Option.isSome_some, if_true] at h1
    have := cut_len ho ht
    omega

/-- Behind 'list = append(list, number)': the list, and the slice in its place. -/
def Apd (w2 : World) (v : Value) (g p : Nat) (y : Int) (ln : Nat) (xs : List Value) (wr : World) : Prop :=
  ∃ gg cap w3, wr = w3.setCell ⟨g, p, none⟩ (.slice (some ⟨gg, 0, none⟩) (ln + 1) cap) ∧ (w2.alloc (.cells #[.int .i64 y] 3)).grownBy w3 v.ownBlock ∧ w3.ownsRow 0 3 1 (.slice (some ⟨gg, 0, none⟩) (ln + 1) cap) (ln + 1) xs ∧ (v.ownBlock = some gg ∨ gg = w2.heap.size + 1)
end Go.Proofs.Ytllolfbjmpaamaa
