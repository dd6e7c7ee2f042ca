/- Iterations: groups in the making. -/
import Derived.Deep.RegionHeldLaw
import Derived.Test.YtbanfkpfijcmcaaF
namespace Go.Proofs.Ytbanfkpfijcmcaa
open Go.RowKit
set_option linter.unusedSimpArgs false
set_option linter.unusedVariables false
set_option maxRecDepth 100000

theorem info22 : (Try.prog.info? 22).map (fun i => (i.zero, i.size, i.bytes)) = some (some (.slice none 0 0), 1, 24) := by kernel_rfl
/-- Groups in the making. -/
structure TU (w W : World) (out : Value) (gs : List (List Ex)) (gv : List Value) : Prop where
  o : W.ownsRow w.heap.size 22 1 out gv.length gv
  l : gv.length = gs.length
  r : ∀ (i : Nat) (v : Value) (g : List Ex), gv[i]? = some v → gs[i]? = some g → W.ownsRow w.heap.size 28 7 v g.length (flatX g)
  a : ∀ (i j : Nat) (v v' : Value) (b : Nat), gv[i]? = some v → gv[j]? = some v' → v.ownBlock = some b → v'.ownBlock = some b → i = j
  d : ∀ g ∈ gs, ∀ x ∈ g, W.ownsRow w.heap.size 5 1 x.dv x.e.dt.length (byt x.e.dt)
  b : Below w.heap.size w W
theorem TU.nil (w : World) : TU w w (.slice none 0 0) [] [] :=
  ⟨World.ownsRow_nil _ _ _ _, rfl, fun i v g h => by simp at h, fun i j v v' b h => by simp at h, fun g h => absurd h (List.not_mem_nil), Below.refl _ _⟩
theorem TU.below {w W W' : World} {out : Value} {gs : List (List Ex)} {gv : List Value} (h : TU w W out gs gv) (hb : Below W.heap.size W W') : TU w W' out gs gv :=
  ⟨row_keep h.o hb, h.l, fun i v g hv hg => row_keep (h.r i v g hv hg) hb, h.a, fun g hg x hx => row_keep (h.d g hg x hx) hb, h.b.trans (hb.mono h.b.size)⟩
theorem row_grown {w w' : World} {base : Nat} {e : TypeId} {s : Nat} {v : Value} {n : Nat} {xs : List Value} {row : Option Nat} (h : w.ownsRow base e s v n xs) (hg : w.grownBy w' row) (hne : ∀ b, v.ownBlock = some b → row ≠ some b) : w'.ownsRow base e s v n xs :=
  row_same h (fun b e => hg.block b (h.lt _ e).2 (fun e2 => hne b e e2.symm))
theorem TU.new {w W W' : World} {out out' : Value} {gs : List (List Ex)} {gv : List Value} (h : TU w W out gs gv) (hg : W.grownBy W' out.ownBlock) (hown : W'.ownsRow w.heap.size 22 1 out' (gv.length + 1) (gv ++ [.slice none 0 0])) : TU w W' out' (gs ++ [[]]) (gv ++ [.slice none 0 0]) := by
  refine ⟨by rw [List.length_append]; exact hown, by simp [h.l], fun i v g hv hg' => ?_, fun i j v v' b hi hj e e' => ?_, fun g hg' x hx => ?_, h.b.grown hg h.b.size (fun k e => (h.o.lt k e).1)⟩
  · by_cases hi : i < gv.length
    · rw [List.getElem?_append_left hi] at hv
      rw [List.getElem?_append_left (by rw [← h.l]; exact hi)] at hg'
      have h5 := h.r i v g hv hg'
      exact row_grown h5 hg (fun b e e2 => rows_apart (by decide) h5 h.o b e e2)
    · have hi2 : i = gv.length := by
        have := (List.getElem?_eq_some_iff.1 hv).1
        simp at this; omega
      subst hi2
      simp at hv
      rw [h.l] at hg'
      simp at hg'
      subst hv hg'
      exact World.ownsRow_nil _ _ _ _
  · have key : ∀ (i : Nat) (v : Value) (b : Nat), (gv ++ [Value.slice none 0 0])[i]? = some v → v.ownBlock = some b → gv[i]? = some v := fun i v b hi e => by
      by_cases hl : i < gv.length
      · rw [List.getElem?_append_left hl] at hi; exact hi
      · have hi2 : i = gv.length := by
          have := (List.getElem?_eq_some_iff.1 hi).1
          simp at this; omega
        subst hi2
        simp at hi
        subst hi
        cases e
    exact h.a i j v v' b (key i v b hi e) (key j v' b hj e') e e'
  · rcases List.mem_append.1 hg' with hg' | hg'
    · have h5 := h.d g hg' x hx
      exact row_grown h5 hg (fun b e e2 => rows_apart (by decide) h5 h.o b e e2)
    · rw [List.mem_singleton.1 hg'] at hx
      exact absurd hx (List.not_mem_nil)
/-- A cell of a row is written. -/
theorem row_set {W : World} {base : Nat} {e : TypeId} {g n c : Nat} {xs : List Value} (h : W.ownsRow base e 1 (.slice (some ⟨g, 0, none⟩) n c) n xs) (k : Nat) (hk : k < n) (v : Value) : (W.setCell ⟨g, k, none⟩ v).ownsRow base e 1 (.slice (some ⟨g, 0, none⟩) n c) n (xs.set k v) := by
  refine ⟨by rw [List.length_set]; exact h.1, ?_⟩
  rcases h.2 with ⟨h0, _⟩ | ⟨g', cap, cur, e1, hb, hh, hc, hm, hs, ht⟩
  · cases h0
  · injection e1 with e1 _ e2
    injection e1 with e1
    injection e1 with e1
    subst e1 e2
    refine .inr ⟨g, c, _, rfl, hb, set_block hh k v, hc, hm, by simpa using hs, ?_⟩
    rw [← ht]
    simp [List.take_set]
theorem TU.more {w W W5 : World} {go c : Nat} {gs : List (List Ex)} {gv : List Value} {g : List Ex} {vl vl' : Value} {x : Ex} {m : Nat} (h : TU w W (.slice (some ⟨go, 0, none⟩) m c) (gs ++ [g]) (gv ++ [vl])) (hm : m = gv.length + 1)
    (hx : W.ownsRow w.heap.size 5 1 x.dv x.e.dt.length (byt x.e.dt)) (hg : W.grownBy W5 vl.ownBlock) (hown : W5.ownsRow w.heap.size 28 7 vl' (g.length + 1) (flatX g ++ encX x)) (hat : ∀ b, vl'.ownBlock = some b → vl.ownBlock = some b ∨ W.heap.size ≤ b) :
    TU w (W5.setCell ⟨go, gv.length, none⟩ vl') (.slice (some ⟨go, 0, none⟩) m c) (gs ++ [g ++ [x]]) (gv ++ [vl']) := by
  have hl : gv.length = gs.length := by have := h.l; simp at this; omega
  have hvl := h.r gv.length vl g (by simp) (by rw [hl]; simp)
  have hgo : go < W.heap.size := (h.o.lt go rfl).2
  have ho5 : W5.ownsRow w.heap.size 22 1 (.slice (some ⟨go, 0, none⟩) m c) m (gv ++ [vl]) := by
    have h6 := h.o
    rw [show (gv ++ [vl]).length = m by simp [hm]] at h6
    exact row_grown h6 hg (fun b e e2 => rows_apart (by decide) h6 hvl b e e2)
  have b5 : Below w.heap.size w W5 := h.b.grown hg h.b.size (fun k e => (hvl.lt k e).1)
  have set28 : ∀ {base' : Nat} {e' : TypeId} {s' : Nat} {v : Value} {n : Nat} {xs : List Value}, e' ≠ 22 → W5.ownsRow base' e' s' v n xs → (W5.setCell ⟨go, gv.length, none⟩ vl').ownsRow base' e' s' v n xs := fun hne h7 =>
    row_same h7 (fun b e => set_other _ (fun e2 => rows_apart hne h7 ho5 b e (by rw [e2]; rfl)) _ _)
  refine ⟨?_, by simp [hl], fun i v g' hv hg' => ?_, fun i j v v' b hi hj e e' => ?_, fun g' hg' y hy => ?_, b5.setCell (p := ⟨go, gv.length, none⟩) (h.o.lt go rfl).1 _⟩
  · have := row_set ho5 gv.length (by omega) vl'
    rw [show (gv ++ [vl']).length = m by simp [hm]]
    have e : (gv ++ [vl]).set gv.length vl' = gv ++ [vl'] := by simp
    rw [e] at this
    exact this
  · by_cases hi : i < gv.length
    · rw [List.getElem?_append_left hi] at hv
      rw [List.getElem?_append_left (by omega)] at hg'
      have h5 := h.r i v g' (by rw [List.getElem?_append_left hi]; exact hv) (by rw [List.getElem?_append_left (by omega)]; exact hg')
      refine set28 (by decide) (row_grown h5 hg (fun b e e2 => ?_))
      have := h.a i gv.length v vl b (by rw [List.getElem?_append_left hi]; exact hv) (by simp) e e2
      omega
    · have hi2 : i = gv.length := by
        have := (List.getElem?_eq_some_iff.1 hv).1
        simp at this; omega
      subst hi2
      simp at hv
      rw [hl] at hg'
      simp at hg'
      subst hv hg'
      refine set28 (by decide) ?_
      rw [List.length_append, flatX_append]
      simpa [flatX] using hown
  · have key : ∀ (i : Nat) (v : Value), (gv ++ [vl'])[i]? = some v → (i < gv.length ∧ gv[i]? = some v) ∨ (i = gv.length ∧ v = vl') := fun i v hi => by
      by_cases hl : i < gv.length
      · rw [List.getElem?_append_left hl] at hi; exact .inl ⟨hl, hi⟩
      · have hi2 : i = gv.length := by
          have := (List.getElem?_eq_some_iff.1 hi).1
          simp at this; omega
        subst hi2
        simp at hi
        exact .inr ⟨rfl, hi.symm⟩
    have old : ∀ (i : Nat) (v : Value) (b : Nat), i < gv.length → gv[i]? = some v → v.ownBlock = some b → vl'.ownBlock = some b → False := fun i v b hi hv e e' => by
      rcases hat b e' with h1 | h1
      · have := h.a i gv.length v vl b (by rw [List.getElem?_append_left hi]; exact hv) (by simp) e h1
        omega
      · have hg'' : i < gs.length := by omega
        have h5 := h.r i v _ (by rw [List.getElem?_append_left hi]; exact hv) (by rw [List.getElem?_append_left hg'']; exact List.getElem?_eq_getElem hg'')
        have := (h5.lt b e).2
        omega
    rcases key i v hi with ⟨h1, h2⟩ | ⟨h1, rfl⟩ <;> rcases key j v' hj with ⟨h3, h4⟩ | ⟨h3, rfl⟩
    · exact h.a i j v v' b (by rw [List.getElem?_append_left h1]; exact h2) (by rw [List.getElem?_append_left h3]; exact h4) e e'
    · exact (old i v b h1 h2 e e').elim
    · exact (old j v' b h3 h4 e' e).elim
    · rw [h1, h3]
  · have step : ∀ y : Ex, W.ownsRow w.heap.size 5 1 y.dv y.e.dt.length (byt y.e.dt) → (W5.setCell ⟨go, gv.length, none⟩ vl').ownsRow w.heap.size 5 1 y.dv y.e.dt.length (byt y.e.dt) := fun y h5 =>
      set28 (by decide) (row_grown h5 hg (fun b e e2 => rows_apart (by decide) h5 hvl b e e2))
    rcases List.mem_append.1 hg' with hg' | hg'
    · exact step y (h.d g' (by simp [hg']) y hy)
    · rw [List.mem_singleton.1 hg'] at hy
      rcases List.mem_append.1 hy with hy | hy
      · exact step y (h.d g (by simp) y hy)
      · rw [List.mem_singleton.1 hy]; exact step x hx
end Go.Proofs.Ytbanfkpfijcmcaa
