/- Turns. -/
import Derived.Test.YtbanfkpfijcmcaaGreatDoorNa
import Derived.Deep.RegionHeldLaw
import Derived.Deep.RegionLaw
import Derived.Deep.AppendLies
import Derived.Deep.DeepCutAuto
import Derived.Deep.CutBlock
namespace Go.Proofs.YtbanfkpfijcmcaaGreatDoor
open Go.RowKit
set_option linter.unusedSimpArgs false
set_option linter.unusedVariables false
set_option maxRecDepth 100000

theorem info22 : (Tryz.prog.info? 29).map (fun i => (i.zero, i.size, i.bytes)) = some (some (.slice none 0 0), 1, 24) := by kernel_rfl
/-- Groups in the making. -/
structure TU (w W : World) (out : Value) (gs : List (List Ex)) (gv : List Value) : Prop where
  o : W.ownsRow w.heap.size 29 1 out gv.length gv
  l : gv.length = gs.length
  r : ∀ (i : Nat) (v : Value) (g : List Ex), gv[i]? = some v → gs[i]? = some g → W.ownsRow w.heap.size 28 7 v g.length (flatX g)
  a : ∀ (i j : Nat) (v v' : Value) (b : Nat), gv[i]? = some v → gv[j]? = some v' → v.ownBlock = some b → v'.ownBlock = some b → i = j
  d : ∀ g ∈ gs, ∀ x ∈ g, W.ownsRow w.heap.size 5 1 x.dv x.e.dt.length (byt x.e.dt)
  b : Below w.heap.size w W
theorem TU.nil (w : World) : TU w w (.slice none 0 0) [] [] :=
  ⟨World.ownsRow_nil _ _ _ _, rfl, fun i v g h => by simp at h, fun i j v v' b h => by simp at h, fun g h => absurd h (List.not_mem_nil), Below.refl _ _⟩
theorem TU.below {w W W' : World} {out : Value} {gs : List (List Ex)} {gv : List Value} (h : TU w W out gs gv) (hb : Below W.heap.size W W') : TU w W' out gs gv :=
  ⟨row_keep h.o hb, h.l, fun i v g hv hg => row_keep (h.r i v g hv hg) hb, h.a, fun g hg x hx => row_keep (h.d g hg x hx) hb, h.b.trans (hb.mono h.b.size)⟩
theorem row_grown {w w' : World} {base : Nat} {e : TypeId} {s : Nat} {v : Value} {n : Nat} {xs : List Value} {row : Option Nat} (h : w.ownsRow base e s v n xs) (hg : w.grownBy w' row) (hne : ∀ b, v.ownBlock = some b → row ≠ some b) : w'.ownsRow base e s v n xs :=
  row_same h (fun b e => hg.block b (h.lt _ e).2 (fun e2 => hne b e e2.symm))
theorem TU.new {w W W' : World} {out out' : Value} {gs : List (List Ex)} {gv : List Value} (h : TU w W out gs gv) (hg : W.grownBy W' out.ownBlock) (hown : W'.ownsRow w.heap.size 29 1 out' (gv.length + 1) (gv ++ [.slice none 0 0])) : TU w W' out' (gs ++ [[]]) (gv ++ [.slice none 0 0]) := by
  refine ⟨by rw [List.length_append]; exact hown, by simp [h.l], fun i v g hv hg' => ?_, fun i j v v' b hi hj e e' => ?_, fun g hg' x hx => ?_, h.b.grown hg h.b.size (fun k e => (h.o.lt k e).1)⟩
  · by_cases hi : i < gv.length
    · rw [List.getElem?_append_left hi] at hv
      rw [List.getElem?_append_left (by rw [← h.l]; exact hi)] at hg'
      have h5 := h.r i v g hv hg'
      exact row_grown h5 hg (fun b e e2 => rows_apart (by decide) h5 h.o b e e2)
    · have hi2 : i = gv.length := by
        have := (List.getElem?_eq_some_iff.1 hv).1
        simp at this; omega
      subst hi2
      simp at hv
      rw [h.l] at hg'
      simp at hg'
      subst hv hg'
      exact World.ownsRow_nil _ _ _ _
  · have key : ∀ (i : Nat) (v : Value) (b : Nat), (gv ++ [Value.slice none 0 0])[i]? = some v → v.ownBlock = some b → gv[i]? = some v := fun i v b hi e => by
      by_cases hl : i < gv.length
      · rw [List.getElem?_append_left hl] at hi; exact hi
      · have hi2 : i = gv.length := by
          have := (List.getElem?_eq_some_iff.1 hi).1
          simp at this; omega
        subst hi2
        simp at hi
        subst hi
        cases e
    exact h.a i j v v' b (key i v b hi e) (key j v' b hj e') e e'
  · rcases List.mem_append.1 hg' with hg' | hg'
    · have h5 := h.d g hg' x hx
      exact row_grown h5 hg (fun b e e2 => rows_apart (by decide) h5 h.o b e e2)
    · rw [List.mem_singleton.1 hg'] at hx
      exact absurd hx (List.not_mem_nil)
/-- A cell of a row is written. -/
theorem trow_set {W : World} {base : Nat} {e : TypeId} {g n c : Nat} {xs : List Value} (h : W.ownsRow base e 1 (.slice (some ⟨g, 0, none⟩) n c) n xs) (k : Nat) (hk : k < n) (v : Value) : (W.setCell ⟨g, k, none⟩ v).ownsRow base e 1 (.slice (some ⟨g, 0, none⟩) n c) n (xs.set k v) := by
  refine ⟨by rw [List.length_set]; exact h.1, ?_⟩
  rcases h.2 with ⟨h0, _⟩ | ⟨g', cap, cur, e1, hb, hh, hc, hm, hs, ht⟩
  · cases h0
  · injection e1 with e1 _ e2
    injection e1 with e1
    injection e1 with e1
    subst e1 e2
    refine .inr ⟨g, c, _, rfl, hb, tset_block hh k v, hc, hm, by simpa using hs, ?_⟩
    rw [← ht]
    simp [List.take_set]
theorem TU.more {w W W5 : World} {go c : Nat} {gs : List (List Ex)} {gv : List Value} {g : List Ex} {vl vl' : Value} {x : Ex} {m : Nat} (h : TU w W (.slice (some ⟨go, 0, none⟩) m c) (gs ++ [g]) (gv ++ [vl])) (hm : m = gv.length + 1)
    (hx : W.ownsRow w.heap.size 5 1 x.dv x.e.dt.length (byt x.e.dt)) (hg : W.grownBy W5 vl.ownBlock) (hown : W5.ownsRow w.heap.size 28 7 vl' (g.length + 1) (flatX g ++ encX x)) (hat : ∀ b, vl'.ownBlock = some b → vl.ownBlock = some b ∨ W.heap.size ≤ b) :
    TU w (W5.setCell ⟨go, gv.length, none⟩ vl') (.slice (some ⟨go, 0, none⟩) m c) (gs ++ [g ++ [x]]) (gv ++ [vl']) := by
  have hl : gv.length = gs.length := by have := h.l; simp at this; omega
  have hvl := h.r gv.length vl g (by simp) (by rw [hl]; simp)
  have hgo : go < W.heap.size := (h.o.lt go rfl).2
  have ho5 : W5.ownsRow w.heap.size 29 1 (.slice (some ⟨go, 0, none⟩) m c) m (gv ++ [vl]) := by
    have h6 := h.o
    rw [show (gv ++ [vl]).length = m by simp [hm]] at h6
    exact row_grown h6 hg (fun b e e2 => rows_apart (by decide) h6 hvl b e e2)
  have b5 : Below w.heap.size w W5 := h.b.grown hg h.b.size (fun k e => (hvl.lt k e).1)
  have set28 : ∀ {base' : Nat} {e' : TypeId} {s' : Nat} {v : Value} {n : Nat} {xs : List Value}, e' ≠ 29 → W5.ownsRow base' e' s' v n xs → (W5.setCell ⟨go, gv.length, none⟩ vl').ownsRow base' e' s' v n xs := fun hne h7 =>
    row_same h7 (fun b e => set_other _ (fun e2 => rows_apart hne h7 ho5 b e (by rw [e2]; rfl)) _ _)
  refine ⟨?_, by simp [hl], fun i v g' hv hg' => ?_, fun i j v v' b hi hj e e' => ?_, fun g' hg' y hy => ?_, b5.setCell (p := ⟨go, gv.length, none⟩) (h.o.lt go rfl).1 _⟩
  · have := trow_set ho5 gv.length (by omega) vl'
    rw [show (gv ++ [vl']).length = m by simp [hm]]
    have e : (gv ++ [vl]).set gv.length vl' = gv ++ [vl'] := by simp
    rw [e] at this
    exact this
  · by_cases hi : i < gv.length
    · rw [List.getElem?_append_left hi] at hv
      rw [List.getElem?_append_left (by omega)] at hg'
      have h5 := h.r i v g' (by rw [List.getElem?_append_left hi]; exact hv) (by rw [List.getElem?_append_left (by omega)]; exact hg')
      refine set28 (by decide) (row_grown h5 hg (fun b e e2 => ?_))
      have := h.a i gv.length v vl b (by rw [List.getElem?_append_left hi]; exact hv) (by simp) e e2
      omega
    · have hi2 : i = gv.length := by
        have := (List.getElem?_eq_some_iff.1 hv).1
        simp at this; omega
      subst hi2
      simp at hv
      rw [hl] at hg'
      simp at hg'
      subst hv hg'
      refine set28 (by decide) ?_
      rw [List.length_append, flatX_append]
      simpa [flatX] using hown
  · have key : ∀ (i : Nat) (v : Value), (gv ++ [vl'])[i]? = some v → (i < gv.length ∧ gv[i]? = some v) ∨ (i = gv.length ∧ v = vl') := fun i v hi => by
      by_cases hl : i < gv.length
      · rw [List.getElem?_append_left hl] at hi; exact .inl ⟨hl, hi⟩
      · have hi2 : i = gv.length := by
          have := (List.getElem?_eq_some_iff.1 hi).1
          simp at this; omega
        subst hi2
        simp at hi
        exact .inr ⟨rfl, hi.symm⟩
    have old : ∀ (i : Nat) (v : Value) (b : Nat), i < gv.length → gv[i]? = some v → v.ownBlock = some b → vl'.ownBlock = some b → False := fun i v b hi hv e e' => by
      rcases hat b e' with h1 | h1
      · have := h.a i gv.length v vl b (by rw [List.getElem?_append_left hi]; exact hv) (by simp) e h1
        omega
      · have hg'' : i < gs.length := by omega
        have h5 := h.r i v _ (by rw [List.getElem?_append_left hi]; exact hv) (by rw [List.getElem?_append_left hg'']; exact List.getElem?_eq_getElem hg'')
        have := (h5.lt b e).2
        omega
    rcases key i v hi with ⟨h1, h2⟩ | ⟨h1, rfl⟩ <;> rcases key j v' hj with ⟨h3, h4⟩ | ⟨h3, rfl⟩
    · exact h.a i j v v' b (by rw [List.getElem?_append_left h1]; exact h2) (by rw [List.getElem?_append_left h3]; exact h4) e e'
    · exact (old i v b h1 h2 e e').elim
    · exact (old j v' b h3 h4 e' e).elim
    · rw [h1, h3]
  · have step : ∀ y : Ex, W.ownsRow w.heap.size 5 1 y.dv y.e.dt.length (byt y.e.dt) → (W5.setCell ⟨go, gv.length, none⟩ vl').ownsRow w.heap.size 5 1 y.dv y.e.dt.length (byt y.e.dt) := fun y h5 =>
      set28 (by decide) (row_grown h5 hg (fun b e e2 => rows_apart (by decide) h5 hvl b e e2))
    rcases List.mem_append.1 hg' with hg' | hg'
    · exact step y (h.d g' (by simp [hg']) y hy)
    · rw [List.mem_singleton.1 hg'] at hy
      rcases List.mem_append.1 hy with hy | hy
      · exact step y (h.d g (by simp) y hy)
      · rw [List.mem_singleton.1 hy]; exact step x hx

theorem row_some {w : World} {base : Nat} {e : TypeId} {s : Nat} {v : Value} {n : Nat} {xs : List Value} (h : w.ownsRow base e s v n xs) (hn : 0 < n) : ∃ g c, v = .slice (some ⟨g, 0, none⟩) n c := by
  rcases h.2 with ⟨_, h0⟩ | ⟨g, cap, cur, rfl, _⟩
  · omega
  · exact ⟨g, cap, rfl⟩
theorem row_at {w : World} {base : Nat} {e : TypeId} {g n c : Nat} {xs : List Value} (h : w.ownsRow base e 1 (.slice (some ⟨g, 0, none⟩) n c) n xs) (j : Nat) (hj : j < n) : w.cell? ⟨g, j, none⟩ = xs[j]? ∧ w.frozen? ⟨g, j, none⟩ = false := by
  rcases h.2 with ⟨h0, _⟩ | ⟨g', cap, cur, e1, hb, hh, hc, hm, hs, ht⟩
  · cases h0
  · injection e1 with e1 _ e2
    injection e1 with e1
    injection e1 with e1
    subst e1
    refine ⟨?_, (cell_of hh _).2⟩
    rw [(cell_of hh _).1, ← ht, List.getElem?_take_of_lt (by omega)]
    simp
theorem trow_not {w : World} {base : Nat} {e e' : TypeId} {s : Nat} {v : Value} {n : Nat} {xs : List Value} {b : Nat} {cs : Array Value} {fr : Nat × Nat} (h : w.ownsRow base e s v n xs) (hb : w.heap[b]? = some (.cells cs e' fr)) (hne : e' ≠ e) : v.ownBlock ≠ some b := by
  rcases h.2 with ⟨rfl, _⟩ | ⟨g, cap, cur, rfl, _, hg, _⟩
  · intro e; cases e
  · intro e2
    obtain rfl : g = b := by simpa [Value.ownBlock] using e2
    rw [hg] at hb
    cases hb
    exact hne rfl
theorem Gs.len {l : List En} {gs : List (List En)} (h : Gs l gs) : gs.length ≤ l.length ∧ ∀ g ∈ gs, g.length ≤ l.length := by
  have key : ∀ gs : List (List En), (∀ g ∈ gs, g ≠ []) → gs.length ≤ gs.flatten.length ∧ ∀ g ∈ gs, g.length ≤ gs.flatten.length := by
    intro gs
    induction gs with
    | nil => intro _; exact ⟨Nat.le_refl _, fun g h => absurd h (List.not_mem_nil)⟩
    | cons a r ih =>
      intro hne
      obtain ⟨h1, h2⟩ := ih (fun g hg => hne g (List.mem_cons_of_mem _ hg))
      have h3 : 0 < a.length := List.length_pos_iff.2 (hne a List.mem_cons_self)
      simp only [List.flatten_cons, List.length_append, List.length_cons]
      refine ⟨by omega, fun g hg => ?_⟩
      rcases List.mem_cons.1 hg with rfl | hg
      · omega
      · have := h2 g hg; omega
  have := key gs h.ne
  rw [h.fl] at this
  exact this
theorem take_len {α : Type} (l : List α) (k : Nat) : (l.take k).length ≤ k := by simp; omega

theorem tfar_row {w1 w2 : World} {o : Obj} {r : Option Nat} (g : (w1.alloc o).grownBy w2 r) {a : Addr} {u : Value} (h : w1.cell? a = some u) (hne : r ≠ some a.block) : w2.cell? a = some u ∧ w2.frozen? a = w1.frozen? a :=
  have hl := (cell_lt h).1
  have e := (g.block a.block (by simp; omega) (fun e => hne e.symm)).trans (Below.heap_alloc _ _ _ hl)
  ⟨(World.cell?_of_block e).trans h, World.frozen?_of_block e⟩
theorem turn_more {w w2 u2 W5 : World} {go c q gl gg cap : Nat} {gs : List (List Ex)} {gv : List Value} {g : List Ex} {vl : Value} {x : En} {A' : Option Addr} {c' m : Nat} (h : TU w w2 (.slice (some ⟨go, 0, none⟩) m c) (gs ++ [g]) (gv ++ [vl])) (hq : gv.length = q) (hm : q + 1 = m)
    (hb : Below w2.heap.size w2 u2) (hx : u2.ownsRow w2.heap.size 5 1 (.slice A' x.dt.length c') x.dt.length (byt x.dt)) (hg : (u2.alloc (.cells (encX ⟨x, .slice A' x.dt.length c'⟩).toArray 28)).grownBy W5 vl.ownBlock) (hgl : g.length = gl)
    (hown : W5.ownsRow w.heap.size 28 7 (.slice (some ⟨gg, 0, none⟩) (gl + 1) cap) (gl + 1) (flatX g ++ encX ⟨x, .slice A' x.dt.length c'⟩)) (hat : vl.ownBlock = some gg ∨ gg = u2.heap.size + 1) :
    TU w (W5.setCell ⟨go, q, none⟩ (.slice (some ⟨gg, 0, none⟩) (gl + 1) cap)) (.slice (some ⟨go, 0, none⟩) m c) (gs ++ [g ++ [(⟨x, .slice A' x.dt.length c'⟩ : Ex)]]) (gv ++ [.slice (some ⟨gg, 0, none⟩) (gl + 1) cap]) := by
  have hz := h.b.size
  have hz2 := hb.size
  subst hq hgl
  have hx' : u2.ownsRow w.heap.size 5 1 (.slice A' x.dt.length c') x.dt.length (byt x.dt) := by
    refine ⟨hx.1, ?_⟩
    rcases hx.2 with h0 | ⟨g, cap, cur, e1, e2, e3⟩
    · exact .inl h0
    · exact .inr ⟨g, cap, cur, e1, by omega, e3⟩
  have hal := (Below.refl u2.heap.size u2).alloc (Nat.le_refl _) (.cells (encX ⟨x, .slice A' x.dt.length c'⟩).toArray 28)
  have h6 := (h.below hb).below hal
  refine h6.more hm.symm (row_keep hx' hal) hg hown (fun b e => ?_)
  obtain rfl : gg = b := by simpa [Value.ownBlock] using e
  rcases hat with h1 | h1
  · exact .inl h1
  · exact .inr (by simp; omega)

set_option maxHeartbeats 8000000 in
theorem turns_any (w : World) (va : Value) (es : List En) (ha : Rd w va es) (hla : es.length ≤ 1000000) (hdl : ∀ x ∈ es, x.dt.length ≤ 10000000) :
    Calls Tryz.prog 7 #[va] w fun e w' => (∃ out gs gv, e = .returned out ∧ TU w w' out gs gv ∧ Gs es (gs.map ents)) ∧ Below w.heap.size w w' := by
  obtain ⟨i28, hi0, hz0, hz1, hz2⟩ := info_parts info28
  have I28 := Lib.hid hi0; have Z28 := Lib.hid hz0; have S28 := Lib.hid hz1; have Y28 := Lib.hid hz2
  clear hi0 hz0 hz1 hz2
  obtain ⟨i22, hi0, hz0, hz1, hz2⟩ := info_parts info22
  have I22 := Lib.hid hi0; have Z22 := Lib.hid hz0; have S22 := Lib.hid hz1; have Y22 := Lib.hid hz2
  clear hi0 hz0 hz1 hz2
  obtain ⟨A, c, rfl, hac, hcm, hA⟩ := ha.one
  have HA := Lib.hid hA
  have HDL := Lib.hid hdl
  have HT : Hid (es.take es.length = es) := Lib.hid (List.take_length ..)
  clear hA ha hdl
  unfold maxLen at hcm
  generalize hM : es.length = n at *
  clear hM
  go_enter Tryz.func7, Tryz.ntmps7
  go_wp2_with fail
  go_loopw [3, 8] (fun o i wr => ∃ (k : Nat) (gs : List (List Ex)) (gv : List Value), k ≤ n ∧ i = .int .i64 k ∧ Hid (TU w wr o gs gv) ∧ Hid (Gs (es.take k) (gs.map ents))) (fun _ i _ => n - (intOf i).toNat)
  case atStart => exact ⟨0, [], [], Nat.zero_le _, rfl, Lib.hid (TU.nil w), Lib.hid Gs.nil⟩
  case round =>
    obtain ⟨w7, rfl⟩ : ∃ w7 : World, w7 = wr := ⟨_, rfl⟩
    obtain ⟨k, gs, gv, hk, rfl, HP, HG⟩ := hrel
    obtain ⟨A1, c1, rfl, -⟩ := row_form HP.out.o
    by_cases hkn : k < n
    · obtain ⟨x, Ad, cd, b, off, hx, rfl, hdx, hcx⟩ := HA.out k hkn
      obtain ⟨c0, c1', c2, c3, c4, c5, c6⟩ := hcx _ HP.out.b
      have hst : es.take (k + 1) = es.take k ++ [x] := by rw [List.take_add_one, hx]; rfl
      have HS := Lib.hid hst
      have HL := Lib.hid (HDL.out x (List.mem_of_getElem? hx))
      have hkn' : (k : Int) < (n : Int) := by omega
      have hgl := HG.out.len
      have htk := take_len es k
      have hlg := HP.out.l
      have hgn : gv.length ≤ k := by have := hgl.1; simp at this; omega
      have hgm : ∀ g ∈ gs, g.length ≤ k := fun g hg => by have := hgl.2 (ents g) (List.mem_map_of_mem hg); simp [ents] at this; omega
      have HGM := Lib.hid hgm; have HLG := Lib.hid hlg
      have B1 : Hid (Below w7.heap.size w7 (w7.alloc (.cells #[.int .i64 x.kd, .int .u64 x.tk, .int .i64 x.id, .int .i64 x.fl, .int .i64 x.nn, .int .i64 x.er, .slice Ad x.dt.length cd] 28))) := Lib.hid ((Below.refl _ _).alloc (Nat.le_refl _) _)
      have K1 : Hid (XBx (w7.alloc (.cells #[.int .i64 x.kd, .int .u64 x.tk, .int .i64 x.id, .int .i64 x.fl, .int .i64 x.nn, .int .i64 x.er, .slice Ad x.dt.length cd] 28)) w7.heap.size ⟨x, .slice Ad x.dt.length cd⟩) := Lib.hid (new_block _ _)
      have P1 := Lib.hid (HP.out.below B1.out)
      have HVB : Hid (∀ (i : Nat) (v : Value) (b : Nat), gv[i]? = some v → v.ownBlock = some b → b < w7.heap.size) := Lib.hid (fun i v b hi e => by
        have h1 := (List.getElem?_eq_some_iff.1 hi).1
        exact ((HP.out.r i v _ hi (List.getElem?_eq_getElem (by rw [← HLG.out]; exact h1))).lt b e).2)
      have DX := Lib.hid hdx
      have HMX : Hid (x ∈ es) := Lib.hid (List.mem_of_getElem? hx)
      clear hcx hx hst hdx hgl htk hlg hgm
      have hz := HP.out.b.size
      have HZ := Lib.hid hz
      clear hz HP
      go_upto_region 5 with (fail)
      have hs1 : (w7.alloc (.cells #[.int .i64 x.kd, .int .u64 x.tk, .int .i64 x.id, .int .i64 x.fl, .int .i64 x.nn, .int .i64 x.er, .slice Ad x.dt.length cd] 28)).heap.size = w7.heap.size + 1 := by simp
      generalize w7.alloc (.cells #[.int .i64 x.kd, .int .u64 x.tk, .int .i64 x.id, .int .i64 x.fl, .int .i64 x.nn, .int .i64 x.er, .slice Ad x.dt.length cd] 28) = w1 at *
      have HZ1 : Hid (w1.heap.size = w7.heap.size + 1) := Lib.hid hs1
      have HB7 : Hid (w7.heap.size ≤ w1.heap.size) := Lib.hid (by omega)
      clear c0 c1' c2 c3 c4 c5 c6 hs1
      clear B1
      generalize w7.heap.size = bx at *
      obtain ⟨a0, a1, a2, a3, a4, a5, a6⟩ := K1.out.cells
      simp only at a0 a1 a2 a3 a4 a5 a6
      clear a1 a2 a3 a4 a5 a6
      -- the state ahead of region 7, in each of the three cases
      generalize hG : gv.length = gn at *
      have HGN := Lib.hid hG
      clear hG
      cases e1 : (x.kd == 1)
      · by_cases h0 : gn = 0
        · have HGE : Hid (gs.map ents = []) := Lib.hid (by
            have := HLG.out
            rw [h0] at this
            rw [List.eq_nil_of_length_eq_zero this.symm]; rfl)
          have h0' : ((gn : Int) == 0) = true := by subst h0; rfl
          clear h0
          have B6 : Hid (Below w1.heap.size w1 (w1.alloc (.cells #[.slice none 0 0] 29))) := Lib.hid ((Below.refl _ _).alloc (Nat.le_refl _) _)
          have P6 := Lib.hid (P1.out.below B6.out)
          have HPO := P6.out.o
          rw [HGN.out] at HPO
          have HPO := Lib.hid HPO
          have hz6 := P6.out.b.size
          go_upto_region 7 with (at_builtin; refine wpList_append_own _ rfl _ _ 30 rfl w.heap.size 29 i22 _ 1 24 Tryz.underlying30 I22.out Z22.out S22.out Y22.out rfl (by omega) _ gn gv rfl HPO.out ⟨w1.heap.size, 0, none⟩ 1 1 [.slice none 0 0] rfl rfl (World.news_of_block (cs := #[.slice none 0 0]) (t := 29) (fr := (0, 0)) (by exact new_block _ _)) (by simp [Value.oneCell']) (by unfold maxLen; omega) (by omega) hz6 ?_; intro out2 w2 hown' hgrow _; obtain ⟨go, cc, rfl⟩ := row_some hown' (by omega); have T2 : Hid (TU w w2 (.slice (some ⟨go, 0, none⟩) (gn + 1) cc) (gs ++ [[]]) (gv ++ [.slice none 0 0])) := Lib.hid (P6.out.new hgrow (by rw [HGN.out]; exact hown')); have K2 : Hid (XBx w2 bx ⟨x, .slice Ad x.dt.length cd⟩) := Lib.hid (by have h5 := K1.out.below B6.out; exact (hgrow.block bx (lt_of_block h5) (fun e => trow_not HPO.out h5 (by decide) e.symm)).trans h5); clear hgrow hown')
          obtain ⟨g, hgg⟩ : ∃ g : List Ex, g = [] := ⟨_, rfl⟩
          have HG2 : Hid (∀ dv, Gs (es.take (k + 1)) ((gs ++ [g ++ [(⟨x, dv⟩ : Ex)]]).map ents)) := Lib.hid (fun dv => by
            have := HG.out.new x (.inr HGE.out)
            rw [← HS.out] at this
            rw [hgg]
            simpa [ents] using this)
          have HBV : Hid (∀ b, (Value.slice none 0 0).ownBlock = some b → b < bx) := Lib.hid (fun b e => by cases e)
          have HGL : Hid (([] : List Ex).length ≤ k) := Lib.hid (Nat.zero_le _)
          clear P6 HPO B6 hz6 a0
          obtain ⟨vl, hvl⟩ : ∃ vl, vl = Value.slice none 0 0 := ⟨_, rfl⟩
          rw [← hvl] at T2 HBV
          rw [← hgg] at T2 HGL
          clear hvl hgg
          generalize hmq : gn + 1 = m at *
          obtain ⟨q, hqe⟩ : ∃ q, q = gn := ⟨_, rfl⟩
          rw [← hqe] at hmq
          have HQ : Hid (gv.length = q) := Lib.hid (by rw [HGN.out, hqe])
          obtain ⟨gs0, hgs0⟩ : ∃ gs0, gs0 = gs := ⟨_, rfl⟩
          obtain ⟨gv0, hgv0⟩ : ∃ gv0, gv0 = gv := ⟨_, rfl⟩
          rw [← hgs0, ← hgv0] at T2
          rw [← hgs0] at HG2
          rw [← hgv0] at HQ
          have hmb : m ≤ 1000001 := by omega
          clear hqe hgs0 hgv0 P1 K1 HVB HZ1 HG HLG HGN HGM HB7
          try clear HGE
          have hlm : (gv0 ++ [vl]).length = m := by simp [HQ.out]; omega
          have hto := T2.out.o
          have htr := T2.out.r q vl g (by simp [HQ.out]) (by have := T2.out.l; simp [HQ.out] at this; simp [this])
          rw [hlm] at hto
          obtain ⟨y0, z0⟩ := row_at hto q (by omega)
          rw [List.getElem?_append_right (by rw [HQ.out]; exact Nat.le_refl _), HQ.out, Nat.sub_self, List.getElem?_cons_zero] at y0
          have RV := Lib.hid htr
          have HNG : Hid (∀ b, vl.ownBlock = some b → b ≠ go) := Lib.hid (fun b e e2 => rows_apart (by decide) htr hto b e (by rw [e2]; rfl))
          have hzw := T2.out.b.size
          have HZW := Lib.hid hzw
          have hglw := (cell_lt y0).1
          simp only at hglw
          obtain ⟨A3, c3, rfl, -⟩ := row_form htr
          clear hlm hto htr
          have hwr : IntKind.i64.wrap ((m : Int) - 1) = (q : Int) := by rw [show ((m : Int) - 1) = (q : Int) by omega]; exact IntWalk.i64_in _ (by omega)
          have hqm : (q : Int) < (m : Int) := by omega
          have hqm' : q < m := by omega
          obtain ⟨a0, a1, a2, a3, a4, a5, a6⟩ := K2.out.cells
          simp only at a0 a1 a2 a3 a4 a5 a6
          have HTW : Hid (∀ W, Below w2.heap.size w2 W → DataAt W (.slice Ad x.dt.length cd) x.dt) := Lib.hid (fun W hW => by
            have hb := T2.out.b.trans (hW.mono T2.out.b.size)
            obtain ⟨A', c', e, h2, h3, hn, h4⟩ := DX.out
            refine ⟨A', c', e, h2, h3, hn, fun h0 => ?_⟩
            obtain ⟨b, off, hA, hlt, hc⟩ := h4 h0
            exact ⟨b, off, hA, Nat.lt_of_lt_of_le hlt hb.size, fun j u hj => (hb.cell (p := ⟨b, off + j, none⟩) hlt).trans (hc j u hj)⟩)
          have HT13 := Lib.hid (fun W hW => twin_any W x Ad cd (HTW.out W hW) HL.out)
          unfold agE at HT13
          have HGL2 := Lib.hid (Nat.le_trans HGL.out hk)
          generalize hgl : g.length = gl at *
          have HGL3 := Lib.hid hgl
          have hgl2 := HGL2.out
          clear hgl
          go_region_law (first | (go_simp; go_at_call 21; refine (HT13.out _ (by first | exact Below.refl _ _ | exact (Below.refl _ _).drew)).mono ?_; rintro e u2 ⟨⟨A', c', rfl, r2⟩, b2⟩; have B2 : Hid (Below w2.heap.size w2 u2) := Lib.hid (by first | exact b2 | exact (Below.refl _ _).drew.trans b2); have R2 : Hid (u2.ownsRow w2.heap.size 5 1 (.slice A' x.dt.length c') x.dt.length (byt x.dt)) := Lib.hid r2; have RU := Lib.hid (row_keep RV.out B2.out); have HZU : Hid (w.heap.size ≤ u2.heap.size) := Lib.hid (Nat.le_trans HZW.out B2.out.size); have y1 := (B2.out.cell (p := ⟨go, q, none⟩) (by exact hglw)).trans (by exact y0); have z1 := (B2.out.frozen (p := ⟨go, q, none⟩) (by exact hglw)).trans (by exact z0); have y1a := (((Below.refl u2.heap.size u2).alloc (Nat.le_refl _) (.cells #[.int .i64 x.kd, .int .u64 x.tk, .int .i64 x.id, .int .i64 x.fl, .int .i64 x.nn, .int .i64 x.er, .slice A' x.dt.length c'] 28)).cell (p := ⟨go, q, none⟩) (cell_lt y1).1).trans (by exact y1); clear r2 b2; dsimp only) | (refine step_append_lies _ rfl (.tmp 32) (.tmp 35) 29 rfl w.heap.size 28 i28 _ 7 72 Tryz.underlying29 I28.out Z28.out S28.out Y28.out ?a1 ?a2 (.slice A3 gl c3) gl (flatX g) ?a3 ?a4 ⟨u2.heap.size, 0, none⟩ 1 1 (encX ⟨x, .slice A' x.dt.length c'⟩) ?b1 ?b2 ?b3 ?b4 ?b5 ?b6 ?b7 ?b8 (u2.heap.size + 1) ?b9 ?_; (case a1 => rfl); (case a2 => omega); (case a3 => simp [Act.eval, Act.put]); (case a4 => exact RU.out.alloc _); (case b1 => simp [Act.eval, Act.put]); (case b2 => rfl); (case b3 => exact (World.news_of_block (cs := (encX ⟨x, .slice A' x.dt.length c'⟩).toArray) (t := 28) (fr := (0, 0)) (by exact new_block _ _))); (case b4 => exact (tencX_one ⟨x, .slice A' x.dt.length c'⟩ A' x.dt.length c' rfl)); (case b5 => omega); (case b6 => unfold maxLen; omega); (case b7 => omega); (case b8 => (have := HZU.out; simp; omega)); (case b9 => simp); intro gg cap w5 own2 gr2 at2 lt2; have GR : Hid (World.grownBy (u2.alloc (.cells (encX ⟨x, .slice A' x.dt.length c'⟩).toArray 28)) w5 _) := Lib.hid gr2; have OW := Lib.hid own2; have AT := Lib.hid at2; clear own2 gr2 at2; have y2 := tfar_row GR.out (by exact y1) (by exact fun e => HNG.out go e rfl); obtain ⟨y2, z2⟩ := y2; have z2 := z2.trans (by exact z1)))
          all_goals
            have T3 : Hid (TU w _ (.slice (some ⟨go, 0, none⟩) m cc) (gs0 ++ [g ++ [(⟨x, .slice A' x.dt.length c'⟩ : Ex)]]) (gv0 ++ [.slice (some ⟨gg, 0, none⟩) (gl + 1) cap])) := Lib.hid (turn_more T2.out HQ.out hmq B2.out R2.out GR.out HGL3.out OW.out AT.out)
            go_wp2_with fail
            go_roundw
            case rel => exact ⟨k + 1, _, _, by omega, by go_num, T3, Lib.hid (HG2.out _)⟩
            case measure => simp [intOf]; omega
        · have h0' : ((gn : Int) == 0) = false := by rw [beq_eq_false_iff_ne]; omega
          obtain ⟨gv0, vl, rfl⟩ : ∃ l x, gv = l ++ [x] := ⟨_, _, (List.dropLast_concat_getLast (fun e => h0 (by rw [← HGN.out, e]; rfl))).symm⟩
          obtain ⟨gs0, g, rfl⟩ : ∃ l x, gs = l ++ [x] := ⟨_, _, (List.dropLast_concat_getLast (fun e => h0 (by rw [HLG.out, e]; rfl))).symm⟩
          have HKN : Hid (x.kd ≠ 1) := Lib.hid (fun e => by rw [e] at e1; cases e1)
          go_upto_region 7 with (fail)
          have HG2 : Hid (∀ dv, Gs (es.take (k + 1)) ((gs0 ++ [g ++ [(⟨x, dv⟩ : Ex)]]).map ents)) := Lib.hid (fun dv => by
            have h5 := HG.out
            rw [List.map_append, List.map_cons, List.map_nil] at h5
            have := h5.more x HKN.out
            rw [← HS.out] at this
            simpa [ents] using this)
          have HGL : Hid (g.length ≤ k) := Lib.hid (HGM.out g (by simp))
          have hpo := P1.out.o
          rw [HGN.out] at hpo
          obtain ⟨go, cc, ho⟩ := row_some hpo (by omega)
          injection ho with ho _ hcc
          have hcc := hcc.symm
          subst ho hcc
          clear hpo
          have HBV : Hid (∀ b, vl.ownBlock = some b → b < bx) := Lib.hid (fun b e => HVB.out gv0.length vl b (by simp) e)
          obtain ⟨q, hmq⟩ : ∃ q, gn = q + 1 := ⟨gn - 1, by omega⟩
          have hmq := hmq.symm
          have HQ : Hid (gv0.length = q) := Lib.hid (by have := HGN.out; simp at this; omega)
          obtain ⟨m, hm⟩ : ∃ m, m = gn := ⟨_, rfl⟩
          rw [← hm] at P1 hmq ⊢
          have hmb : m ≤ 1000001 := by omega
          obtain ⟨w2, hw2⟩ : ∃ w2, w2 = w1 := ⟨_, rfl⟩
          rw [← hw2] at P1 K1 ⊢
          have T2 := P1
          have K2 := K1
          clear hw2 HGN HLG HVB HG hm P1 K1 HZ1 HB7 HGM a0
          have hlm : (gv0 ++ [vl]).length = m := by simp [HQ.out]; omega
          have hto := T2.out.o
          have htr := T2.out.r q vl g (by simp [HQ.out]) (by have := T2.out.l; simp [HQ.out] at this; simp [this])
          rw [hlm] at hto
          obtain ⟨y0, z0⟩ := row_at hto q (by omega)
          rw [List.getElem?_append_right (by rw [HQ.out]; exact Nat.le_refl _), HQ.out, Nat.sub_self, List.getElem?_cons_zero] at y0
          have RV := Lib.hid htr
          have HNG : Hid (∀ b, vl.ownBlock = some b → b ≠ go) := Lib.hid (fun b e e2 => rows_apart (by decide) htr hto b e (by rw [e2]; rfl))
          have hzw := T2.out.b.size
          have HZW := Lib.hid hzw
          have hglw := (cell_lt y0).1
          simp only at hglw
          obtain ⟨A3, c3, rfl, -⟩ := row_form htr
          clear hlm hto htr
          have hwr : IntKind.i64.wrap ((m : Int) - 1) = (q : Int) := by rw [show ((m : Int) - 1) = (q : Int) by omega]; exact IntWalk.i64_in _ (by omega)
          have hqm : (q : Int) < (m : Int) := by omega
          have hqm' : q < m := by omega
          obtain ⟨a0, a1, a2, a3, a4, a5, a6⟩ := K2.out.cells
          simp only at a0 a1 a2 a3 a4 a5 a6
          have HTW : Hid (∀ W, Below w2.heap.size w2 W → DataAt W (.slice Ad x.dt.length cd) x.dt) := Lib.hid (fun W hW => by
            have hb := T2.out.b.trans (hW.mono T2.out.b.size)
            obtain ⟨A', c', e, h2, h3, hn, h4⟩ := DX.out
            refine ⟨A', c', e, h2, h3, hn, fun h0 => ?_⟩
            obtain ⟨b, off, hA, hlt, hc⟩ := h4 h0
            exact ⟨b, off, hA, Nat.lt_of_lt_of_le hlt hb.size, fun j u hj => (hb.cell (p := ⟨b, off + j, none⟩) hlt).trans (hc j u hj)⟩)
          have HT13 := Lib.hid (fun W hW => twin_any W x Ad cd (HTW.out W hW) HL.out)
          unfold agE at HT13
          have HGL2 := Lib.hid (Nat.le_trans HGL.out hk)
          generalize hgl : g.length = gl at *
          have HGL3 := Lib.hid hgl
          have hgl2 := HGL2.out
          clear hgl
          go_region_law (first | (go_simp; go_at_call 21; refine (HT13.out _ (by first | exact Below.refl _ _ | exact (Below.refl _ _).drew)).mono ?_; rintro e u2 ⟨⟨A', c', rfl, r2⟩, b2⟩; have B2 : Hid (Below w2.heap.size w2 u2) := Lib.hid (by first | exact b2 | exact (Below.refl _ _).drew.trans b2); have R2 : Hid (u2.ownsRow w2.heap.size 5 1 (.slice A' x.dt.length c') x.dt.length (byt x.dt)) := Lib.hid r2; have RU := Lib.hid (row_keep RV.out B2.out); have HZU : Hid (w.heap.size ≤ u2.heap.size) := Lib.hid (Nat.le_trans HZW.out B2.out.size); have y1 := (B2.out.cell (p := ⟨go, q, none⟩) (by exact hglw)).trans (by exact y0); have z1 := (B2.out.frozen (p := ⟨go, q, none⟩) (by exact hglw)).trans (by exact z0); have y1a := (((Below.refl u2.heap.size u2).alloc (Nat.le_refl _) (.cells #[.int .i64 x.kd, .int .u64 x.tk, .int .i64 x.id, .int .i64 x.fl, .int .i64 x.nn, .int .i64 x.er, .slice A' x.dt.length c'] 28)).cell (p := ⟨go, q, none⟩) (cell_lt y1).1).trans (by exact y1); clear r2 b2; dsimp only) | (refine step_append_lies _ rfl (.tmp 32) (.tmp 35) 29 rfl w.heap.size 28 i28 _ 7 72 Tryz.underlying29 I28.out Z28.out S28.out Y28.out ?a1 ?a2 (.slice A3 gl c3) gl (flatX g) ?a3 ?a4 ⟨u2.heap.size, 0, none⟩ 1 1 (encX ⟨x, .slice A' x.dt.length c'⟩) ?b1 ?b2 ?b3 ?b4 ?b5 ?b6 ?b7 ?b8 (u2.heap.size + 1) ?b9 ?_; (case a1 => rfl); (case a2 => omega); (case a3 => simp [Act.eval, Act.put]); (case a4 => exact RU.out.alloc _); (case b1 => simp [Act.eval, Act.put]); (case b2 => rfl); (case b3 => exact (World.news_of_block (cs := (encX ⟨x, .slice A' x.dt.length c'⟩).toArray) (t := 28) (fr := (0, 0)) (by exact new_block _ _))); (case b4 => exact (tencX_one ⟨x, .slice A' x.dt.length c'⟩ A' x.dt.length c' rfl)); (case b5 => omega); (case b6 => unfold maxLen; omega); (case b7 => omega); (case b8 => (have := HZU.out; simp; omega)); (case b9 => simp); intro gg cap w5 own2 gr2 at2 lt2; have GR : Hid (World.grownBy (u2.alloc (.cells (encX ⟨x, .slice A' x.dt.length c'⟩).toArray 28)) w5 _) := Lib.hid gr2; have OW := Lib.hid own2; have AT := Lib.hid at2; clear own2 gr2 at2; have y2 := tfar_row GR.out (by exact y1) (by exact fun e => HNG.out go e rfl); obtain ⟨y2, z2⟩ := y2; have z2 := z2.trans (by exact z1)))
          all_goals
            have T3 : Hid (TU w _ (.slice (some ⟨go, 0, none⟩) m cc) (gs0 ++ [g ++ [(⟨x, .slice A' x.dt.length c'⟩ : Ex)]]) (gv0 ++ [.slice (some ⟨gg, 0, none⟩) (gl + 1) cap])) := Lib.hid (turn_more T2.out HQ.out hmq B2.out R2.out GR.out HGL3.out OW.out AT.out)
            go_wp2_with fail
            go_roundw
            case rel => exact ⟨k + 1, _, _, by omega, by go_num, T3, Lib.hid (HG2.out _)⟩
            case measure => simp [intOf]; omega
      · have HK1 : Hid (x.kd = 1) := Lib.hid (beq_iff_eq.1 e1)
        have B6 : Hid (Below w1.heap.size w1 (w1.alloc (.cells #[.slice none 0 0] 29))) := Lib.hid ((Below.refl _ _).alloc (Nat.le_refl _) _)
        have P6 := Lib.hid (P1.out.below B6.out)
        have HPO := P6.out.o
        rw [HGN.out] at HPO
        have HPO := Lib.hid HPO
        have hz6 := P6.out.b.size
        go_upto_region 7 with (at_builtin; refine wpList_append_own _ rfl _ _ 30 rfl w.heap.size 29 i22 _ 1 24 Tryz.underlying30 I22.out Z22.out S22.out Y22.out rfl (by omega) _ gn gv rfl HPO.out ⟨w1.heap.size, 0, none⟩ 1 1 [.slice none 0 0] rfl rfl (World.news_of_block (cs := #[.slice none 0 0]) (t := 29) (fr := (0, 0)) (by exact new_block _ _)) (by simp [Value.oneCell']) (by unfold maxLen; omega) (by omega) hz6 ?_; intro out2 w2 hown' hgrow _; obtain ⟨go, cc, rfl⟩ := row_some hown' (by omega); have T2 : Hid (TU w w2 (.slice (some ⟨go, 0, none⟩) (gn + 1) cc) (gs ++ [[]]) (gv ++ [.slice none 0 0])) := Lib.hid (P6.out.new hgrow (by rw [HGN.out]; exact hown')); have K2 : Hid (XBx w2 bx ⟨x, .slice Ad x.dt.length cd⟩) := Lib.hid (by have h5 := K1.out.below B6.out; exact (hgrow.block bx (lt_of_block h5) (fun e => trow_not HPO.out h5 (by decide) e.symm)).trans h5); clear hgrow hown')
        obtain ⟨g, hgg⟩ : ∃ g : List Ex, g = [] := ⟨_, rfl⟩
        have HG2 : Hid (∀ dv, Gs (es.take (k + 1)) ((gs ++ [g ++ [(⟨x, dv⟩ : Ex)]]).map ents)) := Lib.hid (fun dv => by
          have := HG.out.new x (.inl HK1.out)
          rw [← HS.out] at this
          rw [hgg]
          simpa [ents] using this)
        have HBV : Hid (∀ b, (Value.slice none 0 0).ownBlock = some b → b < bx) := Lib.hid (fun b e => by cases e)
        have HGL : Hid (([] : List Ex).length ≤ k) := Lib.hid (Nat.zero_le _)
        clear P6 HPO B6 hz6 a0
        obtain ⟨vl, hvl⟩ : ∃ vl, vl = Value.slice none 0 0 := ⟨_, rfl⟩
        rw [← hvl] at T2 HBV
        rw [← hgg] at T2 HGL
        clear hvl hgg
        generalize hmq : gn + 1 = m at *
        obtain ⟨q, hqe⟩ : ∃ q, q = gn := ⟨_, rfl⟩
        rw [← hqe] at hmq
        have HQ : Hid (gv.length = q) := Lib.hid (by rw [HGN.out, hqe])
        obtain ⟨gs0, hgs0⟩ : ∃ gs0, gs0 = gs := ⟨_, rfl⟩
        obtain ⟨gv0, hgv0⟩ : ∃ gv0, gv0 = gv := ⟨_, rfl⟩
        rw [← hgs0, ← hgv0] at T2
        rw [← hgs0] at HG2
        rw [← hgv0] at HQ
        have hmb : m ≤ 1000001 := by omega
        clear hqe hgs0 hgv0 P1 K1 HVB HZ1 HG HLG HGN HGM HB7
        try clear HGE
        have hlm : (gv0 ++ [vl]).length = m := by simp [HQ.out]; omega
        have hto := T2.out.o
        have htr := T2.out.r q vl g (by simp [HQ.out]) (by have := T2.out.l; simp [HQ.out] at this; simp [this])
        rw [hlm] at hto
        obtain ⟨y0, z0⟩ := row_at hto q (by omega)
        rw [List.getElem?_append_right (by rw [HQ.out]; exact Nat.le_refl _), HQ.out, Nat.sub_self, List.getElem?_cons_zero] at y0
        have RV := Lib.hid htr
        have HNG : Hid (∀ b, vl.ownBlock = some b → b ≠ go) := Lib.hid (fun b e e2 => rows_apart (by decide) htr hto b e (by rw [e2]; rfl))
        have hzw := T2.out.b.size
        have HZW := Lib.hid hzw
        have hglw := (cell_lt y0).1
        simp only at hglw
        obtain ⟨A3, c3, rfl, -⟩ := row_form htr
        clear hlm hto htr
        have hwr : IntKind.i64.wrap ((m : Int) - 1) = (q : Int) := by rw [show ((m : Int) - 1) = (q : Int) by omega]; exact IntWalk.i64_in _ (by omega)
        have hqm : (q : Int) < (m : Int) := by omega
        have hqm' : q < m := by omega
        obtain ⟨a0, a1, a2, a3, a4, a5, a6⟩ := K2.out.cells
        simp only at a0 a1 a2 a3 a4 a5 a6
        have HTW : Hid (∀ W, Below w2.heap.size w2 W → DataAt W (.slice Ad x.dt.length cd) x.dt) := Lib.hid (fun W hW => by
          have hb := T2.out.b.trans (hW.mono T2.out.b.size)
          obtain ⟨A', c', e, h2, h3, hn, h4⟩ := DX.out
          refine ⟨A', c', e, h2, h3, hn, fun h0 => ?_⟩
          obtain ⟨b, off, hA, hlt, hc⟩ := h4 h0
          exact ⟨b, off, hA, Nat.lt_of_lt_of_le hlt hb.size, fun j u hj => (hb.cell (p := ⟨b, off + j, none⟩) hlt).trans (hc j u hj)⟩)
        have HT13 := Lib.hid (fun W hW => twin_any W x Ad cd (HTW.out W hW) HL.out)
        unfold agE at HT13
        have HGL2 := Lib.hid (Nat.le_trans HGL.out hk)
        generalize hgl : g.length = gl at *
        have HGL3 := Lib.hid hgl
        have hgl2 := HGL2.out
        clear hgl
        go_region_law (first | (go_simp; go_at_call 21; refine (HT13.out _ (by first | exact Below.refl _ _ | exact (Below.refl _ _).drew)).mono ?_; rintro e u2 ⟨⟨A', c', rfl, r2⟩, b2⟩; have B2 : Hid (Below w2.heap.size w2 u2) := Lib.hid (by first | exact b2 | exact (Below.refl _ _).drew.trans b2); have R2 : Hid (u2.ownsRow w2.heap.size 5 1 (.slice A' x.dt.length c') x.dt.length (byt x.dt)) := Lib.hid r2; have RU := Lib.hid (row_keep RV.out B2.out); have HZU : Hid (w.heap.size ≤ u2.heap.size) := Lib.hid (Nat.le_trans HZW.out B2.out.size); have y1 := (B2.out.cell (p := ⟨go, q, none⟩) (by exact hglw)).trans (by exact y0); have z1 := (B2.out.frozen (p := ⟨go, q, none⟩) (by exact hglw)).trans (by exact z0); have y1a := (((Below.refl u2.heap.size u2).alloc (Nat.le_refl _) (.cells #[.int .i64 x.kd, .int .u64 x.tk, .int .i64 x.id, .int .i64 x.fl, .int .i64 x.nn, .int .i64 x.er, .slice A' x.dt.length c'] 28)).cell (p := ⟨go, q, none⟩) (cell_lt y1).1).trans (by exact y1); clear r2 b2; dsimp only) | (refine step_append_lies _ rfl (.tmp 32) (.tmp 35) 29 rfl w.heap.size 28 i28 _ 7 72 Tryz.underlying29 I28.out Z28.out S28.out Y28.out ?a1 ?a2 (.slice A3 gl c3) gl (flatX g) ?a3 ?a4 ⟨u2.heap.size, 0, none⟩ 1 1 (encX ⟨x, .slice A' x.dt.length c'⟩) ?b1 ?b2 ?b3 ?b4 ?b5 ?b6 ?b7 ?b8 (u2.heap.size + 1) ?b9 ?_; (case a1 => rfl); (case a2 => omega); (case a3 => simp [Act.eval, Act.put]); (case a4 => exact RU.out.alloc _); (case b1 => simp [Act.eval, Act.put]); (case b2 => rfl); (case b3 => exact (World.news_of_block (cs := (encX ⟨x, .slice A' x.dt.length c'⟩).toArray) (t := 28) (fr := (0, 0)) (by exact new_block _ _))); (case b4 => exact (tencX_one ⟨x, .slice A' x.dt.length c'⟩ A' x.dt.length c' rfl)); (case b5 => omega); (case b6 => unfold maxLen; omega); (case b7 => omega); (case b8 => (have := HZU.out; simp; omega)); (case b9 => simp); intro gg cap w5 own2 gr2 at2 lt2; have GR : Hid (World.grownBy (u2.alloc (.cells (encX ⟨x, .slice A' x.dt.length c'⟩).toArray 28)) w5 _) := Lib.hid gr2; have OW := Lib.hid own2; have AT := Lib.hid at2; clear own2 gr2 at2; have y2 := tfar_row GR.out (by exact y1) (by exact fun e => HNG.out go e rfl); obtain ⟨y2, z2⟩ := y2; have z2 := z2.trans (by exact z1)))
        all_goals
          have T3 : Hid (TU w _ (.slice (some ⟨go, 0, none⟩) m cc) (gs0 ++ [g ++ [(⟨x, .slice A' x.dt.length c'⟩ : Ex)]]) (gv0 ++ [.slice (some ⟨gg, 0, none⟩) (gl + 1) cap])) := Lib.hid (turn_more T2.out HQ.out hmq B2.out R2.out GR.out HGL3.out OW.out AT.out)
          go_wp2_with fail
          go_roundw
          case rel => exact ⟨k + 1, _, _, by omega, by go_num, T3, Lib.hid (HG2.out _)⟩
          case measure => simp [intOf]; omega
    · obtain rfl : k = n := by omega
      rw [HT.out] at HG
      go_wp2_with fail
      go_ret
      exact ⟨⟨_, gs, gv, rfl, HP.out, HG.out⟩, HP.out.b⟩
end Go.Proofs.YtbanfkpfijcmcaaGreatDoor
