/- read, whatever line it is handed. -/
/- Parse: what it holds between two lines. -/
import Derived.Test.YtbanfkpfijcmcaaGreatDoorR1
import Derived.Test.YtbanfkpfijcmcaaGreatDoorR2
import Derived.Test.YtbanfkpfijcmcaaGreatDoorR3
import Derived.Test.YtbanfkpfijcmcaaGreatDoorR4
import Derived.Test.YtbanfkpfijcmcaaGreatDoorSm
import Derived.Test.YtbanfkpfijcmcaaGreatDoorPt

namespace Go.Proofs.YtbanfkpfijcmcaaGreatDoor
open Go.RowKit

theorem read_any (s : ByteArray) (w : World) (hE : Ep w) (hs : s.size ≤ 1000000) : Calls Tryz.prog 34 #[.string s] w (ReadP s w) := by
  have hb := kind_bd (wAt (pcW s) 0)
  by_cases hk : kindF (wAt (pcW s) 0) < 1 ∨ (pcW s).length ≠ cntF (kindF (wAt (pcW s) 0))
  · exact read_bad s w hE hs hk
  · have h1 : ¬ kindF (wAt (pcW s) 0) < 1 := fun h => hk (.inl h)
    have h2 : (pcW s).length = cntF (kindF (wAt (pcW s) 0)) := Classical.not_not.1 fun h => hk (.inr h)
    rcases (show kindF (wAt (pcW s) 0) = 1 ∨ kindF (wAt (pcW s) 0) = 2 ∨ kindF (wAt (pcW s) 0) = 3 ∨ kindF (wAt (pcW s) 0) = 4 by omega) with h | h | h | h
    · exact read_k1 s w hE hs h (by rw [h2, h]; rfl)
    · exact read_k2 s w hE hs h (by rw [h2, h]; rfl)
    · exact read_k3 s w hE hs h (by rw [h2, h]; rfl)
    · exact read_k4 s w hE hs h (by rw [h2, h]; rfl)
end Go.Proofs.YtbanfkpfijcmcaaGreatDoor

namespace Go.Proofs.YtbanfkpfijcmcaaGreatDoor
open Go.RowKit Go.Shelf
set_option linter.unusedSimpArgs false
set_option linter.unusedVariables false
set_option maxRecDepth 100000

/-- What a round keeps: from B on whatever is no cells, and cells of strings and of functions. -/
structure K2 (B : Nat) (X Y : World) : Prop where
  size : X.heap.size ≤ Y.heap.size
  same : ∀ b o, B ≤ b → X.heap[b]? = some o → (o.isCells = false ∨ ∃ v t, (t = 9 ∨ t = 82) ∧ o = .cells #[v] t (0, 0)) → Y.heap[b]? = some o
theorem K2.trans {B : Nat} {X Y Z : World} (h : K2 B X Y) (k : K2 B Y Z) : K2 B X Z := ⟨Nat.le_trans h.size k.size, fun b o hb ho hc => k.same b o hb (h.same b o hb ho hc) hc⟩
theorem K2.below {B : Nat} {X Y : World} (h : Below X.heap.size X Y) : K2 B X Y := ⟨h.size, fun b o hb ho hc => (h.block b (lt_of_block ho)).trans ho⟩
theorem K2.set {B : Nat} (X : World) (g : Nat) (v : Value) (hg : g < B) : K2 B X (X.setCell ⟨g, 0, none⟩ v) := ⟨by simp [World.setCell], fun b o hb ho hc => (Below.heap_setCell _ _ _ _ (by simp; omega)).trans ho⟩
theorem K2.grown {B : Nat} {X Y : World} {row : Option Nat} (h : X.grownBy Y row) (hr : ∀ r, row = some r → ∃ cs fr, X.heap[r]? = some (.cells cs 28 fr)) : K2 B X Y := by
  refine ⟨h.size, fun b o hb ho hc => (h.block b (lt_of_block ho) (fun e => ?_)).trans ho⟩
  obtain ⟨cs, fr, hx⟩ := hr b e.symm
  rw [hx] at ho
  cases ho
  rcases hc with hc | ⟨v, t, ht, hc⟩
  · cases hc
  · cases hc
    rcases ht with ht | ht <;> cases ht
theorem K2.k1 {B : Nat} {V X Y : World} (h : K2 B X Y) (hV : B ≤ V.heap.size) : K1 V X Y := ⟨h.size, fun b o hb ho hc => h.same b o (Nat.le_trans hV hb) ho hc⟩
theorem K2.from {B : Nat} {X Y : World} (h : K2 B X Y) : KeepsFrom B X Y := ⟨h.size, fun b o hb ho hc => h.same b o hb ho (.inl hc)⟩

/-- What Parse holds between two lines (k: what its count of lines says). -/
structure PI (w : World) (X : List Ex) (k : Int) (A : World) : Prop where
  o : ∃ v, Boxed A w.heap.size 29 v ∧ A.ownsRow (w.heap.size + 3) 28 7 v X.length (flatX X)
  n : Boxed A (w.heap.size + 1) 3 (.int .i64 k)
  f : Boxed A (w.heap.size + 2) 4 (.bool true)
  d : ∀ x ∈ X, A.ownsRow (w.heap.size + 3) 5 1 x.dv x.e.dt.length (byt x.e.dt)
  b : Below w.heap.size w A
  sz : w.heap.size + 4 ≤ A.heap.size
  c : X.length ≤ 20000
theorem row_setE {W : World} {base : Nat} {e : TypeId} {s : Nat} {v : Value} {n : Nat} {xs : List Value} {g : Nat} {cs : Array Value} {T : TypeId} (h : W.ownsRow base e s v n xs) (hb : W.heap[g]? = some (.cells cs T (0, 0))) (hne : T ≠ e) (j : Nat) (u : Value) : (W.setCell ⟨g, j, none⟩ u).ownsRow base e s v n xs :=
  row_same h (fun b e2 => Below.heap_setCell _ _ _ _ (fun e3 => row_not h hb hne (by rw [e2]; exact congrArg some e3)))
theorem PI.below {w : World} {X : List Ex} {k : Int} {A B : World} (h : PI w X k A) (hb : Below A.heap.size A B) : PI w X k B := by
  obtain ⟨v, hv, hr⟩ := h.o
  exact ⟨⟨v, (hb.block _ hv.lt).trans hv, row_keep hr hb⟩, (hb.block _ h.n.lt).trans h.n, (hb.block _ h.f.lt).trans h.f, fun x hx => row_keep (h.d x hx) hb, h.b.trans (hb.mono h.b.size), Nat.le_trans h.sz hb.size, h.c⟩
theorem PI.setn {w : World} {X : List Ex} {k : Int} {A : World} (h : PI w X k A) (k' : Int) : PI w X k' (A.setCell ⟨w.heap.size + 1, 0, none⟩ (.int .i64 k')) := by
  obtain ⟨v, hv, hr⟩ := h.o
  exact ⟨⟨v, hv.other (by omega) _, row_setE hr h.n (by decide) _ _⟩, h.n.set _, h.f.other (by omega) _, fun x hx => row_setE (h.d x hx) h.n (by decide) _ _, h.b.setCell (by simp) _, by simpa [World.setCell] using h.sz, h.c⟩
theorem PI.setf {w : World} {X : List Ex} {k : Int} {A : World} (h : PI w X k A) : PI w X k (A.setCell ⟨w.heap.size + 2, 0, none⟩ (.bool true)) := by
  obtain ⟨v, hv, hr⟩ := h.o
  exact ⟨⟨v, hv.other (by omega) _, row_setE hr h.f (by decide) _ _⟩, h.n.other (by omega) _, h.f.set _, fun x hx => row_setE (h.d x hx) h.f (by decide) _ _, h.b.setCell (by simp) _, by simpa [World.setCell] using h.sz, h.c⟩
/-- A turn of a block that is none of Parse's. -/
theorem row_turn {A B : World} {base : Nat} {e : TypeId} {s : Nat} {v : Value} {n : Nat} {xs : List Value} {row : Option Nat} (h : A.ownsRow base e s v n xs) (he : e ≠ 9) (hg : A.grownBy B row)
    (hr : ∀ r, row = some r → ∃ o : Obj, A.heap[r]? = some o ∧ (o.isCells = false ∨ ∃ u, o = .cells #[u] 9 (0, 0))) : B.ownsRow base e s v n xs := by
  refine row_same h (fun b hb => hg.block b (h.lt _ hb).2 (fun eq => ?_))
  obtain ⟨o, ho, hc⟩ := hr b eq.symm
  rcases h.2 with ⟨rfl, _⟩ | ⟨g, cap, cur, rfl, _, hgb, _⟩
  · simp [Value.ownBlock] at hb
  · obtain rfl : g = b := by simpa [Value.ownBlock] using hb
    rw [hgb] at ho; cases ho
    rcases hc with hc | ⟨u, hc⟩
    · cases hc
    · cases hc; exact he rfl
theorem ownT_obj {n₀ : Nat} {V A B : World} {r : Nat} (h : OwnT S1 n₀ V A B r) (hV : n₀ ≤ V.heap.size) : n₀ ≤ r ∧ ∃ o : Obj, A.heap[r]? = some o ∧ (o.isCells = false ∨ ∃ u, o = .cells #[u] 9 (0, 0)) := by
  rcases h with ⟨h1, h2⟩ | ⟨h1, _, o, ho, hc⟩
  · refine ⟨Nat.le_trans hV h1, ?_⟩
    rcases h2 with ⟨⟨u, hu⟩, _⟩ | ⟨o, ho, hc⟩
    · exact ⟨_, hu, .inr ⟨u, rfl⟩⟩
    · exact ⟨o, ho, .inl hc⟩
  · exact ⟨h1, o, ho, .inl hc⟩
theorem PI.turn {w A B V : World} {X : List Ex} {k : Int} {row : Option Nat} {n₀ : Nat} (h : PI w X k A) (hg : A.grownBy B row) (hn : w.heap.size + 4 = n₀) (hV : n₀ ≤ V.heap.size) (hr : ∀ r, row = some r → OwnT S1 n₀ V A B r) : PI w X k B := by
  have hr' := fun r e => ownT_obj (hr r e) hV
  have hne : ∀ k, k < n₀ → some k ≠ row := fun k hk e => by have := (hr' k e.symm).1; omega
  obtain ⟨v, hv, hrow⟩ := h.o
  refine ⟨⟨v, (hg.block _ hv.lt (hne _ (by omega))).trans hv, row_turn hrow (by decide) hg fun r e => (hr' r e).2⟩, (hg.block _ h.n.lt (hne _ (by omega))).trans h.n, (hg.block _ h.f.lt (hne _ (by omega))).trans h.f,
    fun x hx => row_turn (h.d x hx) (by decide) hg fun r e => (hr' r e).2, h.b.grown hg (by have := h.sz; omega) (fun k e => by have := (hr' k e).1; omega), Nat.le_trans h.sz hg.size, h.c⟩
/-- How Parse stops early. -/
structure PX (w : World) (m : Nat) (A : World) : Prop where
  n : Boxed A (w.heap.size + 1) 3 (.int .i64 m)
  f : Boxed A (w.heap.size + 2) 4 (.bool false)
  b : Below w.heap.size w A
  sz : w.heap.size + 4 ≤ A.heap.size
theorem PX.turn {w A B V : World} {m : Nat} {row : Option Nat} {n₀ : Nat} (h : PX w m A) (hg : A.grownBy B row) (hn : w.heap.size + 4 = n₀) (hV : n₀ ≤ V.heap.size) (hr : ∀ r, row = some r → OwnT S1 n₀ V A B r) : PX w m B := by
  have hr' := fun r e => ownT_obj (hr r e) hV
  have hne : ∀ k, k < n₀ → some k ≠ row := fun k hk e => by have := (hr' k e.symm).1; omega
  exact ⟨(hg.block _ h.n.lt (hne _ (by omega))).trans h.n, (hg.block _ h.f.lt (hne _ (by omega))).trans h.f, h.b.grown hg (by have := h.sz; omega) (fun k e => by have := (hr' k e).1; omega), Nat.le_trans h.sz hg.size⟩
theorem own29 {U : World} {base : Nat} {v : Value} {n : Nat} {xs : List Value} {b : Nat} (h : U.ownsRow base 28 7 v n xs) (hb : v.ownBlock = some b) : ∃ cs, U.heap[b]? = some (.cells cs 28 (0, 0)) := by
  rcases h.2 with ⟨rfl, _⟩ | ⟨g, cap, cur, rfl, _, hgb, _⟩
  · simp [Value.ownBlock] at hb
  · obtain rfl : g = b := by simpa [Value.ownBlock] using hb
    exact ⟨_, hgb⟩
/-- An entry more. -/
theorem PI.app {w : World} {X : List Ex} {k : Int} {U w1 : World} {xe : Ex} {v v' : Value} {o : Obj} (h : PI w X k U) (hv : Boxed U w.heap.size 29 v) (hrow : U.ownsRow (w.heap.size + 3) 28 7 v X.length (flatX X))
    (hd : U.ownsRow (w.heap.size + 3) 5 1 xe.dv xe.e.dt.length (byt xe.e.dt)) (hl : X.length < 20000) (hown : w1.ownsRow (w.heap.size + 3) 28 7 v' (X.length + 1) (flatX X ++ encX xe)) (hg : (U.alloc o).grownBy w1 v.ownBlock) :
    Boxed w1 w.heap.size 29 v ∧ PI w (X ++ [xe]) k (w1.setCell ⟨w.heap.size, 0, none⟩ v') ∧ K2 (w.heap.size + 4) U (w1.setCell ⟨w.heap.size, 0, none⟩ v') := by
  have keep : ∀ b, b < U.heap.size → some b ≠ v.ownBlock → w1.heap[b]? = U.heap[b]? := fun b hb hne => (hg.block b (by simp; omega) hne).trans (Below.heap_alloc _ _ _ hb)
  have low : ∀ b, b < w.heap.size + 3 → some b ≠ v.ownBlock := fun b hb e => by have := (hrow.lt b e.symm).1; omega
  have hsz : U.heap.size ≤ w1.heap.size := by have := hg.size; simp at this; omega
  have hv1 : Boxed w1 w.heap.size 29 v := (keep _ hv.lt (low _ (by omega))).trans hv
  have hn1 : Boxed w1 (w.heap.size + 1) 3 (.int .i64 k) := (keep _ h.n.lt (low _ (by omega))).trans h.n
  have hf1 : Boxed w1 (w.heap.size + 2) 4 (.bool true) := (keep _ h.f.lt (low _ (by omega))).trans h.f
  have data : ∀ x : Ex, U.ownsRow (w.heap.size + 3) 5 1 x.dv x.e.dt.length (byt x.e.dt) → (w1.setCell ⟨w.heap.size, 0, none⟩ v').ownsRow (w.heap.size + 3) 5 1 x.dv x.e.dt.length (byt x.e.dt) := by
    intro x hx
    refine row_setE (row_same hx fun b hb => keep b (hx.lt b hb).2 (fun e => ?_)) hv1 (by decide) _ _
    obtain ⟨cs, hcs⟩ := own29 hrow e.symm
    exact row_not hx hcs (by decide) hb
  have hb1 : Below w.heap.size w w1 := by
    refine h.b.trans ⟨hg.os, hg.tape, hg.output, hsz, fun b hb => keep b (Nat.lt_of_lt_of_le hb h.b.size) (low b (by omega))⟩
  refine ⟨hv1, ⟨⟨v', hv1.set _, ?_⟩, hn1.other (by omega) _, hf1.other (by omega) _, ?_, hb1.setCell (Nat.le_refl _) _, by have := h.sz; simp [World.setCell]; omega, by simp; omega⟩, ?_⟩
  · have := row_setE hown hv1 (by decide) 0 v'
    rw [flatX_append, List.length_append]
    have e : flatX [xe] = encX xe := by simp [flatX]
    rw [e]
    exact this
  · intro x hx
    rcases List.mem_append.1 hx with hx | hx
    · exact data x (h.d x hx)
    · rw [List.mem_singleton.1 hx]; exact data xe hd
  · refine ⟨by simp [World.setCell]; omega, fun b o' hb ho hc => ?_⟩
    rw [Below.heap_setCell _ _ _ _ (by simp; omega), keep b (lt_of_block ho) (fun e => ?_)]
    · exact ho
    · obtain ⟨cs, hcs⟩ := own29 hrow e.symm
      rw [hcs] at ho
      cases ho
      rcases hc with hc | ⟨u, t, ht, hc⟩
      · cases hc
      · cases hc
        rcases ht with ht | ht <;> cases ht
theorem cells7_new (U : World) (c0 c1 c2 c3 c4 c5 c6 : Value) : ∀ j u, [c0, c1, c2, c3, c4, c5, c6][j]? = some u → (U.alloc (.cells #[c0, c1, c2, c3, c4, c5, c6] 28)).cell? ((⟨U.heap.size, 0, none⟩ : Addr).add j) = some u := by
  intro j u hj
  rw [add_plain, Nat.zero_add, (cell_of (new_block U _) j).1]
  simpa using hj
/-- Parse stops: the last line was none. -/
theorem PI.stop {w : World} {X : List Ex} {m : Nat} {A : World} (h : PI w X (m : Int) A) : PX w m (A.setCell ⟨w.heap.size + 2, 0, none⟩ (.bool false)) :=
  ⟨h.n.other (by omega) _, h.f.set _, h.b.setCell (by simp) _, by simpa [World.setCell] using h.sz⟩
theorem PX.below {w : World} {m : Nat} {A B : World} (h : PX w m A) (hb : Below A.heap.size A B) : PX w m B :=
  ⟨(hb.block _ h.n.lt).trans h.n, (hb.block _ h.f.lt).trans h.f, h.b.trans (hb.mono h.b.size), Nat.le_trans h.sz hb.size⟩
/-- What the lines so far come to. -/
def Sofar (pre : List ByteArray) (out : List En) : Prop := ∀ rest, goL [] (pre ++ rest) = goL out rest
theorem Sofar.nil : Sofar [] [] := fun rest => rfl
theorem goL_cons (out : List En) (l : ByteArray) (r : List ByteArray) : goL out (l :: r) = match stepF out (cutS l) (cutB l) with
    | none => .inr (out.length + 1)
    | some o => goL o r := rfl
theorem Sofar.some {pre : List ByteArray} {out o : List En} {x : ByteArray} (h : Sofar pre out) (hs : stepF out (cutS x) (cutB x) = some o) : Sofar (pre ++ [x]) o := by
  intro rest
  rw [List.append_assoc, h, List.singleton_append, goL_cons, hs]
theorem Sofar.none {pre : List ByteArray} {out : List En} {x : ByteArray} (h : Sofar pre out) (hs : stepF out (cutS x) (cutB x) = none) (rest : List ByteArray) : goL [] (pre ++ [x] ++ rest) = .inr (out.length + 1) := by
  rw [List.append_assoc, h, List.singleton_append, goL_cons, hs]
end Go.Proofs.YtbanfkpfijcmcaaGreatDoor
