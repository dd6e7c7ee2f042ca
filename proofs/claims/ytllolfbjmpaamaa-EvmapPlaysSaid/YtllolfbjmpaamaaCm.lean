/- EvmapCounts, plainly; and the Go map that counts. -/
import Derived.Maps.RangeWalk
import Derived.Test.YtllolfbjmpaamaaCu
namespace Go.Proofs.Ytllolfbjmpaamaa
open Go.RowKit
set_option linter.unusedSimpArgs false
set_option linter.unusedVariables false
set_option maxRecDepth 100000

/-- All rows below k. -/
def gat (L : List It) : Nat → List It
  | 0 => []
  | k + 1 => gat L k ++ row L (k : Nat)
theorem gat_len (L : List It) : ∀ k, (gat L k).length = lens L k
  | 0 => by simp [gat, lens]
  | k + 1 => by
    have := gat_len L k
    unfold lens at this ⊢
    simp only [gat, List.length_append, this, List.range_succ, List.map_append, List.sum_append, List.map_cons, List.map_nil, List.sum_cons, List.sum_nil]
    omega
theorem gat_mem {L : List It} {t : It} : ∀ {k : Nat}, t ∈ gat L k → t ∈ L ∧ t.pr < k
  | 0, h => absurd h (List.not_mem_nil)
  | k + 1, h => by
    rcases List.mem_append.1 h with h | h
    · obtain ⟨h1, h2⟩ := gat_mem h
      exact ⟨h1, by omega⟩
    · obtain ⟨h1, h2⟩ := mem_row.1 h
      exact ⟨h1, by omega⟩
theorem gat_new {L : List It} (ho : Ok L) {k j : Nat} {t : It} (h : (row L (k : Nat))[j]? = some t) : t.id ∉ ids (gat L k) ++ ids ((row L (k : Nat)).take j) := by
  have hm := mem_row.1 (List.mem_of_getElem? h)
  intro hx
  rcases List.mem_append.1 hx with hx | hx
  · unfold ids at hx
    obtain ⟨u, hu, e⟩ := List.mem_map.1 hx
    obtain ⟨h1, h2⟩ := gat_mem hu
    have := eq_of_id ho h1 hm.1 e
    subst this
    omega
  · have hn := ((ho.row (k : Nat)).nd).sublist ((List.take_sublist (j + 1) (row L (k : Nat))).map It.id)
    rw [take_step h, List.map_append, List.nodup_append] at hn
    exact hn.2.2 _ hx _ (by simp) rfl
theorem gat_all {L : List It} (ho : Ok L) : (gat L 128).length = L.length := by
  rw [gat_len]
  exact lens_all (fun t ht => (ho.b t ht).place)
theorem row_96 {L : List It} (ho : Ok L) : row L (96 : Nat) = [] := by
  unfold row
  rw [List.filter_eq_nil_iff]
  intro t ht
  have := (ho.b t ht).b
  simp
  rcases this with ⟨_, h1, h2, h3⟩ | ⟨_, h1, h2, h3⟩ <;> omega
theorem sig_row (L : List It) {k : Nat} (h1 : 1 ≤ k) (h2 : k ≤ 31) : sigL L (k : Nat) = row L ((96 + k : Nat) : Int) := by
  unfold sigL
  rw [if_pos (by omega)]
  congr 1
  omega
theorem of_row (L : List It) {k : Nat} (h2 : k ≤ 95) : ofL L (k : Nat) = row L (k : Nat) := by
  unfold ofL
  rw [if_pos (by omega)]
theorem wants_pos {L : List It} (ho : Ok L) {k : Nat} (hk : k ≤ 95) : (wants L (k : Nat) = 0 ↔ (row L (k : Nat)).length = 0) := by
  unfold wants
  rw [of_row L hk]
  have hb : ∀ t ∈ row L (k : Nat), 2 ≤ t.wn ∧ t.wn < 64 := fun t ht => by
    obtain ⟨h1, h2⟩ := mem_row.1 ht
    rcases (ho.b t h1).b with ⟨_, h3, _, h4⟩ | ⟨h3, _⟩
    · omega
    · unfold MayW at h3; omega
  obtain ⟨h1, h2, h3⟩ := wntL_b (row L (k : Nat)) (fun t ht => by have := hb t ht; omega)
  generalize row L (k : Nat) = R at *
  cases R with
  | nil => simp [wntL_nil]
  | cons t r =>
    have h4 := h3 t (by simp)
    have h5 := hb t (by simp)
    simp only [List.length_cons]
    constructor <;> intro h <;> omega

/-- The Go map that counts, behind the numbers M, none twice. -/
def Met (W : World) (mb : Nat) (M : List Int) : Prop := ∃ D : DataW Unit, W.ownsMap Try.prog 3 (plainElem Try.prog 3) mb M.length D ∧ Maps.IsMap D ∧ ∀ x zd, (Lit.int .i64 x).wf = true → D.atKey (.int .i64 x) zd = if x ∈ M then .lit (.int .i64 1) else zd
theorem Met.lt {W : World} {mb : Nat} {M : List Int} (h : Met W mb M) : mb < W.heap.size := by
  obtain ⟨D, h, _⟩ := h; exact h.lt
theorem Met.keep {W W' : World} {mb : Nat} {M : List Int} (h : Met W mb M) (hk : W'.heap[mb]? = W.heap[mb]?) : Met W' mb M := by
  obtain ⟨D, h, h2⟩ := h
  exact ⟨D, map_same h hk, h2⟩
theorem met_put {D : DataW Unit} {M : List Int} {x : Int} (hD : Maps.IsMap D) (hw : (Lit.int .i64 x).wf = true) (h : ∀ x zd, (Lit.int .i64 x).wf = true → D.atKey (.int .i64 x) zd = if x ∈ M then .lit (.int .i64 1) else zd) (y : Int) (zd : DataW Unit) (hy : (Lit.int .i64 y).wf = true) :
    (D.put (.int .i64 x) (.lit (.int .i64 1))).atKey (.int .i64 y) zd = if y ∈ M ++ [x] then .lit (.int .i64 1) else zd := by
  by_cases e : y = x
  · subst e
    rw [Maps.atKey_put_same hD (show Go.WideAt.IsKeyLit (.int .i64 y) from trivial), if_pos (by simp)]
  · rw [Maps.atKey_put_other (fun e2 => e (by injection e2)), h y zd hy]
    by_cases hm : y ∈ M
    · rw [if_pos hm, if_pos (by simp [hm])]
    · rw [if_neg hm, if_neg (by simp [hm, e])]
theorem lens_le (L : List It) (m : Nat) : lens L m ≤ L.length := by
  induction L with
  | nil => rw [lens_nil]; exact Nat.zero_le _
  | cons t r ih => rw [lens_cons, List.length_cons]; split <;> omega
/-- What the map says of a number that is not in it, and of one that is. -/
theorem met_zero {D : DataW Unit} {M : List Int} {x c : Int} (hw : (Lit.int .i64 x).wf = true) (h : ∀ x zd, (Lit.int .i64 x).wf = true → D.atKey (.int .i64 x) zd = if x ∈ M then .lit (.int .i64 1) else zd) (hn : x ∉ M) (hc : D.atKey (.int .i64 x) (.lit (.int .i64 0)) = .lit (.int .i64 c)) : c = 0 := by
  rw [h x _ hw, if_neg hn] at hc
  injection hc with hc
  injection hc with _ hc
  exact hc.symm
theorem met_one {D : DataW Unit} {M : List Int} {x c : Int} (hw : (Lit.int .i64 x).wf = true) (h : ∀ x zd, (Lit.int .i64 x).wf = true → D.atKey (.int .i64 x) zd = if x ∈ M then .lit (.int .i64 1) else zd) (hc : ∀ zd, D.atKey (.int .i64 x) zd = .lit (.int .i64 c)) : x ∈ M ∧ c = 1 := by
  have h1 := hc (.lit (.int .i64 (c + 1)))
  rw [h x _ hw] at h1
  by_cases hm : x ∈ M
  · rw [if_pos hm] at h1
    injection h1 with h1
    injection h1 with _ h1
    exact ⟨hm, h1.symm⟩
  · rw [if_neg hm] at h1
    injection h1 with h1
    injection h1 with _ h1
    omega

/-- The map, and the map that counts. -/
structure Cs (w W : World) (g : Nat) (S : Nat → Prop) (L : List It) (mb : Nat) (M : List Int) : Prop where
  p : Run w W g S 200 L
  q : Met W mb M
  d : ¬ S mb
  s : w.heap.size ≤ mb
theorem Cs.below {w W W' : World} {g : Nat} {S : Nat → Prop} {L : List It} {mb : Nat} {M : List Int} (h : Cs w W g S L mb M) (hb : Below W.heap.size W W') : Cs w W' g S L mb M :=
  ⟨h.p.below hb, h.q.keep (hb.block _ h.q.lt), h.d, h.s⟩
theorem Cs.put {w W W' : World} {g : Nat} {S : Nat → Prop} {L : List It} {mb : Nat} {M M' : List Int} (h : Cs w W g S L mb M) (hg : W.grownBy W' (some mb)) (q : Met W' mb M') : Cs w W' g S L mb M' :=
  ⟨⟨h.p.q.keep (fun b hb => hg.block b (h.p.q.lt hb) (fun e => h.d (by injection e with e; rw [← e]; exact hb))), h.p.b.grown hg h.p.b.size (fun k e => by cases e; exact h.s), h.p.s⟩, q, h.d, h.s⟩
/-- The numbers of a clone, while the counting map turns. -/
theorem row_beside {w W : World} {mb : Nat} {v : Value} {l : List It} (h : w.ownsRow W.heap.size 3 1 v l.length (flat l)) (hmb : mb < W.heap.size) : ∃ (A : Option Addr) (c : Nat), v = .slice A l.length c ∧ l.length ≤ c ∧ ∀ (k : Nat), k < l.length → ∃ (t : It) (b : Nat), l[k]? = some t ∧ A = some ⟨b, 0, none⟩ ∧ ∀ W : World, w.grownBy W (some mb) → W.cell? ⟨b, k, none⟩ = some (.int .i64 t.id) := by
  obtain ⟨A, c, e, h1, h2, h3⟩ := row_cells h
  refine ⟨A, c, e, h1, fun k hk => ?_⟩
  obtain ⟨b, hA, hb, ho, hW⟩ := h3 k _ (List.getElem?_eq_getElem hk)
  exact ⟨_, b, List.getElem?_eq_getElem hk, hA, fun W hB => hW W (hB.block b hb (fun e => by
    have h4 := (h.lt b ho).1
    injection e with e
    omega))⟩
end Go.Proofs.Ytllolfbjmpaamaa
