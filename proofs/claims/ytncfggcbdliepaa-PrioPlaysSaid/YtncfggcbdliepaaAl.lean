/- PrioAll, plainly: what stands in the queues behind Puts. -/
import Derived.Test.YtncfggcbdliepaaSo
namespace Go.Proofs.Ytncfggcbdliepaa
open Go.RowKit
set_option linter.unusedSimpArgs false
set_option linter.unusedVariables false

/-- Does a call put the number? -/
def Pt (m : Nat) (x : Int) (o : OpV) : Prop := o.id = x ∧ 0 ≤ o.pr ∧ o.pr < m ∧ 0 ≤ o.fl
instance (m : Nat) (x : Int) (o : OpV) : Decidable (Pt m x o) := by unfold Pt; infer_instance
/-- How many calls, the first that puts x, all its flags. -/
structure Tri where
  n : Nat
  i : Int
  f : Int
def tri1 (m : Nat) (x : Int) (s : Tri) (o : OpV) : Tri := if Pt m x o then ⟨s.n + 1, if s.i < 0 then s.n else s.i, bits .or .i64 s.f o.fl⟩ else ⟨s.n + 1, s.i, s.f⟩
def tri (m : Nat) (x : Int) (l : List OpV) : Tri := l.foldl (tri1 m x) ⟨0, -1, 0⟩
theorem tri_snoc (m : Nat) (x : Int) (l : List OpV) (o : OpV) : tri m x (l ++ [o]) = tri1 m x (tri m x l) o := by simp [tri]
theorem tri_n (m : Nat) (x : Int) (l : List OpV) : (tri m x l).n = l.length := by
  rcases List.eq_nil_or_concat l with rfl | ⟨l', o, rfl⟩
  · rfl
  · have ih := tri_n m x l'
    rw [List.concat_eq_append, tri_snoc, tri1]
    split <;> simp [ih]
termination_by l.length
decreasing_by simp_all

/-- All Puts of the calls. -/
def puts (m : Nat) (l : List OpV) : List It := l.foldl (fun L o => putL m L o.pr o.id o.fl 0) []
theorem puts_snoc (m : Nat) (l : List OpV) (o : OpV) : puts m (l ++ [o]) = putL m (puts m l) o.pr o.id o.fl 0 := by simp [puts]

/-- What holds behind the calls. -/
structure AllI (m : Nat) (l : List OpV) (L : List It) : Prop where
  ok : Ok m L
  at' : ∀ t ∈ L, ∃ (k : Nat) (o : OpV), (tri m t.id l).i = k ∧ k < l.length ∧ l[k]? = some o ∧ o.pr = t.pr ∧ (tri m t.id l).f = t.fl
  no : ∀ x, 0 ≤ x → look L x = none → (tri m x l).i = -1 ∧ (tri m x l).f = 0
  ord : L.Pairwise fun s t => (tri m s.id l).i < (tri m t.id l).i
theorem AllI.nil (m : Nat) : AllI m [] [] := ⟨Ok.nil m, fun _ h => absurd h (List.not_mem_nil), fun _ _ _ => ⟨rfl, rfl⟩, List.Pairwise.nil⟩
theorem AllI.step {m : Nat} {l : List OpV} {L : List It} (h : AllI m l L) (o : OpV) (hx : o.id ≤ 9223372036854775807) (hf : o.fl ≤ 9223372036854775807) : AllI m (l ++ [o]) (putL m L o.pr o.id o.fl 0) := by
  by_cases hp : PutOk m o.pr o.id o.fl 0
  · unfold putL
    rw [if_pos hp]
    obtain ⟨⟨p0, p1⟩, x0, f0, -⟩ := hp
    have hpt : Pt m o.id o := ⟨rfl, p0, p1, f0⟩
    have hoth : ∀ x, x ≠ o.id → tri m x (l ++ [o]) = ⟨(tri m x l).n + 1, (tri m x l).i, (tri m x l).f⟩ := fun x hx => by
      rw [tri_snoc, tri1, if_neg (fun h => hx h.1.symm)]
    have hsame : tri m o.id (l ++ [o]) = ⟨(tri m o.id l).n + 1, if (tri m o.id l).i < 0 then (tri m o.id l).n else (tri m o.id l).i, bits .or .i64 (tri m o.id l).f o.fl⟩ := by
      rw [tri_snoc, tri1, if_pos hpt]
    cases hl : look L o.id with
    | some t =>
      rw [Option.isSome_some, if_pos rfl]
      obtain ⟨ht, hid⟩ := look_some hl
      obtain ⟨k, o', hk, hkl, hko, hkp, hkf⟩ := h.at' t ht
      rw [hid] at hk hkf
      have hi : ∀ x, x ∈ L.map It.id → (tri m x (l ++ [o])).i = (tri m x l).i := fun x _ => by
        by_cases e : x = o.id
        · subst e; rw [hsame]; simp only; rw [if_neg (by omega)]
        · rw [hoth x e]
      refine ⟨h.ok.upd o.id o.fl 0 f0 hf (Int.le_refl _), fun s hs => ?_, fun x hx0 hxl => ?_, ?_⟩
      · obtain ⟨s', hs', rfl⟩ := List.mem_map.1 hs
        obtain ⟨k', o2, hk', hkl', hko', hkp', hkf'⟩ := h.at' s' hs'
        have hlt : k' < (l ++ [o]).length := by simp; omega
        have hget : (l ++ [o])[k']? = some o2 := by rw [List.getElem?_append_left hkl']; exact hko'
        by_cases e : s'.id = o.id
        · have es : s' = t := eq_of_id h.ok hs' ht (by rw [e, hid])
          subst es
          refine ⟨k', o2, ?_, hlt, hget, by rw [updT_pr]; exact hkp', ?_⟩
          · rw [updT_id, hi _ (List.mem_map_of_mem hs')]; exact hk'
          · rw [updT_id, e, hsame]
            simp only [updT, e, if_true]
            rw [hkf]
        · refine ⟨k', o2, ?_, hlt, hget, by rw [updT_pr]; exact hkp', ?_⟩
          · rw [updT_id, hi _ (List.mem_map_of_mem hs')]; exact hk'
          · rw [updT_id, hoth _ e]
            simp only [updT, if_neg e]
            exact hkf'
      · rw [look_upd] at hxl
        have hxl2 : look L x = none := by cases h0 : look L x with
          | none => rfl
          | some s => rw [h0] at hxl; cases hxl
        have hne : x ≠ o.id := fun e => by rw [e, hl] at hxl2; cases hxl2
        rw [hoth x hne]
        exact h.no x hx0 hxl2
      · unfold upd
        rw [List.pairwise_map]
        refine h.ord.imp_of_mem fun {a b} ha hb hab => ?_
        rw [updT_id, updT_id, hi _ (List.mem_map_of_mem ha), hi _ (List.mem_map_of_mem hb)]
        exact hab
    | none =>
      rw [Option.isSome_none, if_neg (by simp)]
      obtain ⟨n1, n2⟩ := h.no o.id x0 hl
      have hnone := look_none.1 hl
      have hcap : capc 0 = 0 := rfl
      rw [hcap]
      have hnew : tri m o.id (l ++ [o]) = ⟨l.length + 1, (l.length : Int), o.fl⟩ := by
        rw [hsame, n1, n2, tri_n]
        simp only [or_zero f0 hf]
        rfl
      refine ⟨h.ok.snoc _ hnone ⟨x0, hx, f0, hf, Int.le_refl _, by simp, p0, p1⟩, fun s hs => ?_, fun x hx0 hxl => ?_, ?_⟩
      · rcases List.mem_append.1 hs with hs | hs
        · obtain ⟨k', o2, hk', hkl', hko', hkp', hkf'⟩ := h.at' s hs
          rw [hoth _ (hnone s hs)]
          exact ⟨k', o2, hk', by simp; omega, by rw [List.getElem?_append_left hkl']; exact hko', hkp', hkf'⟩
        · rw [List.mem_singleton.1 hs]
          simp only
          rw [hnew]
          exact ⟨l.length, o, rfl, by simp, by simp, rfl, rfl⟩
      · rw [look_snoc _ _ _ hl] at hxl
        by_cases e : x = o.id
        · rw [if_pos e] at hxl; cases hxl
        · rw [if_neg e] at hxl
          rw [hoth x e]
          exact h.no x hx0 hxl
      · rw [List.pairwise_append]
        refine ⟨h.ord.imp_of_mem fun {a b} ha hb hab => ?_, List.pairwise_singleton _ _, fun a ha b hb => ?_⟩
        · rw [hoth _ (hnone a ha), hoth _ (hnone b hb)]; exact hab
        · rw [List.mem_singleton.1 hb]
          simp only
          rw [hnew, hoth _ (hnone a ha)]
          obtain ⟨k', o2, hk', hkl', _⟩ := h.at' a ha
          simp only
          omega
  · unfold putL
    rw [if_neg hp]
    have hall : ∀ x, 0 ≤ x → tri m x (l ++ [o]) = ⟨(tri m x l).n + 1, (tri m x l).i, (tri m x l).f⟩ := fun x hx => by
      rw [tri_snoc, tri1, if_neg (fun h => hp ⟨⟨h.2.1, h.2.2.1⟩, by rw [h.1]; exact hx, h.2.2.2, Int.le_refl _⟩)]
    have hid : ∀ t ∈ L, 0 ≤ t.id := fun t ht => (h.ok.b t ht).1
    refine ⟨h.ok, fun t ht => ?_, fun x hx0 hxl => ?_, h.ord.imp_of_mem fun {a b} ha hb hab => ?_⟩
    · obtain ⟨k', o2, hk', hkl', hko', hkp', hkf'⟩ := h.at' t ht
      rw [hall _ (hid t ht)]
      exact ⟨k', o2, hk', by simp; omega, by rw [List.getElem?_append_left hkl']; exact hko', hkp', hkf'⟩
    · rw [hall x hx0]; exact h.no x hx0 hxl
    · rw [hall _ (hid a ha), hall _ (hid b hb)]; exact hab
theorem puts_all {m : Nat} (l : List OpV) (h : ∀ o ∈ l, o.id ≤ 9223372036854775807 ∧ o.fl ≤ 9223372036854775807) : AllI m l (puts m l) := by
  rcases List.eq_nil_or_concat l with rfl | ⟨l', o, rfl⟩
  · exact AllI.nil m
  · rw [List.concat_eq_append] at h ⊢
    rw [puts_snoc]
    have ho := h o (by simp)
    exact (puts_all l' (fun s hs => h s (by simp [hs]))).step o ho.1 ho.2
termination_by l.length
decreasing_by simp_all
theorem AllI.sub {m : Nat} {l : List OpV} {L M : List It} (h : AllI m l L) (s : List.Sublist M L) : Ok m M ∧ (∀ t ∈ M, ∃ (k : Nat) (o : OpV), (tri m t.id l).i = k ∧ k < l.length ∧ l[k]? = some o ∧ o.pr = t.pr ∧ (tri m t.id l).f = t.fl) ∧ M.Pairwise fun s t => (tri m s.id l).i < (tri m t.id l).i :=
  ⟨h.ok.sub s, fun t ht => h.at' t (s.subset ht), h.ord.sublist s⟩
end Go.Proofs.Ytncfggcbdliepaa
