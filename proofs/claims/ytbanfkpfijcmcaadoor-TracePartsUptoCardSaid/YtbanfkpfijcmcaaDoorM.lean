/- Layer 24, plainly: entries, where two lists part, what is picked, iterations. No program in sight. -/
import Derived.Below
namespace Go.Proofs.YtbanfkpfijcmcaaDoor
set_option linter.unusedSimpArgs false
set_option linter.unusedVariables false

/-- An entry. -/
structure En where
  kd : Int
  tk : Int
  id : Int
  fl : Int
  nn : Int
  er : Int
  dt : List UInt8
/-- Two entries are the same. -/
def oneF (x y : En) : Bool := x.kd == y.kd && (x.tk == y.tk && (x.id == y.id && (x.fl == y.fl && (x.nn == y.nn && (x.er == y.er && x.dt == y.dt)))))
theorem oneF_iff {x y : En} : oneF x y = true ↔ x = y := by
  obtain ⟨a, b, c, d, e, f, g⟩ := x
  obtain ⟨a', b', c', d', e', f', g'⟩ := y
  unfold oneF
  simp only [Bool.and_eq_true, beq_iff_eq, En.mk.injEq]
theorem oneF_self (x : En) : oneF x x = true := oneF_iff.2 rfl
theorem oneF_ne {x y : En} (h : x ≠ y) : oneF x y = false := by
  rw [Bool.eq_false_iff]
  exact fun e => h (oneF_iff.1 e)

/-- How far two lists go together. -/
def cpl : List En → List En → Nat
  | x :: a, y :: b => if oneF x y then cpl a b + 1 else 0
  | _, _ => 0
theorem cpl_le : ∀ (a b : List En), cpl a b ≤ a.length ∧ cpl a b ≤ b.length
  | [], b => ⟨Nat.zero_le _, by simp [cpl]⟩
  | x :: a, [] => ⟨Nat.zero_le _, Nat.zero_le _⟩
  | x :: a, y :: b => by
    have := cpl_le a b
    unfold cpl
    simp only [List.length_cons]
    split <;> omega
theorem cpl_lt : ∀ {a b : List En} {k : Nat}, k < cpl a b → ∃ x, a[k]? = some x ∧ b[k]? = some x
  | [], b, k, h => by simp [cpl] at h
  | x :: a, [], k, h => by simp [cpl] at h
  | x :: a, y :: b, k, h => by
    unfold cpl at h
    split at h
    · rename_i e
      obtain rfl := oneF_iff.1 e
      cases k with
      | zero => exact ⟨x, rfl, rfl⟩
      | succ k =>
        obtain ⟨z, h1, h2⟩ := cpl_lt (a := a) (b := b) (k := k) (by omega)
        exact ⟨z, by simpa using h1, by simpa using h2⟩
    · omega
theorem cpl_at : ∀ {a b : List En} {x y : En}, a[cpl a b]? = some x → b[cpl a b]? = some y → oneF x y = false
  | [], b, x, y, h, _ => by simp at h
  | u :: a, [], x, y, _, h => by simp at h
  | u :: a, v :: b, x, y, h1, h2 => by
    unfold cpl at h1 h2
    split at h1
    · rename_i e
      rw [if_pos e] at h2
      exact cpl_at (by simpa using h1) (by simpa using h2)
    · rename_i e
      rw [if_neg e] at h2
      simp at h1 h2
      subst h1 h2
      simpa using e
/-- Where two lists part. -/
def partsF (a b : List En) : Int := if cpl a b = a.length ∧ cpl a b = b.length then -1 else cpl a b
def sameF (a b : List En) : Bool := decide (cpl a b = a.length ∧ cpl a b = b.length)
theorem cpl_self : ∀ a : List En, cpl a a = a.length
  | [] => rfl
  | x :: a => by unfold cpl; rw [if_pos (oneF_self x), cpl_self a]; rfl
theorem sameF_self (a : List En) : sameF a a = true := by
  unfold sameF
  rw [cpl_self]
  simp

/-- An event's entries. -/
def ofP (id : Int) (x : En) : Bool := x.id == id && (x.kd == 2 || x.kd == 3)
def ofF (l : List En) (id : Int) : List En := l.filter (ofP id)
theorem ofF_snoc (l : List En) (x : En) (id : Int) : ofF (l ++ [x]) id = if ofP id x then ofF l id ++ [x] else ofF l id := by
  unfold ofF
  rw [List.filter_append]
  by_cases h : ofP id x <;> simp [h]
/-- The bytes of one kind of action. -/
def byP (id n : Int) (x : En) : Bool := x.kd == 3 && (x.id == id && x.nn == n)
def byF (l : List En) (id n : Int) : List UInt8 := (l.filter (byP id n)).flatMap En.dt
theorem byF_snoc (l : List En) (x : En) (id n : Int) : byF (l ++ [x]) id n = if byP id n x then byF l id n ++ x.dt else byF l id n := by
  unfold byF
  rw [List.filter_append]
  by_cases h : byP id n x <;> simp [h]

/-- Iterations: groups, each begun by a turn. -/
structure Gs (l : List En) (gs : List (List En)) : Prop where
  fl : gs.flatten = l
  ne : ∀ g ∈ gs, g ≠ []
  k0 : ∀ (i k : Nat) (g : List En) (x : En), gs[i]? = some g → g[k]? = some x → (k = 0 ↔ (i = 0 ∧ k = 0) ∨ x.kd = 1)
theorem Gs.nil : Gs [] [] := ⟨rfl, fun g h => absurd h (List.not_mem_nil), fun i k g x h => by simp at h⟩
theorem Gs.new {l : List En} {gs : List (List En)} (h : Gs l gs) (x : En) (hx : x.kd = 1 ∨ gs = []) : Gs (l ++ [x]) (gs ++ [[x]]) := by
  refine ⟨by simp [h.fl], fun g hg => ?_, fun i k g y hi hk => ?_⟩
  · rcases List.mem_append.1 hg with hg | hg
    · exact h.ne g hg
    · rw [List.mem_singleton.1 hg]; simp
  · by_cases hlt : i < gs.length
    · rw [List.getElem?_append_left hlt] at hi
      exact h.k0 i k g y hi hk
    · have hi2 : i = gs.length := by
        have := (List.getElem?_eq_some_iff.1 hi).1
        simp at this; omega
      subst hi2
      simp at hi
      subst hi
      cases k with
      | zero =>
        simp at hk
        subst hk
        constructor
        · intro _
          rcases hx with hx | hx
          · exact .inr hx
          · exact .inl ⟨by simp [hx], rfl⟩
        · intro _; rfl
      | succ k => simp at hk
theorem Gs.more {l : List En} {gs : List (List En)} {g : List En} (h : Gs l (gs ++ [g])) (x : En) (hx : x.kd ≠ 1) : Gs (l ++ [x]) (gs ++ [g ++ [x]]) := by
  have hg : g ≠ [] := h.ne g (by simp)
  refine ⟨by have := h.fl; simp at this ⊢; rw [← this]; simp, fun g' hg' => ?_, fun i k g' y hi hk => ?_⟩
  · rcases List.mem_append.1 hg' with hg' | hg'
    · exact h.ne g' (by simp [hg'])
    · rw [List.mem_singleton.1 hg']; simp
  · by_cases hlt : i < gs.length
    · rw [List.getElem?_append_left hlt] at hi
      exact h.k0 i k g' y (by rw [List.getElem?_append_left hlt]; exact hi) hk
    · have hi2 : i = gs.length := by
        have := (List.getElem?_eq_some_iff.1 hi).1
        simp at this; omega
      subst hi2
      simp at hi
      subst hi
      by_cases hk2 : k < g.length
      · rw [List.getElem?_append_left hk2] at hk
        exact h.k0 gs.length k g y (by simp) hk
      · have hk3 : k = g.length := by
          have := (List.getElem?_eq_some_iff.1 hk).1
          simp at this; omega
        subst hk3
        simp at hk
        subst hk
        have hl : 0 < g.length := List.length_pos_iff.2 hg
        constructor
        · intro h0; omega
        · rintro (⟨_, h0⟩ | h0)
          · omega
          · exact absurd h0 hx
/-- The place in the list of the k-th of the i-th group. -/
theorem flatten_at {α : Type} : ∀ (gs : List (List α)) (i k : Nat) (g : List α) (x : α), gs[i]? = some g → g[k]? = some x → gs.flatten[(gs.take i).flatten.length + k]? = some x
  | [], i, k, g, x, h, _ => by simp at h
  | u :: gs, 0, k, g, x, h, hk => by
    simp at h
    subst h
    simp only [List.take_zero, List.flatten_nil, List.length_nil, Nat.zero_add, List.flatten_cons]
    rw [List.getElem?_append_left (List.getElem?_eq_some_iff.1 hk).1]
    exact hk
  | u :: gs, i + 1, k, g, x, h, hk => by
    have := flatten_at gs i k g x (by simpa using h) hk
    simp only [List.take_succ_cons, List.flatten_cons, List.length_append]
    rw [List.getElem?_append_right (by omega)]
    rw [show u.length + (List.take i gs).flatten.length + k - u.length = (List.take i gs).flatten.length + k by omega]
    exact this
theorem flatten_take {α : Type} (gs : List (List α)) (i : Nat) (g : List α) (h : gs[i]? = some g) : (gs.take (i + 1)).flatten.length = (gs.take i).flatten.length + g.length := by
  rw [List.take_add_one, h]
  simp
/-- How great a list is. -/
def grt (l : List En) : Nat := (l.map fun x => 10 + x.dt.length).sum
theorem grt_snoc (l : List En) (x : En) : grt (l ++ [x]) = grt l + (10 + x.dt.length) := by simp [grt]
end Go.Proofs.YtbanfkpfijcmcaaDoor
