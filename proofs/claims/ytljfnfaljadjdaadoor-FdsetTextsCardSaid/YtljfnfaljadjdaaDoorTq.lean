/- The reference's scanner, plainly: what it finds is what the pieces say. -/
import Derived.Test.YtljfnfaljadjdaaDoorTp
namespace Go.Proofs.YtljfnfaljadjdaaDoor
open Go.RowKit
set_option linter.unusedSimpArgs false
set_option linter.unusedVariables false
set_option maxRecDepth 100000

structure Sc where
  n : Nat
  f : Int
  l : List Int
def rng (f m : Nat) : List Int := (List.range' f (m - f)).map (fun n : Nat => (n : Int))
def endS (s : Sc) : Sc := ⟨0, -1, s.l ++ rng (if s.f < 0 then s.n else s.f.toNat) (min (s.n + 1) 64)⟩
def stepN (n : Nat) (c : UInt8) : Nat := min (10 * n + (c.toNat - 48)) 64
def byS (s : Sc) (c : UInt8) : Sc := if 48 ≤ c.toNat ∧ c.toNat ≤ 57 then ⟨stepN s.n c, s.f, s.l⟩ else if c.toNat = 45 then ⟨0, s.n, s.l⟩ else endS s
def scan0 : Sc := ⟨0, -1, []⟩
def scan (t : List UInt8) : Sc := endS (t.foldl byS scan0)

theorem dig_scan (t : List UInt8) : ∀ (n : Nat) (f : Int) (l : List Int), (∀ c ∈ t, 48 ≤ c.toNat ∧ c.toNat ≤ 57) → t.foldl byS ⟨n, f, l⟩ = ⟨t.foldl stepN n, f, l⟩ := by
  induction t with
  | nil => intro n f l _; rfl
  | cons c t ih =>
    intro n f l h
    rw [List.foldl_cons, List.foldl_cons, show byS ⟨n, f, l⟩ c = ⟨stepN n c, f, l⟩ by unfold byS; rw [if_pos (h c (by simp))]]
    exact ih _ _ _ (fun c hc => h c (by simp [hc]))
theorem itoa_dig : ∀ k : Fin 64, ((Lib.itoa (k.val : Int)).all fun c => decide (48 ≤ c.toNat ∧ c.toNat ≤ 57)) = true ∧ (Lib.itoa (k.val : Int)).foldl stepN 0 = k.val := by decide +kernel
theorem itoa_scan (k : Nat) (hk : k < 64) (f : Int) (l : List Int) : (Lib.itoa (k : Int)).foldl byS ⟨0, f, l⟩ = ⟨k, f, l⟩ := by
  obtain ⟨h1, h2⟩ := itoa_dig ⟨k, hk⟩
  simp only at h1 h2
  rw [dig_scan _ 0 f l (fun c hc => by simpa using List.all_eq_true.1 h1 c hc), h2]
theorem idx_cut (c : UInt8) : ∀ l : List UInt8, 0 ≤ Lib.indexByte l c → l = l.take (Lib.indexByte l c).toNat ++ c :: l.drop ((Lib.indexByte l c).toNat + 1)
  | [], h => by simp [Lib.indexByte] at h
  | b :: l, h => by
    unfold Lib.indexByte at h ⊢
    split
    · rename_i hb
      have : b = c := by simpa using hb
      simp [this]
    · rename_i hb
      rw [if_neg hb] at h
      split at h
      · omega
      · rename_i hn
        have hn2 : ¬ Lib.indexByte l c = -1 := by simpa using hn
        have hz : 0 ≤ Lib.indexByte l c := by omega
        have ih := idx_cut c l hz
        rw [if_neg hn, show (Lib.indexByte l c + 1).toNat = (Lib.indexByte l c).toNat + 1 by omega]
        simp only [List.take_succ_cons, List.drop_succ_cons, List.cons_append]
        rw [← ih]
theorem cut_data (r : ByteArray) : r.data.toList = if cutM r then (cutA r).data.toList ++ 45 :: (cutB r).data.toList else (cutA r).data.toList := by
  unfold cutA cutB cutM Lib.cut
  by_cases h : 0 ≤ Lib.indexByte r.data.toList 45
  · simp only [Lib.index_one, if_pos h, if_true]
    exact idx_cut 45 _ h
  · simp only [Lib.index_one, if_neg h, Bool.false_eq_true, if_false]
theorem piece_scan (r : ByteArray) (x y : Nat) (h : pairO r = some (x, y)) (l : List Int) : endS (r.data.toList.foldl byS ⟨0, -1, l⟩) = ⟨0, -1, l ++ rng x (y + 1)⟩ := by
  obtain ⟨h1, h2, hx, hy⟩ := pairO_lt h
  have e1 := (numO_some h1).2
  have e2 := (numO_some h2).2
  rw [cut_data r]
  by_cases hm : cutM r = true
  · have ht : toB r = cutB r := by unfold toB; rw [if_pos hm]
    rw [ht] at e2
    rw [if_pos hm, e1, e2, List.foldl_append, itoa_scan x hx, List.foldl_cons, show byS ⟨x, -1, l⟩ 45 = ⟨0, x, l⟩ from rfl, itoa_scan y hy]
    unfold endS
    dsimp only
    rw [if_neg (by omega), show min (y + 1) 64 = y + 1 by omega]
    simp
  · have ht : toB r = cutA r := by unfold toB; rw [if_neg hm]
    rw [ht] at h2
    rw [h1] at h2
    injection h2 with h2
    subst h2
    rw [if_neg hm, e1, itoa_scan x hx]
    unfold endS
    dsimp only
    rw [if_pos (by omega), show min (x + 1) 64 = x + 1 by omega]
theorem mem_rng (f m : Nat) (i : Int) : i ∈ rng f m ↔ ∃ n : Nat, f ≤ n ∧ n < m ∧ i = n := by
  unfold rng
  simp only [List.mem_map, List.mem_range'_1]
  constructor
  · rintro ⟨n, ⟨h1, h2⟩, rfl⟩; exact ⟨n, h1, by omega, rfl⟩
  · rintro ⟨n, h1, h2, rfl⟩; exact ⟨n, ⟨h1, by omega⟩, rfl⟩
theorem rng_len (f m : Nat) : (rng f m).length = m - f := by simp [rng]
structure Good (s : Sc) (p : Nat × Nat) : Prop where
  n : s.n = 0
  f : s.f = -1
  h : ∀ i, i < 64 → inL s.l i = hasN p.1 p.2 i
theorem good_piece {s : Sc} {p : Nat × Nat} (h : Good s p) (r : ByteArray) (x y : Nat) (hr : pairO r = some (x, y)) : Good (endS (r.data.toList.foldl byS s)) (adR p x (y + 1 - x)) := by
  obtain ⟨n, f, l⟩ := s
  obtain ⟨h1, h2, h3⟩ := h
  simp only at h1 h2 h3
  subst h1 h2
  obtain ⟨_, _, hx, hy⟩ := pairO_lt hr
  rw [piece_scan r x y hr l]
  refine ⟨rfl, rfl, fun i hi => ?_⟩
  have ha : hasN (adR p x (y + 1 - x)).1 (adR p x (y + 1 - x)).2 i = (hasN p.1 p.2 i || decide (x ≤ i ∧ i < x + (y + 1 - x))) := by
    by_cases hxy : x ≤ y + 1
    · exact adR_has p.1 p.2 x _ (by omega) i hi
    · rw [show y + 1 - x = 0 by omega, adR_zero, Nat.add_zero, show decide (x ≤ i ∧ i < x) = false by simp, Bool.or_false]
  rw [ha, ← h3 i hi, Bool.eq_iff_iff]
  unfold inL
  simp only [Bool.or_eq_true, decide_eq_true_eq, List.mem_append, mem_rng]
  constructor
  · rintro (h | ⟨n, h1, h2, h3⟩)
    · exact .inl h
    · exact .inr (by omega)
  · rintro (h | h)
    · exact .inl h
    · exact .inr ⟨i, by omega, by omega, rfl⟩
theorem fold_good (ps : List ByteArray) : ∀ (s : Sc) (p q : Nat × Nat), Good s p → ps.foldl stepP (some p) = some q → Good (ps.foldl (fun s r => endS (r.data.toList.foldl byS s)) s) q := by
  induction ps with
  | nil => intro s p q h hq; injection hq with hq; subst hq; exact h
  | cons r ps ih =>
    intro s p q h hq
    rw [List.foldl_cons] at hq ⊢
    cases hp : pairO r with
    | none =>
      have : stepP (some p) r = none := by unfold stepP; rw [hp]
      rw [this, foldl_none] at hq
      cases hq
    | some xy =>
      obtain ⟨x, y⟩ := xy
      have : stepP (some p) r = some (adR p x (y + 1 - x)) := by unfold stepP; rw [hp]
      rw [this] at hq
      exact ih _ _ q (good_piece h r x y hp) hq
theorem join_scan (ps : List ByteArray) : ∀ (r : ByteArray) (s : Sc), endS ((Lib.join ((r :: ps).map (·.data.toList)) [44]).foldl byS s) = (r :: ps).foldl (fun s r => endS (r.data.toList.foldl byS s)) s := by
  induction ps with
  | nil => intro r s; simp [Lib.join_one]
  | cons x ps ih =>
    intro r s
    have e : Lib.join ((r :: x :: ps).map (·.data.toList)) [44] = r.data.toList ++ 44 :: Lib.join ((x :: ps).map (·.data.toList)) [44] := by
      rw [List.map_cons, Lib.join_cons, List.map_cons, Lib.join_cons]
      simp [Lib.joinTail]
    rw [e, List.foldl_append, List.foldl_cons, List.foldl_cons, show byS (r.data.toList.foldl byS s) 44 = endS (r.data.toList.foldl byS s) from rfl]
    exact ih x _
theorem splitK_ne (c : UInt8) (n : Nat) (l : List UInt8) : ∃ x r, Lib.splitK [c] 0 n l = x :: r := by
  cases n with
  | zero => exact ⟨_, _, rfl⟩
  | succ n =>
    unfold Lib.splitK
    split
    · exact ⟨_, _, rfl⟩
    · exact ⟨_, _, rfl⟩
theorem join_splitK (c : UInt8) : ∀ (n : Nat) (l : List UInt8), Lib.join (Lib.splitK [c] 0 n l) [c] = l
  | 0, l => by rw [Lib.splitK, Lib.join_one]
  | n + 1, l => by
    unfold Lib.splitK
    split
    · rw [Lib.join_one]
    · rename_i h
      rw [Lib.index_one] at h ⊢
      have h2 : ¬ Lib.indexByte l c = -1 := by simpa using h
      have h3 : 0 ≤ Lib.indexByte l c := by
        have : ∀ l : List UInt8, -1 ≤ Lib.indexByte l c := by
          intro l
          induction l with
          | nil => simp [Lib.indexByte]
          | cons b l ih =>
            unfold Lib.indexByte
            split
            · omega
            · split
              · omega
              · omega
        have := this l
        omega
      have ih := join_splitK c n (l.drop ((Lib.indexByte l c).toNat + 1))
      obtain ⟨x, r, hr⟩ := splitK_ne c n (l.drop ((Lib.indexByte l c).toNat + 1))
      have hc := idx_cut c l h3
      rw [List.length_singleton, hr] 
      rw [hr, Lib.join_cons] at ih
      rw [Lib.join_cons]
      conv => rhs; rw [hc]
      rw [← ih]
      simp [Lib.joinTail]
theorem join_pcs (s : ByteArray) : Lib.join ((pcs s).map (·.data.toList)) [44] = s.data.toList := by
  rw [pcs_data]
  exact join_splitK 44 _ _
theorem scan_good (s : ByteArray) (q : Nat × Nat) (h : foldP (pcs s) = some q) : ∀ i, i < 64 → inL (scan s.data.toList).l i = hasN q.1 q.2 i := by
  have h0 : Good scan0 (0, 0) := ⟨rfl, rfl, fun i _ => by rw [has_zero]; rfl⟩
  have h1 := fold_good (pcs s) scan0 (0, 0) q h0 h
  have h2 : scan s.data.toList = (pcs s).foldl (fun s r => endS (r.data.toList.foldl byS s)) scan0 := by
    unfold scan
    have hj := join_pcs s
    cases hp : pcs s with
    | nil => have := pcs_len s; rw [hp] at this; simp at this
    | cons r ps =>
      rw [hp] at hj
      rw [← hj]
      exact join_scan ps r scan0
  rw [h2]
  exact h1.h
/-- What the scanner keeps in bounds. -/
structure ScOk (s : Sc) (k : Nat) : Prop where
  n : s.n ≤ 64
  f : -1 ≤ s.f ∧ s.f ≤ 64
  len : s.l.length ≤ 64 * k
  all : ∀ x ∈ s.l, 0 ≤ x ∧ x < 64
theorem endS_ok {s : Sc} {k : Nat} (h : ScOk s k) : ScOk (endS s) (k + 1) := by
  refine ⟨by show (0 : Nat) ≤ 64; omega, by show (-1 : Int) ≤ -1 ∧ (-1 : Int) ≤ 64; omega, ?_, ?_⟩
  · show (s.l ++ rng _ _).length ≤ _
    rw [List.length_append, rng_len]
    have := h.len
    omega
  · intro x hx
    rcases List.mem_append.1 hx with hx | hx
    · exact h.all x hx
    · obtain ⟨n, h1, h2, rfl⟩ := (mem_rng _ _ _).1 hx
      omega
theorem byS_ok {s : Sc} {k : Nat} (h : ScOk s k) (c : UInt8) : ScOk (byS s c) (k + 1) := by
  unfold byS
  split
  · exact ⟨by show stepN _ _ ≤ 64; unfold stepN; omega, h.f, by have := h.len; show s.l.length ≤ _; omega, h.all⟩
  · split
    · exact ⟨by show (0 : Nat) ≤ 64; omega, by have := h.n; show (-1 : Int) ≤ (s.n : Int) ∧ (s.n : Int) ≤ 64; omega, by have := h.len; show s.l.length ≤ _; omega, h.all⟩
    · exact endS_ok h
theorem fold_ok (t : List UInt8) : ∀ k, ScOk ((t.take k).foldl byS scan0) k := by
  intro k
  induction k with
  | zero => exact ⟨by simp [scan0], by simp [scan0], by simp [scan0], by simp [scan0]⟩
  | succ k ih =>
    by_cases hk : k < t.length
    · rw [List.take_succ_eq_append_getElem hk, List.foldl_append]
      exact byS_ok ih _
    · rw [List.take_of_length_le (by omega)] at ih ⊢
      exact ⟨ih.n, ih.f, by have := ih.len; omega, ih.all⟩
theorem fold_step (t : ByteArray) (k : Nat) (hk : k < t.size) : ((t.data.toList.take (k + 1)).foldl byS scan0) = byS ((t.data.toList.take k).foldl byS scan0) (t.data.toList.getD k 0) := by
  have hl : k < t.data.toList.length := by rw [list_size]; exact hk
  rw [List.take_succ_eq_append_getElem hl, List.foldl_append, show t.data.toList.getD k 0 = t.data.toList[k] by rw [List.getD, List.getElem?_eq_getElem hl]; rfl]
  rfl
/-- Any numbers are a set. -/
theorem set_of (l : List Int) : ∃ c d, c < 4294967296 ∧ d < 4294967296 ∧ L c d = lst (inL l) 64 := by
  have H : ∀ l : List Int, ∃ c d, c < 4294967296 ∧ d < 4294967296 ∧ ∀ i, i < 64 → hasN c d i = inL l i := by
    intro l
    induction l with
    | nil => exact ⟨0, 0, by decide, by decide, fun i _ => by rw [has_zero]; rfl⟩
    | cons x l ih =>
      obtain ⟨c, d, hc, hd, h⟩ := ih
      by_cases hx : 0 ≤ x ∧ x < 64
      · refine ⟨wiA c x.toNat, wiB d x.toNat, wi_lt _ _ hc (by omega), wi_lt' _ _ hd (by omega), fun i hi => ?_⟩
        rw [has_wi _ _ _ _ (by omega) hi, h i hi, Bool.eq_iff_iff]
        unfold inL
        simp only [Bool.or_eq_true, decide_eq_true_eq, List.mem_cons]
        constructor
        · rintro (h | h)
          · exact .inr h
          · exact .inl (by omega)
        · rintro (h | h)
          · exact .inr (by omega)
          · exact .inl h
      · refine ⟨c, d, hc, hd, fun i hi => ?_⟩
        rw [h i hi, Bool.eq_iff_iff]
        unfold inL
        simp only [decide_eq_true_eq, List.mem_cons]
        constructor
        · intro h; exact .inr h
        · rintro (h | h)
          · exact absurd h (by omega)
          · exact h
  obtain ⟨c, d, hc, hd, h⟩ := H l
  exact ⟨c, d, hc, hd, lst_congr _ _ _ h⟩
/-- What the reference's Parse says. -/
def refF (s : ByteArray) (l : List Int) (f : Int) : Prop :=
  if s.data.toList = [110, 111, 110, 101] then l = [] ∧ f = 0 else
    ∃ c d, c < 4294967296 ∧ d < 4294967296 ∧ L c d = lst (inL (scan s.data.toList).l) 64 ∧ (textL c d = s.data.toList ∧ l = L c d ∧ f = 0 ∨ textL c d ≠ s.data.toList ∧ l = [] ∧ f = 11)
theorem L_inj (a b c d : Nat) (ha : a < 4294967296) (hb : b < 4294967296) (hc : c < 4294967296) (hd : d < 4294967296) (h : L a b = L c d) : a = c ∧ b = d := by
  refine set_ext a b c d ha hb hc hd (fun i hi => ?_)
  have e1 := inL_lst (hasN a b) 64 i hi
  have e2 := inL_lst (hasN c d) 64 i hi
  unfold L at h
  rw [← e1, ← e2, h]
theorem refF_some {s : ByteArray} {l : List Int} {f : Int} (h : refF s l f) {p : Nat × Nat} (hp : parseF s = some p) : l = L p.1 p.2 ∧ f = 0 := by
  unfold refF at h
  obtain ⟨ht, h1, h2⟩ := parse_text hp
  unfold parseF at hp
  split at h
  · rename_i hn
    rw [if_pos hn] at hp
    injection hp with hp
    subst hp
    exact ⟨by rw [h.1, L_zero], h.2⟩
  · rename_i hn
    rw [if_neg hn] at hp
    obtain ⟨c, d, hc, hd, hl, h⟩ := h
    split at hp
    · cases hp
    · rename_i q hq
      split at hp
      · injection hp with hp
        subst hp
        have hs := scan_good s q hq
        obtain ⟨rfl, rfl⟩ := L_inj c d q.1 q.2 hc hd h1 h2 (by rw [hl]; exact lst_congr _ _ _ hs)
        rcases h with ⟨_, e1, e2⟩ | ⟨e, _⟩
        · exact ⟨e1, e2⟩
        · exact absurd ht e
      · cases hp
theorem refF_none {s : ByteArray} {l : List Int} {f : Int} (h : refF s l f) (hp : parseF s = none) : l = [] ∧ f = 11 := by
  unfold refF at h
  split at h
  · rename_i hn
    unfold parseF at hp
    rw [if_pos hn] at hp
    cases hp
  · obtain ⟨c, d, hc, hd, hl, h⟩ := h
    rcases h with ⟨e, _, _⟩ | ⟨_, e1, e2⟩
    · rw [text_back c d hc hd s e.symm] at hp
      cases hp
    · exact ⟨e1, e2⟩
end Go.Proofs.YtljfnfaljadjdaaDoor
