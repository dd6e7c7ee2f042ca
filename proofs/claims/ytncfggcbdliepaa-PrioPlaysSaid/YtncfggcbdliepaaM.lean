/- Layer 6, plainly: the queues as one list of items, in the order in which they came. No program in sight. -/
import Derived.Below
import Derived.Laws.BitsAllLaws
namespace Go.Proofs.Ytncfggcbdliepaa
set_option linter.unusedSimpArgs false
set_option linter.unusedVariables false

/-- An item: its number, flags, count, priority. -/
structure It where
  id : Int
  fl : Int
  ct : Int
  pr : Int

/-- The items of a priority. -/
def row (L : List It) (p : Int) : List It := L.filter fun t => t.pr == p
/-- The number's item. -/
def look (L : List It) (x : Int) : Option It := L.find? fun t => t.id == x
/-- Without a number. -/
def cutL (L : List It) (x : Int) : List It := L.filter fun t => t.id != x
/-- The least priority that has a number. -/
def leastF (o : Int) (t : It) : Int := if o < 0 ∨ t.pr < o then t.pr else o
def least (L : List It) : Int := L.foldl leastF (-1)

/-- What holds of all lists. -/
structure Ok (m : Nat) (L : List It) : Prop where
  nd : (L.map It.id).Nodup
  b : ∀ t ∈ L, 0 ≤ t.id ∧ t.id ≤ 9223372036854775807 ∧ 0 ≤ t.fl ∧ t.fl ≤ 9223372036854775807 ∧ 0 ≤ t.ct ∧ t.ct ≤ 2147483647 ∧ 0 ≤ t.pr ∧ t.pr < m

theorem Ok.nil (m : Nat) : Ok m [] := ⟨List.nodup_nil, fun _ h => absurd h (List.not_mem_nil)⟩

theorem row_append (L M : List It) (p : Int) : row (L ++ M) p = row L p ++ row M p := List.filter_append ..
theorem row_one (t : It) (p : Int) : row [t] p = if t.pr = p then [t] else [] := by
  by_cases h : t.pr = p <;> simp [row, h]
theorem row_cut (L : List It) (x p : Int) : row (cutL L x) p = cutL (row L p) x := by
  unfold row cutL; rw [List.filter_filter, List.filter_filter]; congr 1; funext t; rw [Bool.and_comm]
theorem mem_row {L : List It} {p : Int} {t : It} : t ∈ row L p ↔ t ∈ L ∧ t.pr = p := by simp [row]
theorem row_sub (L : List It) (p : Int) : List.Sublist (row L p) L := List.filter_sublist
theorem row_len (L : List It) (p : Int) : (row L p).length ≤ L.length := (row_sub L p).length_le
theorem Ok.sub {m : Nat} {L M : List It} (h : Ok m L) (s : List.Sublist M L) : Ok m M :=
  ⟨h.nd.sublist (s.map _), fun t ht => h.b t (s.subset ht)⟩
theorem Ok.row {m : Nat} {L : List It} (h : Ok m L) (p : Int) : Ok m (row L p) := h.sub (row_sub L p)
theorem Ok.cut {m : Nat} {L : List It} (h : Ok m L) (x : Int) : Ok m (cutL L x) := h.sub List.filter_sublist

/-! ### where a number stands -/
theorem look_none {L : List It} {x : Int} : look L x = none ↔ ∀ t ∈ L, t.id ≠ x := by simp [look]
theorem look_some {L : List It} {x : Int} {t : It} (h : look L x = some t) : t ∈ L ∧ t.id = x := by
  unfold look at h
  exact ⟨List.mem_of_find?_eq_some h, by simpa using List.find?_some h⟩
theorem eq_of_id {m : Nat} {L : List It} (h : Ok m L) {s t : It} (hs : s ∈ L) (ht : t ∈ L) (e : s.id = t.id) : s = t := by
  have hn := h.nd
  clear h
  induction L with
  | nil => exact absurd hs (List.not_mem_nil)
  | cons a r ih =>
    simp only [List.map_cons, List.nodup_cons, List.mem_map, not_exists, not_and] at hn
    rcases List.mem_cons.1 hs with h1 | hs
    · rcases List.mem_cons.1 ht with h | ht
      · rw [h1, h]
      · exact absurd e.symm (h1 ▸ hn.1 t ht)
    · rcases List.mem_cons.1 ht with h | ht
      · exact absurd e (h ▸ hn.1 s hs)
      · exact ih hs ht hn.2
theorem look_mem {m : Nat} {L : List It} (h : Ok m L) {t : It} (ht : t ∈ L) : look L t.id = some t := by
  cases hl : look L t.id with
  | none => exact absurd rfl (look_none.1 hl t ht)
  | some s => obtain ⟨h1, h2⟩ := look_some hl; rw [eq_of_id h h1 ht h2]

/-- The place of a number in a row. -/
def plc (l : List It) (x : Int) : Nat := l.findIdx fun t => t.id == x
theorem plc_lt {l : List It} {t : It} (h : t ∈ l) : plc l t.id < l.length := List.findIdx_lt_length_of_exists ⟨t, h, by simp⟩
theorem plc_get {m : Nat} {l : List It} (ho : Ok m l) {t : It} (h : t ∈ l) : l[plc l t.id]? = some t := by
  have hl := plc_lt h
  rw [List.getElem?_eq_getElem hl]
  have := List.findIdx_getElem (p := fun u : It => u.id == t.id) (xs := l) (w := hl)
  congr 1
  exact eq_of_id ho (List.getElem_mem hl) h (eq_of_beq this)

/-! ### putting -/
/-- A count, no more than the greatest. -/
def capc (c : Int) : Int := if 2147483647 < c then 2147483647 else c
theorem capc_eq (c : Int) : (if 2147483647 < c then 2147483647 else c) = capc c := rfl
theorem capc_b {c : Int} (h : 0 ≤ c) : 0 ≤ capc c ∧ capc c ≤ 2147483647 := by unfold capc; split <;> omega
/-- A number that is there: flags and a count more. -/
def updT (x f c : Int) (t : It) : It := if t.id = x then ⟨t.id, bits .or .i64 t.fl f, capc (t.ct + c), t.pr⟩ else t
def upd (L : List It) (x f c : Int) : List It := L.map (updT x f c)
theorem i64_or_nat (a b : Nat) (ha : a < 9223372036854775808) (hb : b < 9223372036854775808) : bits .or .i64 (a : Int) (b : Int) = ((a ||| b : Nat) : Int) := by
  have hx : a ||| b < 2 ^ 63 := Nat.or_lt_two_pow (by omega) (by omega)
  show IntKind.i64.wrap ((BitVec.ofInt 64 (a : Int) ||| BitVec.ofInt 64 (b : Int)).toNat : Int) = _
  rw [BitVec.toNat_or, ofInt_u64 a (by omega), ofInt_u64 b (by omega), IntKind.wrap_i64]
  omega
theorem or_b {a b : Int} (ha : 0 ≤ a) (ha2 : a ≤ 9223372036854775807) (hb : 0 ≤ b) (hb2 : b ≤ 9223372036854775807) : 0 ≤ bits .or .i64 a b ∧ bits .or .i64 a b ≤ 9223372036854775807 := by
  obtain ⟨A, rfl⟩ := Int.eq_ofNat_of_zero_le ha
  obtain ⟨B, rfl⟩ := Int.eq_ofNat_of_zero_le hb
  rw [i64_or_nat A B (by omega) (by omega)]
  have hx : A ||| B < 2 ^ 63 := Nat.or_lt_two_pow (by omega) (by omega)
  omega
theorem or_zero {b : Int} (hb : 0 ≤ b) (hb2 : b ≤ 9223372036854775807) : bits .or .i64 0 b = b := by
  obtain ⟨B, rfl⟩ := Int.eq_ofNat_of_zero_le hb
  have := i64_or_nat 0 B (by omega) (by omega)
  rw [Nat.zero_or] at this
  exact this
theorem updT_id (x f c : Int) (t : It) : (updT x f c t).id = t.id := by unfold updT; split <;> rfl
theorem updT_pr (x f c : Int) (t : It) : (updT x f c t).pr = t.pr := by unfold updT; split <;> rfl
theorem row_upd (L : List It) (x f c q : Int) : row (upd L x f c) q = upd (row L q) x f c := by
  unfold row upd
  rw [List.filter_map]
  congr 1
  congr 1
  funext t
  simp [updT_pr]
theorem look_upd (L : List It) (x f c y : Int) : look (upd L x f c) y = (look L y).map (updT x f c) := by
  unfold look upd
  rw [List.find?_map]
  congr 1
  congr 1
  funext t
  simp [updT_id]
theorem Ok.upd {m : Nat} {L : List It} (h : Ok m L) (x f c : Int) (hf : 0 ≤ f) (hf2 : f ≤ 9223372036854775807) (hc : 0 ≤ c) : Ok m (upd L x f c) := by
  refine ⟨?_, fun t ht => ?_⟩
  · unfold Go.Proofs.Ytncfggcbdliepaa.upd
    rw [List.map_map, show It.id ∘ updT x f c = It.id from funext fun t => updT_id x f c t]
    exact h.nd
  · obtain ⟨s, hs, rfl⟩ := List.mem_map.1 ht
    obtain ⟨b1, b2, b3, b4, b5, b6, b7, b8⟩ := h.b s hs
    unfold updT
    by_cases e : s.id = x
    · rw [if_pos e]
      have h1 := or_b b3 b4 hf hf2
      have h2 := capc_b (c := s.ct + c) (by omega)
      exact ⟨b1, b2, h1.1, h1.2, h2.1, h2.2, b7, b8⟩
    · rw [if_neg e]
      exact ⟨b1, b2, b3, b4, b5, b6, b7, b8⟩
theorem upd_none {L : List It} {x f c : Int} (h : ∀ t ∈ L, t.id ≠ x) : upd L x f c = L := by
  unfold upd
  exact (List.map_congr_left (fun t ht => by unfold updT; rw [if_neg (h t ht)])).trans (List.map_id' L)
theorem upd_set {l : List It} (hn : (l.map It.id).Nodup) {t : It} (ht : t ∈ l) (f c : Int) : upd l t.id f c = l.set (l.findIdx fun u => u.id == t.id) (updT t.id f c t) := by
  induction l with
  | nil => exact absurd ht (List.not_mem_nil)
  | cons a r ih =>
    simp only [List.map_cons, List.nodup_cons, List.mem_map, not_exists, not_and] at hn
    by_cases e : a.id = t.id
    · have hat : a = t := by
        rcases List.mem_cons.1 ht with h | h
        · exact h.symm
        · exact absurd e.symm (hn.1 t h)
      have hr : ∀ s ∈ r, s.id ≠ t.id := fun s hs he => hn.1 s hs (by rw [he, e])
      have hc := upd_none (f := f) (c := c) hr
      unfold upd at hc ⊢
      rw [List.map_cons, hc, List.findIdx_cons]
      have e2 : (a.id == t.id) = true := by simpa using e
      rw [e2, hat]
      rfl
    · have ht : t ∈ r := by
        rcases List.mem_cons.1 ht with h | h
        · exact absurd (by rw [h]) e
        · exact h
      have := ih hn.2 ht
      unfold upd at this ⊢
      have e2 : (a.id == t.id) = false := by simpa using e
      rw [List.map_cons, this, List.findIdx_cons, e2]
      simp [updT, e]
theorem Ok.snoc {m : Nat} {L : List It} (h : Ok m L) (t : It) (hn : ∀ s ∈ L, s.id ≠ t.id) (b : 0 ≤ t.id ∧ t.id ≤ 9223372036854775807 ∧ 0 ≤ t.fl ∧ t.fl ≤ 9223372036854775807 ∧ 0 ≤ t.ct ∧ t.ct ≤ 2147483647 ∧ 0 ≤ t.pr ∧ t.pr < m) : Ok m (L ++ [t]) := by
  refine ⟨?_, fun s hs => ?_⟩
  · rw [List.map_append, List.nodup_append]
    refine ⟨h.nd, by simp, ?_⟩
    intro a ha b hb e
    simp at hb
    obtain ⟨s, hs, rfl⟩ := List.mem_map.1 ha
    exact hn s hs (by rw [e, hb])
  · rcases List.mem_append.1 hs with hs | hs
    · exact h.b s hs
    · rw [List.mem_singleton.1 hs]; exact b
theorem cut_none {L : List It} {x : Int} (h : ∀ t ∈ L, t.id ≠ x) : cutL L x = L := List.filter_eq_self.2 fun t ht => by simpa using h t ht
/-- A cut in a row: the place is left out. -/
theorem cut_plc {m : Nat} {l : List It} (ho : Ok m l) {t : It} (h : t ∈ l) : cutL l t.id = l.take (plc l t.id) ++ l.drop (plc l t.id + 1) := by
  have hn := ho.nd
  clear ho
  induction l with
  | nil => exact absurd h (List.not_mem_nil)
  | cons a r ih =>
    simp only [List.map_cons, List.nodup_cons, List.mem_map, not_exists, not_and] at hn
    by_cases e : a.id = t.id
    · have hr : ∀ s ∈ r, s.id ≠ t.id := fun s hs he => hn.1 s hs (by rw [he, e])
      have hc := cut_none hr
      unfold cutL at hc
      simp [cutL, plc, List.findIdx_cons, e]
      simpa using hr
    · have ht : t ∈ r := by
        rcases List.mem_cons.1 h with rfl | h
        · exact absurd rfl e
        · exact h
      have := ih ht hn.2
      unfold cutL plc at this
      have e2 : (a.id == t.id) = false := by simpa using e
      simp [cutL, plc, List.findIdx_cons, e, e2]
      exact this

theorem look_cut (L : List It) (x y : Int) : look (cutL L x) y = if y = x then none else look L y := by
  unfold look cutL
  by_cases h : y = x
  · subst h
    rw [if_pos rfl, List.find?_eq_none]
    intro t ht
    simpa using (List.mem_filter.1 ht).2
  · rw [if_neg h]
    induction L with
    | nil => rfl
    | cons a r ih =>
      by_cases e : a.id = x
      · have e2 : (a.id == y) = false := by simpa using fun e3 => h (by rw [← e3, e])
        simp [List.filter_cons, e, List.find?_cons, e2]
        rw [e] at e2
        simp [e2]
        simpa using ih
      · simp only [List.filter_cons, bne_iff_ne, ne_eq, e, not_false_eq_true, if_true, List.find?_cons]
        rw [ih]
theorem row_cut_other {m : Nat} {L : List It} (ho : Ok m L) {t : It} (ht : t ∈ L) {q : Int} (hq : q ≠ t.pr) : row (cutL L t.id) q = row L q := by
  rw [row_cut]
  refine cut_none fun s hs e => ?_
  obtain ⟨h1, h2⟩ := mem_row.1 hs
  rw [eq_of_id ho h1 ht e] at h2
  exact hq h2.symm
theorem row_cut_same {m : Nat} {L : List It} (ho : Ok m L) {t : It} (ht : t ∈ L) : row (cutL L t.id) t.pr = (row L t.pr).take (plc (row L t.pr) t.id) ++ (row L t.pr).drop (plc (row L t.pr) t.id + 1) := by
  rw [row_cut]
  exact cut_plc (ho.row _) (mem_row.2 ⟨ht, rfl⟩)
theorem look_snoc (L : List It) (t : It) (y : Int) (hn : look L t.id = none) : look (L ++ [t]) y = if y = t.id then some t else look L y := by
  unfold look at hn ⊢
  rw [List.find?_append]
  by_cases h : y = t.id
  · subst h
    rw [hn, if_pos rfl]
    simp
  · rw [if_neg h]
    have : (t.id == y) = false := by simpa using fun e => h e.symm
    simp [this]

/-! ### the least -/
theorem least_go : ∀ (L : List It) (o : Int), (∀ t ∈ L, 0 ≤ t.pr) → (L = [] ∧ L.foldl leastF o = o) ∨
    ((o < 0 ∨ ∃ t ∈ L, t.pr < o) ∧ (∃ t ∈ L, L.foldl leastF o = t.pr) ∧ ∀ t ∈ L, L.foldl leastF o ≤ t.pr) ∨ (0 ≤ o ∧ L.foldl leastF o = o ∧ ∀ t ∈ L, o ≤ t.pr)
  | [], o, _ => .inl ⟨rfl, rfl⟩
  | a :: r, o, h => by
    have ha := h a (by simp)
    have ih := least_go r (leastF o a) (fun t ht => h t (by simp [ht]))
    simp only [List.foldl_cons]
    have hl : leastF o a = if o < 0 ∨ a.pr < o then a.pr else o := rfl
    by_cases hc : o < 0 ∨ a.pr < o
    · rw [if_pos hc] at hl
      rw [hl] at ih ⊢
      refine .inr (.inl ⟨hc.imp id (fun h => ⟨a, by simp, h⟩), ?_⟩)
      rcases ih with ⟨rfl, e⟩ | ⟨_, ⟨t, ht, e⟩, hall⟩ | ⟨_, e, hall⟩
      · rw [e]; exact ⟨⟨a, by simp, rfl⟩, fun t ht => by simp at ht; rw [ht]; exact Int.le_refl _⟩
      · rename_i hx
        refine ⟨⟨t, by simp [ht], e⟩, fun s hs => ?_⟩
        rcases List.mem_cons.1 hs with rfl | hs
        · rcases hx with hx | ⟨u, hu, hu2⟩
          · omega
          · have := hall u hu; omega
        · exact hall s hs
      · rw [e]; exact ⟨⟨a, by simp, rfl⟩, fun s hs => by
          rcases List.mem_cons.1 hs with rfl | hs
          · exact Int.le_refl _
          · exact hall s hs⟩
    · rw [if_neg hc] at hl
      rw [hl] at ih ⊢
      have h0 : 0 ≤ o := by omega
      have h1 : o ≤ a.pr := by omega
      rcases ih with ⟨rfl, e⟩ | ⟨hx, ⟨t, ht, e⟩, hall⟩ | ⟨_, e, hall⟩
      · refine .inr (.inr ⟨h0, e, fun t ht => ?_⟩)
        simp at ht; rw [ht]; exact h1
      · rcases hx with hx | ⟨u, hu, hu2⟩
        · omega
        · refine .inr (.inl ⟨.inr ⟨u, by simp [hu], hu2⟩, ⟨t, by simp [ht], e⟩, fun s hs => ?_⟩)
          rcases List.mem_cons.1 hs with rfl | hs
          · have := hall u hu; omega
          · exact hall s hs
      · refine .inr (.inr ⟨h0, e, fun s hs => ?_⟩)
        rcases List.mem_cons.1 hs with rfl | hs
        · exact h1
        · exact hall s hs
theorem least_nil : least [] = -1 := rfl
theorem least_of {L : List It} (h : ∀ t ∈ L, 0 ≤ t.pr) (h0 : L ≠ []) : (∃ t ∈ L, least L = t.pr) ∧ ∀ t ∈ L, least L ≤ t.pr := by
  rcases least_go L (-1) h with ⟨e, _⟩ | ⟨_, h1, h2⟩ | ⟨h1, _⟩
  · exact absurd e h0
  · exact ⟨h1, h2⟩
  · omega
/-- The first priority that has numbers. -/
theorem least_first {m : Nat} {L : List It} (ho : Ok m L) {p : Nat} (h1 : row L p ≠ []) (h2 : ∀ k : Nat, k < p → row L k = []) : least L = p := by
  obtain ⟨t, ht⟩ := List.exists_mem_of_ne_nil _ h1
  obtain ⟨ht, hp⟩ := mem_row.1 ht
  obtain ⟨⟨s, hs, e⟩, hall⟩ := least_of (fun t ht => (ho.b t ht).2.2.2.2.2.2.1) (List.ne_nil_of_mem ht)
  have h3 := hall t ht
  have h4 := (ho.b s hs).2.2.2.2.2.2.1
  rcases Int.lt_or_le (least L) p with h | h
  · exfalso
    have hk := h2 (least L).toNat (by omega)
    have : s ∈ row L ((least L).toNat : Int) := mem_row.2 ⟨hs, by omega⟩
    rw [hk] at this
    exact absurd this (List.not_mem_nil)
  · omega
theorem least_none {m : Nat} {L : List It} (ho : Ok m L) (h : ∀ k : Nat, k < m → row L k = []) : L = [] := by
  rcases List.eq_nil_or_concat L with e | ⟨l, t, e⟩
  · exact e
  · exfalso
    have ht : t ∈ L := by rw [e]; simp
    obtain ⟨_, _, _, _, _, _, h1, h2⟩ := ho.b t ht
    have hk := h t.pr.toNat (by omega)
    have : t ∈ row L (t.pr.toNat : Int) := mem_row.2 ⟨ht, by omega⟩
    rw [hk] at this
    exact absurd this (List.not_mem_nil)

/-! ### a batch -/
/-- Without a priority. -/
def restL (L : List It) (p : Int) : List It := L.filter fun t => t.pr != p
theorem cuts_filter (r : List It) : ∀ L : List It, r.foldl (fun M t => cutL M t.id) L = L.filter fun s => r.all fun t => s.id != t.id := by
  induction r with
  | nil => intro L; exact (List.filter_eq_self.2 fun _ _ => rfl).symm
  | cons a r ih =>
    intro L
    rw [List.foldl_cons, ih, cutL, List.filter_filter]
    congr 1
    funext s
    simp [Bool.and_comm]
theorem cuts_rest {m : Nat} {L : List It} (ho : Ok m L) (p : Int) : (row L p).foldl (fun M t => cutL M t.id) L = restL L p := by
  rw [cuts_filter]
  unfold restL
  refine List.filter_congr fun s hs => ?_
  rw [Bool.eq_iff_iff]
  simp only [List.all_eq_true, bne_iff_ne, ne_eq]
  constructor
  · intro h e
    exact h s (mem_row.2 ⟨hs, e⟩) rfl
  · intro h t ht e
    obtain ⟨h1, h2⟩ := mem_row.1 ht
    rw [← eq_of_id ho hs h1 e] at h2
    exact h h2
theorem row_rest (L : List It) (p q : Int) : row (restL L p) q = if q = p then [] else row L q := by
  unfold row restL
  rw [List.filter_filter]
  split
  · subst q
    refine List.filter_eq_nil_iff.2 fun t _ => ?_
    simp
  · refine List.filter_congr fun t _ => ?_
    by_cases e : t.pr = q
    · simp [e]; assumption
    · simp [e]
theorem Ok.rest {m : Nat} {L : List It} (h : Ok m L) (p : Int) : Ok m (restL L p) := h.sub List.filter_sublist

/-! ### all rows together -/
def lens (L : List It) (m : Nat) : Nat := ((List.range m).map fun p : Nat => (row L p).length).sum
theorem lens_cons (t : It) (L : List It) (m : Nat) : lens (t :: L) m = lens L m + if 0 ≤ t.pr ∧ t.pr < m then 1 else 0 := by
  unfold lens
  induction m with
  | zero =>
    rw [if_neg (by omega)]
    rfl
  | succ m ih =>
    simp only [List.range_succ, List.map_append, List.sum_append, List.map_cons, List.map_nil, List.sum_cons, List.sum_nil] at ih ⊢
    rw [ih]
    have e : (row (t :: L) (m : Int)).length = (row L (m : Int)).length + if t.pr = m then 1 else 0 := by
      by_cases h : t.pr = m <;> simp [row, h]
    rw [e]
    by_cases h1 : t.pr = m
    · rw [if_pos h1, if_neg (by omega), if_pos (by omega)]; omega
    · rw [if_neg h1]
      by_cases h2 : 0 ≤ t.pr ∧ t.pr < m
      · rw [if_pos h2, if_pos (by omega)]; omega
      · rw [if_neg h2, if_neg (by omega)]; omega
theorem lens_nil (m : Nat) : lens [] m = 0 := by
  unfold lens
  simp only [row, List.filter_nil, List.length_nil]
  induction m with
  | zero => rfl
  | succ m ih => rw [List.range_succ, List.map_append, List.sum_append, ih]; rfl
theorem lens_all {m : Nat} : ∀ {L : List It}, (∀ t ∈ L, 0 ≤ t.pr ∧ t.pr < m) → lens L m = L.length
  | [], _ => lens_nil m
  | t :: L, h => by
    rw [lens_cons, lens_all (fun s hs => h s (by simp [hs])), if_pos (h t (by simp))]
    rfl
end Go.Proofs.Ytncfggcbdliepaa
