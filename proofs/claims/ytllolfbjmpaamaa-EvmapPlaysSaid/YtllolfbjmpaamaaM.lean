/- Layer 18, plainly: a map as one list of events, in the order in which they came. No program in sight. -/
import Derived.Below
import Derived.Laws.BitsAllLaws
namespace Go.Proofs.Ytllolfbjmpaamaa
set_option linter.unusedSimpArgs false
set_option linter.unusedVariables false

/-- An event: its number, what it wants (0: it is a signal's), the descriptor or signal, its place (descriptors 0 to 95, behind them signals). -/
structure It where
  id : Int
  wn : Int
  nu : Int
  pr : Int
/-- Wants that may be. -/
def MayW (n : Int) : Prop := n = 2 ∨ n = 4 ∨ n = 6 ∨ n = 34 ∨ n = 36 ∨ n = 38
instance (n : Int) : Decidable (MayW n) := by unfold MayW; infer_instance
/-- An event that may be. -/
structure ItOk (t : It) : Prop where
  lo : -9223372036854775808 ≤ t.id
  hi : t.id ≤ 9223372036854775807
  b : (t.wn = 0 ∧ 1 ≤ t.nu ∧ t.nu ≤ 31 ∧ t.pr = t.nu + 96) ∨ (MayW t.wn ∧ 0 ≤ t.nu ∧ t.nu ≤ 95 ∧ t.pr = t.nu)
theorem ItOk.place {t : It} (h : ItOk t) : 0 ≤ t.pr ∧ t.pr < 128 := by rcases h.b with ⟨_, h⟩ | ⟨_, h⟩ <;> omega
theorem ItOk.wants {t : It} (h : ItOk t) : 0 ≤ t.wn ∧ t.wn ≤ 38 := by
  rcases h.b with ⟨h, _⟩ | ⟨h, _⟩
  · omega
  · unfold MayW at h; omega

/-- The items of a priority. -/
def row (L : List It) (p : Int) : List It := L.filter fun t => t.pr == p
/-- The number's item. -/
def look (L : List It) (x : Int) : Option It := L.find? fun t => t.id == x
/-- Without a number. -/
def cutL (L : List It) (x : Int) : List It := L.filter fun t => t.id != x
/-- What holds of all lists. -/
structure Ok (L : List It) : Prop where
  nd : (L.map It.id).Nodup
  b : ∀ t ∈ L, ItOk t

theorem Ok.nil : Ok [] := ⟨List.nodup_nil, fun _ h => absurd h (List.not_mem_nil)⟩

theorem row_append (L M : List It) (p : Int) : row (L ++ M) p = row L p ++ row M p := List.filter_append ..
theorem row_one (t : It) (p : Int) : row [t] p = if t.pr = p then [t] else [] := by
  by_cases h : t.pr = p <;> simp [row, h]
theorem row_cut (L : List It) (x p : Int) : row (cutL L x) p = cutL (row L p) x := by
  unfold row cutL; rw [List.filter_filter, List.filter_filter]; congr 1; funext t; rw [Bool.and_comm]
theorem mem_row {L : List It} {p : Int} {t : It} : t ∈ row L p ↔ t ∈ L ∧ t.pr = p := by simp [row]
theorem row_sub (L : List It) (p : Int) : List.Sublist (row L p) L := List.filter_sublist
theorem row_len (L : List It) (p : Int) : (row L p).length ≤ L.length := (row_sub L p).length_le
theorem Ok.sub {L M : List It} (h : Ok L) (s : List.Sublist M L) : Ok M :=
  ⟨h.nd.sublist (s.map _), fun t ht => h.b t (s.subset ht)⟩
theorem Ok.row {L : List It} (h : Ok L) (p : Int) : Ok (row L p) := h.sub (row_sub L p)
theorem Ok.cut {L : List It} (h : Ok L) (x : Int) : Ok (cutL L x) := h.sub List.filter_sublist

/-! ### where a number stands -/
theorem look_none {L : List It} {x : Int} : look L x = none ↔ ∀ t ∈ L, t.id ≠ x := by simp [look]
theorem look_some {L : List It} {x : Int} {t : It} (h : look L x = some t) : t ∈ L ∧ t.id = x := by
  unfold look at h
  exact ⟨List.mem_of_find?_eq_some h, by simpa using List.find?_some h⟩
theorem eq_of_id {L : List It} (h : Ok L) {s t : It} (hs : s ∈ L) (ht : t ∈ L) (e : s.id = t.id) : s = t := by
  have hn := h.nd
  clear h
  induction L with
  | nil => exact absurd hs (List.not_mem_nil)
  | cons a r ih =>
    simp only [List.map_cons, List.nodup_cons, List.mem_map, not_exists, not_and] at hn
    rcases List.mem_cons.1 hs with h1 | hs
    · rcases List.mem_cons.1 ht with h | ht
      · rw [h1, h]
      · exact absurd e.symm (h1 ▸ hn.1 t ht)
    · rcases List.mem_cons.1 ht with h | ht
      · exact absurd e (h ▸ hn.1 s hs)
      · exact ih hs ht hn.2
theorem look_mem {L : List It} (h : Ok L) {t : It} (ht : t ∈ L) : look L t.id = some t := by
  cases hl : look L t.id with
  | none => exact absurd rfl (look_none.1 hl t ht)
  | some s => obtain ⟨h1, h2⟩ := look_some hl; rw [eq_of_id h h1 ht h2]

/-- The place of a number in a row. -/
def plc (l : List It) (x : Int) : Nat := l.findIdx fun t => t.id == x
theorem plc_lt {l : List It} {t : It} (h : t ∈ l) : plc l t.id < l.length := List.findIdx_lt_length_of_exists ⟨t, h, by simp⟩
theorem plc_get {l : List It} (ho : Ok l) {t : It} (h : t ∈ l) : l[plc l t.id]? = some t := by
  have hl := plc_lt h
  rw [List.getElem?_eq_getElem hl]
  have := List.findIdx_getElem (p := fun u : It => u.id == t.id) (xs := l) (w := hl)
  congr 1
  exact eq_of_id ho (List.getElem_mem hl) h (eq_of_beq this)

theorem Ok.snoc {L : List It} (h : Ok L) (t : It) (hn : ∀ s ∈ L, s.id ≠ t.id) (b : ItOk t) : Ok (L ++ [t]) := by
  refine ⟨?_, fun s hs => ?_⟩
  · rw [List.map_append, List.nodup_append]
    refine ⟨h.nd, by simp, ?_⟩
    intro a ha b hb e
    simp at hb
    obtain ⟨s, hs, rfl⟩ := List.mem_map.1 ha
    exact hn s hs (by rw [e, hb])
  · rcases List.mem_append.1 hs with hs | hs
    · exact h.b s hs
    · rw [List.mem_singleton.1 hs]; exact b
theorem cut_none {L : List It} {x : Int} (h : ∀ t ∈ L, t.id ≠ x) : cutL L x = L := List.filter_eq_self.2 fun t ht => by simpa using h t ht
/-- A cut in a row: the place is left out. -/
theorem cut_plc {l : List It} (ho : Ok l) {t : It} (h : t ∈ l) : cutL l t.id = l.take (plc l t.id) ++ l.drop (plc l t.id + 1) := by
  have hn := ho.nd
  clear ho
  induction l with
  | nil => exact absurd h (List.not_mem_nil)
  | cons a r ih =>
    simp only [List.map_cons, List.nodup_cons, List.mem_map, not_exists, not_and] at hn
    by_cases e : a.id = t.id
    · have hr : ∀ s ∈ r, s.id ≠ t.id := fun s hs he => hn.1 s hs (by rw [he, e])
      have hc := cut_none hr
      unfold cutL at hc
      simp [cutL, plc, List.findIdx_cons, e]
      simpa using hr
    · have ht : t ∈ r := by
        rcases List.mem_cons.1 h with rfl | h
        · exact absurd rfl e
        · exact h
      have := ih ht hn.2
      unfold cutL plc at this
      have e2 : (a.id == t.id) = false := by simpa using e
      simp [cutL, plc, List.findIdx_cons, e, e2]
      exact this

theorem look_cut (L : List It) (x y : Int) : look (cutL L x) y = if y = x then none else look L y := by
  unfold look cutL
  by_cases h : y = x
  · subst h
    rw [if_pos rfl, List.find?_eq_none]
    intro t ht
    simpa using (List.mem_filter.1 ht).2
  · rw [if_neg h]
    induction L with
    | nil => rfl
    | cons a r ih =>
      by_cases e : a.id = x
      · have e2 : (a.id == y) = false := by simpa using fun e3 => h (by rw [← e3, e])
        simp [List.filter_cons, e, List.find?_cons, e2]
        rw [e] at e2
        simp [e2]
        simpa using ih
      · simp only [List.filter_cons, bne_iff_ne, ne_eq, e, not_false_eq_true, if_true, List.find?_cons]
        rw [ih]
theorem row_cut_other {L : List It} (ho : Ok L) {t : It} (ht : t ∈ L) {q : Int} (hq : q ≠ t.pr) : row (cutL L t.id) q = row L q := by
  rw [row_cut]
  refine cut_none fun s hs e => ?_
  obtain ⟨h1, h2⟩ := mem_row.1 hs
  rw [eq_of_id ho h1 ht e] at h2
  exact hq h2.symm
theorem row_cut_same {L : List It} (ho : Ok L) {t : It} (ht : t ∈ L) : row (cutL L t.id) t.pr = (row L t.pr).take (plc (row L t.pr) t.id) ++ (row L t.pr).drop (plc (row L t.pr) t.id + 1) := by
  rw [row_cut]
  exact cut_plc (ho.row _) (mem_row.2 ⟨ht, rfl⟩)
theorem look_snoc (L : List It) (t : It) (y : Int) (hn : look L t.id = none) : look (L ++ [t]) y = if y = t.id then some t else look L y := by
  unfold look at hn ⊢
  rw [List.find?_append]
  by_cases h : y = t.id
  · subst h
    rw [hn, if_pos rfl]
    simp
  · rw [if_neg h]
    have : (t.id == y) = false := by simpa using fun e => h e.symm
    simp [this]

/-! ### all rows together -/
def lens (L : List It) (m : Nat) : Nat := ((List.range m).map fun p : Nat => (row L p).length).sum
theorem lens_cons (t : It) (L : List It) (m : Nat) : lens (t :: L) m = lens L m + if 0 ≤ t.pr ∧ t.pr < m then 1 else 0 := by
  unfold lens
  induction m with
  | zero =>
    rw [if_neg (by omega)]
    rfl
  | succ m ih =>
    simp only [List.range_succ, List.map_append, List.sum_append, List.map_cons, List.map_nil, List.sum_cons, List.sum_nil] at ih ⊢
    rw [ih]
    have e : (row (t :: L) (m : Int)).length = (row L (m : Int)).length + if t.pr = m then 1 else 0 := by
      by_cases h : t.pr = m <;> simp [row, h]
    rw [e]
    by_cases h1 : t.pr = m
    · rw [if_pos h1, if_neg (by omega), if_pos (by omega)]; omega
    · rw [if_neg h1]
      by_cases h2 : 0 ≤ t.pr ∧ t.pr < m
      · rw [if_pos h2, if_pos (by omega)]; omega
      · rw [if_neg h2, if_neg (by omega)]; omega
theorem lens_nil (m : Nat) : lens [] m = 0 := by
  unfold lens
  simp only [row, List.filter_nil, List.length_nil]
  induction m with
  | zero => rfl
  | succ m ih => rw [List.range_succ, List.map_append, List.sum_append, ih]; rfl
theorem lens_all {m : Nat} : ∀ {L : List It}, (∀ t ∈ L, 0 ≤ t.pr ∧ t.pr < m) → lens L m = L.length
  | [], _ => lens_nil m
  | t :: L, h => by
    rw [lens_cons, lens_all (fun s hs => h s (by simp [hs])), if_pos (h t (by simp))]
    rfl

/-! ### wants -/
theorem i64_or_nat (a b : Nat) (ha : a < 9223372036854775808) (hb : b < 9223372036854775808) : bits .or .i64 (a : Int) (b : Int) = ((a ||| b : Nat) : Int) := by
  have hx : a ||| b < 2 ^ 63 := Nat.or_lt_two_pow (by omega) (by omega)
  show IntKind.i64.wrap ((BitVec.ofInt 64 (a : Int) ||| BitVec.ofInt 64 (b : Int)).toNat : Int) = _
  rw [BitVec.toNat_or, ofInt_u64 a (by omega), ofInt_u64 b (by omega), IntKind.wrap_i64]
  omega
theorem wrap_zero (n : Nat) (h : n < 18446744073709551616) : IntKind.i64.wrap (n : Int) = 0 ↔ n = 0 := by
  simp [IntKind.wrap, IntKind.signed, IntKind.bits]
  split <;> omega
theorem mask38 (X : Nat) (h : X < 18446744073709551616) : X &&& 18446744073709551577 = 0 ↔ (X = 0 ∨ X = 2 ∨ X = 4 ∨ X = 6 ∨ X = 32 ∨ X = 34 ∨ X = 36 ∨ X = 38) := by
  have key : ∀ n : Fin 64, n.val &&& 18446744073709551577 = 0 ↔ (n.val = 0 ∨ n.val = 2 ∨ n.val = 4 ∨ n.val = 6 ∨ n.val = 32 ∨ n.val = 34 ∨ n.val = 36 ∨ n.val = 38) := by decide +kernel
  by_cases hX : X < 64
  · exact key ⟨X, hX⟩
  · constructor
    · intro h0
      exfalso
      have h1 : (X &&& 18446744073709551577) >>> 6 = 0 := by rw [h0]; rfl
      rw [Nat.shiftRight_and_distrib, show (18446744073709551577 >>> 6 : Nat) = 2 ^ 58 - 1 by decide, Nat.and_two_pow_sub_one_eq_mod, Nat.shiftRight_eq_div_pow] at h1
      omega
    · intro h1; omega
theorem andnot38 (x : Int) (h0 : -9223372036854775808 ≤ x) (h1 : x ≤ 9223372036854775807) : bits .andNot .i64 x 38 = 0 ↔ (x = 0 ∨ x = 2 ∨ x = 4 ∨ x = 6 ∨ x = 32 ∨ x = 34 ∨ x = 36 ∨ x = 38) := by
  show IntKind.i64.wrap ((BitVec.ofInt 64 x &&& ~~~BitVec.ofInt 64 38).toNat : Int) = 0 ↔ _
  have hX : (BitVec.ofInt 64 x).toNat = (x % 18446744073709551616).toNat := by simp [BitVec.toNat_ofInt]
  have hl : (BitVec.ofInt 64 x).toNat < 18446744073709551616 := (BitVec.ofInt 64 x).isLt
  rw [BitVec.toNat_and, BitVec.toNat_not, show 2 ^ 64 - 1 - (BitVec.ofInt 64 38).toNat = 18446744073709551577 by decide]
  rw [wrap_zero _ (Nat.lt_of_le_of_lt Nat.and_le_left hl), mask38 _ hl, hX]
  omega
/-- All that is wanted in a place. -/
def wntF (s : Int) (t : It) : Int := bits .or .i64 s t.wn
def wntL (l : List It) : Int := l.foldl wntF 0
theorem wntL_nil : wntL [] = 0 := rfl
theorem wntL_snoc (l : List It) (t : It) : wntL (l ++ [t]) = bits .or .i64 (wntL l) t.wn := by simp [wntL, wntF]
theorem or64_b {a b : Int} (ha : 0 ≤ a ∧ a < 64) (hb : 0 ≤ b ∧ b < 64) : 0 ≤ bits .or .i64 a b ∧ bits .or .i64 a b < 64 ∧ a ≤ bits .or .i64 a b ∧ b ≤ bits .or .i64 a b := by
  obtain ⟨A, rfl⟩ := Int.eq_ofNat_of_zero_le ha.1
  obtain ⟨B, rfl⟩ := Int.eq_ofNat_of_zero_le hb.1
  rw [i64_or_nat A B (by omega) (by omega)]
  have hx : A ||| B < 2 ^ 6 := Nat.or_lt_two_pow (by omega) (by omega)
  have h1 : A ≤ A ||| B := Nat.left_le_or
  have h2 : B ≤ A ||| B := Nat.right_le_or
  omega
theorem wntL_b (l : List It) (h : ∀ t ∈ l, 0 ≤ t.wn ∧ t.wn < 64) : 0 ≤ wntL l ∧ wntL l < 64 ∧ ∀ t ∈ l, t.wn ≤ wntL l := by
  rcases List.eq_nil_or_concat l with rfl | ⟨l', t, rfl⟩
  · exact ⟨by decide, by decide, fun _ h => absurd h (List.not_mem_nil)⟩
  · rw [List.concat_eq_append] at h ⊢
    obtain ⟨h1, h2, h3⟩ := wntL_b l' (fun s hs => h s (by simp [hs]))
    have ht := h t (by simp)
    rw [wntL_snoc]
    obtain ⟨h4, h5, h6, h7⟩ := or64_b ⟨h1, h2⟩ ht
    refine ⟨h4, h5, fun s hs => ?_⟩
    rcases List.mem_append.1 hs with hs | hs
    · have := h3 s hs; omega
    · rw [List.mem_singleton.1 hs]; exact h7
termination_by l.length
decreasing_by simp_all
theorem cut_snoc {L : List It} {t : It} (h : look L t.id = none) : cutL (L ++ [t]) t.id = L := by
  have h1 := cut_none (look_none.1 h)
  unfold cutL at h1 ⊢
  rw [List.filter_append, h1]
  simp
theorem row_snoc_same (L : List It) (t : It) : row (L ++ [t]) t.pr = row L t.pr ++ [t] := by rw [row_append, row_one, if_pos rfl]
theorem row_snoc_other (L : List It) (t : It) {q : Int} (h : q ≠ t.pr) : row (L ++ [t]) q = row L q := by rw [row_append, row_one, if_neg (fun e => h e.symm), List.append_nil]
theorem look_cut_self (L : List It) (x : Int) : look (cutL L x) x = none := by rw [look_cut, if_pos rfl]
/-- The numbers of a row. -/
def ids (l : List It) : List Int := l.map It.id
/-- A number's event, or nothing. -/
def itOf (L : List It) (x : Int) : It := (look L x).getD ⟨0, 0, 0, 0⟩
/-- A descriptor's, and a signal's. -/
def ofL (L : List It) (fd : Int) : List It := if 0 ≤ fd ∧ fd ≤ 95 then row L fd else []
def sigL (L : List It) (s : Int) : List It := if 1 ≤ s ∧ s ≤ 31 then row L (s + 96) else []
def wants (L : List It) (fd : Int) : Int := wntL (ofL L fd)
def chk (L : List It) (ev fd wn : Int) : Int :=
  if ¬ (0 ≤ fd ∧ fd ≤ 95) ∨ ¬ MayW wn then 2 else if (look L ev).isSome then 180 else if 0 < (row L fd).length ∧ bits .and .i64 (bits .xor .i64 (wntL (row L fd)) wn) 32 ≠ 0 then 182 else 0
end Go.Proofs.Ytllolfbjmpaamaa
