/- EvmapHits, plainly. -/
import Derived.Test.YtllolfbjmpaamaaTr
namespace Go.Proofs.Ytllolfbjmpaamaa
open Go.RowKit
set_option linter.unusedSimpArgs false
set_option linter.unusedVariables false

/-- The number of a word of bits, and its word. -/
def toI (v : BitVec 64) : Int := IntKind.i64.wrap (v.toNat : Int)
def toB (x : Int) : BitVec 64 := BitVec.ofInt 64 x
theorem and_toI (a b : Int) : bits .and .i64 a b = toI (toB a &&& toB b) := rfl
theorem or_toI (a b : Int) : bits .or .i64 a b = toI (toB a ||| toB b) := rfl
theorem toB_toI (v : BitVec 64) : toB (toI v) = v := by
  unfold toB toI
  apply BitVec.eq_of_toNat_eq
  have hv := v.isLt
  rw [BitVec.toNat_ofInt, IntKind.wrap_i64]
  omega
theorem toI_toB {x : Int} (h0 : -9223372036854775808 ≤ x) (h1 : x ≤ 9223372036854775807) : toI (toB x) = x := by
  unfold toB toI
  rw [BitVec.toNat_ofInt, IntKind.wrap_i64]
  omega
theorem nF_toI (fl wn : Int) : nF fl wn = toI ((toB wn &&& toB fl) &&& toB 6) := by
  unfold nF
  rw [and_toI, and_toI, toB_toI]
theorem bv_two (w f : BitVec 64) : ((w &&& toB 2 &&& toB 6) ||| (w &&& toB 4 &&& toB 6)) &&& f = (w &&& f) &&& toB 6 := by
  have h6 : toB 6 = toB 2 ||| toB 4 := by decide
  rw [h6]
  generalize toB 2 = p
  generalize toB 4 = q
  apply BitVec.eq_of_getElem_eq
  intro i hi
  simp only [BitVec.getElem_and, BitVec.getElem_or]
  generalize w[i] = a
  generalize f[i] = b
  generalize p[i] = c
  generalize q[i] = d
  cases a <;> cases b <;> cases c <;> cases d <;> rfl
theorem bv_or (w x f m : BitVec 64) : ((w ||| x) &&& f) &&& m = ((w &&& f) &&& m) ||| ((x &&& f) &&& m) := by
  apply BitVec.eq_of_getElem_eq
  intro i hi
  simp only [BitVec.getElem_and, BitVec.getElem_or]
  generalize w[i] = a
  generalize f[i] = b
  generalize x[i] = c
  generalize m[i] = d
  cases a <;> cases b <;> cases c <;> cases d <;> rfl
/-- What is wanted and there of both sides. -/
theorem both_sides (fl wn : Int) : bits .and .i64 (bits .or .i64 (bits .or .i64 0 (nF 2 wn)) (nF 4 wn)) fl = nF fl wn := by
  rw [and_toI, or_toI, or_toI, nF_toI, nF_toI, nF_toI, toB_toI, toB_toI, toB_toI, toB_toI]
  rw [show toB 0 = 0#64 by decide, BitVec.zero_or, bv_two]
theorem nF_or (fl a b : Int) : nF fl (bits .or .i64 a b) = bits .or .i64 (nF fl a) (nF fl b) := by
  rw [or_toI, or_toI, nF_toI, nF_toI, nF_toI, toB_toI, toB_toI, toB_toI, bv_or]
theorem nF_zero (fl : Int) : nF fl 0 = 0 := by
  rw [nF_toI, show toB 0 = 0#64 by decide, BitVec.zero_and, BitVec.zero_and]
  decide
theorem or_nF (s fl wn : Int) (h : nF fl wn = 0) (h0 : -9223372036854775808 ≤ s) (h1 : s ≤ 9223372036854775807) : bits .or .i64 s (nF fl wn) = s := by
  rw [h, or_toI, show toB 0 = 0#64 by decide, BitVec.or_zero, toI_toB h0 h1]
theorem toI_b (v : BitVec 64) : -9223372036854775808 ≤ toI v ∧ toI v ≤ 9223372036854775807 := by
  unfold toI
  have hv := v.isLt
  rw [IntKind.wrap_i64]
  omega

/-- What a list adds for an event. -/
def accF (x : Int) (s : Int) (h : It) : Int := if h.id = x then bits .or .i64 s h.wn else s
def acc (x s : Int) (l : List It) : Int := l.foldl (accF x) s
theorem acc_snoc (x s : Int) (l : List It) (h : It) : acc x s (l ++ [h]) = accF x (acc x s l) h := by simp [acc]
theorem acc_none (x : Int) : ∀ (l : List It) (s : Int), (∀ h ∈ l, h.id ≠ x) → acc x s l = s
  | [], s, _ => rfl
  | a :: r, s, h => by
    have ha : accF x s a = s := by unfold accF; rw [if_neg (h a (by simp))]
    unfold acc
    rw [List.foldl_cons, ha]
    exact acc_none x r s (fun b hb => h b (by simp [hb]))
theorem hits_id {l : List It} {f : Int} {h : It} (hh : h ∈ hitsL l f) : ∃ t ∈ l, h = hitOf f t := by
  unfold hitsL at hh
  obtain ⟨h1, -⟩ := List.mem_filter.1 hh
  obtain ⟨t, ht, rfl⟩ := List.mem_map.1 h1
  exact ⟨t, ht, rfl⟩
theorem hits_cons (a : It) (r : List It) (f : Int) : hitsL (a :: r) f = (if nF f a.wn = 0 then [] else [hitOf f a]) ++ hitsL r f := by
  unfold hitsL
  by_cases h : nF f a.wn = 0 <;> simp [hitOf, h]
theorem acc_hits (f : Int) (t : It) : ∀ (l : List It) (s : Int), (l.map It.id).Nodup → t ∈ l → -9223372036854775808 ≤ s → s ≤ 9223372036854775807 → acc t.id s (hitsL l f) = bits .or .i64 s (nF f t.wn)
  | [], s, _, h, _, _ => absurd h (List.not_mem_nil)
  | a :: r, s, hn, h, h0, h1 => by
    simp only [List.map_cons, List.nodup_cons, List.mem_map, not_exists, not_and] at hn
    rw [hits_cons]
    unfold acc
    rw [List.foldl_append]
    by_cases e : a.id = t.id
    · have hr : ∀ s' ∈ r, s'.id ≠ t.id := fun s' hs' he => hn.1 s' hs' (by rw [he, e])
      have hat : a = t := by
        rcases List.mem_cons.1 h with h | h
        · exact h.symm
        · exact absurd rfl (hr t h)
      subst hat
      have hrest : ∀ s', acc a.id s' (hitsL r f) = s' := fun s' => acc_none _ _ _ (fun h hh => by
        obtain ⟨u, hu, rfl⟩ := hits_id hh
        exact hr u hu)
      unfold acc at hrest
      rw [hrest]
      by_cases hz : nF f a.wn = 0
      · rw [if_pos hz]
        exact (or_nF s f a.wn hz h0 h1).symm
      · rw [if_neg hz]
        simp [accF, hitOf]
    · have ht : t ∈ r := by
        rcases List.mem_cons.1 h with h | h
        · exact absurd (by rw [h]) e
        · exact h
      have hz : List.foldl (accF t.id) s (if nF f a.wn = 0 then [] else [hitOf f a]) = s := by
        split
        · rfl
        · simp [accF, hitOf, e]
      rw [hz]
      exact acc_hits f t r s hn.2 ht h0 h1
/-- All that hits an event. -/
theorem acc_both (fl : Int) (t : It) (l : List It) (hn : (l.map It.id).Nodup) (ht : t ∈ l) : bits .and .i64 (acc t.id (acc t.id 0 (hitsL l 2)) (hitsL l 4)) fl = nF fl t.wn := by
  rw [acc_hits 2 t l 0 hn ht (by decide) (by decide), acc_hits 4 t l _ hn ht (by rw [or_toI]; exact (toI_b _).1) (by rw [or_toI]; exact (toI_b _).2)]
  exact both_sides fl t.wn
/-- What hits in all. -/
theorem sum_step (fl : Int) (l : List It) (t : It) : nF fl (wntL (l ++ [t])) = bits .or .i64 (nF fl (wntL l)) (nF fl t.wn) := by rw [wntL_snoc, nF_or]
theorem hit_at {l : List It} {fl : Int} {k : Nat} {t : It} (h : l[k]? = some t) (hne : nF fl t.wn ≠ 0) : (hitsL l fl)[(hitsL (l.take k) fl).length]? = some (hitOf fl t) ∧ (hitsL (l.take k) fl).length < (hitsL l fl).length := by
  have h1 : hitsL (l.take (k + 1)) fl = hitsL (l.take k) fl ++ [hitOf fl t] := by
    have : l.take (k + 1) = l.take k ++ [t] := by rw [List.take_add_one, h]; rfl
    rw [this, hits_snoc, if_neg hne]
  obtain ⟨r, hr⟩ := hits_prefix l fl (k + 1)
  rw [h1] at hr
  rw [← hr]
  constructor
  · simp
  · simp only [List.length_append, List.length_cons, List.length_nil]; omega
end Go.Proofs.Ytllolfbjmpaamaa
