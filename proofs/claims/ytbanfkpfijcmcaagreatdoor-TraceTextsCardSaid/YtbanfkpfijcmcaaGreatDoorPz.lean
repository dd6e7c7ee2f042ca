/- Traces, one behind the other, and the lines of a text: plainly. -/
import Derived.Test.YtbanfkpfijcmcaaGreatDoorSm
import Derived.Test.YtbanfkpfijcmcaaGreatDoorPt
namespace Go.Proofs.YtbanfkpfijcmcaaGreatDoor
set_option linter.unusedSimpArgs false
set_option linter.unusedVariables false
set_option maxRecDepth 100000

theorem check_iff (l : List En) : checkF l = true ↔ l.length ≤ 20000 ∧ ∀ j, j < l.length → okAt l j = true := by
  unfold checkF allOk
  rw [Bool.and_eq_true, decide_eq_true_eq, List.all_eq_true]
  exact ⟨fun h => ⟨h.1, fun j hj => h.2 j (List.mem_range.2 hj)⟩, fun h => ⟨h.1, fun j hj => h.2 j (List.mem_range.1 hj)⟩⟩
theorem check_app {a b : List En} (ha : checkF a = true) (hb : checkF b = true) (hl : a.length + b.length ≤ 20000) (hj : ∀ x y, a[a.length - 1]? = some x → b[0]? = some y → x.tk ≤ y.tk) : checkF (a ++ b) = true := by
  rw [check_iff] at ha hb ⊢
  refine ⟨by rw [List.length_append]; exact hl, fun j hlt => ?_⟩
  rw [List.length_append] at hlt
  by_cases h : j < a.length
  · rw [ok_app a b j h]; exact ha.2 j h
  · obtain ⟨i, rfl⟩ : ∃ i, j = a.length + i := ⟨j - a.length, by omega⟩
    have hbi := hb.2 i (by omega)
    unfold okAt at hbi ⊢
    rw [List.getElem?_append_right (by omega), Nat.add_sub_cancel_left]
    cases hy : b[i]? with
    | none => rfl
    | some y =>
      rw [hy] at hbi
      simp only [Bool.and_eq_true, Bool.or_eq_true, beq_iff_eq] at hbi ⊢
      refine ⟨hbi.1, ?_⟩
      by_cases hi : i = 0
      · subst hi
        by_cases hz : a.length = 0
        · left; omega
        · right
          rw [List.getElem?_append_left (by omega)]
          cases hx : a[a.length + 0 - 1]? with
          | none => rfl
          | some x => exact decide_eq_true (hj x y hx hy)
      · right
        rw [List.getElem?_append_right (by omega), show a.length + i - 1 - a.length = i - 1 by omega]
        rcases hbi.2 with h0 | h0
        · exact absurd h0 hi
        · exact h0
theorem check_app_no {a b : List En} {x y : En} (hx : a[a.length - 1]? = some x) (hy : b[0]? = some y) (h : y.tk < x.tk) : checkF (a ++ b) = false := by
  rw [Bool.eq_false_iff]
  intro e
  rw [check_iff] at e
  have ha : 0 < a.length := by have := (List.getElem?_eq_some_iff.1 hx).1; omega
  have hb : 0 < b.length := (List.getElem?_eq_some_iff.1 hy).1
  have := e.2 a.length (by rw [List.length_append]; omega)
  unfold okAt at this
  rw [List.getElem?_append_right (Nat.le_refl _), Nat.sub_self, hy, List.getElem?_append_left (by omega), hx] at this
  simp only [Bool.and_eq_true, Bool.or_eq_true, beq_iff_eq, decide_eq_true_eq] at this
  omega
theorem parts_front (a b : List En) (hb : b ≠ []) : partsF a (a ++ b) = a.length := by
  have h := cpl_app a [] b
  rw [List.append_nil] at h
  have h0 : cpl [] b = 0 := by cases b <;> rfl
  unfold partsF
  rw [h, h0, List.length_append]
  have : 0 < b.length := List.length_pos_iff.2 hb
  rw [if_neg (by omega)]; omega
theorem parts_self (a : List En) : partsF a a = -1 := by
  unfold partsF
  rw [cpl_self, if_pos ⟨rfl, rfl⟩]

/-! The lines of a text. -/
theorem raw_text : ∀ (r : List En) (k : Nat) (s : ByteArray), s.size ≤ k → s.data.toList = textF r → (∀ x ∈ r, mayF x = true) → ∀ y ∈ rawK k s, ∃ x ∈ r, (cutS y).data.toList = lineL x
  | [], k, s, hk, hs, _, y, hy => by
    have hz : s.size = 0 := by rw [← sz_data, hs]; rfl
    cases k with
    | zero => simp [rawK] at hy
    | succ k => simp only [rawK] at hy; rw [if_pos hz] at hy; cases hy
  | x :: r, k, s, hk, hs, hm, y, hy => by
    have ht : textF (x :: r) = lineL x ++ 10 :: textF r := by simp [textF]
    rw [ht] at hs
    have hi : Lib.indexByte s.data.toList 10 = ((lineL x).length : Int) := by rw [hs]; exact idx_hit 10 _ _ (line_nl (hm x (by simp)))
    have hz : (lineL x).length + 1 + (textF r).length = s.size := by
      have := congrArg List.length hs
      rw [List.length_append, List.length_cons, sz_data] at this
      omega
    cases k with
    | zero => omega
    | succ k =>
      have e1 : rawK (k + 1) s = if s.size = 0 then [] else frontS s :: rawK k (restS s) := rfl
      rw [e1, if_neg (by omega)] at hy
      rcases List.mem_cons.1 hy with rfl | hy
      · have hc := cut_yes (s := s) (by rw [hi]; omega)
        rw [hi] at hc
        simp only [Int.toNat_natCast] at hc
        exact ⟨x, by simp, by rw [hc.2, ext_data, hs, List.take_left' rfl, List.drop_zero]⟩
      · have hr : restS s = s.extract ((lineL x).length + 1) s.size := by unfold restS; rw [hi, if_neg (by omega)]; simp only [Int.toNat_natCast]
        rw [hr] at hy
        obtain ⟨z, hz1, hz2⟩ := raw_text r k (s.extract ((lineL x).length + 1) s.size) (by rw [ByteArray.size_extract]; omega) (by
          rw [ext_data, show s.size = s.data.toList.length from (sz_data s).symm, List.take_length, hs, show lineL x ++ 10 :: textF r = (lineL x ++ [10]) ++ textF r by simp, List.drop_left' (by simp)]) (fun z hz => hm z (by simp [hz])) y hy
        exact ⟨z, by simp [hz1], hz2⟩
theorem line_len2 (x : En) (ok : EnOk x) (hm : mayF x = true) : (lineL x).length ≤ 1000000 := by
  have zX := hexL_len x.dt
  have hl := may_dt hm
  have zN := Lib.itoa_length_le x.nn ok.nn.1 ok.nn.2
  have zR := Lib.itoa_length_le x.er ok.er.1 ok.er.2
  have zI := Lib.itoa_length_le x.id ok.id.1 ok.id.2
  have zT := dec_len x.tk.toNat (by have := ok.tk; omega)
  have zF := tx_len x.fl
  have zW : (wordL x.kd).length ≤ 4 := by unfold wordL; split; simp; split; simp; split; simp; split <;> simp
  unfold lineL lineW
  refine Nat.le_trans (Fl.join_len [32] _ 131200 (fun y hy => ?_)) ?_
  · rcases List.mem_append.1 hy with hy | hy
    · simp only [List.mem_cons, List.not_mem_nil, or_false] at hy
      rcases hy with rfl | rfl <;> omega
    · split at hy
      · simp only [List.mem_cons, List.not_mem_nil, or_false] at hy; subst hy; omega
      · split at hy
        · simp only [List.mem_cons, List.not_mem_nil, or_false] at hy; rcases hy with rfl | rfl | rfl <;> omega
        · split at hy
          · simp only [List.mem_cons, List.not_mem_nil, or_false] at hy; rcases hy with rfl | rfl | rfl | rfl <;> omega
          · simp only [List.mem_cons, List.not_mem_nil, or_false] at hy; rcases hy with rfl | rfl <;> omega
  · rw [List.length_append]
    have : (if x.kd = 1 then [Lib.itoa x.nn] else if x.kd = 2 then [Lib.itoa x.id, Fl.txL 0 x.fl, Lib.itoa x.nn] else if x.kd = 3 then [Lib.itoa x.id, Lib.itoa x.nn, Lib.itoa x.er, hexL x.dt] else [Lib.itoa x.nn, Lib.itoa x.er]).length ≤ 4 := by
      split; simp; split; simp; split <;> simp
    simp only [List.length_cons, List.length_nil]
    omega
/-- A text that Parse is walked for. -/
structure Tok (s : ByteArray) : Prop where
  size : s.size ≤ 1099511627776
  line : ∀ y ∈ rawS s, (cutS y).size ≤ 1000000
theorem check_may {l : List En} (h : checkF l = true) : ∀ x ∈ l, mayF x = true := by
  intro x hx
  obtain ⟨j, hj⟩ := List.getElem?_of_mem hx
  have hlt := (List.getElem?_eq_some_iff.1 hj).1
  unfold checkF at h
  rw [Bool.and_eq_true] at h
  exact allOk_at h.2 hlt hj
theorem Tok.text {l : List En} (hc : checkF l = true) (ho : ∀ x ∈ l, EnOk x) : Tok ⟨(textF l).toArray⟩ := by
  have hl := ((check_iff l).1 hc).1
  have hm := check_may hc
  refine ⟨?_, fun y hy => ?_⟩
  · have := text_len 1000000 l l.length (fun j x _ hx => line_len2 x (ho x (List.mem_of_getElem? hx)) (hm x (List.mem_of_getElem? hx)))
    rw [List.take_length] at this
    rw [mk_size]
    have h2 : l.length * (1000000 + 1) ≤ 20000 * (1000000 + 1) := Nat.mul_le_mul_right _ hl
    omega
  · obtain ⟨x, hx, he⟩ := raw_text l _ _ (Nat.le_refl _) rfl hm y hy
    have := line_len2 x (ho x hx) (hm x hx)
    rw [← he, sz_data] at this
    exact this
theorem Tok.short {s : ByteArray} (h : s.size ≤ 1000000) : Tok s := ⟨by omega, fun y hy => Nat.le_trans (cut_size y) (Nat.le_trans (rawS_size hy) h)⟩
end Go.Proofs.YtbanfkpfijcmcaaGreatDoor
