/- A text, parsed: plainly. -/
import Derived.Test.YtbanfkpfijcmcaaGreatDoorRe
namespace Go.Proofs.YtbanfkpfijcmcaaGreatDoor
set_option linter.unusedSimpArgs false
set_option linter.unusedVariables false
set_option maxRecDepth 100000

/-- May an entry come behind those that are there? -/
def okNext (out : List En) (x : En) : Bool := out.length == 0 || (match out[out.length - 1]? with | none => true | some p => decide (p.tk ≤ x.tk))
/-- One line more: the list behind it, or none. -/
def stepF (out : List En) (t : ByteArray) (whole : Bool) : Option (List En) := match readF t with
  | none => none
  | some x => if whole && (decide (out.length < 20000) && okNext out x) then some (out ++ [x]) else none
/-- The lines of a text from a place on, taken in one behind the other. -/
def goF : Nat → List En → ByteArray → List En ⊕ Nat
  | 0, out, _ => .inl out
  | k + 1, out, s => if s.size = 0 then .inl out
    else if Lib.indexByte s.data.toList 10 < 0 then (match stepF out s false with | none => .inr (out.length + 1) | some o => .inl o)
    else match stepF out (s.extract 0 (Lib.indexByte s.data.toList 10).toNat) true with
      | none => .inr (out.length + 1)
      | some o => goF k o (s.extract ((Lib.indexByte s.data.toList 10).toNat + 1) s.size)
def parseF (s : ByteArray) : List En ⊕ Nat := goF s.size [] s

theorem ok_snoc (out : List En) (x : En) : okAt (out ++ [x]) out.length = (mayF x && okNext out x) := by
  unfold okAt okNext
  rw [List.getElem?_append_right (Nat.le_refl _), Nat.sub_self, List.getElem?_cons_zero]
  simp only
  by_cases h : out.length = 0
  · simp [h]
  · rw [List.getElem?_append_left (by omega)]
    cases out[out.length - 1]? <;> rfl
theorem ok_app (out r : List En) (j : Nat) (hj : j < out.length) : okAt (out ++ r) j = okAt out j := by
  unfold okAt
  rw [List.getElem?_append_left hj, List.getElem?_append_left (by omega)]
theorem all_congr {f g : Nat → Bool} : ∀ (l : List Nat), (∀ j ∈ l, f j = g j) → l.all f = l.all g
  | [], _ => rfl
  | a :: l, h => by simp only [List.all_cons]; rw [h a (by simp), all_congr l (fun j hj => h j (by simp [hj]))]
theorem allOk_app (out r : List En) (k : Nat) (hk : k ≤ out.length) : allOk (out ++ r) k = allOk out k := by
  unfold allOk
  exact all_congr _ (fun j hj => ok_app out r j (by have := List.mem_range.1 hj; omega))
theorem check_snoc (out : List En) (x : En) : checkF (out ++ [x]) = (checkF out && (mayF x && (decide (out.length < 20000) && okNext out x))) := by
  unfold checkF
  rw [List.length_append, List.length_singleton, allOk_succ, allOk_app out [x] _ (Nat.le_refl _), ok_snoc]
  by_cases h : out.length < 20000
  · rw [decide_eq_true (show out.length + 1 ≤ 20000 by omega), decide_eq_true (show out.length ≤ 20000 by omega), decide_eq_true h]
    simp [Bool.and_assoc]
  · rw [decide_eq_false (show ¬ out.length + 1 ≤ 20000 by omega), decide_eq_false h]
    simp
theorem check_pre (out r : List En) (h : checkF (out ++ r) = true) : checkF out = true := by
  unfold checkF at h ⊢
  simp only [Bool.and_eq_true, decide_eq_true_eq, List.length_append] at h ⊢
  refine ⟨by omega, ?_⟩
  have h2 := h.2
  unfold allOk at h2 ⊢
  rw [List.all_eq_true] at h2 ⊢
  intro j hj
  have hj2 := List.mem_range.1 hj
  rw [← ok_app out r j hj2]
  exact h2 j (List.mem_range.2 (by omega))
theorem text_app (a b : List En) : textF (a ++ b) = textF a ++ textF b := by unfold textF; rw [List.flatMap_append]
theorem text_one (x : En) : textF [x] = lineL x ++ [10] := by simp [textF]
theorem step_some {out o : List En} {t : ByteArray} {b : Bool} (h : stepF out t b = some o) : b = true ∧ ∃ x, readF t = some x ∧ o = out ++ [x] ∧ decide (out.length < 20000) = true ∧ okNext out x = true := by
  unfold stepF at h
  split at h
  · cases h
  · rename_i x hx
    split at h
    · rename_i hc
      simp only [Bool.and_eq_true] at hc
      cases h
      exact ⟨hc.1, x, hx, rfl, hc.2.1, hc.2.2⟩
    · cases h
theorem step_false (out : List En) (t : ByteArray) : stepF out t false = none := by
  unfold stepF
  split <;> simp
theorem idx_split (s : List UInt8) (c : UInt8) (h : 0 ≤ Lib.indexByte s c) : s = s.take (Lib.indexByte s c).toNat ++ c :: s.drop ((Lib.indexByte s c).toNat + 1) := by
  induction s with
  | nil => simp [Lib.indexByte] at h
  | cons b s ih =>
    simp only [Lib.indexByte] at h ⊢
    by_cases hb : b = c
    · subst hb; simp
    · have hb2 : (b == c) = false := by simpa using hb
      have hge := Lib.indexByte_ge s c
      simp only [hb2, if_false, Bool.false_eq_true] at h ⊢
      by_cases hi : Lib.indexByte s c = -1
      · rw [hi] at h; simp at h
      · have hi2 : (Lib.indexByte s c == -1) = false := by simpa using hi
        simp only [hi2, if_false, Bool.false_eq_true] at h ⊢
        have := ih (by omega)
        rw [show (Lib.indexByte s c + 1).toNat = (Lib.indexByte s c).toNat + 1 by omega]
        simp only [List.take_succ_cons, List.drop_succ_cons, List.cons_append]
        rw [← this]
theorem ext_data (s : ByteArray) (a b : Nat) : (s.extract a b).data.toList = (s.data.toList.take b).drop a := by
  rw [ByteArray.data_extract, Array.toList_extract, List.extract_eq_take_drop, List.drop_take]
theorem sz_data (s : ByteArray) : s.data.toList.length = s.size := Array.length_toList
/-- What is taken in is the text's. -/
theorem go_back : ∀ (k : Nat) (out : List En) (s : ByteArray) (r : List En), s.size ≤ k → goF k out s = .inl r → checkF out = true → (∀ x ∈ out, EnOk x) → checkF r = true ∧ textF r = textF out ++ s.data.toList ∧ ∀ x ∈ r, EnOk x
  | 0, out, s, r, hk, h, hc, ho => by
    simp only [goF] at h
    cases h
    have : s.data.toList = [] := List.eq_nil_of_length_eq_zero (by rw [sz_data]; omega)
    rw [this]; simp [hc, ho]
    exact ho
  | k + 1, out, s, r, hk, h, hc, ho => by
    unfold goF at h
    by_cases hz : s.size = 0
    · rw [if_pos hz] at h
      cases h
      have : s.data.toList = [] := List.eq_nil_of_length_eq_zero (by rw [sz_data]; omega)
      rw [this]; simp [hc]
      exact ho
    · rw [if_neg hz] at h
      by_cases hi : Lib.indexByte s.data.toList 10 < 0
      · rw [if_pos hi, step_false] at h
        cases h
      · rw [if_neg hi] at h
        cases hst : stepF out (s.extract 0 (Lib.indexByte s.data.toList 10).toNat) true with
        | none => rw [hst] at h; cases h
        | some o =>
          rw [hst] at h
          obtain ⟨-, x, hx, rfl, h1, h2⟩ := step_some hst
          obtain ⟨m1, m2, m3⟩ := read_line hx
          have hs := idx_split s.data.toList 10 (by omega)
          have hle : (Lib.indexByte s.data.toList 10).toNat + 1 ≤ s.size := by
            have := congrArg List.length hs
            rw [List.length_append, List.length_cons, List.length_take, List.length_drop, sz_data] at this
            omega
          obtain ⟨g1, g2, g3⟩ := go_back k (out ++ [x]) _ r (by rw [ByteArray.size_extract]; omega) h (by rw [check_snoc, hc, m1, h1, h2]; rfl) (fun y hy => by
            rcases List.mem_append.1 hy with hy | hy
            · exact ho y hy
            · rw [List.mem_singleton.1 hy]; exact m3)
          refine ⟨g1, ?_, g3⟩
          rw [g2, text_app, text_one, m2, ext_data, ext_data, List.drop_zero, show s.size = s.data.toList.length from (sz_data s).symm, List.take_length]
          conv => rhs; rw [hs]
          simp
theorem parse_back {s : ByteArray} {r : List En} (h : parseF s = .inl r) : checkF r = true ∧ textF r = s.data.toList ∧ ∀ x ∈ r, EnOk x := by
  have := go_back s.size [] s r (Nat.le_refl _) h rfl (by simp)
  simpa [textF] using this
theorem goF_pos : ∀ (k : Nat) (out : List En) (s : ByteArray) (n : Nat), goF k out s = .inr n → 0 < n
  | 0, _, _, _, h => by simp [goF] at h
  | k + 1, out, s, n, h => by
    unfold goF at h
    split at h
    · cases h
    · split at h
      · split at h
        · cases h; omega
        · cases h
      · split at h
        · cases h; omega
        · exact goF_pos k _ _ n h
theorem parse_pos {s : ByteArray} {n : Nat} (h : parseF s = .inr n) : 0 < n := goF_pos _ _ _ _ h

/-! A text that was written is read. -/
theorem dec_nl (u : Nat) : (10 : UInt8) ∉ Lib.decDigits u := fun h => by have := dec_chars u _ h; simp at this
theorem wordL_nl (k : Int) : (10 : UInt8) ∉ wordL k := by
  unfold wordL
  split; decide; split; decide; split; decide; split; decide; decide
theorem tx_nl : ∀ k : Fin 64, (10 : UInt8) ∉ Fl.txL 0 (k.val : Int) := by decide +kernel
theorem hx_nl : ∀ b : Fin 256, hxD (b.val / 16) ≠ 10 ∧ hxD (b.val % 16) ≠ 10 := by decide +kernel
theorem hexL_nl (d : List UInt8) : (10 : UInt8) ∉ hexL d := by
  unfold hexL
  split
  · decide
  · intro h
    obtain ⟨b, _, hb⟩ := List.mem_flatMap.1 h
    have := hx_nl ⟨b.toNat, b.toNat_lt⟩
    simp only [hx2, List.mem_cons, List.not_mem_nil, or_false] at hb
    rcases hb with hb | hb
    · exact this.1 hb.symm
    · exact this.2 hb.symm
theorem joinTail_nl : ∀ (r : List (List UInt8)), (∀ y ∈ r, (10 : UInt8) ∉ y) → (10 : UInt8) ∉ Lib.joinTail [32] r
  | [], _ => by simp [Lib.joinTail]
  | y :: r, h => by
    have ih := joinTail_nl r (fun z hz => h z (by simp [hz]))
    have hy := h y (by simp)
    have e : Lib.joinTail [32] (y :: r) = 32 :: (y ++ Lib.joinTail [32] r) := by simp [Lib.joinTail]
    rw [e]
    simp [hy, ih]
theorem join_nl : ∀ (l : List (List UInt8)), (∀ y ∈ l, (10 : UInt8) ∉ y) → (10 : UInt8) ∉ Lib.join l [32]
  | [], _ => by simp [Lib.join]
  | a :: r, h => by
    rw [Lib.join_cons, List.mem_append]
    rintro (hx | hx)
    · exact h a (by simp) hx
    · exact joinTail_nl r (fun z hz => h z (by simp [hz])) hx
theorem line_nl {x : En} (hm : mayF x = true) : (10 : UInt8) ∉ lineL x := by
  have hn : 0 ≤ x.nn ∧ 0 ≤ x.id ∧ 0 ≤ x.er := by
    unfold mayF at hm
    simp only [Bool.and_eq_true] at hm
    exact of_decide_eq_true hm.1
  have hfl : x.kd = 2 → (10 : UInt8) ∉ Fl.txL 0 x.fl := by
    intro h2
    unfold mayF at hm
    rw [if_neg (by omega), if_pos h2] at hm
    simp only [Bool.and_eq_true, decide_eq_true_eq] at hm
    have := tx_nl ⟨x.fl.toNat, by omega⟩
    simp only at this
    rw [show ((x.fl.toNat : Nat) : Int) = x.fl by omega] at this
    exact this
  have b1 : (10 : UInt8) ∉ Lib.itoa x.nn := by rw [itoa_nat hn.1]; exact dec_nl _
  have b2 : (10 : UInt8) ∉ Lib.itoa x.id := by rw [itoa_nat hn.2.1]; exact dec_nl _
  have b3 : (10 : UInt8) ∉ Lib.itoa x.er := by rw [itoa_nat hn.2.2]; exact dec_nl _
  refine join_nl _ (fun y hy => ?_)
  unfold lineW at hy
  rcases List.mem_append.1 hy with hy | hy
  · simp only [List.mem_cons, List.not_mem_nil, or_false] at hy
    rcases hy with rfl | rfl
    · exact wordL_nl _
    · exact dec_nl _
  · split at hy
    · simp only [List.mem_cons, List.not_mem_nil, or_false] at hy; subst hy; exact b1
    · split at hy
      · rename_i h2
        simp only [List.mem_cons, List.not_mem_nil, or_false] at hy; rcases hy with rfl | rfl | rfl
        · exact b2
        · exact hfl h2
        · exact b1
      · split at hy
        · simp only [List.mem_cons, List.not_mem_nil, or_false] at hy; rcases hy with rfl | rfl | rfl | rfl
          · exact b2
          · exact b1
          · exact b3
          · exact hexL_nl _
        · simp only [List.mem_cons, List.not_mem_nil, or_false] at hy; rcases hy with rfl | rfl
          · exact b1
          · exact b3
theorem go_text : ∀ (r : List En) (k : Nat) (out : List En) (s : ByteArray), s.size ≤ k → s.data.toList = textF r → checkF (out ++ r) = true → (∀ x ∈ r, EnOk x) → goF k out s = .inl (out ++ r)
  | [], k, out, s, hk, hs, hc, ho => by
    have hz : s.size = 0 := by rw [← sz_data, hs]; rfl
    cases k with
    | zero => simp [goF]
    | succ k => unfold goF; rw [if_pos hz]; simp
  | x :: r, k, out, s, hk, hs, hc, ho => by
    have hcx : checkF (out ++ [x]) = true := check_pre (out ++ [x]) r (by rw [List.append_assoc]; exact hc)
    have hcx2 := hcx
    rw [check_snoc] at hcx2
    simp only [Bool.and_eq_true] at hcx2
    have ht : textF (x :: r) = lineL x ++ 10 :: textF r := by simp [textF]
    rw [ht] at hs
    have hi : Lib.indexByte s.data.toList 10 = ((lineL x).length : Int) := by rw [hs]; exact idx_hit 10 _ _ (line_nl hcx2.2.1)
    have hz : (lineL x).length + 1 + (textF r).length = s.size := by
      have := congrArg List.length hs
      rw [List.length_append, List.length_cons, sz_data] at this
      omega
    cases k with
    | zero => omega
    | succ k =>
      unfold goF
      rw [if_neg (by omega), hi, if_neg (by omega)]
      simp only [Int.toNat_natCast]
      have hr : readF (s.extract 0 (lineL x).length) = some x := line_read hcx2.2.1 (ho x (by simp)) (by rw [ext_data, hs, List.take_left' rfl, List.drop_zero])
      have hst : stepF out (s.extract 0 (lineL x).length) true = some (out ++ [x]) := by
        unfold stepF
        rw [hr]
        simp only
        rw [hcx2.2.2.1, hcx2.2.2.2]; rfl
      rw [hst]
      simp only
      have := go_text r k (out ++ [x]) (s.extract ((lineL x).length + 1) s.size) (by rw [ByteArray.size_extract]; omega) (by
        rw [ext_data, show s.size = s.data.toList.length from (sz_data s).symm, List.take_length, hs, show lineL x ++ 10 :: textF r = (lineL x ++ [10]) ++ textF r by simp, List.drop_left' (by simp)]) (by rw [List.append_assoc]; exact hc) (fun y hy => ho y (by simp [hy]))
      rw [this, List.append_assoc]; rfl
theorem parse_text {l : List En} (hc : checkF l = true) (ho : ∀ x ∈ l, EnOk x) : parseF ⟨(textF l).toArray⟩ = .inl l := go_text l _ [] _ (Nat.le_refl _) rfl hc ho

/-! The lines, as the library tells them. -/
def cutS (l : ByteArray) : ByteArray := ⟨(Lib.trimSuffix l.data.toList [10]).toArray⟩
def cutB (l : ByteArray) : Bool := Lib.hasSuffix l.data.toList [10]
def frontS (s : ByteArray) : ByteArray := if Lib.indexByte s.data.toList 10 < 0 then s else s.extract 0 ((Lib.indexByte s.data.toList 10).toNat + 1)
def restS (s : ByteArray) : ByteArray := if Lib.indexByte s.data.toList 10 < 0 then ⟨#[]⟩ else s.extract ((Lib.indexByte s.data.toList 10).toNat + 1) s.size
def rawK : Nat → ByteArray → List ByteArray
  | 0, _ => []
  | k + 1, s => if s.size = 0 then [] else frontS s :: rawK k (restS s)
def rawS (s : ByteArray) : List ByteArray := rawK s.size s
theorem rest_lt {s : ByteArray} (h : s.size ≠ 0) : (restS s).size < s.size := by
  unfold restS
  split
  · show 0 < s.size
    omega
  · rw [ByteArray.size_extract]; omega
theorem rawK_more : ∀ (k m : Nat) (s : ByteArray), s.size ≤ k → s.size ≤ m → rawK k s = rawK m s
  | 0, 0, _, _, _ => rfl
  | 0, m + 1, s, h, _ => by simp only [rawK]; rw [if_pos (by omega)]
  | k + 1, 0, s, _, h => by simp only [rawK]; rw [if_pos (by omega)]
  | k + 1, m + 1, s, h1, h2 => by
    simp only [rawK]
    split
    · rfl
    · rename_i hz
      have := rest_lt hz
      rw [rawK_more k m (restS s) (by omega) (by omega)]
theorem rawS_nil {s : ByteArray} (h : s.size = 0) : rawS s = [] := by
  unfold rawS; rw [h]; rfl
theorem rawS_cons {s : ByteArray} (h : s.size ≠ 0) : rawS s = frontS s :: rawS (restS s) := by
  unfold rawS
  have h2 := rest_lt h
  rw [rawK_more s.size ((s.size - 1) + 1) s (Nat.le_refl _) (by omega)]
  simp only [rawK]
  rw [if_neg h, rawK_more (s.size - 1) (restS s).size _ (by omega) (Nat.le_refl _)]
def goL : List En → List ByteArray → List En ⊕ Nat
  | out, [] => .inl out
  | out, l :: r => match stepF out (cutS l) (cutB l) with
    | none => .inr (out.length + 1)
    | some o => goL o r
theorem idx_neg (c : UInt8) : ∀ s : List UInt8, Lib.indexByte s c < 0 → c ∉ s
  | [], _ => by simp
  | b :: s, h => by
    simp only [Lib.indexByte] at h
    by_cases hb : b = c
    · subst hb; simp at h
    · have hb2 : (b == c) = false := by simpa using hb
      have hge := Lib.indexByte_ge s c
      simp only [hb2, if_false, Bool.false_eq_true] at h
      by_cases hi : Lib.indexByte s c = -1
      · have := idx_neg c s (by omega)
        simp only [List.mem_cons, not_or]
        exact ⟨fun e => hb e.symm, this⟩
      · have hi2 : (Lib.indexByte s c == -1) = false := by simpa using hi
        simp only [hi2, if_false, Bool.false_eq_true] at h
        omega
theorem cut_no {s : ByteArray} (h : Lib.indexByte s.data.toList 10 < 0) : cutB s = false ∧ cutS s = s := by
  have hn := idx_neg 10 _ h
  have hf : Lib.hasSuffix s.data.toList [10] = false := by
    unfold Lib.hasSuffix
    rw [Bool.eq_false_iff]
    intro e
    have := List.isSuffixOf_iff_suffix.1 e
    exact hn (this.subset (by simp))
  refine ⟨hf, ?_⟩
  unfold cutS Lib.trimSuffix
  rw [hf]; rfl
theorem cut_yes {s : ByteArray} (h : ¬ Lib.indexByte s.data.toList 10 < 0) : cutB (frontS s) = true ∧ cutS (frontS s) = s.extract 0 (Lib.indexByte s.data.toList 10).toNat := by
  have hs := idx_split s.data.toList 10 (by omega)
  unfold frontS
  rw [if_neg h]
  generalize Lib.indexByte s.data.toList 10 = i at *
  have hle : i.toNat + 1 ≤ s.data.toList.length := by
    have := congrArg List.length hs
    rw [List.length_append, List.length_cons, List.length_take, List.length_drop] at this
    omega
  have hd : (s.extract 0 (i.toNat + 1)).data.toList = s.data.toList.take i.toNat ++ [10] := by
    rw [ext_data, List.drop_zero]
    have hl : (s.data.toList.take i.toNat).length = i.toNat := by rw [List.length_take]; omega
    generalize s.data.toList.take i.toNat = A at *
    generalize s.data.toList.drop (i.toNat + 1) = B at *
    rw [hs, show A ++ 10 :: B = (A ++ [10]) ++ B by simp, List.take_left' (by simp [hl])]
  have hf : Lib.hasSuffix (s.extract 0 (i.toNat + 1)).data.toList [10] = true := by
    unfold Lib.hasSuffix
    rw [hd]
    exact List.isSuffixOf_iff_suffix.2 (List.suffix_append _ _)
  refine ⟨hf, ?_⟩
  unfold cutS Lib.trimSuffix
  rw [hf, if_pos rfl, hd]
  apply ByteArray.ext
  apply Array.ext'
  rw [ext_data, List.drop_zero]
  simp
theorem goL_raw : ∀ (k : Nat) (out : List En) (s : ByteArray), goL out (rawK k s) = goF k out s
  | 0, _, _ => rfl
  | k + 1, out, s => by
    have e1 : rawK (k + 1) s = if s.size = 0 then [] else frontS s :: rawK k (restS s) := rfl
    have e2 : goF (k + 1) out s = if s.size = 0 then .inl out
      else if Lib.indexByte s.data.toList 10 < 0 then (match stepF out s false with | none => .inr (out.length + 1) | some o => .inl o)
      else match stepF out (s.extract 0 (Lib.indexByte s.data.toList 10).toNat) true with
        | none => .inr (out.length + 1)
        | some o => goF k o (s.extract ((Lib.indexByte s.data.toList 10).toNat + 1) s.size) := rfl
    rw [e1, e2]
    by_cases hz : s.size = 0
    · rw [if_pos hz, if_pos hz]; rfl
    · rw [if_neg hz, if_neg hz]
      have e3 : ∀ l r, goL out (l :: r) = match stepF out (cutS l) (cutB l) with
        | none => .inr (out.length + 1)
        | some o => goL o r := fun l r => rfl
      rw [e3]
      by_cases h : Lib.indexByte s.data.toList 10 < 0
      · have hc := cut_no h
        have hf : frontS s = s := by unfold frontS; rw [if_pos h]
        rw [if_pos h, hf, hc.1, hc.2, step_false]
      · have hc := cut_yes h
        have hr : restS s = s.extract ((Lib.indexByte s.data.toList 10).toNat + 1) s.size := by unfold restS; rw [if_neg h]
        rw [if_neg h, hc.1, hc.2]
        cases stepF out (s.extract 0 (Lib.indexByte s.data.toList 10).toNat) true with
        | none => rfl
        | some o => simp only; rw [goL_raw k o (restS s), hr]
theorem parse_raw (s : ByteArray) : goL [] (rawS s) = parseF s := goL_raw _ _ _
theorem front_size (s : ByteArray) : (frontS s).size ≤ s.size := by
  unfold frontS
  split
  · exact Nat.le_refl _
  · rw [ByteArray.size_extract]; omega
theorem cut_size (l : ByteArray) : (cutS l).size ≤ l.size := by
  unfold cutS Lib.trimSuffix
  rw [mk_size]
  split
  · rw [List.length_take, sz_data]; omega
  · rw [sz_data]; exact Nat.le_refl _
end Go.Proofs.YtbanfkpfijcmcaaGreatDoor
