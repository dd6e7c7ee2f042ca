/- The reference's Parse, walked. -/
import Derived.Test.YtljfnfaljadjdaaDoorTf
namespace Go.Proofs.YtljfnfaljadjdaaDoor
open Go.RowKit
set_option linter.unusedSimpArgs false
set_option linter.unusedVariables false
set_option maxRecDepth 100000

/-- The scanner's state ahead of round k. -/
def stI (s : ByteArray) (k : Nat) : Sc := if k ≤ s.size then (s.data.toList.take k).foldl byS scan0 else scan s.data.toList
theorem stI_zero (s : ByteArray) : stI s 0 = scan0 := by unfold stI; rw [if_pos (Nat.zero_le _)]; rfl
theorem stI_step (s : ByteArray) (k : Nat) (hk : k < s.size) : stI s (k + 1) = byS (stI s k) (s.data.toList.getD k 0) := by
  unfold stI
  rw [if_pos (by omega), if_pos (by omega), fold_step s k hk]
theorem stI_end (s : ByteArray) : stI s (s.size + 1) = endS (stI s s.size) := by
  unfold stI
  rw [if_neg (by omega), if_pos (Nat.le_refl _), ← list_size s, List.take_length]
  rfl
theorem stI_scan (s : ByteArray) : stI s (s.size + 1) = scan s.data.toList := by
  unfold stI; rw [if_neg (by omega)]
theorem stI_ok (s : ByteArray) (k : Nat) (hk : k ≤ s.size + 1) : ScOk (stI s k) k := by
  by_cases h : k ≤ s.size
  · unfold stI; rw [if_pos h]; exact fold_ok _ k
  · obtain rfl : k = s.size + 1 := by omega
    rw [stI_end]
    refine endS_ok ?_
    unfold stI; rw [if_pos (Nat.le_refl _)]; exact fold_ok _ _
theorem ints_nil {k : IntKind} {w : World} : Ints k w none [] := fun h => by simp at h
theorem rng_self (f : Nat) : rng f f = [] := by simp [rng]
theorem rng_snoc (f m : Nat) (h : f ≤ m) : rng f (m + 1) = rng f m ++ [(m : Int)] := by
  unfold rng
  rw [show m + 1 - f = (m - f) + 1 by omega, List.range'_1_concat]
  simp
  omega
theorem rng_none (f m : Nat) (h : m ≤ f) : rng f m = [] := by
  unfold rng; rw [show m - f = 0 by omega]; rfl
theorem dig_go (n : Nat) (c : UInt8) (h1 : 48 ≤ c.toNat) : (stepN n c : Int) = if (10 * (n : Int) + ((c.toNat : Int) - 48)) ≥ 64 then 64 else 10 * (n : Int) + ((c.toNat : Int) - 48) := by
  unfold stepN
  split <;> omega

set_option maxHeartbeats 4000000 in
theorem rparse_any (s : ByteArray) (w : World) (hs : s.size ≤ 1000) :
    Calls Tryd.prog 24 #[.string s] w fun e w' => ∃ l f, refF s l f ∧ RetO l f w e w' := by
  have T0 : Build w w w.heap.size (.slice none 0 0) [] := ⟨World.ownsRow_nil _ _ _ _, Nat.le_refl _, Below.refl _ _⟩
  obtain ⟨i3, hi3, hz3, hs3, hy3⟩ := info_parts info3
  have I3 := Lib.hid hi3; have Z3 := Lib.hid hz3; have S3 := Lib.hid hs3; have Y3 := Lib.hid hy3
  clear hi3 hz3 hs3 hy3
  have hs2 : ¬ (1000 : Int) < s.size := by omega
  go_enter Tryd.func24, Tryd.ntmps24
  go_wp2_with fail
  go_loopw [4, 5, 6, 7] (fun v n fr i wr => ∃ k : Nat, k ≤ s.size + 1 ∧ i = .int .i64 k ∧ n = .int .i64 ((stI s k).n : Int) ∧ fr = .int .i64 (stI s k).f ∧ Build w wr w.heap.size v (stI s k).l) (fun _ _ _ i _ => s.size + 1 - (intOf i).toNat)
  case atStart => exact ⟨0, Nat.zero_le _, rfl, rfl, rfl, T0⟩
  case round =>
    obtain ⟨k, hk, rfl, rfl, rfl, T⟩ := hrel
    obtain ⟨on, ⟨of0, of1⟩, ol, oa⟩ := stI_ok s k hk
    by_cases hlt : k < s.size
    · have HST := Lib.hid (stI_step s k hlt)
      have hg : s.data.toList.getD k 0 = s[k] := by rw [List.getD, List.getElem?_eq_getElem (by rw [list_size]; exact hlt)]; rfl
      rw [hg] at HST
      clear hg
      generalize hst : stI s k = st at *
      clear hst
      obtain ⟨n, f, l⟩ := st
      simp only at on of0 of1 ol oa T
      generalize hc : s[k] = c at HST
      have hc8 : c.toNat < 256 := c.toNat_lt
      by_cases hd : 48 ≤ c.toNat ∧ c.toNat ≤ 57
      · have HN := Lib.hid (HST.out.trans (show byS ⟨n, f, l⟩ c = ⟨stepN n c, f, l⟩ by unfold byS; rw [if_pos hd]))
        have hdg := dig_go n c hd.1
        obtain ⟨d0, d1⟩ := hd
        by_cases h64 : 10 * (n : Int) + ((c.toNat : Int) - 48) ≥ 64
        · rw [if_pos h64] at hdg
          have HDG := Lib.hid hdg; clear hdg
          go_wp2_with fail
          refine ⟨⟨k + 1, by omega, by go_num, by rw [HN.out]; simp only [HDG.out], by rw [HN.out], by rw [HN.out]; exact T⟩, by simp [intOf]; omega⟩
        · rw [if_neg h64] at hdg
          have HDG := Lib.hid hdg; clear hdg
          go_wp2_with fail
          refine ⟨⟨k + 1, by omega, by go_num, by rw [HN.out]; simp only [HDG.out], by rw [HN.out], by rw [HN.out]; exact T⟩, by simp [intOf]; omega⟩
      · by_cases h45 : c.toNat = 45
        · have HN := Lib.hid (HST.out.trans (show byS ⟨n, f, l⟩ c = ⟨0, n, l⟩ by unfold byS; rw [if_neg hd, if_pos h45]))
          clear hd
          go_wp2_with fail
          refine ⟨⟨k + 1, by omega, by go_num, by rw [HN.out]; rfl, by rw [HN.out], by rw [HN.out]; exact T⟩, by simp [intOf]; omega⟩
        · have HN := Lib.hid (HST.out.trans (show byS ⟨n, f, l⟩ c = endS ⟨n, f, l⟩ by unfold byS; rw [if_neg hd, if_neg h45]))
          have h45d : ((c.toNat : Int) == 45) = false := beq_eq_false_iff_ne.2 (by omega)
          by_cases hlow : c.toNat < 48
          · clear hd
            by_cases hf : f < 0
            · have HG : Hid ((if f < 0 then n else f.toNat) = n) := Lib.hid (if_pos hf)
              have hfd : decide (f < 0) = true := decide_eq_true hf
              go_wp2_with fail
              go_loopw [4, 8] (fun v j wr => ∃ m : Nat, n ≤ m ∧ (m ≤ n ∨ m ≤ n + 1 ∧ m ≤ 64) ∧ j = .int .i64 m ∧ Build w wr w.heap.size v (l ++ rng n m)) (fun _ j _ => 65 - (intOf j).toNat)
              case atStart => exact ⟨n, Nat.le_refl _, .inl (Nat.le_refl _), rfl, by rw [rng_self, List.append_nil]; exact T⟩
              case round =>
                obtain ⟨m, m0, m1, rfl, T1⟩ := hrel
                by_cases hgo : m ≤ n ∧ m < 64
                · obtain ⟨g1, g2⟩ := hgo
                  have hlen : (l ++ rng n m).length ≤ 64 * k + 64 := by rw [List.length_append, rng_len]; omega
                  have HR := Lib.hid (rng_snoc n m m0)
                  generalize hL : l ++ rng n m = l1 at T1 hlen
                  have HL := Lib.hid hL; clear hL
                  go_wp2_with (at_builtin; refine wpList_append_own _ rfl (.tmp 70) (.tmp 72) 31 rfl w.heap.size 3 i3 (.int .i64 0) 1 8 Tryd.underlying31 I3.out Z3.out S3.out Y3.out rfl (by decide) _ _ _ rfl (T1.row.alloc _) ⟨_, 0, none⟩ 1 1 [.int .i64 m] rfl rfl (cell_one_new _ _ _) (by simp [Value.oneCell']) (by unfold maxLen; omega) (by omega) (by have := T1.sz; simp; omega) ?_; intro v' w2 hown hgrow _; have T2 := T1.put hown hgrow; clear hown hgrow)
                  go_roundw
                  case rel => exact ⟨m + 1, by omega, .inr (by omega), by go_num, by rw [HR.out, ← List.append_assoc, HL.out]; exact T2⟩
                  case measure => simp [intOf]; omega
                · have HM : Hid (rng n (min (n + 1) 64) = rng n m) := Lib.hid (by
                    rcases m1 with m1 | m1
                    · rw [rng_none n m m1, rng_none n _ (by omega)]
                    · rw [show min (n + 1) 64 = m by omega])
                  have T4 : Hid (∀ v W, Build w W w.heap.size v (l ++ rng n m) → Build w W w.heap.size v (stI s (k + 1)).l) := Lib.hid (fun v W h => by rw [HN.out]; show Build w W w.heap.size v (l ++ rng _ (min (n + 1) 64)); rw [HG.out, HM.out]; exact h)
                  by_cases hmn : m ≤ n
                  · have hm64 : ¬ m < 64 := fun h => hgo ⟨hmn, h⟩
                    clear hgo
                    go_wp2_with fail
                    exact ⟨⟨(k + 1), by omega, by go_num, by rw [HN.out]; rfl, by rw [HN.out]; rfl, T4.out _ _ T1⟩, by simp [intOf]; try omega⟩
                  · clear hgo
                    go_wp2_with fail
                    exact ⟨⟨(k + 1), by omega, by go_num, by rw [HN.out]; rfl, by rw [HN.out]; rfl, T4.out _ _ T1⟩, by simp [intOf]; try omega⟩
            · obtain ⟨g, rfl⟩ : ∃ g : Nat, f = g := ⟨f.toNat, by omega⟩
              have HG : Hid ((if (g : Int) < 0 then n else (g : Int).toNat) = g) := Lib.hid (by rw [if_neg hf]; omega)
              have hfd : decide ((g : Int) < 0) = false := decide_eq_false hf
              go_wp2_with fail
              go_loopw [4, 8] (fun v j wr => ∃ m : Nat, g ≤ m ∧ (m ≤ g ∨ m ≤ n + 1 ∧ m ≤ 64) ∧ j = .int .i64 m ∧ Build w wr w.heap.size v (l ++ rng g m)) (fun _ j _ => 65 - (intOf j).toNat)
              case atStart => exact ⟨g, Nat.le_refl _, .inl (Nat.le_refl _), rfl, by rw [rng_self, List.append_nil]; exact T⟩
              case round =>
                obtain ⟨m, m0, m1, rfl, T1⟩ := hrel
                by_cases hgo : m ≤ n ∧ m < 64
                · obtain ⟨g1, g2⟩ := hgo
                  have hlen : (l ++ rng g m).length ≤ 64 * k + 64 := by rw [List.length_append, rng_len]; omega
                  have HR := Lib.hid (rng_snoc g m m0)
                  generalize hL : l ++ rng g m = l1 at T1 hlen
                  have HL := Lib.hid hL; clear hL
                  go_wp2_with (at_builtin; refine wpList_append_own _ rfl (.tmp 70) (.tmp 72) 31 rfl w.heap.size 3 i3 (.int .i64 0) 1 8 Tryd.underlying31 I3.out Z3.out S3.out Y3.out rfl (by decide) _ _ _ rfl (T1.row.alloc _) ⟨_, 0, none⟩ 1 1 [.int .i64 m] rfl rfl (cell_one_new _ _ _) (by simp [Value.oneCell']) (by unfold maxLen; omega) (by omega) (by have := T1.sz; simp; omega) ?_; intro v' w2 hown hgrow _; have T2 := T1.put hown hgrow; clear hown hgrow)
                  go_roundw
                  case rel => exact ⟨m + 1, by omega, .inr (by omega), by go_num, by rw [HR.out, ← List.append_assoc, HL.out]; exact T2⟩
                  case measure => simp [intOf]; omega
                · have HM : Hid (rng g (min (n + 1) 64) = rng g m) := Lib.hid (by
                    rcases m1 with m1 | m1
                    · rw [rng_none g m m1, rng_none g _ (by omega)]
                    · rw [show min (n + 1) 64 = m by omega])
                  have T4 : Hid (∀ v W, Build w W w.heap.size v (l ++ rng g m) → Build w W w.heap.size v (stI s (k + 1)).l) := Lib.hid (fun v W h => by rw [HN.out]; show Build w W w.heap.size v (l ++ rng _ (min (n + 1) 64)); rw [HG.out, HM.out]; exact h)
                  by_cases hmn : m ≤ n
                  · have hm64 : ¬ m < 64 := fun h => hgo ⟨hmn, h⟩
                    clear hgo
                    go_wp2_with fail
                    exact ⟨⟨(k + 1), by omega, by go_num, by rw [HN.out]; rfl, by rw [HN.out]; rfl, T4.out _ _ T1⟩, by simp [intOf]; try omega⟩
                  · clear hgo
                    go_wp2_with fail
                    exact ⟨⟨(k + 1), by omega, by go_num, by rw [HN.out]; rfl, by rw [HN.out]; rfl, T4.out _ _ T1⟩, by simp [intOf]; try omega⟩
          · have hhi : 57 < c.toNat := by omega
            have h57 : decide ((c.toNat : Int) ≤ 57) = false := decide_eq_false (by omega)
            clear hd
            by_cases hf : f < 0
            · have HG : Hid ((if f < 0 then n else f.toNat) = n) := Lib.hid (if_pos hf)
              have hfd : decide (f < 0) = true := decide_eq_true hf
              go_wp2_with fail
              go_loopw [4, 8] (fun v j wr => ∃ m : Nat, n ≤ m ∧ (m ≤ n ∨ m ≤ n + 1 ∧ m ≤ 64) ∧ j = .int .i64 m ∧ Build w wr w.heap.size v (l ++ rng n m)) (fun _ j _ => 65 - (intOf j).toNat)
              case atStart => exact ⟨n, Nat.le_refl _, .inl (Nat.le_refl _), rfl, by rw [rng_self, List.append_nil]; exact T⟩
              case round =>
                obtain ⟨m, m0, m1, rfl, T1⟩ := hrel
                by_cases hgo : m ≤ n ∧ m < 64
                · obtain ⟨g1, g2⟩ := hgo
                  have hlen : (l ++ rng n m).length ≤ 64 * k + 64 := by rw [List.length_append, rng_len]; omega
                  have HR := Lib.hid (rng_snoc n m m0)
                  generalize hL : l ++ rng n m = l1 at T1 hlen
                  have HL := Lib.hid hL; clear hL
                  go_wp2_with (at_builtin; refine wpList_append_own _ rfl (.tmp 70) (.tmp 72) 31 rfl w.heap.size 3 i3 (.int .i64 0) 1 8 Tryd.underlying31 I3.out Z3.out S3.out Y3.out rfl (by decide) _ _ _ rfl (T1.row.alloc _) ⟨_, 0, none⟩ 1 1 [.int .i64 m] rfl rfl (cell_one_new _ _ _) (by simp [Value.oneCell']) (by unfold maxLen; omega) (by omega) (by have := T1.sz; simp; omega) ?_; intro v' w2 hown hgrow _; have T2 := T1.put hown hgrow; clear hown hgrow)
                  go_roundw
                  case rel => exact ⟨m + 1, by omega, .inr (by omega), by go_num, by rw [HR.out, ← List.append_assoc, HL.out]; exact T2⟩
                  case measure => simp [intOf]; omega
                · have HM : Hid (rng n (min (n + 1) 64) = rng n m) := Lib.hid (by
                    rcases m1 with m1 | m1
                    · rw [rng_none n m m1, rng_none n _ (by omega)]
                    · rw [show min (n + 1) 64 = m by omega])
                  have T4 : Hid (∀ v W, Build w W w.heap.size v (l ++ rng n m) → Build w W w.heap.size v (stI s (k + 1)).l) := Lib.hid (fun v W h => by rw [HN.out]; show Build w W w.heap.size v (l ++ rng _ (min (n + 1) 64)); rw [HG.out, HM.out]; exact h)
                  by_cases hmn : m ≤ n
                  · have hm64 : ¬ m < 64 := fun h => hgo ⟨hmn, h⟩
                    clear hgo
                    go_wp2_with fail
                    exact ⟨⟨(k + 1), by omega, by go_num, by rw [HN.out]; rfl, by rw [HN.out]; rfl, T4.out _ _ T1⟩, by simp [intOf]; try omega⟩
                  · clear hgo
                    go_wp2_with fail
                    exact ⟨⟨(k + 1), by omega, by go_num, by rw [HN.out]; rfl, by rw [HN.out]; rfl, T4.out _ _ T1⟩, by simp [intOf]; try omega⟩
            · obtain ⟨g, rfl⟩ : ∃ g : Nat, f = g := ⟨f.toNat, by omega⟩
              have HG : Hid ((if (g : Int) < 0 then n else (g : Int).toNat) = g) := Lib.hid (by rw [if_neg hf]; omega)
              have hfd : decide ((g : Int) < 0) = false := decide_eq_false hf
              go_wp2_with fail
              go_loopw [4, 8] (fun v j wr => ∃ m : Nat, g ≤ m ∧ (m ≤ g ∨ m ≤ n + 1 ∧ m ≤ 64) ∧ j = .int .i64 m ∧ Build w wr w.heap.size v (l ++ rng g m)) (fun _ j _ => 65 - (intOf j).toNat)
              case atStart => exact ⟨g, Nat.le_refl _, .inl (Nat.le_refl _), rfl, by rw [rng_self, List.append_nil]; exact T⟩
              case round =>
                obtain ⟨m, m0, m1, rfl, T1⟩ := hrel
                by_cases hgo : m ≤ n ∧ m < 64
                · obtain ⟨g1, g2⟩ := hgo
                  have hlen : (l ++ rng g m).length ≤ 64 * k + 64 := by rw [List.length_append, rng_len]; omega
                  have HR := Lib.hid (rng_snoc g m m0)
                  generalize hL : l ++ rng g m = l1 at T1 hlen
                  have HL := Lib.hid hL; clear hL
                  go_wp2_with (at_builtin; refine wpList_append_own _ rfl (.tmp 70) (.tmp 72) 31 rfl w.heap.size 3 i3 (.int .i64 0) 1 8 Tryd.underlying31 I3.out Z3.out S3.out Y3.out rfl (by decide) _ _ _ rfl (T1.row.alloc _) ⟨_, 0, none⟩ 1 1 [.int .i64 m] rfl rfl (cell_one_new _ _ _) (by simp [Value.oneCell']) (by unfold maxLen; omega) (by omega) (by have := T1.sz; simp; omega) ?_; intro v' w2 hown hgrow _; have T2 := T1.put hown hgrow; clear hown hgrow)
                  go_roundw
                  case rel => exact ⟨m + 1, by omega, .inr (by omega), by go_num, by rw [HR.out, ← List.append_assoc, HL.out]; exact T2⟩
                  case measure => simp [intOf]; omega
                · have HM : Hid (rng g (min (n + 1) 64) = rng g m) := Lib.hid (by
                    rcases m1 with m1 | m1
                    · rw [rng_none g m m1, rng_none g _ (by omega)]
                    · rw [show min (n + 1) 64 = m by omega])
                  have T4 : Hid (∀ v W, Build w W w.heap.size v (l ++ rng g m) → Build w W w.heap.size v (stI s (k + 1)).l) := Lib.hid (fun v W h => by rw [HN.out]; show Build w W w.heap.size v (l ++ rng _ (min (n + 1) 64)); rw [HG.out, HM.out]; exact h)
                  by_cases hmn : m ≤ n
                  · have hm64 : ¬ m < 64 := fun h => hgo ⟨hmn, h⟩
                    clear hgo
                    go_wp2_with fail
                    exact ⟨⟨(k + 1), by omega, by go_num, by rw [HN.out]; rfl, by rw [HN.out]; rfl, T4.out _ _ T1⟩, by simp [intOf]; try omega⟩
                  · clear hgo
                    go_wp2_with fail
                    exact ⟨⟨(k + 1), by omega, by go_num, by rw [HN.out]; rfl, by rw [HN.out]; rfl, T4.out _ _ T1⟩, by simp [intOf]; try omega⟩
    · by_cases hke : k = s.size
      · subst hke
        have HN := Lib.hid (stI_end s)
        generalize hst : stI s s.size = st at *
        clear hst
        obtain ⟨n, f, l⟩ := st
        simp only at on of0 of1 ol oa T
        by_cases hf : f < 0
        · have HG : Hid ((if f < 0 then n else f.toNat) = n) := Lib.hid (if_pos hf)
          have hfd : decide (f < 0) = true := decide_eq_true hf
          go_wp2_with fail
          go_loopw [4, 8] (fun v j wr => ∃ m : Nat, n ≤ m ∧ (m ≤ n ∨ m ≤ n + 1 ∧ m ≤ 64) ∧ j = .int .i64 m ∧ Build w wr w.heap.size v (l ++ rng n m)) (fun _ j _ => 65 - (intOf j).toNat)
          case atStart => exact ⟨n, Nat.le_refl _, .inl (Nat.le_refl _), rfl, by rw [rng_self, List.append_nil]; exact T⟩
          case round =>
            obtain ⟨m, m0, m1, rfl, T1⟩ := hrel
            by_cases hgo : m ≤ n ∧ m < 64
            · obtain ⟨g1, g2⟩ := hgo
              have hlen : (l ++ rng n m).length ≤ 64 * s.size + 64 := by rw [List.length_append, rng_len]; omega
              have HR := Lib.hid (rng_snoc n m m0)
              generalize hL : l ++ rng n m = l1 at T1 hlen
              have HL := Lib.hid hL; clear hL
              go_wp2_with (at_builtin; refine wpList_append_own _ rfl (.tmp 70) (.tmp 72) 31 rfl w.heap.size 3 i3 (.int .i64 0) 1 8 Tryd.underlying31 I3.out Z3.out S3.out Y3.out rfl (by decide) _ _ _ rfl (T1.row.alloc _) ⟨_, 0, none⟩ 1 1 [.int .i64 m] rfl rfl (cell_one_new _ _ _) (by simp [Value.oneCell']) (by unfold maxLen; omega) (by omega) (by have := T1.sz; simp; omega) ?_; intro v' w2 hown hgrow _; have T2 := T1.put hown hgrow; clear hown hgrow)
              go_roundw
              case rel => exact ⟨m + 1, by omega, .inr (by omega), by go_num, by rw [HR.out, ← List.append_assoc, HL.out]; exact T2⟩
              case measure => simp [intOf]; omega
            · have HM : Hid (rng n (min (n + 1) 64) = rng n m) := Lib.hid (by
                rcases m1 with m1 | m1
                · rw [rng_none n m m1, rng_none n _ (by omega)]
                · rw [show min (n + 1) 64 = m by omega])
              have T4 : Hid (∀ v W, Build w W w.heap.size v (l ++ rng n m) → Build w W w.heap.size v (stI s (s.size + 1)).l) := Lib.hid (fun v W h => by rw [HN.out]; show Build w W w.heap.size v (l ++ rng _ (min (n + 1) 64)); rw [HG.out, HM.out]; exact h)
              by_cases hmn : m ≤ n
              · have hm64 : ¬ m < 64 := fun h => hgo ⟨hmn, h⟩
                clear hgo
                go_wp2_with fail
                exact ⟨⟨(s.size + 1), by omega, by go_num, by rw [HN.out]; rfl, by rw [HN.out]; rfl, T4.out _ _ T1⟩, by simp [intOf]; try omega⟩
              · clear hgo
                go_wp2_with fail
                exact ⟨⟨(s.size + 1), by omega, by go_num, by rw [HN.out]; rfl, by rw [HN.out]; rfl, T4.out _ _ T1⟩, by simp [intOf]; try omega⟩
        · obtain ⟨g, rfl⟩ : ∃ g : Nat, f = g := ⟨f.toNat, by omega⟩
          have HG : Hid ((if (g : Int) < 0 then n else (g : Int).toNat) = g) := Lib.hid (by rw [if_neg hf]; omega)
          have hfd : decide ((g : Int) < 0) = false := decide_eq_false hf
          go_wp2_with fail
          go_loopw [4, 8] (fun v j wr => ∃ m : Nat, g ≤ m ∧ (m ≤ g ∨ m ≤ n + 1 ∧ m ≤ 64) ∧ j = .int .i64 m ∧ Build w wr w.heap.size v (l ++ rng g m)) (fun _ j _ => 65 - (intOf j).toNat)
          case atStart => exact ⟨g, Nat.le_refl _, .inl (Nat.le_refl _), rfl, by rw [rng_self, List.append_nil]; exact T⟩
          case round =>
            obtain ⟨m, m0, m1, rfl, T1⟩ := hrel
            by_cases hgo : m ≤ n ∧ m < 64
            · obtain ⟨g1, g2⟩ := hgo
              have hlen : (l ++ rng g m).length ≤ 64 * s.size + 64 := by rw [List.length_append, rng_len]; omega
              have HR := Lib.hid (rng_snoc g m m0)
              generalize hL : l ++ rng g m = l1 at T1 hlen
              have HL := Lib.hid hL; clear hL
              go_wp2_with (at_builtin; refine wpList_append_own _ rfl (.tmp 70) (.tmp 72) 31 rfl w.heap.size 3 i3 (.int .i64 0) 1 8 Tryd.underlying31 I3.out Z3.out S3.out Y3.out rfl (by decide) _ _ _ rfl (T1.row.alloc _) ⟨_, 0, none⟩ 1 1 [.int .i64 m] rfl rfl (cell_one_new _ _ _) (by simp [Value.oneCell']) (by unfold maxLen; omega) (by omega) (by have := T1.sz; simp; omega) ?_; intro v' w2 hown hgrow _; have T2 := T1.put hown hgrow; clear hown hgrow)
              go_roundw
              case rel => exact ⟨m + 1, by omega, .inr (by omega), by go_num, by rw [HR.out, ← List.append_assoc, HL.out]; exact T2⟩
              case measure => simp [intOf]; omega
            · have HM : Hid (rng g (min (n + 1) 64) = rng g m) := Lib.hid (by
                rcases m1 with m1 | m1
                · rw [rng_none g m m1, rng_none g _ (by omega)]
                · rw [show min (n + 1) 64 = m by omega])
              have T4 : Hid (∀ v W, Build w W w.heap.size v (l ++ rng g m) → Build w W w.heap.size v (stI s (s.size + 1)).l) := Lib.hid (fun v W h => by rw [HN.out]; show Build w W w.heap.size v (l ++ rng _ (min (n + 1) 64)); rw [HG.out, HM.out]; exact h)
              by_cases hmn : m ≤ n
              · have hm64 : ¬ m < 64 := fun h => hgo ⟨hmn, h⟩
                clear hgo
                go_wp2_with fail
                exact ⟨⟨(s.size + 1), by omega, by go_num, by rw [HN.out]; rfl, by rw [HN.out]; rfl, T4.out _ _ T1⟩, by simp [intOf]; try omega⟩
              · clear hgo
                go_wp2_with fail
                exact ⟨⟨(s.size + 1), by omega, by go_num, by rw [HN.out]; rfl, by rw [HN.out]; rfl, T4.out _ _ T1⟩, by simp [intOf]; try omega⟩
      · obtain rfl : k = s.size + 1 := by omega
        have HW := Lib.hid (T.ret (Nat.le_refl _))
        rw [stI_scan] at ol oa HW
        clear T of0 of1 on
        obtain ⟨A, cc, hv, hcc, hz, hbel⟩ := HW.out
        clear HW
        injection hv with hv
        subst hv
        obtain ⟨c, d, hc, hd, hL⟩ := set_of (scan s.data.toList).l
        have HREF := Lib.hid (show ∀ l f, (s.data.toList = [110, 111, 110, 101] → l = [] ∧ f = 0) → (s.data.toList ≠ [110, 111, 110, 101] → (textL c d = s.data.toList ∧ l = L c d ∧ f = 0 ∨ textL c d ≠ s.data.toList ∧ l = [] ∧ f = 11)) → refF s l f from fun l f h1 h2 => by
          unfold refF
          by_cases h : s.data.toList = [110, 111, 110, 101]
          · rw [if_pos h]; exact h1 h
          · rw [if_neg h]; exact ⟨c, d, hc, hd, hL, h2 h⟩)
        have HOF := Lib.hid (of_big A cc (scan s.data.toList).l _ hz (by omega) hcc oa)
        rw [← hL] at HOF
        generalize (scan s.data.toList).l = l at HOF hL hcc hz ol oa ⊢
        have HB := Lib.hid hbel
        clear hL oa hz hbel
        go_wp2_with fail
        refine HOF.out.mono ?_
        rintro e w1 ⟨A2, c2, rfl, hc2, hz2, b1⟩
        have B1 := Lib.hid (HB.out.trans (b1.mono HB.out.size))
        have HT := Lib.hid (fun W hb => rtext_any c d A2 c2 W hc hd (Ints.below hz2 hb) hc2)
        have HZ2 := Lib.hid (fun W hb => Ints.below (w' := W) hz2 hb)
        clear hz2 b1
        by_cases hn : s.data.toList = [110, 111, 110, 101]
        · have eq2 : s.toList = [110, 111, 110, 101] := by rw [ByteArray.toList_eq, hn]
          have eq1 : (s.toList == [110, 111, 110, 101]) = true := by rw [eq2]; rfl
          have HR := Lib.hid (HREF.out [] 0 (fun _ => ⟨rfl, rfl⟩) (fun h => absurd hn h))
          clear hn
          go_wp2_with fail
          go_ret2
          exact ⟨[], 0, HR.out, none, 0, rfl, Nat.le_refl _, ints_nil, B1.out⟩
        · have eq2 : ¬ s.toList = [110, 111, 110, 101] := by rw [ByteArray.toList_eq]; exact hn
          have eq1 : (s.toList == [110, 111, 110, 101]) = false := by simpa using eq2
          by_cases ht : textL c d = s.data.toList
          · have HR := Lib.hid (HREF.out (L c d) 0 (fun h => absurd h hn) (fun _ => .inl ⟨ht, rfl, rfl⟩))
            have hbs : (⟨(textL c d).toArray⟩ : ByteArray) = s := bytes_eq.2 ht.symm
            rw [hbs] at HT
            clear hn ht hbs
            go_wp2_with fail
            refine (HT.out _ (Below.refl _ _)).mono ?_
            rintro e w2 ⟨rfl, b2⟩
            have B2 := Lib.hid (B1.out.trans (b2.mono B1.out.size))
            have HZ3 := Lib.hid (HZ2.out _ b2)
            clear b2
            go_wp2_with fail
            go_ret2
            exact ⟨L c d, 0, HR.out, A2, c2, rfl, hc2, HZ3.out, B2.out⟩
          · have HR := Lib.hid (HREF.out [] 11 (fun h => absurd h hn) (fun _ => .inr ⟨ht, rfl, rfl⟩))
            generalize hs' : (⟨(textL c d).toArray⟩ : ByteArray) = s' at HT
            have eq3 : (s'.toList == s.toList) = false := Bool.eq_false_iff.2 fun h => ht (by have := (Lib.bytes_beq_iff _ _).1 h; rw [← hs'] at this; exact (bytes_eq.1 this).symm)
            clear hn ht hs'
            go_wp2_with fail
            refine (HT.out _ (Below.refl _ _)).mono ?_
            rintro e w2 ⟨rfl, b2⟩
            have B2 := Lib.hid (B1.out.trans (b2.mono B1.out.size))
            clear b2
            go_wp2_with fail
            go_ret2
            exact ⟨[], 11, HR.out, none, 0, rfl, Nat.le_refl _, ints_nil, B2.out⟩
end Go.Proofs.YtljfnfaljadjdaaDoor
