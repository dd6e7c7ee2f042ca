/- The document's words and bytes. -/
import Derived.Test.YtbanfkpfijcmcaaGreatDoorGe
import Derived.Test.YtbanfkpfijcmcaaGreatDoorLn
namespace Go.Proofs.YtbanfkpfijcmcaaGreatDoor
open Go.RowKit
set_option linter.unusedSimpArgs false
set_option linter.unusedVariables false
set_option maxRecDepth 100000

def wdAt (s : ByteArray) (k : Nat) : List (List UInt8) × List UInt8 := (s.data.toList.take k).foldl stepWd ([], [])
theorem wdAt_zero (s : ByteArray) : wdAt s 0 = ([], []) := rfl
theorem wdAt_next {s : ByteArray} {k : Nat} (h : k < s.size) : wdAt s (k + 1) = stepWd (wdAt s k) s[k] := fold_next h _ _
theorem wdAt_end (s : ByteArray) : (wdAt s s.size).1 ++ [(wdAt s s.size).2] = wordsR s.data.toList := by
  unfold wdAt wordsR wdSt
  rw [show s.size = s.data.toList.length from (sz_data s).symm, List.take_length]
theorem wdAt_len (s : ByteArray) (k : Nat) : (wdAt s k).1.length ≤ k ∧ (wdAt s k).2.length ≤ k := by
  have : ∀ (l : List UInt8) (p : List (List UInt8) × List UInt8) (n : Nat), p.1.length ≤ n ∧ p.2.length ≤ n → (l.foldl stepWd p).1.length ≤ n + l.length ∧ (l.foldl stepWd p).2.length ≤ n + l.length := by
    intro l
    induction l with
    | nil => intro p n h; simpa using h
    | cons c l ih =>
      intro p n h
      rw [List.foldl_cons]
      have := ih (stepWd p c) (n + 1) (by unfold stepWd; split <;> simp <;> omega)
      simp only [List.length_cons]
      omega
  have h := this (s.data.toList.take k) ([], []) 0 (by simp)
  have h2 : (s.data.toList.take k).length ≤ k := by rw [List.length_take]; omega
  unfold wdAt
  omega
theorem sub_one {s : ByteArray} {k : Nat} (h : k < s.size) : s.extract k (k + 1) = ⟨#[s[k]]⟩ := by
  apply ByteArray.ext
  apply Array.ext'
  rw [ext_data, List.take_add_one, byte_at h]
  simp only [Option.toList_some]
  rw [List.drop_append_of_le_length (by rw [List.length_take, sz_data]; omega), List.drop_of_length_le (by rw [List.length_take]; omega)]
  rfl
theorem str_snoc (u : List UInt8) (c : UInt8) : ((⟨u.toArray⟩ : ByteArray) ++ ⟨#[c]⟩) = ⟨(u ++ [c]).toArray⟩ := by
  apply ByteArray.ext
  simp
theorem row_cells {w : World} {base : Nat} {v : Value} {n : Nat} {L : List (List UInt8)} (h : w.ownsRow base 9 1 v n (L.map strV)) (hn : L.length = n) (h0 : 0 < n) :
    ∃ b c, v = .slice (some ⟨b, 0, none⟩) n c ∧ n ≤ c ∧ c ≤ maxLen ∧ base ≤ b ∧ b < w.heap.size ∧ ∀ i, i < n → w.cell? ⟨b, i, none⟩ = some (strV (L.getD i [])) := by
  rcases h.2 with ⟨rfl, hz⟩ | ⟨g, cap, cur, rfl, hb, hh, hc, hm, hs, ht⟩
  · omega
  · refine ⟨g, cap, rfl, hc, hm, hb, lt_of_block hh, fun i hi => ?_⟩
    have hg : (L.map strV)[i]? = some (strV (L.getD i [])) := by
      rw [List.getElem?_map, List.getElem?_eq_getElem (by omega), List.getD_eq_getElem?_getD, List.getElem?_eq_getElem (by omega)]; rfl
    rw [← ht, List.getElem?_take_of_lt (by omega)] at hg
    rw [(cell_of hh _).1]
    simpa using hg

set_option maxHeartbeats 4000000 in
theorem words_any (s : ByteArray) (w : World) (hs : s.size ≤ 1000000) : Calls Tryz.prog 59 #[.string s] w fun e w' => ∃ b c, e = .returned (.slice (some ⟨b, 0, none⟩) (wordsR s.data.toList).length c) ∧ (wordsR s.data.toList).length ≤ c ∧ c ≤ maxLen ∧ w.heap.size ≤ b ∧ b < w'.heap.size ∧
    (∀ i, i < (wordsR s.data.toList).length → w'.cell? ⟨b, i, none⟩ = some (strV ((wordsR s.data.toList).getD i []))) ∧ Below w.heap.size w w' := by
  obtain ⟨i9, hi9, hz9, hs9, hy9⟩ := info_parts info9
  have I9 := Lib.hid hi9; have Z9 := Lib.hid hz9; have S9 := Lib.hid hs9; have Y9 := Lib.hid hy9
  clear hi9 hz9 hs9 hy9
  have HEND := Lib.hid (wdAt_end s)
  go_enter Tryz.func59, Tryz.ntmps59
  go_wp2_with fail
  go_loopw [3, 4, 5] (fun v u i wr => ∃ (k : Nat) (S : ByteArray), k ≤ s.size ∧ u = .string S ∧ i = .int .i64 k ∧ Hid (S = ⟨(wdAt s k).2.toArray⟩) ∧ Hid (wr.ownsRow w.heap.size 9 1 v (wdAt s k).1.length ((wdAt s k).1.map strV)) ∧ Hid (Below w.heap.size w wr)) (fun _ _ i _ => s.size - (intOf i).toNat)
  case atStart => exact ⟨0, ⟨#[]⟩, Nat.zero_le _, rfl, rfl, Lib.hid rfl, Lib.hid (World.ownsRow_nil _ _ _ _), Lib.hid (Below.refl _ _)⟩
  case round =>
    obtain ⟨k, S, hk, rfl, rfl, hS, hR, hB⟩ := hrel
    obtain ⟨hl1, hl2⟩ := wdAt_len s k
    have hss : S.size ≤ 1000000 := by have : S.size = (wdAt s k).2.length := (by rw [hS.out]; exact mk_size _); omega
    have hn1 : (wdAt s k).1.length ≤ 1000000 := by omega
    clear hl1 hl2
    by_cases hlt : k < s.size
    · have hlt' : (k : Int) < s.size := by omega
      have HN := Lib.hid (wdAt_next hlt)
      by_cases hc : s[k] = 32
      · have hc2 : ((s[k].toNat : Int) == 32) = true := by rw [hc]; rfl
        have hc3 : (s[k].toNat : Int) = 32 := by rw [hc]; rfl
        have HN2 : Hid (wdAt s (k + 1) = ((wdAt s k).1 ++ [(wdAt s k).2], [])) := Lib.hid (by rw [HN.out]; unfold stepWd; rw [if_pos hc])
        clear HN hc
        go_wp2_with (at_builtin; refine wpList_append_own _ rfl _ _ 75 rfl w.heap.size 9 i9 (.string ⟨#[]⟩) 1 16 Tryz.underlying75 I9.out Z9.out S9.out Y9.out rfl (by decide) _ _ _ rfl (hR.out.alloc _) ⟨wr.heap.size, 0, none⟩ 1 1 [.string S] rfl rfl (cell_one_new _ _ _) (by simp [Value.oneCell']) (by unfold maxLen; omega) (by omega) (by have := hB.out.size; simp; omega) ?_; intro v' w5 hown' hgrow _)
        have HO := Lib.hid hown'
        have HB2 : Hid (Below w.heap.size w w5) := Lib.hid ((hB.out.alloc hB.out.size _).grown hgrow (by have := hB.out.size; simp; omega) (fun b hb => (hR.out.lt b hb).1))
        clear hown' hgrow
        go_roundw
        case rel =>
          refine ⟨k + 1, ⟨#[]⟩, by omega, rfl, by go_num, Lib.hid (by rw [HN2.out]), Lib.hid ?_, HB2⟩
          rw [HN2.out]
          have := HO.out
          rw [hS.out] at this
          simpa [strV] using this
        case measure => simp [intOf]; omega
      · have hc2 : ((s[k].toNat : Int) == 32) = false := beq_eq_false_iff_ne.2 (fun e => hc (UInt8.toNat_inj.1 (by have e2 : (s[k].toNat : Int) = 32 := e; show s[k].toNat = 32; omega)))
        have hc3 : ¬ (s[k].toNat : Int) = 32 := by simpa using hc2
        have HN2 : Hid (wdAt s (k + 1) = ((wdAt s k).1, (wdAt s k).2 ++ [s[k]])) := Lib.hid (by rw [HN.out]; unfold stepWd; rw [if_neg hc])
        have HSB : Hid (S ++ s.extract k (k + 1) = ⟨((wdAt s k).2 ++ [s[k]]).toArray⟩) := Lib.hid (by rw [sub_one hlt, hS.out, str_snoc])
        have hx : (s.extract k (k + 1)).size = 1 := by rw [sub_one hlt]; rfl
        have ht1 : ((k : Int) + 1).toNat = k + 1 := by omega
        have hw1 : IntKind.i64.wrap ((k : Int) + 1) = (k : Int) + 1 := IntWalk.i64_in _ (by omega)
        have hk1 : (k : Int) + 1 ≤ s.size := by omega
        clear HN hc
        go_wp2_with fail
        go_roundw
        case rel => exact ⟨k + 1, _, by omega, rfl, by go_num, Lib.hid (by rw [HN2.out, HSB.out]), Lib.hid (by rw [HN2.out]; exact hR.out), hB⟩
        case measure => simp [intOf]; omega
    · have hlt' : ¬ (k : Int) < s.size := by omega
      obtain rfl : k = s.size := by omega
      go_wp2_with (at_builtin; refine wpList_append_own _ rfl _ _ 75 rfl w.heap.size 9 i9 (.string ⟨#[]⟩) 1 16 Tryz.underlying75 I9.out Z9.out S9.out Y9.out rfl (by decide) _ _ _ rfl (hR.out.alloc _) ⟨wr.heap.size, 0, none⟩ 1 1 [.string S] rfl rfl (cell_one_new _ _ _) (by simp [Value.oneCell']) (by unfold maxLen; omega) (by omega) (by have := hB.out.size; simp; omega) ?_; intro v' w5 hown' hgrow _)
      have HB2 : Hid (Below w.heap.size w w5) := Lib.hid ((hB.out.alloc hB.out.size _).grown hgrow (by have := hB.out.size; simp; omega) (fun b hb => (hR.out.lt b hb).1))
      have hlen : (wordsR s.data.toList).length = (wdAt s s.size).1.length + 1 := by rw [← HEND.out]; simp
      have HO : Hid (w5.ownsRow w.heap.size 9 1 v' (wordsR s.data.toList).length ((wordsR s.data.toList).map strV)) := Lib.hid (by
        rw [hlen, ← HEND.out]
        have := hown'
        rw [hS.out] at this
        simpa [strV] using this)
      obtain ⟨b, c, rfl, r1, r2, r3, r4, r5⟩ := row_cells HO.out rfl (by omega)
      have R := Lib.hid (And.intro r1 (And.intro r2 (And.intro r3 (And.intro r4 r5))))
      clear hown' hgrow r1 r2 r3 r4 r5 HO hlen
      go_wp2_with fail
      go_ret
      exact ⟨b, c, rfl, R.out.1, R.out.2.1, R.out.2.2.1, R.out.2.2.2.1, R.out.2.2.2.2, HB2.out⟩
end Go.Proofs.YtbanfkpfijcmcaaGreatDoor
