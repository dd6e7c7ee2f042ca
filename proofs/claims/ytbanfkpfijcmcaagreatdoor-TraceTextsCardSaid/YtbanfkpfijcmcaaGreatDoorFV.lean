/- The document's all and find; Text, Parse and their like. -/
import Derived.Test.YtbanfkpfijcmcaaGreatDoorFX
namespace Go.Proofs.YtbanfkpfijcmcaaGreatDoor.Fl
open Go.RowKit
set_option linter.unusedSimpArgs false
set_option linter.unusedVariables false
set_option maxRecDepth 100000

theorem rfeat_at (k : Nat) (h : k < 6) (w : World) : Calls Tryz.prog 89 #[.int .i64 (2 ^ k)] w fun e w' => e = .returned (.string (wl.getD (6 + k) ByteArray.empty)) ∧ w = w' := by
  rcases (show k = 0 ∨ k = 1 ∨ k = 2 ∨ k = 3 ∨ k = 4 ∨ k = 5 by omega) with rfl | rfl | rfl | rfl | rfl | rfl
  all_goals
    go_enter Tryz.func89, Tryz.ntmps89
    go_wp2
    go_ret
    exact ⟨rfl, rfl⟩
theorem rword_at (k : Nat) (h : k < 6) (w : World) : Calls Tryz.prog 90 #[.int .i64 (2 ^ k)] w fun e w' => e = .returned (.string (wl.getD k ByteArray.empty)) ∧ w = w' := by
  rcases (show k = 0 ∨ k = 1 ∨ k = 2 ∨ k = 3 ∨ k = 4 ∨ k = 5 by omega) with rfl | rfl | rfl | rfl | rfl | rfl
  all_goals
    go_enter Tryz.func90, Tryz.ntmps90
    go_wp2
    go_ret
    exact ⟨rfl, rfl⟩

/-- The words of the bits below k. -/
def acc (T m k : Nat) : List UInt8 := Lib.join ((wds T (wb m k)).map (·.data.toList)) [43]
theorem acc_yes : ∀ T : Fin 2, ∀ m : Fin 64, ∀ k : Fin 6, (T.val = 0 ∨ k.val < 4) → m.val.testBit k.val = true → acc T.val m.val (k.val + 1) = (if acc T.val m.val k.val = [] then [] else acc T.val m.val k.val ++ [43]) ++ (wl.getD (T.val * 6 + k.val) ByteArray.empty).data.toList := by decide +kernel
theorem acc_no : ∀ T : Fin 2, ∀ m : Fin 64, ∀ k : Fin 6, m.val.testBit k.val = false → acc T.val m.val (k.val + 1) = acc T.val m.val k.val := by decide +kernel
theorem acc_end0 : ∀ m : Fin 64, ∀ k : Fin 7, m.val < 2 ^ k.val → (if acc 0 m.val k.val = [] then [110, 111, 110, 101] else acc 0 m.val k.val) = txL 0 (m.val : Int) := by decide +kernel
theorem acc_end1 : ∀ m : Fin 16, ∀ k : Fin 5, m.val < 2 ^ k.val → (if acc 1 m.val k.val = [] then [110, 111, 110, 101] else acc 1 m.val k.val) = txL 1 (m.val : Int) := by decide +kernel
theorem bit_quo : ∀ m : Fin 64, ∀ k : Fin 6, ((wrap64 ((m.val : Int) / 2 ^ k.val)).tmod 2 == 0) = !m.val.testBit k.val := by decide +kernel
theorem pow_bd : ∀ k : Fin 7, (1 : Int) ≤ 2 ^ k.val ∧ (2 : Int) ^ k.val ≤ 64 ∧ (2 : Int) ^ k.val * 2 = 2 ^ (k.val + 1) := by decide +kernel
theorem cat (l r : List UInt8) : (⟨l.toArray⟩ : ByteArray) ++ ⟨r.toArray⟩ = ⟨(l ++ r).toArray⟩ := by
  apply WideShapes.bytes_inj
  simp
theorem acc_size (T m k : Nat) (hT : T < 2) : (acc T m k).length ≤ 54 := wds_join T hT (wb m k) (wb_len m k)
theorem wl_arr (b : ByteArray) : b = ⟨b.data.toList.toArray⟩ := by cases b; rfl
theorem nil_cmp (l : List UInt8) : (⟨l.toArray⟩ : ByteArray).toList.isEmpty = decide (l = []) := by
  have h := beq_data ⟨l.toArray⟩ ⟨#[]⟩
  have e : (⟨#[]⟩ : ByteArray).toList = [] := by decide +kernel
  rw [e] at h
  have h2 : ((⟨l.toArray⟩ : ByteArray).toList == []) = (⟨l.toArray⟩ : ByteArray).toList.isEmpty := by cases (⟨l.toArray⟩ : ByteArray).toList <;> rfl
  rw [← h2, h]
  cases l <;> simp

def RA (T : Nat) (m : Int) (w : World) (e : Ending) (w' : World) : Prop := e = .returned (.tuple #[.string ⟨(txL T m).toArray⟩, .int .i64 (txE T m)]) ∧ w = w'
theorem rall_out (T : Nat) (hT : T < 2) (m : Int) (w : World) (h : m < 0 ∨ 2 ^ nT T ≤ m) : Calls Tryz.prog 71 #[.int .i64 m, .bool (decide (T = 0))] w (RA T m w) := by
  have h1 : txL T m = [] := by unfold txL; rw [if_pos h]
  have h2 : txE T m = 50 := by unfold txE; rw [if_pos h]
  unfold RA
  rw [h1, h2]
  clear h1 h2
  rcases (show T = 0 ∨ T = 1 by omega) with rfl | rfl
  · change m < 0 ∨ 64 ≤ m at h
    change Calls _ _ #[_, .bool true] _ _
    rcases h with h | h
    · go_enter Tryz.func71, Tryz.ntmps71
      go_wp2
      go_ret2
      exact ⟨rfl, rfl⟩
    · have h0 : 0 ≤ m := by omega
      go_enter Tryz.func71, Tryz.ntmps71
      go_wp2
      go_ret2
      exact ⟨rfl, rfl⟩
  · change m < 0 ∨ 16 ≤ m at h
    change Calls _ _ #[_, .bool false] _ _
    rcases h with h | h
    · go_enter Tryz.func71, Tryz.ntmps71
      go_wp2
      go_ret2
      exact ⟨rfl, rfl⟩
    · have h0 : 0 ≤ m := by omega
      go_enter Tryz.func71, Tryz.ntmps71
      go_wp2
      go_ret2
      exact ⟨rfl, rfl⟩

set_option maxHeartbeats 4000000 in
theorem rall0 (m : Nat) (hm : m < 64) (w : World) : Calls Tryz.prog 71 #[.int .i64 (m : Int), .bool true] w (RA 0 m w) := by
  have h2 : txE 0 (m : Int) = 0 := by
    unfold txE
    have : (2 : Int) ^ nT 0 = 64 := rfl
    rw [this, if_neg (by omega)]
  unfold RA
  rw [h2]
  clear h2
  have HEND := Lib.hid (acc_end0 ⟨m, by omega⟩)
  generalize txL 0 (m : Int) = tx at *
  go_enter Tryz.func71, Tryz.ntmps71
  go_wp2_with fail
  go_loop [7, 8] (fun s b => ∃ k : Nat, k ≤ 6 ∧ b = .int .i64 (2 ^ k) ∧ s = .string ⟨(acc 0 m k).toArray⟩) (fun _ b => ((m : Int) + 1 - intOf b).toNat)
  case atStart => exact ⟨0, by omega, rfl, rfl⟩
  case round =>
    obtain ⟨k, hk, rfl, rfl⟩ := hrel
    obtain ⟨p1, p2, p3⟩ := pow_bd ⟨k, by omega⟩
    simp only at p1 p2 p3
    have hsz := acc_size 0 m k (by decide)
    by_cases hle : (2 : Int) ^ k ≤ m
    · have hk6 : k < 6 := by
        rcases Nat.lt_or_ge k 6 with h | h
        · exact h
        · obtain rfl : k = 6 := by omega
          omega
      have hq := bit_quo ⟨m, by omega⟩ ⟨k, by omega⟩
      have hy := acc_yes ⟨0, by decide⟩ ⟨m, by omega⟩ ⟨k, by omega⟩ (by first | exact .inl rfl | exact .inr (show k < 4 by omega))
      have hn := acc_no ⟨0, by decide⟩ ⟨m, by omega⟩ ⟨k, by omega⟩
      simp only at hq hy hn
      have HF := Lib.hid (rfeat_at k (by omega) w)
      have HWd := Lib.hid (rword_at k (by omega) w)
      have P3 := Lib.hid p3
      cases htb : m.testBit k
      · rw [htb, Bool.not_false] at hq
        have HN := Lib.hid (hn htb)
        clear hy hn htb p3
        have P4 := P3.out
        generalize (2 : Int) ^ k = b at *
        have HN2 : Hid ((⟨(acc 0 m (k + 1)).toArray⟩ : ByteArray) = ⟨(acc 0 m k).toArray⟩) := Lib.hid (by rw [HN.out])
        generalize (⟨(acc 0 m k).toArray⟩ : ByteArray) = sb at *
        go_wp2_with fail
        go_round
        case rel => exact ⟨k + 1, by omega, by rw [← P3.out], by rw [HN2.out]⟩
        case measure => simp [intOf]; omega
      · rw [htb, Bool.not_true] at hq
        have hy1 := hy htb
        clear hy hn htb p3
        have P4 := P3.out
        have hnil := nil_cmp (acc 0 m k)
        have hXs := wl_size ⟨0 * 6 + k, by omega⟩
        simp only at hXs
        have HXe : Hid (wl.getD (0 * 6 + k) ByteArray.empty = wl.getD (k) ByteArray.empty) := Lib.hid (by first | rfl | (congr 1; omega))
        rw [HXe.out] at hy1 hXs
        generalize hs : (⟨(acc 0 m k).toArray⟩ : ByteArray) = sb at *
        have hss : sb.size ≤ 54 := by rw [← hs]; simpa [ByteArray.size] using hsz
        have HSB := Lib.hid hs
        by_cases he : acc 0 m k = []
        · rw [if_pos he] at hy1
          rw [decide_eq_true he] at hnil
          have HY := Lib.hid hy1
          have HE : Hid (acc 0 m k = [] → sb = ⟨#[]⟩) := Lib.hid (fun h => by rw [← HSB.out, h])
          have HE2 := Lib.hid he
          clear hs hy1 he
          generalize (2 : Int) ^ k = b at *
          generalize wl.getD (k) ByteArray.empty = X at *
          have hXz : X.size ≤ 8 := by show X.data.size ≤ 8; rw [← Array.length_toList]; exact hXs
          go_wp2_with (first
            | (go_at_call 89; refine HF.out.mono ?_; rintro e w' ⟨rfl, rfl⟩)
            | (go_at_call 90; refine HWd.out.mono ?_; rintro e w' ⟨rfl, rfl⟩))
          go_round
          case rel =>
            refine ⟨k + 1, by omega, by rw [← P3.out], ?_⟩
            rw [HY.out, List.nil_append, ← wl_arr X]
            rw [HE.out HE2.out]
            congr 1
          case measure => simp [intOf]; omega
        · rw [if_neg he] at hy1
          rw [decide_eq_false he] at hnil
          have HY := Lib.hid hy1
          have HE : Hid (acc 0 m k = [] → sb = ⟨#[]⟩) := Lib.hid (fun h => by rw [← HSB.out, h])
          have HE2 := Lib.hid he
          clear hs hy1 he
          generalize (2 : Int) ^ k = b at *
          generalize wl.getD (k) ByteArray.empty = X at *
          have hXz : X.size ≤ 8 := by show X.data.size ≤ 8; rw [← Array.length_toList]; exact hXs
          go_wp2_with (first
            | (go_at_call 89; refine HF.out.mono ?_; rintro e w' ⟨rfl, rfl⟩)
            | (go_at_call 90; refine HWd.out.mono ?_; rintro e w' ⟨rfl, rfl⟩))
          go_round
          case rel =>
            refine ⟨k + 1, by omega, by rw [← P3.out], ?_⟩
            rw [HY.out, ← cat, ← cat, ← wl_arr X, HSB.out]
          case measure => simp [intOf]; omega
    · have hend := HEND.out ⟨k, by omega⟩ (by
        show m < 2 ^ k
        have : ((2 ^ k : Nat) : Int) = (2 : Int) ^ k := by simp
        omega)
      simp only at hend
      have hnil := nil_cmp (acc 0 m k)
      generalize hs : (⟨(acc 0 m k).toArray⟩ : ByteArray) = sb at *
      have HSB := Lib.hid hs
      clear p3
      by_cases he : acc 0 m k = []
      · rw [if_pos he] at hend
        rw [decide_eq_true he] at hnil
        clear hs he
        subst hend
        generalize (2 : Int) ^ k = b at *
        go_wp2_with fail
        go_ret2
        exact ⟨rfl, rfl⟩
      · rw [if_neg he] at hend
        rw [decide_eq_false he] at hnil
        clear he
        have HEN := Lib.hid hend
        clear hs hend
        generalize (2 : Int) ^ k = b at *
        go_wp2_with fail
        go_ret2
        exact ⟨by rw [← HSB.out, HEN.out]; rfl, rfl⟩

set_option maxHeartbeats 2000000 in
theorem rfind0 (s : ByteArray) (w : World) : Calls Tryz.prog 80 #[.string s, .bool true] w fun e w' => e = .returned (.tuple #[.int .i64 (paR 0 s), .int .i64 (paE 0 s)]) ∧ w = w' := by
  have HP := Lib.hid (pa_cases 0 (by decide) s)
  generalize paR 0 s = pr at *
  generalize paE 0 s = pe at *
  go_enter Tryz.func80, Tryz.ntmps80
  go_wp2_with fail
  go_loop [7] (fun i => ∃ k : Nat, k ≤ 64 ∧ i = .int .i64 (k : Int) ∧ ∀ j : Nat, j < k → txL 0 (j : Int) ≠ s.data.toList) (fun i => 64 - (intOf i).toNat)
  case atStart => exact ⟨0, by omega, rfl, fun j hj => absurd hj (Nat.not_lt_zero _)⟩
  case round =>
    obtain ⟨k, hk, rfl, hno⟩ := hrel
    have HNO := Lib.hid hno; clear hno
    by_cases hlt : k < 64
    · have h0 := rall0 k hlt w
      unfold RA at h0
      have HA := Lib.hid h0; clear h0
      have hcmp : ((⟨(txL 0 (k : Int)).toArray⟩ : ByteArray).toList == s.toList) = decide (txL 0 (k : Int) = s.data.toList) := by
        rw [beq_data]
        by_cases e : txL 0 (k : Int) = s.data.toList
        · simp [e]
        · simp [e]
      by_cases he : txL 0 (k : Int) = s.data.toList
      · rw [decide_eq_true he] at hcmp
        have hr : pr = k ∧ pe = 0 := by
          rcases HP.out with ⟨j, hj, htx, rfl, rfl, hu⟩ | ⟨hn, _, _⟩
          · obtain rfl := hu k hlt he
            exact ⟨rfl, rfl⟩
          · exact absurd he (hn k hlt)
        obtain ⟨rfl, rfl⟩ := hr
        clear he
        generalize (⟨(txL 0 (k : Int)).toArray⟩ : ByteArray) = tb at *
        generalize txE 0 (k : Int) = te at *
        go_wp2_with (go_at_call 71; refine HA.out.mono ?_; rintro e w' ⟨rfl, rfl⟩)
        go_ret2
        exact ⟨rfl, rfl⟩
      · rw [decide_eq_false he] at hcmp
        have HN : Hid (∀ j : Nat, j < k + 1 → txL 0 (j : Int) ≠ s.data.toList) := Lib.hid (fun j hj => by
          rcases Nat.lt_or_ge j k with h | h
          · exact HNO.out j h
          · obtain rfl : j = k := by omega
            exact he)
        clear he
        generalize (⟨(txL 0 (k : Int)).toArray⟩ : ByteArray) = tb at *
        generalize txE 0 (k : Int) = te at *
        go_wp2_with (go_at_call 71; refine HA.out.mono ?_; rintro e w' ⟨rfl, rfl⟩)
        go_round
        case rel => exact ⟨k + 1, by omega, by go_num, HN.out⟩
        case measure => simp [intOf]; omega
    · obtain rfl : k = 64 := by omega
      have hr : pr = 0 ∧ pe = 50 := by
        rcases HP.out with ⟨j, hj, htx, _⟩ | ⟨_, h1, h2⟩
        · exact absurd htx (HNO.out j hj)
        · exact ⟨h1, h2⟩
      obtain ⟨rfl, rfl⟩ := hr
      go_wp2_with fail
      go_ret2
      exact ⟨rfl, rfl⟩
theorem rfindTop0 (s : ByteArray) (w : World) : Calls Tryz.prog 62 #[.string s] w fun e w' => e = .returned (.tuple #[.int .i64 (paR 0 s), .int .i64 (paE 0 s)]) ∧ w = w' := by
  have H := Lib.hid (rfind0 s w)
  generalize paR 0 s = pr at *
  generalize paE 0 s = pe at *
  go_enter Tryz.func62, Tryz.ntmps62
  go_wp2_with (go_at_call 80; refine H.out.mono ?_; rintro e w' ⟨rfl, rfl⟩)
  go_ret2
  exact ⟨rfl, rfl⟩
theorem rallTop0 (m : Int) (w : World) : Calls Tryz.prog 47 #[.int .i64 m] w (RA 0 m w) := by
  have h : Calls Tryz.prog 71 #[.int .i64 m, .bool true] w (RA 0 m w) := by
    by_cases h : m < 0 ∨ 2 ^ nT 0 ≤ m
    · exact rall_out 0 (by decide) m w h
    · change ¬ (m < 0 ∨ 64 ≤ m) at h
      obtain ⟨k, rfl⟩ := Int.eq_ofNat_of_zero_le (show 0 ≤ m by omega)
      exact rall0 k (by omega) w
  unfold RA at h ⊢
  have H := Lib.hid h; clear h
  generalize (⟨(txL 0 m).toArray⟩ : ByteArray) = tb at *
  generalize txE 0 m = te at *
  go_enter Tryz.func47, Tryz.ntmps47
  go_wp2_with (go_at_call 71; refine H.out.mono ?_; rintro e w' ⟨rfl, rfl⟩)
  go_ret2
  exact ⟨rfl, rfl⟩
end Go.Proofs.YtbanfkpfijcmcaaGreatDoor.Fl
