/- The walk of FlagJoins. -/
import Derived.Test.YtojempihchlgfaaDoorBk
import Derived.PlainAid
namespace Go.Proofs.YtojempihchlgfaaDoor
open Go.RowKit
set_option linter.unusedSimpArgs false
set_option linter.unusedVariables false
set_option maxRecDepth 100000

theorem rd_red : ∀ w a : Fin 64, fReady (w.val : Int) (a.val : Int) = fReady ((2 * (w.val / 2 % 8) + 32 * (w.val / 32) : Nat) : Int) ((a.val % 16 : Nat) : Int) := by decide +kernel
theorem rd_join : ∀ i a b : Fin 16, bits .or .i64 (fReady ((2 * (i.val % 8) + 32 * (i.val / 8) : Nat) : Int) (a.val : Int)) (fReady ((2 * (i.val % 8) + 32 * (i.val / 8) : Nat) : Int) (b.val : Int)) = fReady ((2 * (i.val % 8) + 32 * (i.val / 8) : Nat) : Int) ((a.val ||| b.val : Nat) : Int) := by decide +kernel
theorem rd_bd : ∀ w a : Fin 64, 0 ≤ fReady (w.val : Int) (a.val : Int) ∧ fReady (w.val : Int) (a.val : Int) < 64 := by decide +kernel
theorem rd_all (w a b : Nat) (hw : w < 64) (ha : a < 64) (hb : b < 64) : bits .or .i64 (fReady w a) (fReady w b) = fReady w ((a ||| b : Nat) : Int) := by
  have hab : a ||| b < 64 := Nat.or_lt_two_pow (n := 6) ha hb
  have h1 := rd_red ⟨w, hw⟩ ⟨a, ha⟩
  have h2 := rd_red ⟨w, hw⟩ ⟨b, hb⟩
  have h3 := rd_red ⟨w, hw⟩ ⟨a ||| b, hab⟩
  simp only at h1 h2 h3
  have h4 := rd_join ⟨w / 2 % 8 + 8 * (w / 32), by omega⟩ ⟨a % 16, by omega⟩ ⟨b % 16, by omega⟩
  simp only at h4
  rw [show (w / 2 % 8 + 8 * (w / 32)) % 8 = w / 2 % 8 by omega, show (w / 2 % 8 + 8 * (w / 32)) / 8 = w / 32 by omega] at h4
  rw [h1, h2, h3, h4, Nat.or_mod_two_pow (n := 4)]
theorem or_nat (a b : Nat) (ha : a < 256) (hb : b < 256) : bits .or .i64 (a : Int) (b : Int) = ((a ||| b : Nat) : Int) := by
  show IntKind.i64.wrap ((BitVec.ofInt 64 (a : Int) ||| BitVec.ofInt 64 (b : Int)).toNat : Int) = _
  have hX : (BitVec.ofInt 64 (a : Int)).toNat = a := by simp [BitVec.toNat_ofInt]; omega
  have hY : (BitVec.ofInt 64 (b : Int)).toNat = b := by simp [BitVec.toNat_ofInt]; omega
  rw [BitVec.toNat_or, hX, hY]
  have := Nat.or_lt_two_pow (n := 8) ha hb
  simp [IntKind.wrap, IntKind.signed, IntKind.bits]
  split <;> omega
theorem nm_by (k : Int) : ((nm k).toList.isEmpty = false ∧ byN (nm k) = k ∧ (k != 0) = true) ∨ ((nm k).toList.isEmpty = true ∧ byN (nm k) = 0) := by
  by_cases h1 : k = 1
  · subst h1; exact .inl (by decide +kernel)
  by_cases h2 : k = 2
  · subst h2; exact .inl (by decide +kernel)
  by_cases h3 : k = 3
  · subst h3; exact .inl (by decide +kernel)
  by_cases h4 : k = 4
  · subst h4; exact .inl (by decide +kernel)
  have : nm k = ⟨#[]⟩ := by unfold nm; rw [if_neg h1, if_neg h2, if_neg h3, if_neg h4]
  rw [this]
  exact .inr (by decide +kernel)
theorem one_word : ∀ j : Fin 6, ((txL 0 (2 ^ j.val)).all (fun b => b != 43)) = true ∧ txE 0 (2 ^ j.val) = 0 ∧ (txL 0 (2 ^ j.val)).length ≤ 8 := by decide +kernel

set_option maxHeartbeats 1000000 in
theorem joins_walk (q a b : Nat) (k : Int) (w : World) (hw : Env w) (hq : q < 256) (ha : a < 256) (hb : b < 256) : Calls Tryd.prog 8 #[.int .u8 q, .int .u8 a, .int .u8 b, .int .i64 k] w fun e w' => e = .returned (.bool true) ∧ Below w.heap.size w w' := by
  obtain ⟨j, hj⟩ : ∃ j, j = q % 6 := ⟨_, rfl⟩
  have hj6 : j < 6 := by omega
  have hqj : (q : Int) % 6 = (j : Int) := by omega
  obtain ⟨p, hp⟩ : ∃ p, p = q % 64 := ⟨_, rfl⟩
  have hp6 : p < 64 := by omega
  have hqp : (q : Int) % 64 = (p : Int) := by omega
  obtain ⟨a', ha'⟩ : ∃ a', a' = a % 64 := ⟨_, rfl⟩
  have ha6 : a' < 64 := by omega
  have haa : (a : Int) % 64 = (a' : Int) := by omega
  obtain ⟨b', hb'⟩ : ∃ b', b' = b % 64 := ⟨_, rfl⟩
  have hb6 : b' < 64 := by omega
  have hbb : (b : Int) % 64 = (b' : Int) := by omega
  have hor := or_nat a b ha hb
  have hmo : ((a ||| b : Nat) : Int) % 64 = ((a' ||| b' : Nat) : Int) := by
    rw [ha', hb', ← Nat.or_mod_two_pow (n := 6)]; omega
  have hab : a' ||| b' < 64 := Nat.or_lt_two_pow (n := 6) ha6 hb6
  have hab2 : a ||| b < 256 := Nat.or_lt_two_pow (n := 8) ha hb
  have hall := rd_all p a' b' hp6 ha6 hb6
  have HR1 := Lib.hid (fun w => ready_f (p : Int) (a' : Int) w (by omega) (by omega) (by omega) (by omega))
  have HR2 := Lib.hid (fun w => ready_f (p : Int) (b' : Int) w (by omega) (by omega) (by omega) (by omega))
  have HR3 := Lib.hid (fun w => ready_f (p : Int) ((a' ||| b' : Nat) : Int) w (by omega) (by omega) (by omega) (by omega))
  have x1 := rd_bd ⟨p, hp6⟩ ⟨a', ha6⟩
  have x2 := rd_bd ⟨p, hp6⟩ ⟨b', hb6⟩
  simp only at x1 x2
  have hA : ∀ w, Env w → Calls Tryd.prog 22 #[] w (fun e w' => e = .returned (.bool true) ∧ Below w.heap.size w w') := fun w h => alive_any w h.1
  have hN : ∀ w, Env w → Calls Tryd.prog 18 #[.int .i64 k] w (fun e w' => e = .returned (.string (nm k)) ∧ w = w') := fun w h => name_any k w h.1
  have hB : ∀ w, Env w → Calls Tryd.prog 20 #[.string (nm k)] w (fun e w' => e = .returned (.int .i64 (byN (nm k))) ∧ Below w.heap.size w w') := fun w h => byname_any _ w h.1
  have kn := nm_by k
  obtain ⟨o1, o2, o3⟩ := one_word ⟨j, hj6⟩
  simp only at o1 o2 o3
  have hT : ∀ w, Env w → Calls Tryd.prog 23 #[.int .i64 (2 ^ j)] w (RT 0 (2 ^ j) w) := fun w h => Text_any _ w h.1
  have z0 := tx_size 0 (by decide) (2 ^ j)
  have hP : ∀ w, Env w → Calls Tryd.prog 27 #[.string ⟨(txL 0 (2 ^ j)).toArray⟩] w (RP 0 ⟨(txL 0 (2 ^ j)).toArray⟩ w) := fun w h => Parse_any _ w h.1 h.2 (by omega)
  have k0 := tx_back 0 (by decide) (2 ^ j)
  unfold RT at hT
  unfold RP at hP
  rw [o2] at hT k0
  have k1 : paE 0 ⟨(txL 0 (2 ^ j)).toArray⟩ = 0 ∧ paR 0 ⟨(txL 0 (2 ^ j)).toArray⟩ = 2 ^ j := by
    rcases k0 with h | ⟨_, h1, h2⟩
    · exact absurd h (by decide)
    · exact ⟨h1, h2⟩
  rw [k1.1, k1.2] at hP
  have hby : ∀ i (h : i < (⟨(txL 0 (2 ^ j)).toArray⟩ : ByteArray).size), (((⟨(txL 0 (2 ^ j)).toArray⟩ : ByteArray)[i].toNat : Int) == 43) = false := by
    intro i h
    have h1 : i < (txL 0 (2 ^ j)).length := by simpa [ByteArray.size] using h
    have h2 := List.all_eq_true.1 o1 _ (List.getElem_mem h1)
    have h3 : (⟨(txL 0 (2 ^ j)).toArray⟩ : ByteArray)[i] = (txL 0 (2 ^ j))[i] := rfl
    rw [h3]
    simp only [bne_iff_ne, ne_eq] at h2
    simp only [beq_eq_false_iff_ne, ne_eq]
    intro h4
    apply h2
    apply UInt8.toNat.inj
    show (txL 0 (2 ^ j))[i].toNat = 43
    omega
  have hsz : (⟨(txL 0 (2 ^ j)).toArray⟩ : ByteArray).size ≤ 8 := by simpa [ByteArray.size] using o3
  clear k0 k1 z0 o1 o2 o3 hp ha' hb'
  generalize (⟨(txL 0 (2 ^ j)).toArray⟩ : ByteArray) = tb at *
  have HA := Lib.hid hA; have HN := Lib.hid hN; have HB := Lib.hid hB; have HT := Lib.hid hT; have HP := Lib.hid hP
  have HW := Lib.hid hw
  have HBY := Lib.hid hby
  have HALL := Lib.hid hall
  clear hA hN hB hT hP hw hby hall
  generalize fReady (p : Int) (a' : Int) = rx at *
  generalize fReady (p : Int) (b' : Int) = ry at *
  generalize fReady (p : Int) ((a' ||| b' : Nat) : Int) = rz at *
  generalize a' ||| b' = ab at *
  generalize hnb : nm k = nb at *
  have E1 := Lib.hid hor; have E2 := Lib.hid hmo; have E3 := Lib.hid hqj; have E4 := Lib.hid hqp; have E5 := Lib.hid haa; have E6 := Lib.hid hbb
  have HJ := Lib.hid hj
  clear hor hmo hqj hqp haa hbb hj
  have E8 : Hid ((bits .or .i64 (a : Int) (b : Int)).tmod 64 = (ab : Int)) := Lib.hid (by rw [E1.out, Int.tmod_eq_emod_of_nonneg (by omega)]; exact E2.out)
  have E7 : Hid (bits .or .i64 (a : Int) (b : Int) % 64 = (ab : Int)) := Lib.hid (by rw [E1.out]; exact E2.out)
  generalize a ||| b = aob at *
  have g1 : (0 : Int) ≤ (aob : Int) := by omega
  have hkn : (nb.toList.isEmpty = false ∧ byN nb = k ∧ (k != 0) = true) ∨ (nb.toList.isEmpty = true ∧ byN nb = 0) := by rw [← hnb]; exact nm_by k
  have HNB := Lib.hid hnb
  clear kn hnb
  generalize byN nb = bn at *
  have HP2 := Lib.hid (fun m : Nat => show (2 : Int) ^ m * 2 = 2 ^ (m + 1) from (Int.pow_succ 2 m).symm)
  have hpw : ∀ m, m ≤ 6 → (1 : Int) ≤ 2 ^ m ∧ (2 : Int) ^ m ≤ 64 := by decide
  have HPW := Lib.hid hpw
  clear hpw
  rcases hkn with ⟨kn, rfl, kz⟩ | ⟨kn, rfl⟩
  · go_enter Tryd.func8, Tryd.ntmps8
    go_wp2_with fail
    refine (HA.out w HW.out).mono ?_
    rintro e w0 ⟨rfl, b0⟩
    have HW0 := Lib.hid (HW.out.later b0)
    go_wp2_with fail
    rw [E4.out, E5.out]
    refine (HR1.out _).mono ?_
    rintro e w' ⟨rfl, rfl⟩
    go_wp2_with fail
    rw [E6.out]
    refine (HR2.out _).mono ?_
    rintro e w' ⟨rfl, rfl⟩
    go_wp2_with fail
    rw [E8.out]
    refine (HR3.out _).mono ?_
    rintro e w' ⟨rfl, rfl⟩
    go_wp2_with fail
    refine (HN.out w0 HW0.out).mono ?_
    rintro e w' ⟨rfl, rfl⟩
    have kn2 := kn
    go_wp2_with fail
    refine (HB.out w0 HW0.out).mono ?_
    rintro e w1 ⟨rfl, b1⟩
    have HW1 := Lib.hid (HW0.out.later b1)
    have B1 := b0.trans (b1.mono b0.size)
    go_wp2_with fail
    refine (HB.out w1 HW1.out).mono ?_
    rintro e w1b ⟨rfl, b1b⟩
    have HW1b := Lib.hid (HW1.out.later b1b)
    have B1b := B1.trans (b1b.mono B1.size)
    go_wp2_with fail
    go_loop [15, 16] (fun o i => ∃ m : Nat, m ≤ j ∧ i = .int .i64 m ∧ o = .int .i64 (2 ^ m)) (fun _ i => j - (intOf i).toNat)
    case atStart => exact ⟨0, by omega, rfl, rfl⟩
    case round =>
      obtain ⟨m, hm, rfl, rfl⟩ := hrel
      obtain ⟨p1, p2⟩ := HPW.out m (by omega)
      have e3 := E3.out
      by_cases hlt : m < j
      · obtain ⟨p3, p4⟩ := HPW.out (m + 1) (by omega)
        have e2 := HP2.out m
        go_wp2_with fail
        go_round
        case rel => exact ⟨m + 1, by omega, by go_num, by first | rfl | rw [← e2]⟩
        case measure => simp [intOf]; omega
      · obtain rfl : m = j := by omega
        go_wp2_with fail
        clear e3
        refine (HT.out _ HW1b.out).mono ?_
        rintro e w2 ⟨rfl, b2⟩
        have HW2 := Lib.hid (HW1b.out.later b2)
        go_wp2_with fail
        refine (HP.out _ HW2.out).mono ?_
        rintro e w3 ⟨rfl, b3⟩
        have hall := HALL.out
        go_wp2_with fail
        go_loop [21] (fun i => ∃ k : Nat, k ≤ tb.size ∧ i = .int .i64 k) (fun i => tb.size - (intOf i).toNat)
        case atStart => exact ⟨0, Nat.zero_le _, rfl⟩
        case round =>
          obtain ⟨k, hk, rfl⟩ := hrel
          by_cases hlk : k < tb.size
          · have hb := HBY.out k hlk
            go_wp2_with fail
            go_round
            case rel => exact ⟨k + 1, by omega, by go_num⟩
            case measure => simp [intOf]; omega
          · obtain rfl : k = tb.size := by omega
            go_wp2_with fail
            go_ret
            exact ⟨rfl, (B1b.trans (b2.mono B1b.size)).trans (b3.mono (Nat.le_trans B1b.size b2.size))⟩
  · go_enter Tryd.func8, Tryd.ntmps8
    go_wp2_with fail
    refine (HA.out w HW.out).mono ?_
    rintro e w0 ⟨rfl, b0⟩
    have HW0 := Lib.hid (HW.out.later b0)
    go_wp2_with fail
    rw [E4.out, E5.out]
    refine (HR1.out _).mono ?_
    rintro e w' ⟨rfl, rfl⟩
    go_wp2_with fail
    rw [E6.out]
    refine (HR2.out _).mono ?_
    rintro e w' ⟨rfl, rfl⟩
    go_wp2_with fail
    rw [E8.out]
    refine (HR3.out _).mono ?_
    rintro e w' ⟨rfl, rfl⟩
    go_wp2_with fail
    refine (HN.out w0 HW0.out).mono ?_
    rintro e w' ⟨rfl, rfl⟩
    have kn2 := kn
    go_wp2_with fail
    refine (HB.out w0 HW0.out).mono ?_
    rintro e w1 ⟨rfl, b1⟩
    have HW1 := Lib.hid (HW0.out.later b1)
    have B1 := b0.trans (b1.mono b0.size)
    go_wp2_with fail
    go_loop [15, 16] (fun o i => ∃ m : Nat, m ≤ j ∧ i = .int .i64 m ∧ o = .int .i64 (2 ^ m)) (fun _ i => j - (intOf i).toNat)
    case atStart => exact ⟨0, by omega, rfl, rfl⟩
    case round =>
      obtain ⟨m, hm, rfl, rfl⟩ := hrel
      obtain ⟨p1, p2⟩ := HPW.out m (by omega)
      have e3 := E3.out
      by_cases hlt : m < j
      · obtain ⟨p3, p4⟩ := HPW.out (m + 1) (by omega)
        have e2 := HP2.out m
        go_wp2_with fail
        go_round
        case rel => exact ⟨m + 1, by omega, by go_num, by first | rfl | rw [← e2]⟩
        case measure => simp [intOf]; omega
      · obtain rfl : m = j := by omega
        go_wp2_with fail
        clear e3
        refine (HT.out _ HW1.out).mono ?_
        rintro e w2 ⟨rfl, b2⟩
        have HW2 := Lib.hid (HW1.out.later b2)
        go_wp2_with fail
        refine (HP.out _ HW2.out).mono ?_
        rintro e w3 ⟨rfl, b3⟩
        have hall := HALL.out
        go_wp2_with fail
        go_loop [21] (fun i => ∃ k : Nat, k ≤ tb.size ∧ i = .int .i64 k) (fun i => tb.size - (intOf i).toNat)
        case atStart => exact ⟨0, Nat.zero_le _, rfl⟩
        case round =>
          obtain ⟨k, hk, rfl⟩ := hrel
          by_cases hlk : k < tb.size
          · have hb := HBY.out k hlk
            go_wp2_with fail
            go_round
            case rel => exact ⟨k + 1, by omega, by go_num⟩
            case measure => simp [intOf]; omega
          · obtain rfl : k = tb.size := by omega
            go_wp2_with fail
            go_ret
            exact ⟨rfl, (B1.trans (b2.mono B1.size)).trans (b3.mono (Nat.le_trans B1.size b2.size))⟩

theorem joins_top (q a b k : Int) (w : World) (hw : Wd w ∧ Mx w) (w0 : (Lit.int .u8 q).wf = true) (w1 : (Lit.int .u8 a).wf = true) (w2 : (Lit.int .u8 b).wf = true) (w3 : (Lit.int .i64 k).wf = true) :
    Calls Tryd.prog 8 #[.int .u8 q, .int .u8 a, .int .u8 b, .int .i64 k] w fun e w' => e = .returned (.bool true) ∧ Below w.heap.size w w' := by
  obtain ⟨x, rfl⟩ := Int.eq_ofNat_of_zero_le (bd_u8 w0).1
  obtain ⟨y, rfl⟩ := Int.eq_ofNat_of_zero_le (bd_u8 w1).1
  obtain ⟨z, rfl⟩ := Int.eq_ofNat_of_zero_le (bd_u8 w2).1
  exact joins_walk x y z k w hw (by have := bd_u8 w0; omega) (by have := bd_u8 w1; omega) (by have := bd_u8 w2; omega)
end Go.Proofs.YtojempihchlgfaaDoor
