/- FlagChoice: the plain law and the walk. -/
import Derived.Test.YtojempihchlgfaaDoorN
namespace Go.Proofs.YtojempihchlgfaaDoor
open Go.RowKit
set_option linter.unusedSimpArgs false
set_option linter.unusedVariables false
set_option maxRecDepth 100000

theorem chd_true (p : Int → Bool) (k : Nat) (h : chd p k ≠ 0) : p (chd p k) = true ∧ 1 ≤ chd p k := by
  induction k with
  | zero => exact absurd rfl h
  | succ k ih =>
    rw [chd] at h ⊢
    split
    · rename_i hp; exact ⟨hp, by omega⟩
    · rename_i hp; rw [if_neg hp] at h; exact ih h
theorem chd_ge (p : Int → Bool) (k j : Nat) (h1 : 1 ≤ j) (h2 : j ≤ k) (hp : p (j : Int) = true) : (j : Int) ≤ chd p k := by
  induction k with
  | zero => omega
  | succ k ih =>
    rw [chd]
    split
    · omega
    · rename_i hn
      by_cases e : j = k + 1
      · subst e; exact absurd hp hn
      · exact ih (by omega)
theorem and15 (n x : Int) (h0 : 0 ≤ n) (h1 : n ≤ 15) : ∃ y : Nat, y < 16 ∧ bits .and .i64 n x = ((n.toNat &&& y : Nat) : Int) := by
  refine ⟨(BitVec.ofInt 64 x).toNat % 16, Nat.mod_lt _ (by decide), ?_⟩
  show IntKind.i64.wrap ((BitVec.ofInt 64 n &&& BitVec.ofInt 64 x).toNat : Int) = _
  have hX : (BitVec.ofInt 64 n).toNat = n.toNat := by simp [BitVec.toNat_ofInt]; omega
  rw [BitVec.toNat_and, hX]
  generalize (BitVec.ofInt 64 x).toNat = X
  have hle : n.toNat &&& X ≤ n.toNat := Nat.and_le_left
  have e : n.toNat &&& X = n.toNat &&& (X % 16) := by
    have h := Nat.and_mod_two_pow (a := n.toNat) (b := X) (n := 4)
    rw [show (2 : Nat) ^ 4 = 16 by rfl, Nat.mod_eq_of_lt (show n.toNat &&& X < 16 by omega), Nat.mod_eq_of_lt (show n.toNat < 16 by omega)] at h
    exact h
  rw [← e]
  simp [IntKind.wrap, IntKind.signed, IntKind.bits]
  split <;> omega
theorem ok_less : ∀ n y : Fin 16, ∀ d : Fin 5, (bits .and .i64 (feat (d.val : Int)) (n.val : Int) == (n.val : Int)) = true → (bits .and .i64 (feat (d.val : Int)) ((n.val &&& y.val : Nat) : Int) == ((n.val &&& y.val : Nat) : Int)) = true := by decide +kernel
theorem ok_lesser : ∀ n y : Fin 16, ∀ d : Fin 5, (bits .and .i64 (feat (d.val : Int)) (n.val : Int) == 0) = true → (bits .and .i64 (feat (d.val : Int)) ((n.val &&& y.val : Nat) : Int) == 0) = true := by decide +kernel
/-- What the law leans on, at a driver that is chosen. -/
theorem choice_law (n a x y d : Int) (l : List Int) (k : Nat) (n0 : 0 ≤ n) (n1 : n ≤ 15) (a0 : 0 ≤ a) (a1 : a ≤ 15) (hd : chd (fOk n a l) 4 = d) (hne : d ≠ 0) :
    1 ≤ d ∧ d ≤ 4 ∧ (bits .and .i64 (feat d) n == n) = true ∧ (bits .and .i64 (feat d) a == 0) = true ∧ d ∉ l ∧ ∃ n' a' : Int, bits .and .i64 n x = n' ∧ bits .and .i64 a y = a' ∧ 0 ≤ n' ∧ n' ≤ 15 ∧ 0 ≤ a' ∧ a' ≤ 15 ∧ d ≤ chd (fOk n' a' (l.take k)) 4 := by
  subst hd
  obtain ⟨hp, h1⟩ := chd_true _ _ hne
  have h4 := (chd_bd (fOk n a l) 4).2
  generalize chd (fOk n a l) 4 = d at *
  unfold fOk okF at hp
  simp only [Bool.and_eq_true, Bool.not_eq_true', decide_eq_false_iff_not] at hp
  obtain ⟨⟨hp1, hp2⟩, hp3⟩ := hp
  refine ⟨h1, by omega, hp1, hp2, hp3, ?_⟩
  obtain ⟨u, hu, eu⟩ := and15 n x n0 n1
  obtain ⟨v, hv, ev⟩ := and15 a y a0 a1
  have le1 : n.toNat &&& u ≤ n.toNat := Nat.and_le_left
  have le2 : a.toNat &&& v ≤ a.toNat := Nat.and_le_left
  refine ⟨_, _, eu, ev, by omega, by omega, by omega, by omega, ?_⟩
  have q1 := ok_less ⟨n.toNat, by omega⟩ ⟨u, hu⟩ ⟨d.toNat, by omega⟩
  have q2 := ok_lesser ⟨a.toNat, by omega⟩ ⟨v, hv⟩ ⟨d.toNat, by omega⟩
  simp only [Int.toNat_of_nonneg n0, Int.toNat_of_nonneg a0, Int.toNat_of_nonneg (show 0 ≤ d by omega)] at q1 q2
  have := chd_ge (fOk ((n.toNat &&& u : Nat) : Int) ((a.toNat &&& v : Nat) : Int) (l.take k)) 4 d.toNat (by omega) (by omega) (by
    rw [Int.toNat_of_nonneg (show 0 ≤ d by omega)]
    unfold fOk okF
    rw [q1 hp1, q2 hp2]
    simp only [Bool.and_self, Bool.true_and, Bool.not_eq_true', decide_eq_false_iff_not]
    exact fun h => hp3 (List.mem_of_mem_take h))
  omega

theorem Hs.same {w w' : World} (h : Hs w) (e : w'.heap[0]? = w.heap[0]?) : Hs w' := by
  have key : ∀ o v, w.cell? ⟨0, o, none⟩ = some v → w'.cell? ⟨0, o, none⟩ = some v := fun o v hv => by
    unfold World.cell? at hv ⊢
    simp only at hv ⊢
    rw [e]; exact hv
  exact ⟨key _ _ h.1, key _ _ h.2.1, key _ _ h.2.2.1, key _ _ h.2.2.2⟩
theorem Ints.later {kd : IntKind} {w w' : World} {a : Option Addr} {zs : List Int} (h : Ints kd w a zs) (hb : Below w.heap.size w w') : Ints kd w' a zs := by
  intro h0
  obtain ⟨b, off, e, hlt, hc⟩ := h h0
  exact ⟨b, off, e, Nat.lt_of_lt_of_le hlt hb.size, fun i hi => (hb.cell (p := ⟨b, off + i, none⟩) hlt).trans (hc i hi)⟩
theorem Ints.take {kd : IntKind} {w : World} {a : Option Addr} {zs : List Int} (h : Ints kd w a zs) (k : Nat) : Ints kd w a (zs.take k) := by
  intro h0
  rw [List.length_take] at h0
  obtain ⟨b, off, e, hlt, hc⟩ := h (by omega)
  refine ⟨b, off, e, hlt, fun i hi => ?_⟩
  rw [List.length_take] at hi
  rw [hc i (by omega), List.getD_eq_getElem?_getD, List.getD_eq_getElem?_getD, List.getElem?_take_of_lt (by omega)]

set_option maxHeartbeats 4000000 in
theorem choice_walk (n a x y : Int) (A : Option Addr) (c : Nat) (l : List Int) (st : Int) (w : World) (hw : Wd w) (hs : Hs w) (wn : (Lit.int .i64 n).wf = true) (wa : (Lit.int .i64 a).wf = true) (hz : Ints .i64 w A l) (hl : l.length ≤ 50) (hc : l.length ≤ c) (hA : A = none → c = 0)
    (s0 : -9223372036854775808 ≤ st) (s1 : st ≤ 9223372036854775807) :
    Calls Tryd.prog 5 #[.int .i64 n, .int .i64 a, .int .i64 x, .int .i64 y, .slice A l.length c, .int .i64 st] w fun e w' => e = .returned (.bool true) ∧ Below w.heap.size w w' := by
  have h1w := hw.lt
  have HA := Lib.hid (alive_any w hw)
  have HW := Lib.hid hw; have HSS := Lib.hid hs; have HZ := Lib.hid hz; have HAN := Lib.hid hA
  clear hw hs hz hA
  go_enter Tryd.func5, Tryd.ntmps5
  go_wp2_with fail
  refine HA.out.mono ?_
  rintro e w1 ⟨rfl, b1⟩
  have HW1 := Lib.hid (HW.out.same (b1.block 1 h1w))
  have HS1 := Lib.hid (HSS.out.same (b1.block 0 (by omega)))
  have HZ1 := Lib.hid (HZ.out.later b1)
  by_cases hout : (n < 0 ∨ 15 < n) ∨ (a < 0 ∨ 15 < a)
  · have HO := Lib.hid hout; clear hout
    go_wp2_with (go_at_call 14; refine (choose_out n a A c l.length _ HW1.out wn wa HO.out).mono ?_; rintro e w' ⟨rfl, rfl⟩)
    go_ret
    exact ⟨rfl, b1⟩
  · have n0 : 0 ≤ n := by omega
    have n1 : n ≤ 15 := by omega
    have a0 : 0 ≤ a := by omega
    have a1 : a ≤ 15 := by omega
    clear hout
    have HC := Lib.hid (choose_in n a A c l w1 HW1.out HS1.out HZ1.out hl hc n0 n1 a0 a1)
    generalize hd : chd (fOk n a l) 4 = d at HC
    have HD := Lib.hid hd; clear hd
    by_cases hne : d = 0
    · subst hne
      have e51 : chE 0 = 51 := rfl
      rw [e51] at HC
      clear e51
      go_wp2_with (go_at_call 14; refine HC.out.mono ?_; rintro e w' ⟨rfl, rfl⟩)
      go_ret
      exact ⟨rfl, b1⟩
    · have e0 : chE d = 0 := if_neg hne
      rw [e0] at HC
      clear e0
      have hq : ∃ t k : Int, st.tmod ((l.length : Int) + 1) = t ∧ -(l.length : Int) ≤ t ∧ t ≤ l.length ∧ (t + (l.length : Int) + 1) % ((l.length : Int) + 1) = k ∧ 0 ≤ k ∧ k ≤ l.length := by
        have p : (0 : Int) < (l.length : Int) + 1 := by omega
        have t1 := Int.tmod_lt_of_pos st p
        have t2 : -((l.length : Int) + 1) < st.tmod ((l.length : Int) + 1) := by
          rcases Int.le_total 0 st with h | h
          · have := Int.tmod_nonneg ((l.length : Int) + 1) h; omega
          · have e := Int.neg_tmod (-st) ((l.length : Int) + 1)
            rw [Int.neg_neg] at e
            have := Int.tmod_lt_of_pos (-st) p
            omega
        exact ⟨_, _, rfl, by omega, by omega, rfl, Int.emod_nonneg _ (by omega), by have := Int.emod_lt_of_pos (st.tmod ((l.length : Int) + 1) + (l.length : Int) + 1) p; omega⟩
      obtain ⟨t, kk, q1, t0, t1, q2, k0, k1⟩ := hq
      obtain ⟨k, rfl⟩ := Int.eq_ofNat_of_zero_le k0
      obtain ⟨d0, d1, hb1, hb2, hnl, n', a', en, ea, n0', n1', a0', a1', hge⟩ := choice_law n a x y d l k n0 n1 a0 a1 HD.out hne
      have HC2 := Lib.hid (choose_in n' a' A c (l.take k) w1 HW1.out HS1.out (HZ1.out.take k) (by rw [List.length_take]; omega) (by rw [List.length_take]; omega) n0' n1' a0' a1')
      generalize chd (fOk n' a' (l.take k)) 4 = d2 at *
      have e2 : chE d2 = 0 := if_neg (by omega)
      have e3 : (l.take k).length = k := by rw [List.length_take]; omega
      rw [e2, e3] at HC2
      clear e2 e3
      have HNL := Lib.hid hnl
      have Q1 := Lib.hid q1; have Q2 := Lib.hid q2; have EN := Lib.hid en; have EA := Lib.hid ea
      clear hnl q1 q2 en ea k0
      have hb3 : (bits .and .i64 (feat d) n == n) = true := hb1
      have HF := Lib.hid (features_any d w1 HS1.out)
      have hf := feat_bd d
      generalize feat d = f at *
      go_wp2_with (first | (go_at_call 14; refine HC.out.mono ?_; rintro e w' ⟨rfl, rfl⟩) | (go_at_call 16; refine HF.out.mono ?_; rintro e w' ⟨rfl, rfl⟩))
      go_loop [17] (fun i => ∃ j : Nat, j ≤ l.length ∧ i = .int .i64 j) (fun i => l.length - (intOf i).toNat)
      case atStart => exact ⟨0, Nat.zero_le _, rfl⟩
      case round =>
        obtain ⟨j, hj, rfl⟩ := hrel
        by_cases hlt : j < l.length
        · obtain ⟨b, off, rfl, hb, hcc⟩ := HZ1.out (by omega)
          have hck := hcc j hlt
          clear hcc
          rw [igetD l j hlt] at hck
          have hxd : l[j] ≠ d := fun h => HNL.out (h ▸ List.getElem_mem hlt)
          generalize l[j] = z at *
          have e9 : (z == d) = false := by simpa using hxd
          clear hxd
          go_wp2_with fail
          go_round
          case rel => exact ⟨j + 1, by omega, by go_num⟩
          case measure => simp [intOf]; omega
        · have q1 := Q1.out; have q2 := Q2.out; have en := EN.out; have ea := EA.out
          cases A with
          | none =>
            obtain rfl := HAN.out rfl
            go_wp2_with fail
            refine HC2.out.mono ?_
            rintro e w' ⟨rfl, rfl⟩
            go_wp2_with fail
            go_ret
            exact ⟨rfl, b1⟩
          | some ad =>
            go_wp2_with fail
            refine HC2.out.mono ?_
            rintro e w' ⟨rfl, rfl⟩
            go_wp2_with fail
            go_ret
            exact ⟨rfl, b1⟩

theorem choice_many (n a x y : Int) (A : Option Addr) (c len : Nat) (st : Int) (w : World) (hw : Wd w) (hl : 50 < len) (hm : len ≤ maxLen) :
    Calls Tryd.prog 5 #[.int .i64 n, .int .i64 a, .int .i64 x, .int .i64 y, .slice A len c, .int .i64 st] w fun e w' => e = .returned (.bool true) ∧ Below w.heap.size w w' := by
  unfold maxLen at hm
  have HA := Lib.hid (alive_any w hw)
  clear hw
  go_enter Tryd.func5, Tryd.ntmps5
  go_wp2_with fail
  refine HA.out.mono ?_
  rintro e w1 ⟨rfl, b1⟩
  go_wp2_with fail
  go_ret
  exact ⟨rfl, b1⟩

theorem choice_top (n a x y : Int) (A : Option Addr) (len cap : Nat) (z : List Int) (st : Int) (w : World) (hw : Wd w ∧ Hs w) (wn : (Lit.int .i64 n).wf = true) (wa : (Lit.int .i64 a).wf = true) (_ : (Lit.int .i64 x).wf = true) (_ : (Lit.int .i64 y).wf = true) (hr : IsRow .i64 w A len cap z) (ws : (Lit.int .i64 st).wf = true) :
    Calls Tryd.prog 5 #[.int .i64 n, .int .i64 a, .int .i64 x, .int .i64 y, .slice A len cap, .int .i64 st] w fun e w' => e = .returned (.bool true) ∧ Below w.heap.size w w' := by
  have hA : A = none → cap = 0 := by
    rcases hr with ⟨_, _, h, _⟩ | ⟨u, h, _⟩
    · exact fun _ => h
    · intro e; rw [h] at e; cases e
  obtain ⟨l, rfl, hc, hm, hz, _⟩ := hr.ints
  by_cases hl : l.length ≤ 50
  · exact choice_walk n a x y A cap l st w hw.1 hw.2 wn wa hz hl hc hA (bd_i64 ws).1 (bd_i64 ws).2
  · exact choice_many n a x y A cap l.length st w hw.1 (by omega) (by omega)

theorem of_laid3 {W : World} (h : laidMetH Tryd.prog Rows.flagChoiceRow.laid W) : Wd W ∧ Hs W := of_laid2 h
end Go.Proofs.YtojempihchlgfaaDoor
