/- may, whatever the entry. -/
import Derived.Test.YtbanfkpfijcmcaaGreatDoorMy
namespace Go.Proofs.YtbanfkpfijcmcaaGreatDoor
open Go.RowKit
set_option linter.unusedSimpArgs false
set_option linter.unusedVariables false
set_option maxRecDepth 100000

set_option maxHeartbeats 4000000 in
theorem may_else (kd tk id fl nn er : Int) (dt : List UInt8) (dv : Value) (w : World) (h1 : kd ≠ 1) (h2 : kd ≠ 2) (h3 : kd ≠ 3) (h4 : kd ≠ 4) :
    Calls Tryz.prog 20 #[.agg #[.int .i64 kd, .int .u64 tk, .int .i64 id, .int .i64 fl, .int .i64 nn, .int .i64 er, dv]] w fun e w' => e = .returned (.bool (mayF ⟨kd, tk, id, fl, nn, er, dt⟩)) ∧ Below w.heap.size w w' := by
  have hm : mayF ⟨kd, tk, id, fl, nn, er, dt⟩ = false := by unfold mayF; simp [h1, h2, h3, h4]
  rw [hm]
  clear hm
  have B0 := Lib.hid (((Below.refl _ w).alloc (Nat.le_refl _) (.cells #[.int .i64 kd, .int .u64 tk, .int .i64 id, .int .i64 fl, .int .i64 nn, .int .i64 er, dv] 28)).alloc (by simp) (.cells #[.int .i64 kd, .int .u64 tk, .int .i64 0, .int .i64 0, .int .i64 nn, .int .i64 0, .slice none 0 0] 28))
  have e1 : (kd == 1) = false := beq_eq_false_iff_ne.2 h1
  have e2 : (kd == 2) = false := beq_eq_false_iff_ne.2 h2
  have e3 : (kd == 3) = false := beq_eq_false_iff_ne.2 h3
  have e4 : (kd == 4) = false := beq_eq_false_iff_ne.2 h4
  go_enter Tryz.func20, Tryz.ntmps20
  go_wp2_with fail
  go_ret
  exact ⟨rfl, B0.out⟩
set_option maxHeartbeats 4000000 in
theorem may_two (tk id fl nn er : Int) (dt : List UInt8) (dv : Value) (w : World) (hE : Ev w) (h : fl < 0 ∨ 64 ≤ fl) :
    Calls Tryz.prog 20 #[.agg #[.int .i64 2, .int .u64 tk, .int .i64 id, .int .i64 fl, .int .i64 nn, .int .i64 er, dv]] w fun e w' => e = .returned (.bool (mayF ⟨2, tk, id, fl, nn, er, dt⟩)) ∧ Below w.heap.size w w' := by
  have hm : mayF ⟨2, tk, id, fl, nn, er, dt⟩ = false := by unfold mayF; simp; omega
  rw [hm]
  clear hm
  have B0 := Lib.hid (((Below.refl _ w).alloc (Nat.le_refl _) (.cells #[.int .i64 2, .int .u64 tk, .int .i64 id, .int .i64 fl, .int .i64 nn, .int .i64 er, dv] 28)).alloc (by simp) (.cells #[.int .i64 2, .int .u64 tk, .int .i64 0, .int .i64 0, .int .i64 nn, .int .i64 0, .slice none 0 0] 28))
  have HT := Lib.hid (fun W (hW : Below w.heap.size w W) => Fl.Text_any fl W (hE.below hW).f)
  have htE : Fl.txE 0 fl = 50 := by unfold Fl.txE; rw [if_pos (by show (fl < 0 ∨ (2:Int) ^ Fl.nT 0 ≤ fl); have : (2:Int) ^ Fl.nT 0 = 64 := (by decide); omega)]
  unfold Fl.RT at HT
  rw [htE] at HT
  generalize (⟨(Fl.txL 0 fl).toArray⟩ : ByteArray) = ft at HT
  clear htE hE h
  go_enter Tryz.func20, Tryz.ntmps20
  go_wp2_with fail
  refine (HT.out _ B0.out).mono ?_
  rintro e w3 ⟨rfl, b3⟩
  have B3 := Lib.hid (B0.out.trans (b3.mono B0.out.size))
  clear b3
  go_wp2_with fail
  go_ret
  exact ⟨rfl, B3.out⟩
set_option maxHeartbeats 4000000 in
theorem may_three (tk id fl nn er : Int) (dt : List UInt8) (dv : Value) (w : World) (hd : DataAt w dv dt) (h : 100 ≤ nn ∨ 65536 < dt.length) :
    Calls Tryz.prog 20 #[.agg #[.int .i64 3, .int .u64 tk, .int .i64 id, .int .i64 fl, .int .i64 nn, .int .i64 er, dv]] w fun e w' => e = .returned (.bool (mayF ⟨3, tk, id, fl, nn, er, dt⟩)) ∧ Below w.heap.size w w' := by
  have hm : mayF ⟨3, tk, id, fl, nn, er, dt⟩ = false := by unfold mayF; simp; omega
  rw [hm]
  clear hm
  obtain ⟨A, c, rfl, -, -, -, -⟩ := hd
  have B0 := Lib.hid (((Below.refl _ w).alloc (Nat.le_refl _) (.cells #[.int .i64 3, .int .u64 tk, .int .i64 id, .int .i64 fl, .int .i64 nn, .int .i64 er, .slice A dt.length c] 28)).alloc (by simp) (.cells #[.int .i64 3, .int .u64 tk, .int .i64 0, .int .i64 0, .int .i64 nn, .int .i64 0, .slice none 0 0] 28))
  by_cases hn : 100 ≤ nn
  · have hn2 : 99 < nn := by omega
    go_enter Tryz.func20, Tryz.ntmps20
    go_wp2_with fail
    go_ret
    exact ⟨rfl, B0.out⟩
  · have hn2 : ¬ 99 < nn := by omega
    have hl2 : (65536 : Int) < dt.length := by omega
    go_enter Tryz.func20, Tryz.ntmps20
    go_wp2_with fail
    go_ret
    exact ⟨rfl, B0.out⟩
theorem may_any (x : En) (dv : Value) (w : World) (hE : Ev w) (hd : DataAt w dv x.dt) :
    Calls Tryz.prog 20 #[.agg #[.int .i64 x.kd, .int .u64 x.tk, .int .i64 x.id, .int .i64 x.fl, .int .i64 x.nn, .int .i64 x.er, dv]] w fun e w' => e = .returned (.bool (mayF x)) ∧ Below w.heap.size w w' := by
  obtain ⟨kd, tk, id, fl, nn, er, dt⟩ := x
  simp only at hd ⊢
  by_cases h1 : kd = 1
  · subst h1; exact may_1 tk id fl nn er dt dv w hd
  by_cases h2 : kd = 2
  · subst h2
    by_cases h : 0 ≤ fl ∧ fl < 64
    · exact may_2 tk id fl nn er dt dv w hE hd h
    · exact may_two tk id fl nn er dt dv w hE (by omega)
  by_cases h3 : kd = 3
  · subst h3
    by_cases h : nn < 100 ∧ dt.length ≤ 65536
    · exact may_3 tk id fl nn er dt dv w hd h
    · exact may_three tk id fl nn er dt dv w hd (by omega)
  by_cases h4 : kd = 4
  · subst h4; exact may_4 tk id fl nn er dt dv w hd
  exact may_else kd tk id fl nn er dt dv w h1 h2 h3 h4
end Go.Proofs.YtbanfkpfijcmcaaGreatDoor
