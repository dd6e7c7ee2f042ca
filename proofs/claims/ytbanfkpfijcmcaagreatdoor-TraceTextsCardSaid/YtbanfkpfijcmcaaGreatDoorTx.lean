/- Text, walked; the first example. -/
import Derived.Test.YtbanfkpfijcmcaaGreatDoorLo
namespace Go.Proofs.YtbanfkpfijcmcaaGreatDoor
open Go.RowKit
set_option linter.unusedSimpArgs false
set_option linter.unusedVariables false
set_option maxRecDepth 100000

theorem may_kd {x : En} (h : mayF x = true) : x.kd = 1 ∨ x.kd = 2 ∨ x.kd = 3 ∨ x.kd = 4 := by
  unfold mayF at h
  simp only [Bool.and_eq_true] at h
  have h2 := h.2
  split at h2
  · omega
  · split at h2
    · omega
    · split at h2
      · omega
      · split at h2
        · omega
        · cases h2
theorem may_dt {x : En} (h : mayF x = true) : x.dt.length ≤ 65536 := by
  unfold mayF at h
  simp only [Bool.and_eq_true] at h
  have h2 := h.2
  split at h2
  · have := of_decide_eq_true h2; rw [this.2.2.2]; simp
  · split at h2
    · have := of_decide_eq_true h2; rw [this.2.2.2]; simp
    · split at h2
      · have := of_decide_eq_true h2; omega
      · split at h2
        · have := of_decide_eq_true h2; rw [this.2.2]; simp
        · cases h2
theorem line_any (x : En) (dv : Value) (w : World) (hE : Ev w) (hd : DataAt w dv x.dt) (ok : EnOk x) (hm : mayF x = true) :
    Calls Tryz.prog 30 #[.agg #[.int .i64 x.kd, .int .u64 x.tk, .int .i64 x.id, .int .i64 x.fl, .int .i64 x.nn, .int .i64 x.er, dv]] w fun e w' => e = .returned (.string ⟨(lineL x).toArray⟩) ∧ Below w.heap.size w w' := by
  have hk := may_kd hm
  have hl := may_dt hm
  obtain ⟨kd, tk, id, fl, nn, er, dt⟩ := x
  obtain ⟨_, ⟨t0, t1⟩, i0, _, n0, e0⟩ := ok
  simp only at hk hl hd t0 t1 i0 n0 e0 ⊢
  obtain ⟨t, rfl⟩ : ∃ t : Nat, tk = t := ⟨tk.toNat, by omega⟩
  rcases hk with rfl | rfl | rfl | rfl
  · exact line_1 t id fl nn er dt dv w hE (by omega) n0 e0
  · exact line_2 t id fl nn er dt dv w hE (by omega) n0 e0 i0
  · exact line_3 t id fl nn er dt dv w hE (by omega) n0 e0 i0 hd hl
  · exact line_4 t id fl nn er dt dv w hE (by omega) n0 e0
theorem line_len (x : En) (ok : EnOk x) (hm : mayF x = true) : (lineL x).length ≤ 1400000 := by
  have zX := hexL_len x.dt
  have hl := may_dt hm
  have zN := Lib.itoa_length_le x.nn ok.nn.1 ok.nn.2
  have zR := Lib.itoa_length_le x.er ok.er.1 ok.er.2
  have zI := Lib.itoa_length_le x.id ok.id.1 ok.id.2
  have zT := dec_len x.tk.toNat (by have := ok.tk; omega)
  have zF := tx_len x.fl
  have zW : (wordL x.kd).length ≤ 4 := by unfold wordL; split; simp; split; simp; split; simp; split <;> simp
  unfold lineL lineW
  refine Nat.le_trans (Fl.join_len [32] _ 200000 (fun y hy => ?_)) ?_
  · rcases List.mem_append.1 hy with hy | hy
    · simp only [List.mem_cons, List.not_mem_nil, or_false] at hy
      rcases hy with rfl | rfl <;> omega
    · split at hy
      · simp only [List.mem_cons, List.not_mem_nil, or_false] at hy; subst hy; omega
      · split at hy
        · simp only [List.mem_cons, List.not_mem_nil, or_false] at hy; rcases hy with rfl | rfl | rfl <;> omega
        · split at hy
          · simp only [List.mem_cons, List.not_mem_nil, or_false] at hy; rcases hy with rfl | rfl | rfl | rfl <;> omega
          · simp only [List.mem_cons, List.not_mem_nil, or_false] at hy; rcases hy with rfl | rfl <;> omega
  · rw [List.length_append]
    have : (if x.kd = 1 then [Lib.itoa x.nn] else if x.kd = 2 then [Lib.itoa x.id, Fl.txL 0 x.fl, Lib.itoa x.nn] else if x.kd = 3 then [Lib.itoa x.id, Lib.itoa x.nn, Lib.itoa x.er, hexL x.dt] else [Lib.itoa x.nn, Lib.itoa x.er]).length ≤ 4 := by
      split; simp; split; simp; split <;> simp
    simp only [List.length_cons, List.length_nil]
    omega
theorem ib_keep {B b : Nat} {bs : List Value} {w w' : World} (h : IB B b bs w) (hb : Below w.heap.size w w') : IB B b bs w' := by
  rcases h with ⟨h1, v, h2, h3, h4⟩ | ⟨h1, v, h2, h3, h4⟩
  · exact .inl ⟨h1, v, (hb.block _ (lt_of_block h2)).trans h2, row_keep h3 hb, h4⟩
  · exact .inr ⟨h1, v, (hb.block _ (lt_of_block h2)).trans h2, row_keep h3 hb, h4⟩
theorem text_snoc (l : List En) (k : Nat) (x : En) (h : l[k]? = some x) : textF (l.take (k + 1)) = textF (l.take k) ++ (lineL x ++ [10]) := by
  unfold textF; rw [List.take_add_one, h]; simp
theorem allOk_at {l : List En} {n k : Nat} (h : allOk l n = true) (hk : k < n) {x : En} (hx : l[k]? = some x) : mayF x = true := by
  unfold allOk at h
  have := List.all_eq_true.1 h k (List.mem_range.2 hk)
  unfold okAt at this
  rw [hx] at this
  simp only [Bool.and_eq_true] at this
  exact this.1
theorem text_len (M : Nat) (l : List En) (k : Nat) (h : ∀ j x, j < k → l[j]? = some x → (lineL x).length ≤ M) : (textF (l.take k)).length ≤ k * (M + 1) := by
  induction k with
  | zero => simp [textF]
  | succ k ih =>
    have ih2 := ih (fun j x hj hx => h j x (by omega) hx)
    cases hx : l[k]? with
    | none =>
      have : l.length ≤ k := List.getElem?_eq_none_iff.1 hx
      rw [List.take_of_length_le (by omega)] at ih2 ⊢
      rw [Nat.succ_mul]
      omega
    | some x =>
      rw [text_snoc l k x hx]
      have := h k x (by omega) hx
      simp only [List.length_append, List.length_cons, List.length_nil]
      rw [Nat.succ_mul]
      omega
def strB (l : List UInt8) : ByteArray := ⟨l.toArray⟩
theorem cells_app (l m : List UInt8) : Lib.byteCells l ++ Lib.strCells ((⟨m.toArray⟩ : ByteArray) ++ ⟨#[10]⟩) = Lib.byteCells (l ++ (m ++ [10])) := by simp [Lib.byteCells, Lib.strCells]
theorem add_size (m : List UInt8) : ((⟨m.toArray⟩ : ByteArray) ++ ⟨#[10]⟩).size = m.length + 1 := by rw [ByteArray.size_append, mk_size]; rfl

set_option maxHeartbeats 8000000 in
theorem text_any (w : World) (va : Value) (l : List En) (ha : Rd w va l) (hE : Ev w) (hm : l.length ≤ maxLen) (hok : ∀ x ∈ l, EnOk x) :
    Calls Tryz.prog 14 #[va] w fun e w' => e = .returned (.tuple #[.string ⟨(if checkF l then textF l else []).toArray⟩, .int .i64 (errV (checkF l))]) ∧ Below w.heap.size w w' := by
  have HCK := Lib.hid (check_any w va l ha hE hm)
  obtain ⟨A, c, rfl, hac, hcm, hA⟩ := ha.one
  cases hc : checkF l
  · rw [hc] at HCK
    clear hA ha hE hc
    simp only [errV, Bool.false_eq_true, if_false] at HCK ⊢
    go_enter Tryz.func14, Tryz.ntmps14
    go_wp2_with fail
    refine HCK.out.mono ?_
    rintro e w1 ⟨rfl, b1⟩
    have B1 := Lib.hid b1; clear b1
    go_wp2_with fail
    go_ret2
    exact ⟨rfl, B1.out⟩
  · have hc2 : l.length ≤ 20000 ∧ allOk l l.length = true := by unfold checkF at hc; simpa using hc
    obtain ⟨hl, hall⟩ := hc2
    rw [hc] at HCK
    have HA := Lib.hid hA
    have HLN := Lib.hid (fun (k : Nat) (x : En) (dv : Value) (hx : l[k]? = some x) (W : World) (hW : Below w.heap.size w W) (hd : DataAt W dv x.dt) => line_any x dv W (hE.below hW) hd (hok x (List.mem_of_getElem? hx)) (allOk_at hall ((List.getElem?_eq_some_iff.1 hx).1) hx))
    have HZ := Lib.hid (fun (k : Nat) (x : En) (hx : l[k]? = some x) => line_len x (hok x (List.mem_of_getElem? hx)) (allOk_at hall ((List.getElem?_eq_some_iff.1 hx).1) hx))
    have HTL := Lib.hid (fun k => text_len 1400000 l k (fun j x _ hx => HZ.out j x hx))
    have HALL : Hid (textF (l.take l.length) = textF l) := Lib.hid (by rw [List.take_length])
    clear hA ha hE hc hall hok
    simp only [errV, if_true] at HCK ⊢
    generalize hM : l.length = n at *
    clear hM
    go_enter Tryz.func14, Tryz.ntmps14
    go_wp2_with fail
    refine HCK.out.mono ?_
    rintro e w1 ⟨rfl, b1⟩
    have B1 := Lib.hid b1
    have IB0 := Lib.hid (ib_new w1)
    have B0 := Lib.hid ((Below.refl _ w1).alloc (Nat.le_refl _) (.cells #[.pointer none, .slice none 0 0] 57))
    clear b1 HCK
    go_wp2_with fail
    go_loopw [15] (fun i wr => ∃ k : Nat, k ≤ n ∧ i = .int .i64 k ∧ Hid (IB w1.heap.size w1.heap.size (Lib.byteCells (textF (l.take k))) wr) ∧ Hid (Below w1.heap.size w1 wr)) (fun i _ => n - (intOf i).toNat)
    case atStart => exact ⟨0, Nat.zero_le _, rfl, IB0, B0⟩
    case round =>
      obtain ⟨k, hk, rfl, IBk, BEL⟩ := hrel
      by_cases hkn : k < n
      · obtain ⟨x, Ad, cd, b, off, hx, rfl, hd, hcells⟩ := HA.out k hkn
        have BW := Lib.hid (B1.out.trans (BEL.out.mono B1.out.size))
        obtain ⟨c0, c1, c2, c3, c4, c5, c6⟩ := hcells wr BW.out
        have HL1 := Lib.hid (fun W (hW : Below w.heap.size w W) => HLN.out k x (.slice Ad x.dt.length cd) hx W hW (hd.below hW))
        have HSN := Lib.hid (text_snoc l k x hx)
        have hz := HZ.out k x hx
        have ht := HTL.out k
        have hkn2 : (k : Int) < n := by omega
        clear hcells hd hx
        generalize lineL x = ln at *
        have hsz : (⟨ln.toArray⟩ : ByteArray).size = ln.length := mk_size ln
        have sx := new_block wr (.cells #[.int .i64 x.kd, .int .u64 x.tk, .int .i64 x.id, .int .i64 x.fl, .int .i64 x.nn, .int .i64 x.er, .slice Ad x.dt.length cd] 28)
        have BX := Lib.hid (((Below.refl wr.heap.size wr).alloc (Nat.le_refl _) (.cells #[.int .i64 x.kd, .int .u64 x.tk, .int .i64 x.id, .int .i64 x.fl, .int .i64 x.nn, .int .i64 x.er, .slice Ad x.dt.length cd] 28)))
        go_wp2_with fail
        refine (HL1.out _ (BW.out.trans (BX.out.mono BW.out.size))).mono ?_
        rintro e w2 ⟨rfl, b2⟩
        have BY := Lib.hid (BX.out.trans (b2.mono BX.out.size))
        have IBy := Lib.hid (ib_keep IBk.out BY.out)
        have BZ := Lib.hid (BEL.out.trans (BY.out.mono BEL.out.size))
        clear b2 sx c0 c1 c2 c3 c4 c5 c6
        have ha := add_size ln
        have hk2 : k * (1400000 + 1) ≤ 20000 * (1400000 + 1) := Nat.mul_le_mul_right _ (by omega)
        have hlen : (Lib.byteCells (textF (l.take k))).length + ((⟨ln.toArray⟩ : ByteArray) ++ ⟨#[10]⟩).size ≤ 140737488355328 := by
          rw [Lib.byteCells_length, ha]; omega
        go_wp2_with fail
        refine (wstr_any _ _ _ _ _ IBy.out hlen BZ.out.size).mono ?_
        rintro e w3 ⟨rfl, ib3, b3⟩
        rw [cells_app, ← HSN.out] at ib3
        have IB3 : Hid (IB w1.heap.size w1.heap.size (Lib.byteCells (textF (l.take (k + 1)))) w3) := Lib.hid (.inr ib3)
        have B3 := Lib.hid (BZ.out.trans b3)
        clear ib3 b3
        go_wp2_with fail
        go_roundw
        case rel => exact ⟨k + 1, by omega, by go_num, IB3, B3⟩
        case measure => simp [intOf]; omega
      · obtain rfl : k = n := by omega
        have IB4 : Hid (IB w1.heap.size w1.heap.size (Lib.byteCells (textF l)) wr) := Lib.hid (by have := IBk.out; rw [HALL.out] at this; exact this)
        clear IBk
        go_wp2_with fail
        refine (Tryz.Builder_String_any _ _ _ _ IB4.out BEL.out.size).mono ?_
        rintro e w3 ⟨rfl, b3⟩
        have B3 := Lib.hid (B1.out.trans ((BEL.out.trans b3).mono B1.out.size))
        clear b3
        go_wp2_with fail
        go_ret2
        exact ⟨rfl, B3.out⟩
end Go.Proofs.YtbanfkpfijcmcaaGreatDoor
