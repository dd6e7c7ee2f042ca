/- number and data: what they hand back, or that they panic. -/
import Derived.Test.YtbanfkpfijcmcaaGreatDoorTx
import Derived.Defers
import Derived.Recover
import Derived.WalkSmall
namespace Go.Proofs.YtbanfkpfijcmcaaGreatDoor
open Go.RowKit
set_option linter.unusedSimpArgs false
set_option linter.unusedVariables false
set_option maxRecDepth 100000

def EvOk (ev : Value) : Prop := ev = .nilIface ∨ ∃ te pe, ev = .iface te pe
/-- What the variables hold that Parse reads. -/
structure Ep (w : World) : Prop where
  e : Ev w
  m : Fl.Mx w
  s : ∃ ev, w.cell? ⟨3, 0, none⟩ = some ev ∧ EvOk ev
  r : ∃ ev, w.cell? ⟨4, 0, none⟩ = some ev ∧ EvOk ev
theorem Ep.below {w w' : World} (h : Ep w) (hb : Below w.heap.size w w') : Ep w' := by
  obtain ⟨s, hs, hs2⟩ := h.s; obtain ⟨r, hr, hr2⟩ := h.r
  exact ⟨h.e.below hb, h.m.same (hb.block 5 h.m.lt), ⟨s, (hb.cell (p := ⟨3, 0, none⟩) (cell_lt hs).1).trans hs, hs2⟩, ⟨r, (hb.cell (p := ⟨4, 0, none⟩) (cell_lt hr).1).trans hr, hr2⟩⟩
def numF (s : ByteArray) : Option Int := match Lib.atoiAll s.data.toList with
  | .ok v => some v
  | _ => none
/-- The panic that a wrong line ends with. -/
def wrongP : List PanicEntry := [{ v := .iface 89 (.agg #[]), recovered := false }]
def NumP (s : ByteArray) (w : World) (e : Ending) (w' : World) : Prop := (match numF s with | some v => e = .returned (.int .i64 v) | none => e = .panicked wrongP) ∧ Below w.heap.size w w'

set_option maxHeartbeats 2000000 in
theorem number_any (s : ByteArray) (w : World) (hE : Ep w) (hs : s.size ≤ 281474976710656) : Calls Tryz.prog 56 #[.string s] w (NumP s w) := by
  have HE := Lib.hid hE
  cases hA : Lib.atoiAll s.data.toList
  case ok v =>
    have hn : numF s = some v := by unfold numF; rw [hA]
    unfold NumP
    rw [hn]
    have HA := Lib.hid (fun w => Tryz.strconv_Atoi_ok s (by omega) v hA w)
    clear hA hE hs hn
    go_enter Tryz.func56, Tryz.ntmps56
    go_wp2_with fail
    refine (HA.out _).mono ?_
    rintro e w1 ⟨rfl, hw1⟩
    have B1 : Hid (Below w.heap.size w w1) := Lib.hid (by rcases hw1 with rfl | ⟨t, rfl⟩; exact Below.refl _ _; exact Joins.below_bytesWorld _ _ _ _ (Nat.le_refl _))
    clear hw1
    go_wp2_with fail
    go_ret
    exact ⟨rfl, B1.out⟩
  case range =>
    obtain ⟨ev, hc, hev⟩ := hE.r
    have HA := Lib.hid (Tryz.strconv_Atoi_range s hs hA ev w hc hev)
    have hn : numF s = none := by unfold numF; rw [hA]
    unfold NumP
    rw [hn]
    clear hA hE hs hc hev hn
    generalize Lib.atoiSat s.data.toList = sat at HA
    go_enter Tryz.func56, Tryz.ntmps56
    go_wp2_with fail
    refine HA.out.mono ?_
    rintro e w1 ⟨N, rfl, -, -, b1⟩
    have B1 := Lib.hid b1; clear b1
    go_wp2_with fail
    exact ⟨rfl, rfl, B1.out⟩
  · obtain ⟨ev, hc, hev⟩ := hE.s
    have HA := Lib.hid (Tryz.strconv_Atoi_no s hs (fun v e => by rw [hA] at e; cases e) (fun e => by rw [hA] at e; cases e) ev w hc hev)
    have hn : numF s = none := by unfold numF; rw [hA]
    unfold NumP
    rw [hn]
    clear hA hE hs hc hev hn
    go_enter Tryz.func56, Tryz.ntmps56
    go_wp2_with fail
    refine HA.out.mono ?_
    rintro e w1 ⟨N, rfl, -, -, b1⟩
    have B1 := Lib.hid b1; clear b1
    go_wp2_with fail
    exact ⟨rfl, rfl, B1.out⟩
/-- The number that a digit of sixteen says. -/
def hxI (c : UInt8) : Int := Lib.indexByte hxT.data.toList c
/-- The byte that the pair in place j says. -/
def pairV (s : ByteArray) (j : Nat) : Option UInt8 :=
  if hxI (s.data.toList.getD (2 * j) 0) < 0 ∨ hxI (s.data.toList.getD (2 * j + 1) 0) < 0 then none
  else some (UInt8.ofNat (16 * (hxI (s.data.toList.getD (2 * j) 0)).toNat + (hxI (s.data.toList.getD (2 * j + 1) 0)).toNat))
def dataP (s : ByteArray) (k : Nat) : List UInt8 := (List.range k).map fun j => (pairV s j).getD 0
def dataK (s : ByteArray) (k : Nat) : Bool := (List.range k).all fun j => (pairV s j).isSome
def dataF (s : ByteArray) : Option (List UInt8) := if dataK s (s.size / 2) then some (dataP s (s.size / 2)) else none
theorem dataP_succ (s : ByteArray) (k : Nat) : dataP s (k + 1) = dataP s k ++ [(pairV s k).getD 0] := by unfold dataP; rw [List.range_succ, List.map_append]; rfl
theorem dataK_succ (s : ByteArray) (k : Nat) : dataK s (k + 1) = (dataK s k && (pairV s k).isSome) := by unfold dataK; rw [List.range_succ, List.all_append]; simp
theorem dataK_no (s : ByteArray) (k n : Nat) (hk : k < n) (h : (pairV s k).isSome = false) : dataK s n = false := by
  unfold dataK
  rw [Bool.eq_false_iff]
  intro e
  have := List.all_eq_true.1 e k (List.mem_range.2 hk)
  rw [h] at this; cases this
theorem hxI_bd (c : UInt8) : -1 ≤ hxI c ∧ hxI c < 16 := by
  have : ∀ i : Fin 256, -1 ≤ hxI (UInt8.ofNat i.val) ∧ hxI (UInt8.ofNat i.val) < 16 := by decide +kernel
  have h := this ⟨c.toNat, c.toNat_lt⟩
  simpa using h
theorem or_hx : ∀ a b : Fin 16, bits .or .i64 ((a.val : Int) * 16) (b.val : Int) = ((16 * a.val + b.val : Nat) : Int) := by decide +kernel
def DatP (s : ByteArray) (w : World) (e : Ending) (w' : World) : Prop := (match dataF s with | some d => ∃ v, e = .returned v ∧ w'.ownsRow w.heap.size 5 1 v d.length (byt d) | none => e = .panicked wrongP) ∧ Below w.heap.size w w'
set_option maxHeartbeats 4000000 in
theorem data_any (s : ByteArray) (w : World) (hs : s.size ≤ 1000000) : Calls Tryz.prog 58 #[.string s] w (DatP s w) := by
  have HI := Lib.hid (fun (x : UInt8) (W : World) => show Calls Tryz.prog 73 #[.string ⟨#[48, 49, 50, 51, 52, 53, 54, 55, 56, 57, 97, 98, 99, 100, 101, 102]⟩, .int .u8 (x.toNat : Int)] W fun e w' => e = .returned (.int .i64 (hxI x)) ∧ Below W.heap.size W w' from
    (Tryz.strings_IndexByte hxT (x.toNat : Int) W).mono fun e w' ⟨h1, h2⟩ => ⟨by rw [h1]; simp [hxI], by rw [h2]; exact Below.refl _ _⟩)
  obtain ⟨i5, hi5, hz5, hs5, hy5⟩ := info_parts info5
  have I5 := Lib.hid hi5; have Z5 := Lib.hid hz5; have S5 := Lib.hid hs5; have Y5 := Lib.hid hy5
  clear hi5 hz5 hs5 hy5
  generalize hq : s.size / 2 = q
  have HQ := Lib.hid hq
  have hq1 : 2 * q ≤ s.size := by omega
  have hq2 : s.size < 2 * q + 2 := by omega
  clear hq
  go_enter Tryz.func58, Tryz.ntmps58
  go_wp2_with fail
  go_loopw [3, 4] (fun v i wr => ∃ k m : Nat, m = 2 * k ∧ k ≤ q ∧ i = .int .i64 m ∧ Hid (dataK s k = true) ∧ Hid (wr.ownsRow w.heap.size 5 1 v k (byt (dataP s k))) ∧ Hid (Below w.heap.size w wr)) (fun _ i _ => s.size + 2 - (intOf i).toNat)
  case atStart => exact ⟨0, 0, rfl, Nat.zero_le _, rfl, Lib.hid rfl, Lib.hid (World.ownsRow_nil _ _ _ _), Lib.hid (Below.refl _ _)⟩
  case round =>
    obtain ⟨k, m, hm, hk, rfl, DK, RW, BEL⟩ := hrel
    by_cases hlt : k < q
    · have h1 : m + 1 < s.size := by omega
      have h0 : m < s.size := by omega
      have h1' : (m : Int) + 1 < s.size := by omega
      have h0' : (m : Int) < s.size := by omega
      have h2' : (0 : Int) ≤ (m : Int) + 1 := by omega
      have hw1 : IntKind.i64.wrap ((m : Int) + 1) = (m : Int) + 1 := IntWalk.i64_in _ (by omega)
      have ht1 : ((m : Int) + 1).toNat = m + 1 := by omega
      have hand : (0 : Int) ≤ (m : Int) + 1 ∧ (m : Int) + 1 < s.size := ⟨h2', h1'⟩
      have HPV : Hid (pairV s k = if hxI s[m] < 0 ∨ hxI s[m + 1] < 0 then none else some (UInt8.ofNat (16 * (hxI s[m]).toNat + (hxI s[m + 1]).toNat))) := Lib.hid (by
        have e0 : s.data.toList.getD (2 * k) 0 = s[m] := by rw [← hm, List.getD, List.getElem?_eq_getElem (by rw [Array.length_toList]; exact h0)]; rfl
        have e1 : s.data.toList.getD (2 * k + 1) 0 = s[m + 1] := by rw [← hm, List.getD, List.getElem?_eq_getElem (by rw [Array.length_toList]; exact h1)]; rfl
        unfold pairV; rw [e0, e1])
      have HB1 := Lib.hid (hxI_bd s[m]); have HB2 := Lib.hid (hxI_bd s[m + 1])
      have HM := Lib.hid hm
      have HSC := Lib.hid (dataK_succ s k); have HSP := Lib.hid (dataP_succ s k)
      have HNO := Lib.hid (dataK_no s k q hlt)
      clear hm
      go_upto_region 5 with (fail)
      go_region_held3 (fun W => Below wr.heap.size wr W)
        (first | assumption | exact Below.refl _ _ | exact (Below.refl _ _).drew | exact C1.out | exact C1.out.drew | exact C2.out | exact C2.out.drew)
        (first
          | (have _z := C1; clear _z; go_at_call 73; refine (HI.out _ _).mono ?_; rintro e u2 ⟨rfl, b⟩; have C2 : Hid (Below wr.heap.size wr u2) := Lib.hid (by first | exact C1.out.trans (b.mono C1.out.size) | exact C1.out.drew.trans (b.mono C1.out.drew.size)); clear b)
          | (go_at_call 73; refine (HI.out _ _).mono ?_; rintro e u1 ⟨rfl, b⟩; have C1 : Hid (Below wr.heap.size wr u1) := Lib.hid (by first | exact b | exact (Below.refl _ _).drew.trans b); clear b))
      all_goals
        have B2 := Lib.hid (BEL.out.trans (C2.out.mono BEL.out.size))
        have RW2 := Lib.hid (row_keep RW.out C2.out)
        generalize hxI s[m] = a at *
        generalize hxI s[m + 1] = b at *
        obtain ⟨a0, a1⟩ := HB1.out
        obtain ⟨b0, b1⟩ := HB2.out
        by_cases hneg : a < 0 ∨ b < 0
        · have HD : Hid (dataF s = none) := Lib.hid (by
            unfold dataF; rw [HQ.out, HNO.out (by rw [HPV.out, if_pos hneg]; rfl)]; rfl)
          by_cases ha : a < 0
          · clear hneg
            go_wp2_with fail
            exact ⟨rfl, by unfold DatP; rw [HD.out]; exact ⟨rfl, B2.out⟩⟩
          · have hb : b < 0 := by omega
            clear hneg
            go_wp2_with fail
            exact ⟨rfl, by unfold DatP; rw [HD.out]; exact ⟨rfl, B2.out⟩⟩
        · have HV : Hid (pairV s k = some (UInt8.ofNat (16 * a.toNat + b.toNat))) := Lib.hid (by rw [HPV.out, if_neg hneg])
          obtain ⟨an, rfl⟩ : ∃ an : Nat, a = an := ⟨a.toNat, by omega⟩
          obtain ⟨bn, rfl⟩ : ∃ bn : Nat, b = bn := ⟨b.toNat, by omega⟩
          have hor := or_hx ⟨an, by omega⟩ ⟨bn, by omega⟩
          simp only at hor
          clear hneg
          have hna : ¬ ((an : Int) < 0) := by omega
          have hnb : ¬ ((bn : Int) < 0) := by omega
          go_wp2_with (at_builtin; refine wpList_append_own _ rfl (.tmp 31) (.tmp 37) 26 rfl w.heap.size 5 i5 (.int .u8 0) 1 1 Tryz.underlying26 I5.out Z5.out S5.out Y5.out rfl (by decide) _ _ _ rfl (RW2.out.alloc _) ⟨u2.heap.size, 0, none⟩ 1 1 [.int .u8 (16 * (an : Int) + (bn : Int))] rfl rfl (cell_one_new _ _ _) (by simp [Value.oneCell']) (by unfold maxLen; omega) (by omega) (by have := B2.out.size; simp; omega) ?_; intro v3 w3 own3 gr3 _; have R3 := Lib.hid own3; have G3 := Lib.hid gr3; clear own3 gr3)
          have B3 : Hid (Below w.heap.size w w3) := Lib.hid (below_append B2.out RW2.out G3.out (Nat.le_refl _) B2.out.size)
          have R4 : Hid (w3.ownsRow w.heap.size 5 1 v3 (k + 1) (byt (dataP s (k + 1)))) := Lib.hid (by
            have e : byt (dataP s (k + 1)) = byt (dataP s k) ++ [.int .u8 (16 * (an : Int) + (bn : Int))] := by
              rw [HSP.out, HV.out, byt_append]
              simp only [byt, List.map_cons, List.map_nil, Option.getD_some, Int.toNat_natCast]
              rw [UInt8.toNat_ofNat', Nat.mod_eq_of_lt (by omega)]
              simp
            rw [e]; exact R3.out)
          have K4 : Hid (dataK s (k + 1) = true) := Lib.hid (by rw [HSC.out, DK.out, HV.out]; rfl)
          clear R3 G3 RW2
          go_wp2_with fail
          go_roundw
          case rel => exact ⟨k + 1, m + 2, by have := HM.out; omega, by omega, by go_num, K4, R4, B3⟩
          case measure => simp [intOf]; omega
    · obtain rfl : k = q := by omega
      have hl : (dataP s k).length = k := by simp [dataP]
      have HD : Hid (dataF s = some (dataP s k)) := Lib.hid (by unfold dataF; rw [HQ.out, DK.out]; rfl)
      have h1' : ¬ ((m : Int) + 1 < s.size) := by omega
      have hw1 : IntKind.i64.wrap ((m : Int) + 1) = (m : Int) + 1 := IntWalk.i64_in _ (by omega)
      have HL := Lib.hid hl; clear hl
      go_wp2_with fail
      go_ret
      refine ⟨?_, BEL.out⟩
      rw [HD.out]
      exact ⟨_, rfl, by rw [HL.out]; exact RW.out⟩
end Go.Proofs.YtbanfkpfijcmcaaGreatDoor
