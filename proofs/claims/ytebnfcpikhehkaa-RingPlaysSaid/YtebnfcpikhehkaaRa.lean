/- The reference's ring: its contracts. -/
import Derived.Test.YtebnfcpikhehkaaL
namespace Go.Proofs.Ytebnfcpikhehkaa
open Go.RowKit
set_option linter.unusedSimpArgs false
set_option linter.unusedVariables false
set_option maxRecDepth 100000

/-- Block q is a ring of the reference: its bytes are read through the slice A. -/
structure Rr (w : World) (q M : Nat) (A : Option Addr) (cap : Nat) (L : List Int) (ip op : Nat) : Prop where
  k : w.heap[q]? = some (.cells #[.int .i64 M, .slice A L.length cap, .int .u64 ip, .int .u64 op] 43 (0, 0))
  i : Ints .u8 w A L
  c : L.length ≤ cap
  m : cap ≤ maxLen
  z : A = none → cap = 0
theorem Rr.cells {w : World} {q M : Nat} {A : Option Addr} {cap : Nat} {L : List Int} {ip op : Nat} (h : Rr w q M A cap L ip op) :
    w.cell? ⟨q, 0, none⟩ = some (.int .i64 M) ∧ w.cell? ⟨q, 1, none⟩ = some (.slice A L.length cap) ∧ w.cell? ⟨q, 2, none⟩ = some (.int .u64 ip) ∧ w.cell? ⟨q, 3, none⟩ = some (.int .u64 op) ∧
    w.frozen? ⟨q, 0, none⟩ = false ∧ w.frozen? ⟨q, 1, none⟩ = false ∧ w.frozen? ⟨q, 2, none⟩ = false ∧ w.frozen? ⟨q, 3, none⟩ = false := by
  have k := h.k
  simp [World.cell?, World.frozen?, k]
theorem Rr.lt {w : World} {q M : Nat} {A : Option Addr} {cap : Nat} {L : List Int} {ip op : Nat} (h : Rr w q M A cap L ip op) : q < w.heap.size := (Array.getElem?_eq_some_iff.1 h.k).1
theorem Rr.below {w w' : World} {q M : Nat} {A : Option Addr} {cap : Nat} {L : List Int} {ip op : Nat} (h : Rr w q M A cap L ip op) (hb : Below w.heap.size w w') : Rr w' q M A cap L ip op :=
  ⟨(hb.block _ h.lt).trans h.k, h.i.below hb, h.c, h.m, h.z⟩

theorem row_step (zs : List Int) (k : Nat) (h : k < zs.length) : zs.take (k + 1) = zs.take k ++ [zs.getD k 0] := by
  rw [List.take_succ_eq_append_getElem h]
  simp [List.getD, h]

set_option maxHeartbeats 1000000 in
theorem rnew_ok (C : Nat) (w : World) (h : C ≤ 65536) : Calls Try.prog 20 #[.int .i64 C] w fun e w' => e = .returned (.tuple #[.agg #[.int .i64 C, .slice none 0 0, .int .u64 0, .int .u64 0], .int .i64 0]) ∧ Below w.heap.size w w' := by
  go_enter Try.func20, Try.ntmps20
  go_wp2_with fail
  refine bodyPost_ret (v := .tuple #[.agg #[.int .i64 C, .slice none 0 0, .int .u64 0, .int .u64 0], .int .i64 0]) (by simp [results, Try.results20, go_sem]) rfl ⟨rfl, ?_⟩
  exact (Below.refl _ _).alloc (Nat.le_refl _) _
set_option maxHeartbeats 1000000 in
theorem rnew_bad (c : Int) (w : World) (h : c < 0 ∨ 65536 < c) : Calls Try.prog 20 #[.int .i64 c] w fun e w' => e = .returned (.tuple #[.agg #[.int .i64 0, .slice none 0 0, .int .u64 0, .int .u64 0], .int .i64 2]) ∧ Below w.heap.size w w' := by
  by_cases h1 : c < 0
  case' neg =>
    have h1 : 0 ≤ c := by omega
    have h2 : 65536 < c := by omega
  all_goals
    clear h
    go_enter Try.func20, Try.ntmps20
    go_wp2_with fail
    refine bodyPost_ret (v := .tuple #[.agg #[.int .i64 0, .slice none 0 0, .int .u64 0, .int .u64 0], .int .i64 2]) (by simp [results, Try.results20, go_sem]) rfl ⟨rfl, ?_⟩
    exact (Below.refl _ _).alloc (Nat.le_refl _) _

set_option maxHeartbeats 2000000 in
theorem rlook_any (q M : Nat) (A : Option Addr) (cap : Nat) (L : List Int) (ip op : Nat) (m : Int) (w : World) (h : Rr w q M A cap L ip op) (hL : L.length ≤ 65536) :
    Calls Try.prog 23 #[.pointer (some ⟨q, 0, none⟩), .int .i64 m] w fun e w' => (∃ v, e = .returned v ∧ Got w' w.heap.size v (L.take m.toNat)) ∧ Below w.heap.size w w' := by
  obtain ⟨i5, hi5, hz5, hs5, hy5⟩ := info_parts info5
  have I9 := Lib.hid hi5; have Z9 := Lib.hid hz5; have S9 := Lib.hid hs5; have Y9 := Lib.hid hy5
  clear hi5 hz5 hs5 hy5
  have HI := Lib.hid h.i
  obtain ⟨c0, c1, c2, c3, z0, z1, z2, z3⟩ := h.cells
  have hq := h.lt
  have hcap := h.m
  have hcl := h.c
  unfold maxLen at hcap
  clear h c0 c2 c3 z0 z1 z2 z3
  have C1 : Hid (∀ W, Below w.heap.size w W → W.cell? ⟨q, 1, none⟩ = some (.slice A L.length cap)) := Lib.hid (fun W hb => (hb.cell (p := ⟨q, 1, none⟩) hq).trans c1)
  clear c1
  generalize hln : L.length = ln at *
  have HL := Lib.hid hln; clear hln
  go_enter Try.func23, Try.ntmps23
  go_wp2_with fail
  go_loopw [5, 6] (fun v i wr => ∃ k : Nat, k ≤ ln ∧ (k : Int) ≤ max m 0 ∧ i = .int .i64 k ∧ wr.ownsRow w.heap.size 5 1 v k ((L.take k).map (Value.int .u8)) ∧ Below w.heap.size w wr) (fun _ i _ => ln - (intOf i).toNat)
  case atStart => exact ⟨0, by omega, by omega, rfl, World.ownsRow_nil _ _ _ _, Below.refl _ _⟩
  case round =>
    obtain ⟨k, hk, hkm, rfl, hown, hb⟩ := hrel
    have c1 := C1.out wr hb
    have hsz := hb.size
    by_cases h1 : (k : Int) < m
    · by_cases h2 : k < ln
      · have hst := row_step L k (by have := HL.out; omega)
        obtain ⟨b, off, rfl, hbl, hc⟩ := HI.out (by have := HL.out; omega)
        have hck := (hb.cell (p := ⟨b, off + k, none⟩) hbl).trans (hc k (by have := HL.out; omega))
        generalize L.getD k 0 = x at *
        have HST := Lib.hid hst
        clear hst hc
        obtain ⟨A', c', rfl, hc'⟩ := row_form hown
        go_wp2_with (at_builtin; refine wpList_append_own _ rfl _ _ 22 rfl w.heap.size 5 i5 (.int .u8 0) 1 1 Try.underlying22 I9.out Z9.out S9.out Y9.out rfl (by decide) _ _ _ rfl (hown.alloc _) ⟨wr.heap.size, 0, none⟩ 1 1 [.int .u8 x] rfl rfl (cell_one_new _ _ _) (by simp [Value.oneCell']) (by unfold maxLen; omega) (by omega) (by simp; omega) ?_; intro v' w5 hown' hgrow _; have hb5 := below_append hb hown hgrow (Nat.le_refl _) hsz; clear hgrow)
        go_roundw
        case rel => exact ⟨k + 1, by omega, by omega, by go_num, by rw [HST.out, List.map_append]; exact hown', hb5⟩
        case measure => simp [intOf]; omega
      · have h2 : ln ≤ k := by omega
        obtain rfl : k = ln := by omega
        obtain ⟨A', c', rfl, hc'⟩ := row_form hown
        go_wp2_with fail
        go_ret
        have e : L.take m.toNat = L := List.take_of_length_le (by have := HL.out; omega)
        refine ⟨⟨_, rfl, ?_⟩, hb⟩
        unfold Got
        rw [e, HL.out]
        rw [List.take_of_length_le (by have := HL.out; omega)] at hown
        exact hown
    · have h1' : m ≤ (k : Int) := by omega
      have hkm2 : k = min m.toNat ln := by omega
      obtain ⟨A', c', rfl, hc'⟩ := row_form hown
      have HK := Lib.hid hkm2
      clear hkm2
      go_wp2_with fail
      all_goals
        go_ret
        have e : L.take m.toNat = L.take k := by
          have := HK.out; have := HL.out
          rw [HK.out]
          by_cases hh : m.toNat ≤ ln
          · rw [Nat.min_eq_left hh]
          · rw [Nat.min_eq_right (by omega), List.take_of_length_le (by omega), List.take_of_length_le (by omega)]
        refine ⟨⟨_, rfl, ?_⟩, hb⟩
        unfold Got
        rw [e]
        have e2 : (L.take k).length = k := by have := HL.out; rw [List.length_take]; omega
        rw [e2]
        exact hown
end Go.Proofs.Ytebnfcpikhehkaa
