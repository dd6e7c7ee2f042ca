/- hex. -/
import Derived.Test.YtbanfkpfijcmcaaDoorFu
namespace Go.Proofs.YtbanfkpfijcmcaaDoor
open Go.RowKit
set_option linter.unusedSimpArgs false
set_option linter.unusedVariables false
set_option maxRecDepth 100000

def hxT : ByteArray := ⟨#[48, 49, 50, 51, 52, 53, 54, 55, 56, 57, 97, 98, 99, 100, 101, 102]⟩
def hxD (i : Nat) : UInt8 := hxT.data.toList.getD i 0
def hx2 (b : UInt8) : List UInt8 := [hxD (b.toNat / 16), hxD (b.toNat % 16)]
def hexL (d : List UInt8) : List UInt8 := if d = [] then [45] else d.flatMap hx2
theorem hex_snoc (d : List UInt8) (k : Nat) (x : UInt8) (h : d[k]? = some x) : (d.take (k + 1)).flatMap hx2 = (d.take k).flatMap hx2 ++ hx2 x := by
  rw [List.take_add_one, h]; simp
theorem hex_len (d : List UInt8) : (d.flatMap hx2).length = 2 * d.length := by
  induction d with
  | nil => rfl
  | cons a d ih => rw [List.flatMap_cons, List.length_append, ih]; simp [hx2]; omega

theorem hx_at (i : Nat) (h : i < 16) (hz : i < hxT.size) : hxT[i]'hz = hxD i := by
  unfold hxD
  rw [List.getD_eq_getElem?_getD, List.getElem?_eq_getElem (by rw [Array.length_toList]; exact hz)]
  rfl
theorem cells_two (l : List UInt8) (a b : UInt8) : Lib.byteCells l ++ [.int .u8 (a.toNat : Int)] ++ [.int .u8 (b.toNat : Int)] = Lib.byteCells (l ++ [a, b]) := by simp [Lib.byteCells]
set_option maxHeartbeats 2000000 in
theorem hex_any (w : World) (v : Value) (d : List UInt8) (h : DataAt w v d) (hl : d.length ≤ 65536) :
    Calls Tryd.prog 28 #[v] w fun e w' => e = .returned (.string ⟨(hexL d).toArray⟩) ∧ Below w.heap.size w w' := by
  obtain ⟨A, c, rfl, hc, hm, hn, hcell⟩ := h
  by_cases h0 : d.length = 0
  · obtain rfl : d = [] := List.eq_nil_of_length_eq_zero h0
    go_enter Tryd.func28, Tryd.ntmps28
    go_wp2_with fail
    go_ret
    exact ⟨rfl, Below.refl _ _⟩
  · have HC := Lib.hid hcell; clear hcell
    have HN := Lib.hid hn; clear hn
    have IB0 := Lib.hid (ib_new w)
    have B0 := Lib.hid ((Below.refl _ w).alloc (Nat.le_refl _) (.cells #[.pointer none, .slice none 0 0] 43))
    have hd0 : ((d.length : Int) == 0) = false := beq_eq_false_iff_ne.2 (by omega)
    go_enter Tryd.func28, Tryd.ntmps28
    go_wp2_with fail
    go_loopw [11] (fun i wr => ∃ k : Nat, k ≤ d.length ∧ i = .int .i64 k ∧ IB w.heap.size w.heap.size (Lib.byteCells ((d.take k).flatMap hx2)) wr ∧ Below w.heap.size w wr) (fun i _ => d.length - (intOf i).toNat)
    case atStart => exact ⟨0, Nat.zero_le _, rfl, IB0.out, B0.out⟩
    case round =>
      obtain ⟨k, hk, rfl, ib, bel⟩ := hrel
      have IBk := Lib.hid ib; have BEL := Lib.hid bel; clear ib bel
      by_cases hlt : k < d.length
      · obtain ⟨g, off, rfl, hg, hcc⟩ := HC.out (by omega)
        have ck := (BEL.out.cell (p := ⟨g, off + k, none⟩) hg).trans (hcc k _ (List.getElem?_eq_getElem hlt))
        have HSN := Lib.hid (hex_snoc d k _ (List.getElem?_eq_getElem hlt))
        clear hcc
        generalize d[k] = x at ck HSN
        have hx8 : x.toNat < 256 := x.toNat_lt
        go_wp2_with fail
        have hlen : (Lib.byteCells ((d.take k).flatMap hx2)).length ≤ 131072 := by rw [Lib.byteCells_length, hex_len, List.length_take]; omega
        refine (wbyte_any _ _ _ _ _ IBk.out (by omega) BEL.out.size).mono ?_
        rintro e w1 ⟨rfl, ib1, bel1⟩
        have IB1 := Lib.hid ib1; have B1 := Lib.hid (BEL.out.trans bel1)
        clear ib1 bel1
        go_wp2_with fail
        refine (wbyte_any _ _ _ _ _ (.inr IB1.out) (by simp only [List.length_append, List.length_singleton]; omega) B1.out.size).mono ?_
        rintro e w2 ⟨rfl, ib2, bel2⟩
        have e2 : Lib.byteCells ((d.take k).flatMap hx2) ++ [Value.int .u8 ((hxT[x.toNat / 16]'(by show _ < 16; omega)).toNat : Int)] ++ [Value.int .u8 ((hxT[x.toNat % 16]'(by show _ < 16; omega)).toNat : Int)] = Lib.byteCells ((d.take (k + 1)).flatMap hx2) := by
          rw [HSN.out, hx_at _ (by omega), hx_at _ (by omega), cells_two]
          rfl
        have ib3 : BA w.heap.size w.heap.size (me w.heap.size) (Lib.byteCells ((d.take (k + 1)).flatMap hx2)) w2 := e2 ▸ ib2
        have IB2 := Lib.hid ib3; have B2 := Lib.hid (B1.out.trans bel2)
        clear ib2 bel2 ib3 e2
        go_wp2_with fail
        go_roundw
        case rel => exact ⟨k + 1, by omega, by go_num, .inr IB2.out, B2.out⟩
        case measure => simp [intOf]; omega
      · have hk2 : d.take k = d := List.take_of_length_le (by omega)
        have IB3 : Hid (IB w.heap.size w.heap.size (Lib.byteCells (hexL d)) wr) := Lib.hid (by have := IBk.out; rw [hk2] at this; unfold hexL; rw [if_neg (fun h => h0 (by rw [h]; rfl))]; exact this)
        clear hk2 IBk
        go_wp2_with fail
        refine (Tryd.Builder_String_any _ _ _ _ IB3.out BEL.out.size).mono ?_
        rintro e w1 ⟨rfl, bel1⟩
        have B1 := Lib.hid (BEL.out.trans bel1)
        clear bel1
        go_wp2_with fail
        go_ret
        exact ⟨rfl, B1.out⟩
end Go.Proofs.YtbanfkpfijcmcaaDoor
