/- The document's hex. -/
import Derived.Test.YtbanfkpfijcmcaaGreatDoorGw
namespace Go.Proofs.YtbanfkpfijcmcaaGreatDoor
open Go.RowKit
set_option linter.unusedSimpArgs false
set_option linter.unusedVariables false
set_option maxRecDepth 100000

def hxS : ByteArray := ⟨#[48, 49, 50, 51, 52, 53, 54, 55, 56, 57, 97, 98, 99, 100, 101, 102]⟩
theorem hx_sub : ∀ k : Fin 16, hxS.extract k.val (k.val + 1) = ⟨#[hxD k.val]⟩ := by decide +kernel
def hxP (d : List UInt8) (k : Nat) : ByteArray := ⟨((d.take k).flatMap hx2).toArray⟩
theorem hxP_next {d : List UInt8} {k : Nat} {b : UInt8} (h : d[k]? = some b) : hxP d k ++ ⟨#[hxD (b.toNat / 16)]⟩ ++ ⟨#[hxD (b.toNat % 16)]⟩ = hxP d (k + 1) := by
  unfold hxP
  rw [str_snoc, str_snoc, List.take_add_one, h]
  simp [hx2]
theorem hxP_size (d : List UInt8) (k : Nat) : (hxP d k).size ≤ 2 * k := by
  unfold hxP
  rw [mk_size, hex_len, List.length_take]; omega
theorem hxP_end (d : List UInt8) (h : d ≠ []) : hxP d d.length = ⟨(hexL d).toArray⟩ := by
  unfold hxP hexL
  rw [List.take_length, if_neg h]

set_option maxHeartbeats 4000000 in
theorem rhex_any (w : World) (A : Option Addr) (c : Nat) (d : List UInt8) (hd : DataAt w (.slice A d.length c) d) (hl : d.length ≤ 65536) : Calls Tryz.prog 48 #[.slice A d.length c] w fun e w' => e = .returned (.string ⟨(hexL d).toArray⟩) ∧ Below w.heap.size w w' := by
  obtain ⟨A', c', e1, h1, h2, hn, h3⟩ := hd
  cases e1
  by_cases h0 : d = []
  · subst h0
    go_enter Tryz.func48, Tryz.ntmps48
    go_wp2_with fail
    go_ret
    exact ⟨rfl, Below.refl _ _⟩
  · have hpos : 0 < d.length := List.length_pos_iff.2 h0
    obtain ⟨b, off, rfl, hb, hc⟩ := h3 hpos
    have HEND := Lib.hid (hxP_end d h0)
    have HC := Lib.hid hc
    have HSZ := Lib.hid (fun k => hxP_size d k)
    have HNX := Lib.hid (fun k x (h : d[k]? = some x) => hxP_next h)
    have HAT : Hid (∀ k, k < d.length → ∃ x, d[k]? = some x) := Lib.hid (fun k h => ⟨_, List.getElem?_eq_getElem h⟩)
    clear h3 hc hn h0
    generalize hM : d.length = n at *
    have hne : ¬ (n : Int) = 0 := by omega
    have hne2 : ((n : Int) == 0) = false := beq_eq_false_iff_ne.2 hne
    have HM := Lib.hid hM
    clear hM
    go_enter Tryz.func48, Tryz.ntmps48
    go_wp2_with fail
    go_loopw [4, 5] (fun s i wr => ∃ (k : Nat) (S : ByteArray), k ≤ n ∧ i = .int .i64 k ∧ s = .string S ∧ Hid (S = hxP d k) ∧ Hid (Below w.heap.size w wr)) (fun _ i _ => n - (intOf i).toNat)
    case atStart => exact ⟨0, ⟨#[]⟩, Nat.zero_le _, rfl, rfl, Lib.hid rfl, Lib.hid (Below.refl _ _)⟩
    case round =>
      obtain ⟨k, S, hk, rfl, rfl, hS, hB⟩ := hrel
      by_cases hkn : k < n
      · have hkn' : (k : Int) < n := by omega
        have hss : S.size ≤ 131072 := by have := HSZ.out k; rw [hS.out]; omega
        obtain ⟨x, hx⟩ := HAT.out k hkn
        have cx := (hB.out.cell (p := ⟨b, off + k, none⟩) hb).trans (HC.out k x hx)
        have HN := Lib.hid (HNX.out k x hx)
        have xl := x.toNat_lt
        have e1 := hx_sub ⟨x.toNat / 16, by omega⟩
        have e2 := hx_sub ⟨x.toNat % 16, by omega⟩
        simp only at e1 e2
        clear hx
        generalize x.toNat = m at *
        have hm16 : m / 16 < 16 := by omega
        have hr16 : m % 16 < 16 := by omega
        have hS1 : (hxS.extract (m / 16) (m / 16 + 1)).size = 1 := by rw [e1]; rfl
        have hS2 : (hxS.extract (m % 16) (m % 16 + 1)).size = 1 := by rw [e2]; rfl
        rw [← e1, ← e2, ← hS.out] at HN
        unfold hxS at HN hS1 hS2
        clear e1 e2
        go_upto_region 8 with (fail)
        go_quiet (fail)
        go_wp2_with fail
        go_roundw
        case rel => exact ⟨k + 1, _, by omega, by go_num, rfl, Lib.hid HN.out, Lib.hid (by first | exact hB.out | exact below_drewN hB.out _)⟩
        case measure => simp [intOf]; omega
      · have hkn' : ¬ (k : Int) < n := by omega
        obtain rfl : k = n := by omega
        go_wp2_with fail
        go_ret
        exact ⟨by rw [hS.out, HEND.out]; rfl, hB.out⟩
end Go.Proofs.YtbanfkpfijcmcaaGreatDoor
