/- bits.OnesCount32. -/
import Derived.Test.YtljfnfaljadjdaaDoorChecked
import Derived.Lib.Strings
import Derived.Lib.Slices
import Derived.Lib.Small
import Derived.Lib.Walk
import Derived.Lib.BitFns
import Derived.Deep.QuietTactic
import Derived.BigQuiet
import Derived.Lib.Hide
import Derived.Laws.BitsAllLaws
namespace Go.Proofs.YtljfnfaljadjdaaDoor
set_option linter.unusedSimpArgs false
set_option linter.unusedVariables false

theorem get_bang (t : ByteArray) (n : Nat) (h : n < t.size) : t[n] = t.data[n]! := (getElem!_pos t.data n h).symm
theorem popAt_aux (t : ByteArray) (k : ∀ n : Fin 256, (t.data[n.val]!).toNat = Lib.onesCount n.val) (n : Nat) (h : n < t.size) (h2 : n < 256) : (t[n]).toNat = Lib.onesCount n := by
  rw [get_bang t n h]; exact k ⟨n, h2⟩
theorem popTab : ∀ n : Fin 256, (Lib.pop8tab.data[n.val]!).toNat = Lib.onesCount n.val := by decide +kernel
theorem popAt (n : Nat) (h : n < Lib.pop8tab.size) : (Lib.pop8tab[n]).toNat = Lib.onesCount n := popAt_aux _ popTab n h (Lib.pop8tab_size ▸ h)
theorem ones_le (n : Nat) (h : n < 256) : Lib.onesCount n ≤ 8 := Lib.onesCount_le8 ⟨n, h⟩
/-- The ones of a word of 32 bits, byte by byte. -/
def pc (x : Nat) : Nat := Lib.onesCount (x / 16777216) + Lib.onesCount (x / 65536 % 256) + Lib.onesCount (x / 256 % 256) + Lib.onesCount (x % 256)

theorem and255 (y : Int) (h0 : 0 ≤ y) (h : y < 4294967296) : bits .and .u32 y 255 = y % 256 := by
  rw [u32_and y 255 h0 h (by decide) (by decide)]
  have : y.toNat &&& (255 : Int).toNat = y.toNat % 256 := Nat.and_two_pow_sub_one_eq_mod y.toNat 8
  rw [this]; omega

set_option maxHeartbeats 1000000 in
set_option maxRecDepth 100000 in
theorem pop32_any (n : Nat) (w : World) (hn : n < 4294967296) :
    Calls Tryd.prog 30 #[.int .u32 (n : Int)] w fun e w' => e = .returned (.int .i64 (pc n)) ∧ ∃ n, w' = w.drewN n := by
  obtain ⟨x, hx⟩ : ∃ x : Int, x = n := ⟨_, rfl⟩
  rw [← hx]
  have h0 : 0 ≤ x := by omega
  have h : x ≤ 4294967295 := by omega
  have o1 := ones_le (n / 16777216) (by omega)
  have o2 := ones_le (n / 65536 % 256) (by omega)
  have o3 := ones_le (n / 256 % 256) (by omega)
  have o4 := ones_le (n % 256) (by omega)
  have w1 : (x / 16777216).toNat = n / 16777216 := by omega
  have w2 : (bits .and .u32 (x / 65536) 255).toNat = n / 65536 % 256 := by rw [and255 _ (by omega) (by omega)]; omega
  have w3 : (bits .and .u32 (x / 256) 255).toNat = n / 256 % 256 := by rw [and255 _ (by omega) (by omega)]; omega
  have w4 : (bits .and .u32 x 255).toNat = n % 256 := by rw [and255 _ (by omega) (by omega)]; omega
  have HX := Lib.hid hx
  have W1 := Lib.hid w1; have W2 := Lib.hid w2; have W3 := Lib.hid w3; have W4 := Lib.hid w4
  have O1 := Lib.hid o1; have O2 := Lib.hid o2; have O3 := Lib.hid o3; have O4 := Lib.hid o4
  have q1 : (0 : Int) ≤ x / 16777216 := by omega
  have q2 : x / 16777216 < (Lib.pop8tab.size : Int) := by rw [Lib.pop8tab_size]; omega
  have r0 := and255 (x / 65536) (by omega) (by omega)
  have s0 := and255 (x / 256) (by omega) (by omega)
  have t0 := and255 x (by omega) (by omega)
  have r1 : (0 : Int) ≤ bits .and .u32 (x / 65536) 255 := by omega
  have r2 : bits .and .u32 (x / 65536) 255 < (Lib.pop8tab.size : Int) := by rw [Lib.pop8tab_size]; omega
  have s1 : (0 : Int) ≤ bits .and .u32 (x / 256) 255 := by omega
  have s2 : bits .and .u32 (x / 256) 255 < (Lib.pop8tab.size : Int) := by rw [Lib.pop8tab_size]; omega
  have t1 : (0 : Int) ≤ bits .and .u32 x 255 := by omega
  have t2 : bits .and .u32 x 255 < (Lib.pop8tab.size : Int) := by rw [Lib.pop8tab_size]; omega
  clear r0 s0 t0 hx w1 w2 w3 w4 o1 o2 o3 o4
  go_enter Tryd.func30, Tryd.ntmps30
  go_wp2
  go_quiet (fail)
  go_wp2
  go_ret
  refine ⟨?_, nq, rfl⟩
  refine congrArg (fun z => Ending.returned (.int .i64 z)) ?_
  rw [popAt, popAt, popAt, popAt, W1.out, W2.out, W3.out, W4.out]
  have o1 := O1.out; have o2 := O2.out; have o3 := O3.out; have o4 := O4.out
  unfold pc
  omega
end Go.Proofs.YtljfnfaljadjdaaDoor
