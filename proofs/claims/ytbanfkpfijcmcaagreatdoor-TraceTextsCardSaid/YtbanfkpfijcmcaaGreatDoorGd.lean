/- The document's digits, and values of digits. -/
import Derived.Test.YtbanfkpfijcmcaaGreatDoorGp
import Derived.Laws.BytesArg
namespace Go.Proofs.YtbanfkpfijcmcaaGreatDoor
open Go.RowKit Go.Op Instr
set_option linter.unusedSimpArgs false
set_option linter.unusedVariables false
set_option maxRecDepth 100000

theorem str_one (w : World) (x : Int) : (convert 26 9 (.slice (some ⟨w.heap.size, 0, none⟩) 1 1)).run Tryz.prog (w.alloc (.cells #[.int .u8 x] 5)) = .ok (.string (strOfNums [x])) (w.alloc (.cells #[.int .u8 x] 5)) :=
  run_convert_bytes_arg _ 26 5 Tryz.underlying26 Tryz.underlying5 w.heap.size 0 1 1 [x] rfl (fun i hi => by
    obtain rfl : i = 0 := by simp at hi; omega
    have : (w.alloc (.cells #[.int .u8 x] 5)).heap[w.heap.size]? = some (.cells #[.int .u8 x] 5) := World.alloc_heap_new w _
    unfold World.cell?
    simp only [this]
    rfl) 9 Tryz.underlying9
theorem one_size (x : Int) : (strOfNums [x]).size = 1 := by rfl
/-- What digits holds between two rounds. -/
def DgI (u i n : Nat) (s : List UInt8) : Prop := (i ≤ 20 ∧ n < 18446744073709551616) ∧ n < 10 ^ (20 - i) ∧ s.length ≤ i ∧ ((i = 0 ∧ n = u ∧ s = []) ∨ (0 < i ∧ s ≠ [] ∧ (n = 0 → s = Lib.decDigits u) ∧ (0 < n → Lib.decDigits n ++ s = Lib.decDigits u)))
theorem DgI.start (u : Nat) (hu : u < 18446744073709551616) : DgI u 0 u [] := ⟨⟨by omega, hu⟩, by
  have : (10 : Nat) ^ (20 - 0) = 100000000000000000000 := by decide
  omega, by simp, .inl ⟨rfl, rfl, rfl⟩⟩
theorem DgI.step {u i n : Nat} {s : List UInt8} (h : DgI u i n s) (hi : i < 20) (hn : 0 < n ∨ s = []) : DgI u (i + 1) (n / 10) (UInt8.ofNat (48 + n % 10) :: s) := by
  obtain ⟨h1, h2, h3, h4⟩ := h
  refine ⟨⟨by omega, by omega⟩, ?_, by simp; omega, .inr ⟨by omega, by simp, ?_, ?_⟩⟩
  · rw [Nat.div_lt_iff_lt_mul (by decide), ← Nat.pow_succ, show (20 - (i + 1)).succ = 20 - i by omega]; exact h2
  · intro h0
    have hlt : n < 10 := by omega
    have e : Lib.decDigits n = [UInt8.ofNat (48 + n)] := by rw [Lib.decDigits, dif_pos hlt]
    rcases h4 with ⟨rfl, rfl, rfl⟩ | ⟨_, h5, h6, h7⟩
    · rw [e, Nat.mod_eq_of_lt hlt]
    · rcases hn with hn | hn
      · have := h7 hn
        rw [e] at this
        rw [Nat.mod_eq_of_lt hlt]; exact this
      · exact absurd hn h5
  · intro h0
    have hge : ¬ n < 10 := by omega
    have e : Lib.decDigits n = Lib.decDigits (n / 10) ++ [UInt8.ofNat (48 + n % 10)] := by rw [Lib.decDigits, dif_neg hge]
    rcases h4 with ⟨rfl, rfl, rfl⟩ | ⟨_, h5, h6, h7⟩
    · rw [e]
    · have := h7 (by omega)
      rw [e, List.append_assoc] at this
      exact this
theorem DgI.stop {u i n : Nat} {s : List UInt8} (h : DgI u i n s) (hi : 20 ≤ i ∨ (n = 0 ∧ s ≠ [])) : s = Lib.decDigits u := by
  obtain ⟨h1, h2, h3, h4⟩ := h
  have h0 : n = 0 := by
    rcases hi with hi | hi
    · obtain rfl : i = 20 := by omega
      simpa using h2
    · exact hi.1
  rcases h4 with ⟨rfl, rfl, rfl⟩ | ⟨_, h5, h6, h7⟩
  · rcases hi with hi | hi
    · omega
    · exact absurd rfl hi.2
  · exact h6 h0
theorem dig_str (n : Nat) (s : List UInt8) : strOfNums [48 + (n : Int) % 10] ++ ⟨s.toArray⟩ = (⟨(UInt8.ofNat (48 + n % 10) :: s).toArray⟩ : ByteArray) := by
  have : (48 + (n : Int) % 10).toNat = 48 + n % 10 := by omega
  apply ByteArray.ext
  simp [strOfNums, this]

set_option maxHeartbeats 2000000 in
theorem digits_any (u : Nat) (w : World) (hu : u < 18446744073709551616) : Calls Tryz.prog 46 #[.int .u64 (u : Int)] w fun e w' => e = .returned (.string ⟨(Lib.decDigits u).toArray⟩) ∧ Below w.heap.size w w' := by
  have ST := Lib.hid (DgI.start u hu)
  clear hu
  go_enter Tryz.func46, Tryz.ntmps46
  go_wp2_with fail
  go_loopw [0, 3, 4] (fun a b c wr => ∃ (i n : Nat) (s : List UInt8) (S : ByteArray), a = .int .u64 (n : Int) ∧ b = .string S ∧ c = .int .i64 (i : Int) ∧ Hid (S = ⟨s.toArray⟩) ∧ Hid (DgI u i n s) ∧ Hid (Below w.heap.size w wr)) (fun _ _ c _ => 20 - (intOf c).toNat)
  case atStart => exact ⟨0, u, [], ⟨#[]⟩, rfl, rfl, rfl, Lib.hid rfl, ST, Lib.hid (Below.refl _ _)⟩
  case round =>
    obtain ⟨i, n, s, S, rfl, rfl, rfl, hS, hD, hB⟩ := hrel
    have hsz : S.size ≤ 20 := by have h1 := hD.out.2.2.1; have h2 := hD.out.1.1; have h3 : S.size = s.length := (by rw [hS.out]; exact mk_size s); omega
    have hlt := hD.out.1.2
    have hle := hD.out.1.1
    have HBW := Lib.hid (hB.out.alloc hB.out.size (.cells #[.int .u8 (48 + (n : Int) % 10)] 5))
    have hwq : IntKind.u64.wrap ((n : Int) / 10) = ((n / 10 : Nat) : Int) := by rw [wrap_u64]; omega
    have HSN : Hid (strOfNums [48 + (n : Int) % 10] ++ S = (⟨(UInt8.ofNat (48 + n % 10) :: s).toArray⟩ : ByteArray)) := Lib.hid (by rw [hS.out]; exact dig_str n s)
    have HST := Lib.hid (fun h1 h2 => hD.out.step h1 h2)
    have HSP := Lib.hid (fun h1 => hD.out.stop h1)
    have HNE : Hid (S.toList = [] ↔ s = []) := Lib.hid (by rw [hS.out, ByteArray.toList_eq])
    have c := str_one wr (48 + (n : Int) % 10)
    have z := one_size (48 + (n : Int) % 10)
    generalize hsn : strOfNums [48 + (n : Int) % 10] = sn at c z HSN
    clear hsn hlt
    by_cases hi : i < 20
    · have hi' : (i : Int) < 20 := by omega
      by_cases hn : 0 < n
      · have hn' : (0 : Int) < (n : Int) := by omega
        clear HSP HNE
        go_wp2_with fail
        go_roundw
        case rel => exact ⟨i + 1, n / 10, _, _, by first | rfl | exact congrArg _ hwq, rfl, by go_num, Lib.hid HSN.out, Lib.hid (HST.out hi (.inl hn)), HBW⟩
        case measure => simp [intOf]; omega
      · obtain rfl : n = 0 := by omega
        have c1 : (convert 26 9 (.slice (some ⟨wr.heap.size, 0, none⟩) 1 1)).run Tryz.prog (wr.alloc (.cells #[.int .u8 48] 5)) = .ok (.string sn) (wr.alloc (.cells #[.int .u8 48] 5)) := c
        have HBW : Hid (Below w.heap.size w (wr.alloc (.cells #[.int .u8 48] 5))) := HBW
        clear c
        by_cases hs : S.toList = []
        · have hs1 : (S.toList == ([] : List UInt8)) = true := by rw [hs]; rfl
          have hs2 : S.toList.isEmpty = true := by rw [hs]; rfl
          have hs3 := HNE.out.1 hs
          clear HSP HNE hs
          go_wp2_with fail
          go_roundw
          case rel => exact ⟨i + 1, 0, _, _, rfl, rfl, by go_num, Lib.hid HSN.out, Lib.hid (HST.out hi (.inr hs3)), HBW⟩
          case measure => simp [intOf]; omega
        · have hs1 : (S.toList == ([] : List UInt8)) = false := by simpa using hs
          have hs2 : S.toList.isEmpty = false := by simpa using hs
          have HEND := Lib.hid (HSP.out (.inr ⟨rfl, fun h => hs (HNE.out.2 h)⟩))
          clear HSP HNE HST
          go_wp2_with fail
          go_ret
          exact ⟨by rw [hS.out, HEND.out]; rfl, hB.out⟩
    · have hi' : ¬ (i : Int) < 20 := by omega
      have HEND := Lib.hid (HSP.out (.inl (by omega)))
      clear HSP HNE HST
      go_wp2_with fail
      go_ret
      exact ⟨by rw [hS.out, HEND.out]; rfl, hB.out⟩
end Go.Proofs.YtbanfkpfijcmcaaGreatDoor
