/- parse: what words say. -/
/- Parse, FeatParse; the walk of FlagWords. -/
import Derived.Test.YtbanfkpfijcmcaaGreatDoorFM
import Derived.Lib.SplitLaws

namespace Go.Proofs.YtbanfkpfijcmcaaGreatDoor.Fl
open Go.RowKit
set_option linter.unusedSimpArgs false
set_option linter.unusedVariables false
set_option maxRecDepth 100000

/-- The library's own variable holds some number. -/
def Mx (w : World) : Prop := ∃ m : Int, w.cell? ⟨5, 0, none⟩ = some (.int .i64 m)
theorem Mx.lt {w : World} (h : Mx w) : 5 < w.heap.size := by obtain ⟨m, h⟩ := h; exact (cell_lt h).1
theorem Mx.same {w w' : World} (h : Mx w) (e : w'.heap[5]? = w.heap[5]?) : Mx w' := by
  obtain ⟨m, h⟩ := h
  refine ⟨m, ?_⟩
  unfold World.cell? at h ⊢
  simp only at h ⊢
  rw [e]; exact h
theorem pcs_len (s : ByteArray) : (pcs s).length = Lib.countB s ⟨#[43]⟩ + 1 := Lib.splitB_all _ (by decide) 0 _ s rfl
theorem pcs_le (s : ByteArray) : (pcs s).length ≤ s.size + 1 := by
  rw [pcs_len]
  have := Lib.countB_le ⟨#[43]⟩ (by decide) s.size s (Nat.le_refl _)
  omega
theorem or_bit : ∀ m : Fin 64, ∀ j : Fin 6, bits .or .i64 (m.val : Int) (2 ^ j.val) = ((m.val ||| 2 ^ j.val : Nat) : Int) := by decide +kernel
theorem wrap_pow (j : Nat) (h : j < 6) : wrap64 (2 ^ j) = 2 ^ j := by
  have : ∀ j : Fin 6, wrap64 (2 ^ j.val) = 2 ^ j.val := by decide +kernel
  exact this ⟨j, h⟩
theorem sidx_ge (s : ByteArray) (l : List ByteArray) (k : Nat) : -1 ≤ sidx s k l := by
  induction l generalizing k with
  | nil => simp [sidx]
  | cons x l ih =>
    rw [sidx]
    split
    · omega
    · exact ih (k + 1)
theorem made_cell (w : World) (l : List ByteArray) (i : Nat) (h : i < l.length) : (w.alloc (.cells (l.map Value.string).toArray 9)).cell? ⟨w.heap.size, i, none⟩ = some (.string (l.getD i ByteArray.empty)) := by
  have : (w.alloc (.cells (l.map Value.string).toArray 9)).heap[w.heap.size]? = some (.cells (l.map Value.string).toArray 9) := World.alloc_heap_new w _
  unfold World.cell?
  simp only [this]
  simp [h, List.getD]

set_option maxHeartbeats 4000000 in
theorem parse0 (s : ByteArray) (w : World) (hw : Wd w) (hx : Mx w) (hs : s.size ≤ 1000000) : Calls Tryz.prog 79 #[.int .i64 0, .string s] w (RP 0 s w) := by
  obtain ⟨c0, c1, c2, c3, c4, c5⟩ := hw.t0
  have h2 := hx.lt
  obtain ⟨W1, hW1⟩ : ∃ W1, W1 = w.alloc (.cells #[.string ⟨#[116, 105, 109, 101, 111, 117, 116]⟩, .string ⟨#[114, 101, 97, 100]⟩, .string ⟨#[119, 114, 105, 116, 101]⟩, .string ⟨#[115, 105, 103, 110, 97, 108]⟩, .string ⟨#[112, 101, 114, 115, 105, 115, 116]⟩, .string ⟨#[101, 100, 103, 101]⟩] 131) := ⟨_, rfl⟩
  have b1 : Below w.heap.size w W1 := by rw [hW1]; exact (Below.refl _ w).alloc (Nat.le_refl _) _
  have z1 : W1.heap.size = w.heap.size + 1 := by rw [hW1]; simp
  obtain ⟨mx, hmx⟩ : Mx W1 := hx.same (b1.block 5 h2)
  have HS := Lib.hid (Tryz.strings_Split s ⟨#[43]⟩ mx W1 (by omega) hmx (by decide))
  have hl := pcs_len s
  have hle := pcs_le s
  have hlt := pm_lt 0 (by decide) (pcs s)
  change _ < 64 at hlt
  rw [← hl] at HS
  have e1 : Lib.splitB ⟨#[43]⟩ 0 (Lib.countB s ⟨#[43]⟩) s = pcs s := rfl
  rw [e1] at HS
  clear e1 hl hmx
  obtain ⟨W2, hW2⟩ : ∃ W2, W2 = W1.alloc (.cells ((pcs s).map Value.string).toArray 9) := ⟨_, rfl⟩
  have HC := Lib.hid (fun i h => made_cell W1 (pcs s) i h)
  rw [← hW2] at HS HC
  have b2 : Below w.heap.size w W2 := by rw [hW2]; exact b1.alloc (by omega) _
  have z2 : W2.heap.size = w.heap.size + 2 := by rw [hW2]; simp; omega
  have hw2 : Wd W2 := hw.same (b2.block 1 (by omega))
  have hst : Strs W2 (some ⟨w.heap.size, 0, none⟩) (tw 0) := by
    intro _
    refine ⟨_, _, rfl, by omega, ?_⟩
    have hl6 : (tw 0).length = 6 := rfl
    intro i hi
    rw [hl6] at hi
    have e0 : W2.heap[w.heap.size]? = some (.cells #[.string ⟨#[116, 105, 109, 101, 111, 117, 116]⟩, .string ⟨#[114, 101, 97, 100]⟩, .string ⟨#[119, 114, 105, 116, 101]⟩, .string ⟨#[115, 105, 103, 110, 97, 108]⟩, .string ⟨#[112, 101, 114, 115, 105, 115, 116]⟩, .string ⟨#[101, 100, 103, 101]⟩] 131) := by
      rw [hW2, Below.heap_alloc _ _ _ (by omega), hW1]; exact World.alloc_heap_new w _
    unfold World.cell?
    simp only [e0]
    rcases (show i = 0 ∨ i = 1 ∨ i = 2 ∨ i = 3 ∨ i = 4 ∨ i = 5 by omega) with rfl | rfl | rfl | rfl | rfl | rfl <;> rfl
  have HM := Lib.hid (many0 W2 hw2)
  have HT := Lib.hid (text_any 0 (pm 0 (pcs s) : Nat) W2 hw2 (by decide))
  have HX := Lib.hid (fun x : ByteArray => sindex_any x (some ⟨w.heap.size, 0, none⟩) 6 (tw 0) W2 hst (by decide) (by decide))
  have e6 : (tw 0).length = 6 := rfl
  rw [e6] at HX
  clear hw2 hst e6 hx hw
  have HB1 := Lib.hid hW1; have HB2 := Lib.hid hW2; have HB3 := Lib.hid b2
  clear hW2 b1 b2
  unfold RT at HT
  have et : txE 0 (pm 0 (pcs s) : Nat) = 0 := by
    unfold txE
    rw [if_neg]
    have : (2 : Int) ^ nT 0 = 64 := rfl
    rw [this]; omega
  rw [et] at HT
  clear et
  unfold RP paR paE
  have hq := beq_data ⟨(txL 0 (pm 0 (pcs s) : Nat)).toArray⟩ s
  simp only [] at hq
  have HQ := Lib.hid hq; clear hq
  generalize hL : txL 0 (pm 0 (pcs s) : Nat) = tx at *
  have HG : ∀ k, k ≤ (pcs s).length → pm 0 ((pcs s).take k) < 64 := fun k _ => pm_lt 0 (by decide) _
  have HGH := Lib.hid HG; clear HG hL
  generalize hp : pcs s = l at *
  clear hp
  have hend : pm 0 (l.take l.length) = pm 0 l := by rw [List.take_length]
  have HE := Lib.hid hend; clear hend
  by_cases hok : tx = s.data.toList
  all_goals
    first | rw [if_pos hok, if_pos hok] | rw [if_neg hok, if_neg hok]
    have hcmp : ((⟨tx.toArray⟩ : ByteArray).toList == s.toList) = decide (tx = s.data.toList) := by
      rw [HQ.out]
      by_cases e : tx = s.data.toList
      · simp [e]
      · simp [e]
    first | rw [decide_eq_true hok] at hcmp | rw [decide_eq_false hok] at hcmp
    clear hok HQ
    generalize (⟨tx.toArray⟩ : ByteArray) = tb at *
    go_enter Tryz.func79, Tryz.ntmps79
    go_wp2_with fail
    rw [← HB1.out]
    refine HS.out.mono ?_
    rintro e w' ⟨rfl, rfl⟩
    rw [z1]
    go_wp2_with fail
    go_loop [6, 19] (fun m i => ∃ k : Nat, k ≤ l.length ∧ i = .int .i64 k ∧ m = .int .i64 (pm 0 (l.take k) : Nat)) (fun _ i => l.length - (intOf i).toNat)
    case atStart => exact ⟨0, Nat.zero_le _, rfl, rfl⟩
    case round =>
      obtain ⟨k, hk, rfl, rfl⟩ := hrel
      by_cases hlk : k < l.length
      · have hck := HC.out k hlk
        rw [z1, sgetD l k hlk] at hck
        have hst := Lib.hid (pm_take 0 l k hlk)
        have hm0 := HGH.out k hk
        generalize l[k] = x at *
        generalize pm 0 (l.take k) = m at *
        have i0 := sidx_ge x (tw 0) 0
        have i1 := sidx_lt x (tw 0) 0
        change _ < ((0 + 6 : Nat) : Int) at i1
        have HXx := Lib.hid (HX.out x)
        unfold pstep at hst
        generalize sidx x 0 (tw 0) = ii at *
        by_cases hneg : ii < 0
        · have hs1 := hst.out
          rw [if_neg (by omega)] at hs1
          have HS1 := Lib.hid hs1; clear hs1 hst
          go_wp2_with (first
            | (go_at_call 81; refine HM.out.mono ?_; rintro e w' ⟨rfl, rfl⟩)
            | (go_at_call 54; refine HXx.out.mono ?_; rintro e w' ⟨rfl, rfl⟩))
          go_round
          case rel => exact ⟨k + 1, by omega, by go_num, by rw [HS1.out]⟩
          case measure => simp [intOf]; omega
        · obtain ⟨j, rfl⟩ := Int.eq_ofNat_of_zero_le (show 0 ≤ ii by omega)
          have hs1 := hst.out
          rw [if_pos (by omega), Int.toNat_natCast] at hs1
          have HS1 := Lib.hid hs1; clear hs1 hst
          have hor := or_bit ⟨m, by omega⟩ ⟨j, by omega⟩
          simp only at hor
          have hwp := wrap_pow j (by omega)
          have HOR := Lib.hid hor; have HWP := Lib.hid hwp
          clear hor
          go_wp2_with (first
            | (go_at_call 81; refine HM.out.mono ?_; rintro e w' ⟨rfl, rfl⟩)
            | (go_at_call 54; refine HXx.out.mono ?_; rintro e w' ⟨rfl, rfl⟩))
          go_round
          case rel => exact ⟨k + 1, by omega, by go_num, by rw [HS1.out, ← HOR.out]⟩
          case measure => simp [intOf]; omega
      · obtain rfl : k = l.length := by omega
        rw [HE.out]
        go_wp2_with (go_at_call 65; refine HT.out.mono ?_; rintro e w3 ⟨rfl, b3⟩)
        go_ret2
        exact ⟨rfl, HB3.out.trans (b3.mono (by omega))⟩

end Go.Proofs.YtbanfkpfijcmcaaGreatDoor.Fl

namespace Go.Proofs.YtbanfkpfijcmcaaGreatDoor.Fl
open Go.RowKit
set_option linter.unusedSimpArgs false
set_option linter.unusedVariables false
set_option maxRecDepth 100000

theorem Parse_any (s : ByteArray) (w : World) (hw : Wd w) (hx : Mx w) (hs : s.size ≤ 1000000) : Calls Tryz.prog 57 #[.string s] w (RP 0 s w) := by
  have h := parse0 s w hw hx hs
  unfold RP at h ⊢
  have H := Lib.hid h
  clear h hw hx
  generalize paR 0 s = pr at *
  generalize paE 0 s = pe at *
  go_enter Tryz.func57, Tryz.ntmps57
  go_wp2_with (go_at_call 79; refine H.out.mono ?_; rintro e w' ⟨rfl, hb⟩)
  go_ret2
  exact ⟨rfl, hb⟩
/-- What the laws lean on: the tables, and the library's variable. -/
def Env (w : World) : Prop := Wd w ∧ Mx w
theorem Env.later {w w' : World} (h : Env w) (hb : Below w.heap.size w w') : Env w' :=
  ⟨h.1.same (hb.block 1 h.1.lt), h.2.same (hb.block 5 h.2.lt)⟩

theorem of_shape {W : World} (h : W.ShapedOpen Tryz.prog) : Mx W := by
  have := Go.Proofs.cell_of_shapedOpen_int (g := 5) (k := .i64) (zero := #[.int .i64 0]) (t := 3) h (of_decide_eq_true (by kernel_rfl)) (by kernel_rfl) rfl (by kernel_rfl) (by kernel_rfl) Tryz.underlying3
  exact this
end Go.Proofs.YtbanfkpfijcmcaaGreatDoor.Fl
