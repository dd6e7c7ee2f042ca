/- strings.Builder: what its writing methods do (the kit's contracts do not fit this translation of copyCheck). -/
/- strconv.FormatUint at base 10, strconv.Itoa. -/
/- hex. -/
import Derived.Test.YtbanfkpfijcmcaaDoorD
import Derived.Test.YtbanfkpfijcmcaaDoorShelf
import Derived.Shelf.Strings.Builder1
import Derived.Shelf.Strconv.Itoa3
import Derived.Lib.AppendIntMem

namespace Go.Proofs.YtbanfkpfijcmcaaDoor
open Go.RowKit
set_option linter.unusedSimpArgs false
set_option linter.unusedVariables false
set_option maxRecDepth 100000

abbrev BA (B b : Nat) (p : Value) (bs : List Value) (w : World) : Prop := Lib.BuilderAt 43 5 B b p bs w
abbrev IB (B b : Nat) (bs : List Value) (w : World) : Prop := Lib.IsBuilder 43 5 B b bs w
def me (b : Nat) : Value := .pointer (some ⟨b, 0, none⟩)
theorem info43 : (Tryd.prog.info? 43).map (fun i => i.size) = some 2 := by kernel_rfl
theorem lies43 : liesAt Tryd.prog Tryd.prog.depth 43 (2 / Tryd.prog.cellsOf 43) 0 43 1 = true := by kernel_rfl

set_option maxHeartbeats 1000000 in
theorem copy_used (b : Nat) (w : World) (h0 : w.cell? ⟨b, 0, none⟩ = some (.pointer (some ⟨b, 0, none⟩))) :
    Calls Tryd.prog 25 #[.pointer (some ⟨b, 0, none⟩)] w fun e w' => e = .returned (.tuple #[]) ∧ w' = w := by
  obtain ⟨j, hj, _⟩ := Option.map_eq_some_iff.1 info43
  go_enter Tryd.func25, Tryd.ntmps25
  go_wp2
  rw [Lib.run_neq_ptr_same w _ Tryd.underlying41 hj]
  go_wp2
  go_end0
  exact ⟨rfl, rfl⟩
set_option maxHeartbeats 1000000 in
theorem copy_fresh (b : Nat) (w : World) (h0 : w.cell? ⟨b, 0, none⟩ = some (.pointer none)) (hsh : w.shape? b = some (43, 2)) (hfz : w.frozen? ⟨b, 0, none⟩ = false) :
    Calls Tryd.prog 25 #[.pointer (some ⟨b, 0, none⟩)] w fun e w' => e = .returned (.tuple #[]) ∧ w' = w.setCell ⟨b, 0, none⟩ (.pointer (some ⟨b, 0, none⟩)) := by
  obtain ⟨j, hj, hjs⟩ := Option.map_eq_some_iff.1 info43
  go_enter Tryd.func25, Tryd.ntmps25
  go_wp2
  rw [Lib.run_to_unsafe w ⟨b, 0, none⟩ Tryd.underlying41 Tryd.underlying84 hj (by rw [hjs]; decide) hsh (Nat.zero_lt_succ 1)]
  simp only [Result.andThen]
  rw [Oper.upon_value]
  go_wp2
  rw [run_callFunc_extern Tryd.func43 (by kernel_rfl) (by kernel_rfl) (by kernel_rfl) (e := Extern.AbiNoEscape.same) (by kernel_rfl)]
  rw [Lib.run_noEscape]
  simp only [Result.andThen]
  rw [Oper.upon_value]
  go_wp2
  rw [Lib.run_from_unsafe w ⟨b, 0, none⟩ Tryd.underlying84 Tryd.underlying41 hj hsh lies43]
  simp only [Result.andThen]
  rw [Oper.upon_value]
  go_wp2
  go_end0
  exact ⟨rfl, rfl⟩
theorem copy_any (B b : Nat) (bs : List Value) (w : World) (h : IB B b bs w) :
    Calls Tryd.prog 25 #[.pointer (some ⟨b, 0, none⟩)] w fun e w' => e = .returned (.tuple #[]) ∧ BA B b (me b) bs w' ∧ Below B w w' := by
  rcases h with h | h
  · refine (copy_fresh b w h.cell0 h.shape h.frozen0).mono ?_
    rintro e w' ⟨rfl, rfl⟩
    exact ⟨rfl, h.used _, (Below.refl B w).setCell (p := ⟨b, 0, none⟩) h.1 _⟩
  · refine (copy_used b w h.cell0).mono ?_
    rintro e w' ⟨rfl, rfl⟩
    exact ⟨rfl, h, Below.refl B _⟩

set_option maxHeartbeats 2000000 in
theorem wbyte_any (B b : Nat) (bs : List Value) (c : Int) (w : World) (h : IB B b bs w) (hlen : bs.length + 1 ≤ 140737488355328) (hBw : B ≤ w.heap.size) :
    Calls Tryd.prog 46 #[.pointer (some ⟨b, 0, none⟩), .int .u8 c] w fun e w' => e = .returned .nilIface ∧ BA B b (me b) (bs ++ [.int .u8 c]) w' ∧ Below B w w' := by
  obtain ⟨i5, hi5, hz5, hs5, hy5⟩ := info_parts info5
  have HC := Lib.hid (copy_any B b bs w h)
  clear h
  go_enter Tryd.func46, Tryd.ntmps46
  go_wp2_with fail
  refine HC.out.mono ?_
  rintro e w1 ⟨rfl, h1, hb1⟩
  clear HC
  obtain ⟨hB, v, hbk, hown, hne⟩ := h1
  unfold me at hbk
  have c0 : w1.cell? ⟨b, 0, none⟩ = some (.pointer (some ⟨b, 0, none⟩)) := by rw [Lib.cell_of_heap hbk]; rfl
  have c1 : w1.cell? ⟨b, 1, none⟩ = some v := by rw [Lib.cell_of_heap hbk]; rfl
  have hlt : b < w1.heap.size := lt_of_block hbk
  have hsz := hb1.size
  go_wp2_with (at_builtin; refine wpList_append_own _ rfl _ _ 27 rfl B 5 i5 (.int .u8 0) 1 1 Tryd.underlying27 hi5 hz5 hs5 hy5 rfl (by decide) _ _ _ rfl (hown.alloc _) ⟨w1.heap.size, 0, none⟩ 1 1 [.int .u8 c] rfl rfl (cell_one_new _ _ _) (by simp [Value.oneCell']) (by unfold maxLen; omega) (by omega) (by simp; omega) ?_)
  intro v' w2 hown' hgrow _
  have hb2 : w2.heap[b]? = some (.cells #[.pointer (some ⟨b, 0, none⟩), v] 43 (0, 0)) := by
    rw [hgrow.block b (by simp; omega) (fun e => hne e.symm), Lib.alloc_old w1 _ b hlt]
    exact hbk
  have d0 : w2.cell? ⟨b, 0, none⟩ = some (.pointer (some ⟨b, 0, none⟩)) := by rw [Lib.cell_of_heap hb2]; rfl
  have d1 : w2.cell? ⟨b, 1, none⟩ = some v := by rw [Lib.cell_of_heap hb2]; rfl
  have f1 : w2.frozen? ⟨b, 1, none⟩ = false := Lib.frozen_of_heap hb2 1
  obtain ⟨g, cap, rfl⟩ : ∃ g cap, v' = .slice (some ⟨g, 0, none⟩) (bs.length + 1) cap := by
    rcases hown'.2 with ⟨_, h0⟩ | ⟨g, cap, cur, hv, _⟩
    · omega
    · exact ⟨g, cap, hv⟩
  have R1 := Lib.hid (Lib.BuilderAt.put (T := 43) (e := 5) hB hb2 (bs' := bs ++ [.int .u8 c]) (by simpa using hown') (by decide))
  have R2 := Lib.hid (((hb1.alloc (by omega) _).grown hgrow (by simp; omega) (fun k hk => (hown.lt k hk).1)).setCell (p := ⟨b, 1, none⟩) hB (.slice (some ⟨g, 0, none⟩) (bs.length + 1) cap))
  clear hown hown' hgrow hbk hb2 hb1
  go_wp2_with fail
  go_ret
  exact ⟨rfl, R1.out, R2.out⟩

set_option maxHeartbeats 2000000 in
theorem wstr_any (B b : Nat) (bs : List Value) (s : ByteArray) (w : World) (h : IB B b bs w) (hlen : bs.length + s.size ≤ 140737488355328) (hBw : B ≤ w.heap.size) :
    Calls Tryd.prog 16 #[.pointer (some ⟨b, 0, none⟩), .string s] w fun e w' => e = .returned (.tuple #[.int .i64 s.size, .nilIface]) ∧ BA B b (me b) (bs ++ Lib.strCells s) w' ∧ Below B w w' := by
  obtain ⟨i5, hi5, hz5, hs5, hy5⟩ := info_parts info5
  have HC := Lib.hid (copy_any B b bs w h)
  clear h
  go_enter Tryd.func16, Tryd.ntmps16
  go_wp2_with fail
  refine HC.out.mono ?_
  rintro e w1 ⟨rfl, h1, hb1⟩
  clear HC
  obtain ⟨hB, v, hbk, hown, hne⟩ := h1
  unfold me at hbk
  have c0 : w1.cell? ⟨b, 0, none⟩ = some (.pointer (some ⟨b, 0, none⟩)) := by rw [Lib.cell_of_heap hbk]; rfl
  have c1 : w1.cell? ⟨b, 1, none⟩ = some v := by rw [Lib.cell_of_heap hbk]; rfl
  have hlt : b < w1.heap.size := lt_of_block hbk
  have hsz := hb1.size
  go_wp2_with (at_builtin; refine Lib.wpList_append_own_string _ rfl _ _ 27 9 rfl B 5 i5 Tryd.underlying27 Tryd.underlying9 hi5 hz5 hs5 hy5 _ _ _ rfl hown s rfl (by unfold maxLen; omega) (by omega) (by omega) ?_)
  intro v' w2 hown' hgrow _
  have hb2 : w2.heap[b]? = some (.cells #[.pointer (some ⟨b, 0, none⟩), v] 43 (0, 0)) := by
    rw [hgrow.block b hlt (fun e => hne e.symm)]
    exact hbk
  have d0 : w2.cell? ⟨b, 0, none⟩ = some (.pointer (some ⟨b, 0, none⟩)) := by rw [Lib.cell_of_heap hb2]; rfl
  have d1 : w2.cell? ⟨b, 1, none⟩ = some v := by rw [Lib.cell_of_heap hb2]; rfl
  have f1 : w2.frozen? ⟨b, 1, none⟩ = false := Lib.frozen_of_heap hb2 1
  obtain ⟨ao, n', cap, rfl⟩ : ∃ ao n' cap, v' = .slice ao n' cap := by
    rcases hown'.2 with ⟨hv, _⟩ | ⟨g, cap, cur, hv, _⟩
    · exact ⟨_, _, _, hv⟩
    · exact ⟨_, _, _, hv⟩
  have R1 := Lib.hid (Lib.BuilderAt.put (T := 43) (e := 5) hB hb2 (bs' := bs ++ Lib.strCells s) (by simpa [Lib.strCells_length] using hown') (by decide))
  have R2 := Lib.hid ((hb1.grown hgrow (by omega) (fun k hk => (hown.lt k hk).1)).setCell (p := ⟨b, 1, none⟩) hB (.slice ao n' cap))
  clear hown hown' hgrow hbk hb2 hb1
  go_wp2_with fail
  go_ret2
  exact ⟨rfl, R1.out, R2.out⟩
/-- A builder that has just been made. -/
theorem ib_new (w : World) : IB w.heap.size w.heap.size [] (w.alloc (.cells #[.pointer none, .slice none 0 0] 43)) :=
  .inl ⟨Nat.le_refl _, .slice none 0 0, new_block w _, World.ownsRow_nil _ _ _ _, by simp [Value.ownBlock]⟩
end Go.Proofs.YtbanfkpfijcmcaaDoor

namespace Go.Proofs.YtbanfkpfijcmcaaDoor
open Go.RowKit Go.Sort
set_option linter.unusedSimpArgs false
set_option linter.unusedVariables false
set_option maxRecDepth 100000

abbrev eb : UInt8 → Value := fun b => Value.int .u8 (b.toNat : Int)
theorem zero_row (w : World) (nd : Nat) (hs : nd ≤ 24) : Holds eb (w.alloc (.cells Lib.zeros24 96)) w.heap.size 0 (Array.replicate nd (0 : UInt8)) := fun j hj => by
  have hj' : j < nd := by simpa using hj
  refine ⟨?_, World.frozen?_alloc_new _ _ _ _⟩
  rw [World.cell?_alloc_new, Lib.zeros24_at _ (by omega), getElem!_pos _ j hj]
  simp
theorem zero_end (w : World) (o : Obj) (dk : Array UInt8) (k : Nat) : Below w.heap.size w ((putRow eb (w.alloc o) w.heap.size 0 dk).drewN k) := by
  have : ∃ os, (putRow eb (w.alloc o) w.heap.size 0 dk).drewN k = grow (w.drewN k) os := by
    rw [alloc_eq_grow]
    obtain ⟨os', _, e⟩ := putRow_grow_new eb w #[o] w.heap.size 0 dk (Nat.le_refl _)
    exact ⟨os', by rw [e]; rfl⟩
  obtain ⟨os, e⟩ := this
  rw [e]
  exact Lib.below_grow _ _ (Nat.le_refl _) _ _

set_option maxHeartbeats 2000000 in
theorem fmtB_any (u : Nat) (hu : u < 18446744073709551616) (w : World) (htab : Lib.TabIs Tryd.prog w "internal/strconv.uint64pow10" .u64 Lib.pow10Tab) :
    Calls Tryd.prog 44 #[.int .u64 u, .int .i64 10] w fun e w' => e = .returned (.string ⟨(Lib.decDigits u).toArray⟩) ∧ Below w.heap.size w w' := by
  by_cases hs : u < 100
  · have HS := Lib.hid (Tryd.internal_strconv_small u hs)
    have hw : IntKind.i64.wrap (u : Int) = u := IntWalk.i64_in _ (by omega)
    go_enter Tryd.func44, Tryd.ntmps44
    go_wp2_with fail
    refine (HS.out _).mono ?_
    rintro e w' ⟨rfl, rfl⟩
    go_wp2_with fail
    go_ret
    exact ⟨rfl, Below.refl _ _⟩
  · have hu1 : 1 ≤ u := by omega
    have hnd20 : Lib.nDigits u ≤ 20 := by have := Lib.numDigits_eq u hu1 hu; split at this <;> omega
    have hb3 : Lib.nDigits u ≤ 24 := by omega
    have hal : Tryd.prog.arrayLen 96 = 24 := by kernel_rfl
    have hsl1 : ∀ W, (Instr.sliceAt 96 (.pointer (some ⟨w.heap.size, 0, none⟩)) none (some (.int .i64 (Lib.nDigits u : Int))) none).run Tryd.prog W = .ok (.slice (some ⟨w.heap.size, 0, none⟩) (Lib.nDigits u) 24) W := fun W => by
      rw [run_sliceAt_array_h W 96 ⟨w.heap.size, 0, none⟩ (by simp [Program.arrayLen, Program.elem, Tryd.underlying96]) .i64 (Lib.nDigits u : Int) (by omega) (by rw [hal]; omega)]
      rw [hal]
      go_simp
    have hH0 := zero_row w (Lib.nDigits u) (by omega)
    have hfmt := Tryd.internal_strconv_formatBase10 w.heap.size 0 24 u (Array.replicate (Lib.nDigits u) 0) (w.alloc (.cells Lib.zeros24 96)) hH0 (by rw [Array.size_replicate]; exact Lib.lt_pow_nDigits u) hu (by rw [Array.size_replicate]; omega)
    rw [Array.size_replicate] at hfmt
    have HH0 := Lib.hid hH0
    have HND := Lib.hid (Tryd.internal_strconv_numDigits u hu1 hu)
    have HT := Lib.hid htab
    have HF := Lib.hid hfmt
    clear hH0 hal htab hfmt
    go_enter Tryd.func44, Tryd.ntmps44
    go_wp2_with fail
    refine (HND.out _ (Lib.tabIs_alloc HT.out _)).mono ?_
    rintro e w' ⟨rfl, rfl⟩
    go_wp2_with fail
    refine HF.out.mono ?_
    rintro e w' ⟨rfl, k, v', dk, rfl, hF⟩
    have hcv : (convert 27 9 (.slice (some ⟨w.heap.size, 0, none⟩) (Lib.nDigits u) 24)).run Tryd.prog ((putRow eb (w.alloc (.cells Lib.zeros24 96)) w.heap.size 0 dk).drewN k) = .ok (.string ⟨(Lib.decDigits u).toArray⟩) ((putRow eb (w.alloc (.cells Lib.zeros24 96)) w.heap.size 0 dk).drewN k) := by
      have h := run_convert_bytes_back (P := Tryd.prog) ((putRow eb (w.alloc (.cells Lib.zeros24 96)) w.heap.size 0 dk).drewN k) 27 9 5 ⟨w.heap.size, 0, none⟩ 24 (Lib.decDigits u) Tryd.underlying27 Tryd.underlying5 Tryd.underlying9 (fun j hj => by
        rw [Lib.row_is_numeral hF j hj, Lib.add_plain, World.cell?_drewN]
        exact cell?_putRow eb _ w.heap.size 0 _ dk HH0.out (by rw [hF.size, Array.size_replicate]) j (by rw [hF.size]; rw [Lib.decDigits_length] at hj; exact hj))
      rw [Lib.decDigits_length] at h
      exact h
    have HB := Lib.hid (zero_end w (.cells Lib.zeros24 96) dk k)
    generalize (putRow eb (w.alloc (.cells Lib.zeros24 96)) w.heap.size 0 dk).drewN k = w2 at *
    clear HF HH0 HND HT hF
    go_wp2_with fail
    go_ret
    exact ⟨rfl, HB.out⟩
theorem fmt_any (u : Nat) (hu : u < 18446744073709551616) (w : World) (htab : Lib.TabIs Tryd.prog w "internal/strconv.uint64pow10" .u64 Lib.pow10Tab) :
    Calls Tryd.prog 26 #[.int .u64 u, .int .i64 10] w fun e w' => e = .returned (.string ⟨(Lib.decDigits u).toArray⟩) ∧ Below w.heap.size w w' := by
  have H := Lib.hid (fmtB_any u hu w htab)
  clear htab
  go_enter Tryd.func26, Tryd.ntmps26
  go_wp2_with fail
  refine H.out.mono ?_
  rintro e w' ⟨rfl, b⟩
  have HB := Lib.hid b; clear b
  go_wp2_with fail
  go_ret
  exact ⟨rfl, HB.out⟩
theorem itoa_any (n : Int) (h0 : -9223372036854775808 ≤ n) (h1 : n ≤ 9223372036854775807) (w : World) (htab : Lib.TabIs Tryd.prog w "internal/strconv.uint64pow10" .u64 Lib.pow10Tab) :
    Calls Tryd.prog 27 #[.int .i64 n] w fun e w' => e = .returned (.string ⟨(Lib.itoa n).toArray⟩) ∧ Below w.heap.size w w' := by
  refine (Tryd.strconv_Itoa n h0 h1 w htab).mono ?_
  rintro e w' ⟨rfl, k, os, rfl⟩
  exact ⟨rfl, Lib.below_grow _ _ (Nat.le_refl _) _ _⟩
end Go.Proofs.YtbanfkpfijcmcaaDoor

namespace Go.Proofs.YtbanfkpfijcmcaaDoor
open Go.RowKit
set_option linter.unusedSimpArgs false
set_option linter.unusedVariables false
set_option maxRecDepth 100000

def hxT : ByteArray := ⟨#[48, 49, 50, 51, 52, 53, 54, 55, 56, 57, 97, 98, 99, 100, 101, 102]⟩
def hxD (i : Nat) : UInt8 := hxT.data.toList.getD i 0
def hx2 (b : UInt8) : List UInt8 := [hxD (b.toNat / 16), hxD (b.toNat % 16)]
def hexL (d : List UInt8) : List UInt8 := if d = [] then [45] else d.flatMap hx2
theorem hex_snoc (d : List UInt8) (k : Nat) (x : UInt8) (h : d[k]? = some x) : (d.take (k + 1)).flatMap hx2 = (d.take k).flatMap hx2 ++ hx2 x := by
  rw [List.take_add_one, h]; simp
theorem hex_len (d : List UInt8) : (d.flatMap hx2).length = 2 * d.length := by
  induction d with
  | nil => rfl
  | cons a d ih => rw [List.flatMap_cons, List.length_append, ih]; simp [hx2]; omega

theorem hx_at (i : Nat) (h : i < 16) (hz : i < hxT.size) : hxT[i]'hz = hxD i := by
  unfold hxD
  rw [List.getD_eq_getElem?_getD, List.getElem?_eq_getElem (by rw [Array.length_toList]; exact hz)]
  rfl
theorem cells_two (l : List UInt8) (a b : UInt8) : Lib.byteCells l ++ [.int .u8 (a.toNat : Int)] ++ [.int .u8 (b.toNat : Int)] = Lib.byteCells (l ++ [a, b]) := by simp [Lib.byteCells]
set_option maxHeartbeats 2000000 in
theorem hex_any (w : World) (v : Value) (d : List UInt8) (h : DataAt w v d) (hl : d.length ≤ 65536) :
    Calls Tryd.prog 28 #[v] w fun e w' => e = .returned (.string ⟨(hexL d).toArray⟩) ∧ Below w.heap.size w w' := by
  obtain ⟨A, c, rfl, hc, hm, hn, hcell⟩ := h
  by_cases h0 : d.length = 0
  · obtain rfl : d = [] := List.eq_nil_of_length_eq_zero h0
    go_enter Tryd.func28, Tryd.ntmps28
    go_wp2_with fail
    go_ret
    exact ⟨rfl, Below.refl _ _⟩
  · have HC := Lib.hid hcell; clear hcell
    have HN := Lib.hid hn; clear hn
    have IB0 := Lib.hid (ib_new w)
    have B0 := Lib.hid ((Below.refl _ w).alloc (Nat.le_refl _) (.cells #[.pointer none, .slice none 0 0] 43))
    have hd0 : ((d.length : Int) == 0) = false := beq_eq_false_iff_ne.2 (by omega)
    go_enter Tryd.func28, Tryd.ntmps28
    go_wp2_with fail
    go_loopw [11] (fun i wr => ∃ k : Nat, k ≤ d.length ∧ i = .int .i64 k ∧ IB w.heap.size w.heap.size (Lib.byteCells ((d.take k).flatMap hx2)) wr ∧ Below w.heap.size w wr) (fun i _ => d.length - (intOf i).toNat)
    case atStart => exact ⟨0, Nat.zero_le _, rfl, IB0.out, B0.out⟩
    case round =>
      obtain ⟨k, hk, rfl, ib, bel⟩ := hrel
      have IBk := Lib.hid ib; have BEL := Lib.hid bel; clear ib bel
      by_cases hlt : k < d.length
      · obtain ⟨g, off, rfl, hg, hcc⟩ := HC.out (by omega)
        have ck := (BEL.out.cell (p := ⟨g, off + k, none⟩) hg).trans (hcc k _ (List.getElem?_eq_getElem hlt))
        have HSN := Lib.hid (hex_snoc d k _ (List.getElem?_eq_getElem hlt))
        clear hcc
        generalize d[k] = x at ck HSN
        have hx8 : x.toNat < 256 := x.toNat_lt
        go_wp2_with fail
        have hlen : (Lib.byteCells ((d.take k).flatMap hx2)).length ≤ 131072 := by rw [Lib.byteCells_length, hex_len, List.length_take]; omega
        refine (wbyte_any _ _ _ _ _ IBk.out (by omega) BEL.out.size).mono ?_
        rintro e w1 ⟨rfl, ib1, bel1⟩
        have IB1 := Lib.hid ib1; have B1 := Lib.hid (BEL.out.trans bel1)
        clear ib1 bel1
        go_wp2_with fail
        refine (wbyte_any _ _ _ _ _ (.inr IB1.out) (by simp only [List.length_append, List.length_singleton]; omega) B1.out.size).mono ?_
        rintro e w2 ⟨rfl, ib2, bel2⟩
        have e2 : Lib.byteCells ((d.take k).flatMap hx2) ++ [Value.int .u8 ((hxT[x.toNat / 16]'(by show _ < 16; omega)).toNat : Int)] ++ [Value.int .u8 ((hxT[x.toNat % 16]'(by show _ < 16; omega)).toNat : Int)] = Lib.byteCells ((d.take (k + 1)).flatMap hx2) := by
          rw [HSN.out, hx_at _ (by omega), hx_at _ (by omega), cells_two]
          rfl
        have ib3 : BA w.heap.size w.heap.size (me w.heap.size) (Lib.byteCells ((d.take (k + 1)).flatMap hx2)) w2 := e2 ▸ ib2
        have IB2 := Lib.hid ib3; have B2 := Lib.hid (B1.out.trans bel2)
        clear ib2 bel2 ib3 e2
        go_wp2_with fail
        go_roundw
        case rel => exact ⟨k + 1, by omega, by go_num, .inr IB2.out, B2.out⟩
        case measure => simp [intOf]; omega
      · have hk2 : d.take k = d := List.take_of_length_le (by omega)
        have IB3 : Hid (IB w.heap.size w.heap.size (Lib.byteCells (hexL d)) wr) := Lib.hid (by have := IBk.out; rw [hk2] at this; unfold hexL; rw [if_neg (fun h => h0 (by rw [h]; rfl))]; exact this)
        clear hk2 IBk
        go_wp2_with fail
        refine (Tryd.Builder_String_any _ _ _ _ IB3.out BEL.out.size).mono ?_
        rintro e w1 ⟨rfl, bel1⟩
        have B1 := Lib.hid (BEL.out.trans bel1)
        clear bel1
        go_wp2_with fail
        go_ret
        exact ⟨rfl, B1.out⟩
end Go.Proofs.YtbanfkpfijcmcaaDoor
