/- Bytes as strings; the chapter's first example. -/
import Derived.Test.YtebnfcpikhehkaaF
import Derived.Laws.BytesArg
import Derived.Shelf.Bytes.SlSmallAll
import Derived.Lib.SlBytesConst
namespace Go.Proofs.Ytebnfcpikhehkaa
open Go.RowKit Go.Shelf
set_option linter.unusedSimpArgs false
set_option linter.unusedVariables false
set_option maxRecDepth 100000

theorem str_run {w : World} {A : Option Addr} {n c : Nat} {zs : List Int} (h : Ints .u8 w A zs) (hl : zs.length = n) : (convert 22 9 (.slice A n c)).run Try.prog w = .ok (.string (strOfNums zs)) w := by
  by_cases h0 : 0 < zs.length
  · obtain ⟨b, off, rfl, hlt, hc⟩ := h h0
    exact run_convert_bytes_arg w 22 5 Try.underlying22 Try.underlying5 b off n c zs hl (fun i hi => hc i (by omega)) 9 Try.underlying9
  · have : zs = [] := List.eq_nil_of_length_eq_zero (by omega)
    subst this
    simp only [List.length_nil] at hl
    subst hl
    exact run_convert_bytes_zero w 22 5 Try.underlying22 Try.underlying5 A c 9 Try.underlying9
theorem Got.ints {w : World} {base : Nat} {A : Option Addr} {n c : Nat} {zs : List Int} (h : Got w base (.slice A n c) zs) : Ints .u8 w A zs ∧ zs.length = n := by
  unfold Got at h
  obtain ⟨A', c', e, _⟩ := row_form h
  injection e with e1 e2 e3
  subst e1 e2 e3
  exact ⟨row_ints h, rfl⟩
theorem str_append (a b : List Int) : strOfNums a ++ strOfNums b = strOfNums (a ++ b) := by
  unfold strOfNums
  apply ByteArray.ext
  simp
theorem Ints.alloc {kd : IntKind} {w : World} {a : Option Addr} {zs : List Int} (h : Ints kd w a zs) (o : Obj) : Ints kd (w.alloc o) a zs := h.below ((Below.refl _ w).alloc (Nat.le_refl _) o)

/-- A constant slice goes in. -/
theorem Put_new (g gb C : Nat) (L : List Int) (ip op : Nat) (bs : List Int) (fr : Nat × Nat) (w : World) (h : Rg w g gb C L ip op) (hby : ∀ x ∈ bs, 0 ≤ x ∧ x < 256) (hip : ip ≤ 1000000000000) (hlen : bs.length ≤ 100) :
    Calls Try.prog 11 #[.pointer (some ⟨g, 0, none⟩), .slice (some ⟨w.heap.size, 0, none⟩) bs.length bs.length] (w.alloc (.cells (bs.map (Value.int .u8)).toArray 5 fr)) fun e w' => e = .returned (.int .i64 (min bs.length (C - L.length) : Nat)) ∧ Rg w' g gb C (L ++ bs.take (C - L.length)) (ip + min bs.length (C - L.length)) op ∧ Fr2 g gb w w' := by
  have hlt := h.lt
  have hb : Below w.heap.size w (w.alloc (.cells (bs.map (Value.int .u8)).toArray 5 fr)) := (Below.refl _ w).alloc (Nat.le_refl _) _
  have hnew : (w.alloc (.cells (bs.map (Value.int .u8)).toArray 5 fr)).heap[w.heap.size]? = some (.cells (bs.map (Value.int .u8)).toArray 5 fr) := World.alloc_heap_new w _
  have hi : Ints .u8 (w.alloc (.cells (bs.map (Value.int .u8)).toArray 5 fr)) (some ⟨w.heap.size, 0, none⟩) bs := by
    intro h0
    refine ⟨w.heap.size, 0, rfl, by simp, fun i hi => ?_⟩
    unfold World.cell?
    simp only [hnew]
    simp [hi, List.getD]
  refine (Put_any g gb C L ip op (some ⟨w.heap.size, 0, none⟩) bs.length bs.length bs _ (h.below hb hlt.1 hlt.2) hi rfl (Nat.le_refl _) (by unfold maxLen; omega) hby (fun b o s _ e => by injection e with e; injection e with e1; omega) hip).mono ?_
  rintro e w' ⟨rfl, h1, h2⟩
  have hs : (w.alloc (.cells (bs.map (Value.int .u8)).toArray 5 fr)).heap.size = w.heap.size + 1 := World.size_alloc _ _
  exact ⟨rfl, h1, h2.1.trans hb.os, h2.2.1.trans hb.tape, h2.2.2.1.trans hb.output, Nat.le_trans hb.size h2.2.2.2.1, fun j hj n1 n2 => (h2.2.2.2.2 j (by omega) n1 n2).trans (hb.block j hj)⟩

theorem Got.form {w : World} {base : Nat} {v : Value} {zs : List Int} (h : Got w base v zs) : ∃ A c, v = .slice A zs.length c ∧ zs.length ≤ c := row_form h
theorem Got.fr2 {w w' : World} {base g gb : Nat} {A : Option Addr} {n c : Nat} {zs : List Int} (h : Got w base (.slice A n c) zs) (f : Fr2 g gb w w') (h1 : g < base) (h2 : gb < base) : Ints .u8 w' A zs ∧ zs.length = n := by
  obtain ⟨hi, hl⟩ := h.ints
  refine ⟨f.ints hi fun b o s e => ?_, hl⟩
  have := (World.ownsRow.lt (show w.ownsRow base 5 1 (.slice A n c) zs.length (zs.map (Value.int .u8)) from h) b (by rw [e]; rfl)).1
  omega

set_option maxHeartbeats 2000000 in
theorem alive_any (w : World) : Calls Try.prog 9 #[] w fun e w' => e = .returned (.bool true) ∧ Below w.heap.size w w' := by
  have kc := fun (w : World) (C : Array Value) (n c : Nat) => Lib.run_convert_bytes_const (P := Try.prog) w 22 5 C n c Try.underlying22 Try.underlying5
  go_enter Try.func9, Try.ntmps9
  go_wp2_with fail
  refine (New_ok 4 w (by omega)).mono ?_
  rintro e w1 ⟨rfl, r1, b1⟩
  have R1 := Lib.hid r1
  have B1 := Lib.hid b1
  have hs1 := b1.size
  have hlt := r1.lt
  clear r1 b1
  go_wp2_with fail
  refine (Put_new _ _ 4 [] 0 0 [97, 98, 99] (3, 4) w1 R1.out (by decide) (by omega) (by decide)).mono ?_
  rintro e w2 ⟨rfl, r2, f2⟩
  have R2 : Hid (Rg w2 (w.heap.size + 1) w.heap.size 4 [97, 98, 99] 3 0) := Lib.hid r2
  have B2 := Lib.hid (f2.below B1.out (by omega) (by omega) (by omega))
  have hs2 := f2.2.2.2.1
  clear r2 f2
  go_wp2_with fail
  refine (Put_new _ _ 4 [97, 98, 99] 3 0 [100, 101] (2, 3) w2 R2.out (by decide) (by omega) (by decide)).mono ?_
  rintro e w3 ⟨rfl, r3, f3⟩
  have R3 : Hid (Rg w3 (w.heap.size + 1) w.heap.size 4 [97, 98, 99, 100] 4 0) := Lib.hid r3
  have B3 := Lib.hid (f3.below B2.out (by omega) (by omega) (by omega))
  have hs3 := f3.2.2.2.1
  clear r3 f3
  go_wp2_with fail
  refine (Take_any _ _ 4 _ 4 0 2 w3 R3.out (by omega)).mono ?_
  rintro e w4 ⟨⟨v, rfl, v4⟩, r4, g4⟩
  obtain ⟨A4, c4, rfl, -⟩ := v4.form
  have V4 : Hid (Got w4 w3.heap.size (.slice A4 2 c4) [97, 98]) := Lib.hid v4
  have R4 : Hid (Rg w4 (w.heap.size + 1) w.heap.size 4 [99, 100] 4 2) := Lib.hid r4
  have B4 := Lib.hid ((Fr2.of_grown (gb := w.heap.size) g4).below B3.out (by omega) (by omega) (by omega))
  have hs4 := g4.size
  clear r4 g4 v4
  go_wp2_with fail
  refine (Put_new _ _ 4 [99, 100] 4 2 [101, 102] (2, 3) w4 R4.out (by decide) (by omega) (by decide)).mono ?_
  rintro e w5 ⟨rfl, r5, f5⟩
  have R5 : Hid (Rg w5 (w.heap.size + 1) w.heap.size 4 [99, 100, 101, 102] 6 2) := Lib.hid r5
  have B5 := Lib.hid (f5.below B4.out (by omega) (by omega) (by omega))
  have hs5 := f5.2.2.2.1
  obtain ⟨i5, l5⟩ := V4.out.fr2 f5 (by omega) (by omega)
  have c5 : (convert 22 9 (.slice A4 2 c4)).run Try.prog w5 = .ok (.string ⟨#[97, 98]⟩) w5 := str_run i5 l5
  clear r5 f5 i5 l5
  go_wp2_with fail
  refine (Look_any _ _ 4 _ 6 2 9 w5 R5.out).mono ?_
  rintro e w6 ⟨⟨v, rfl, v6⟩, b6⟩
  obtain ⟨A6, c6, rfl, -⟩ := v6.form
  have V6 : Got w6 w5.heap.size (.slice A6 4 c6) [99, 100, 101, 102] := v6
  obtain ⟨i6, l6⟩ := V6.ints
  have c6 : (convert 22 9 (.slice A6 4 c6)).run Try.prog w6 = .ok (.string ⟨#[99, 100, 101, 102]⟩) w6 := str_run i6 l6
  have B6 := Lib.hid (B5.out.trans (b6.mono (by omega)))
  clear v6 V6 i6 l6 b6
  go_wp2_with fail
  go_ret
  exact ⟨rfl, B6.out⟩
end Go.Proofs.Ytebnfcpikhehkaa
