/- The law FdsetTexts, walked. -/
import Derived.Test.YtljfnfaljadjdaaDoorTg
import Derived.Test.YtljfnfaljadjdaaDoorLa
import Derived.Test.YtljfnfaljadjdaaDoorH
namespace Go.Proofs.YtljfnfaljadjdaaDoor
open Go.RowKit Go.ChangeShapes Go.WideShapes Go.ChangeAt
set_option linter.unusedSimpArgs false
set_option linter.unusedVariables false
set_option maxRecDepth 100000

structure Tx (w wr : World) (g h a b p q : Nat) : Prop where
  s : Sb wr g a b
  t : Sb wr h p q
  bel : Below w.heap.size w wr
theorem Tx.later {w wr w1 : World} {g h a b p q : Nat} (T : Tx w wr g h a b p q) (hb : Below wr.heap.size wr w1) : Tx w w1 g h a b p q := ⟨T.s.below hb T.s.lt, T.t.below hb T.t.lt, T.bel.trans (hb.mono T.bel.size)⟩
/-- What Parse and the reference's Parse say of one text. -/
theorem both_say {t : ByteArray} {p : Nat × Nat} {ev f : Int} {l : List Int} (hp : parseF t = some p ∧ ev = 0 ∨ parseF t = none ∧ p = (0, 0) ∧ ev = 11) (hr : refF t l f) : ev = f ∧ l = L p.1 p.2 ∧ p.1 < 4294967296 ∧ p.2 < 4294967296 := by
  rcases hp with ⟨hp, rfl⟩ | ⟨hp, rfl, rfl⟩
  · obtain ⟨h1, h2⟩ := refF_some hr hp
    obtain ⟨_, h3, h4⟩ := parse_text hp
    exact ⟨h2.symm, h1, h3, h4⟩
  · obtain ⟨h1, h2⟩ := refF_none hr hp
    exact ⟨h2.symm, by rw [h1, L_zero], by decide, by decide⟩

set_option maxHeartbeats 4000000 in
theorem texts_walk (a b : Nat) (t : ByteArray) (w : World) (hE : Env w) (ha : a < 4294967296) (hb : b < 4294967296) (ht : t.size ≤ 1000) : Calls Tryd.prog 7 #[.agg #[.int .u32 a, .int .u32 b], .string t] w fun e w' => e = .returned (.bool true) ∧ Below w.heap.size w w' := by
  have HE := Lib.hid hE; clear hE
  have HPT := Lib.hid (fun W hW => parse_any t W hW ht)
  have HRT := Lib.hid (fun W => rparse_any t W ht)
  have ht2 : (t.size : Int) ≤ 1000 := by omega
  go_enter Tryd.func7, Tryd.ntmps7
  have T0 : Hid (Below w.heap.size w (w.alloc (.cells #[.int .u32 a, .int .u32 b] 24))) := Lib.hid ((Below.refl _ _).alloc (Nat.le_refl _) _)
  have S0 := Lib.hid (Sb.new w a b)
  go_wp2_with fail
  refine (HPT.out _ (HE.out.below T0.out)).mono ?_
  rintro e w1 ⟨⟨⟨p, q⟩, ev, hp, rfl⟩, b1⟩
  have HP := Lib.hid hp; clear hp
  have T1 : Hid (Tx w (w1.alloc (.cells #[.int .u32 p, .int .u32 q] 24)) w.heap.size w1.heap.size a b p q) := Lib.hid ⟨(S0.out.below b1 (by simp)).below ((Below.refl _ _).alloc (Nat.le_refl _) _) (S0.out.below b1 (by simp)).lt, Sb.new w1 p q, (T0.out.trans (b1.mono (by simp))).alloc (Nat.le_trans (by simp) b1.size) _⟩
  clear b1 T0 S0
  simp only [sv]
  go_wp2_with fail
  refine (HRT.out _).mono ?_
  rintro e w2 ⟨l, f, hr, A, c, rfl, hc, hz, b2⟩
  obtain ⟨rfl, rfl, hp1, hq1⟩ := both_say HP.out hr
  have T2 := Lib.hid (T1.out.later b2)
  clear b2 T1 hr HP HRT HPT
  simp only at hp1 hq1 hz hc
  generalize w1.heap.size = h at T2 ⊢
  generalize w.heap.size = g at T2 ⊢
  have HK := Lib.hid (fun X (hX : Below w2.heap.size w2 X) => show X.cell? ⟨g, 0, none⟩ = some (.int .u32 a) ∧ X.cell? ⟨g, 1, none⟩ = some (.int .u32 b) ∧ X.cell? ⟨h, 0, none⟩ = some (.int .u32 p) ∧ X.cell? ⟨h, 1, none⟩ = some (.int .u32 q) from
    ⟨(T2.out.later hX).s.cells.1, (T2.out.later hX).s.cells.2, (T2.out.later hX).t.cells.1, (T2.out.later hX).t.cells.2⟩)
  have HTX : Hid (∀ X, Below w2.heap.size w2 X → Calls Tryd.prog 25 #[.agg #[.int .u32 a, .int .u32 b]] X fun e w' => e = .returned (.string ⟨(textL a b).toArray⟩) ∧ Below w2.heap.size w2 w') := Lib.hid (fun X hX => (text_any a b X ha hb).mono fun e w' ⟨h1, h2⟩ => ⟨h1, hX.trans (h2.mono hX.size)⟩)
  have HRX : Hid (∀ A c, (L a b).length ≤ c → ∀ X, Below w2.heap.size w2 X → Ints .i64 X A (L a b) → Calls Tryd.prog 26 #[.slice A (L a b).length c] X fun e w' => e = .returned (.string ⟨(textL a b).toArray⟩) ∧ Below w2.heap.size w2 w') := Lib.hid (fun A c hc X hX hz => (rtext_any a b A c X ha hb hz hc).mono fun e w' ⟨h1, h2⟩ => ⟨h1, hX.trans (h2.mono hX.size)⟩)
  have HL : Hid (∀ a b : Nat, a < 4294967296 → b < 4294967296 → ∀ X, Below w2.heap.size w2 X → Calls Tryd.prog 27 #[.agg #[.int .u32 a, .int .u32 b]] X fun e w' => ∃ A c, e = .returned (.slice A (L a b).length c) ∧ (L a b).length ≤ c ∧ Ints .i64 w' A (L a b) ∧ Below w2.heap.size w2 w') := Lib.hid (fun a b ha hb X hX => (list_L a b X ha hb).mono fun e w' ⟨A, c, h0, h1, h2, h3⟩ => ⟨A, c, h0, h1, h2, hX.trans (h3.mono hX.size)⟩)
  have HLS := Lib.hid (HL.out a b ha hb)
  have HLT := Lib.hid (HL.out p q hp1 hq1)
  have HSM : Hid (∀ B d, (L p q).length ≤ d → ∀ X, Below w2.heap.size w2 X → Ints .i64 X B (L p q) → Calls Tryd.prog 28 #[.slice B (L p q).length d, .slice A (L p q).length c] X fun e w' => e = .returned (.bool true) ∧ Below w2.heap.size w2 w') := Lib.hid (fun B d hd X hX hB => (same_any B A d c (L p q) (L p q) X hB (Ints.below hz hX) (by have := L_len p q; omega) (by have := L_len p q; omega) hd hc).mono fun e w' ⟨h1, h2⟩ => ⟨by rw [h1, same_self], hX.trans (h2.mono hX.size)⟩)
  clear HL hz hc
  generalize L a b = l1 at *
  generalize L p q = l2 at *
  generalize (⟨(textL a b).toArray⟩ : ByteArray) = tx at *
  have B2 := Lib.hid T2.out.bel
  have tt : (tx.toList == tx.toList) = true := by simp
  clear T2 HE
  go_upto_region 5 with (fail)
  obtain ⟨x1, x2, x3, x4⟩ := HK.out _ (Below.refl _ _)
  go_region_held3 (fun w' => w'.cell? ⟨g, 0, none⟩ = some (.int .u32 a) ∧ w'.cell? ⟨g, 1, none⟩ = some (.int .u32 b) ∧ w'.cell? ⟨h, 0, none⟩ = some (.int .u32 p) ∧ w'.cell? ⟨h, 1, none⟩ = some (.int .u32 q))
    (exact HK.out _ (by first | exact Below.refl _ _ | exact (Below.refl _ _).drew | exact C1.out | exact C1.out.drew | exact C2.out | exact C2.out.drew | exact C3.out | exact C3.out.drew | exact C4.out | exact C4.out.drew | exact C5.out | exact C5.out.drew))
    (first
      | (go_at_call 25; refine (HTX.out _ (by first | exact Below.refl _ _ | exact (Below.refl _ _).drew | exact C1.out | exact C1.out.drew | exact C2.out | exact C2.out.drew | exact C3.out | exact C3.out.drew | exact C4.out | exact C4.out.drew | exact C5.out | exact C5.out.drew)).mono ?_; rintro e u1 ⟨rfl, b⟩; have C1 := Lib.hid b; clear b)
      | (have _z := C3; clear _z; go_at_call 27; refine (HLT.out _ (by first | exact Below.refl _ _ | exact (Below.refl _ _).drew | exact C1.out | exact C1.out.drew | exact C2.out | exact C2.out.drew | exact C3.out | exact C3.out.drew | exact C4.out | exact C4.out.drew | exact C5.out | exact C5.out.drew)).mono ?_; rintro e u4 ⟨A4, c4, rfl, h4, z4, b⟩; have C4 := Lib.hid b; have Z4 := Lib.hid z4; have H4 := Lib.hid h4; clear b z4 h4)
      | (go_at_call 27; refine (HLS.out _ (by first | exact Below.refl _ _ | exact (Below.refl _ _).drew | exact C1.out | exact C1.out.drew | exact C2.out | exact C2.out.drew | exact C3.out | exact C3.out.drew | exact C4.out | exact C4.out.drew | exact C5.out | exact C5.out.drew)).mono ?_; rintro e u2 ⟨A2, c2, rfl, h2, z2, b⟩; have C2 := Lib.hid b; have Z2 := Lib.hid z2; have H2 := Lib.hid h2; clear b z2 h2)
      | (go_at_call 26; refine (HRX.out _ _ H2.out _ (by first | exact Below.refl _ _ | exact (Below.refl _ _).drew | exact C1.out | exact C1.out.drew | exact C2.out | exact C2.out.drew | exact C3.out | exact C3.out.drew | exact C4.out | exact C4.out.drew | exact C5.out | exact C5.out.drew) (by first | exact Z2.out | exact Ints.below Z2.out (Below.refl _ _).drew)).mono ?_; rintro e u3 ⟨rfl, b⟩; have C3 := Lib.hid b; clear b)
      | (go_at_call 28; refine (HSM.out _ _ H4.out _ (by first | exact Below.refl _ _ | exact (Below.refl _ _).drew | exact C1.out | exact C1.out.drew | exact C2.out | exact C2.out.drew | exact C3.out | exact C3.out.drew | exact C4.out | exact C4.out.drew | exact C5.out | exact C5.out.drew) (by first | exact Z4.out | exact Ints.below Z4.out (Below.refl _ _).drew)).mono ?_; rintro e u5 ⟨rfl, b⟩; have C5 := Lib.hid b; clear b))
  go_wp2_with fail
  go_ret
  exact ⟨rfl, B2.out.trans (C5.out.mono B2.out.size)⟩
end Go.Proofs.YtljfnfaljadjdaaDoor
