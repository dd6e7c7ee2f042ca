/- The document's guess. -/
import Derived.Test.YtbanfkpfijcmcaaGreatDoorGx
import Derived.Test.YtbanfkpfijcmcaaGreatDoorFV
import Derived.Test.YtbanfkpfijcmcaaGreatDoorRx
namespace Go.Proofs.YtbanfkpfijcmcaaGreatDoor
open Go.RowKit
set_option linter.unusedSimpArgs false
set_option linter.unusedVariables false
set_option maxRecDepth 100000

/-- What guess answers. -/
def GsP (t : ByteArray) (w : World) (e : Ending) (w' : World) : Prop := ∃ (A : Option Addr) (n c : Nat), e = .returned (.agg #[.int .i64 (gsF t).kd, .int .u64 (gsF t).tk, .int .i64 (gsF t).id, .int .i64 (gsF t).fl, .int .i64 (gsF t).nn, .int .i64 (gsF t).er, .slice A n c]) ∧
  w'.ownsRow w.heap.size 5 1 (.slice A n c) (gsF t).dt.length (byt (gsF t).dt) ∧ Below w.heap.size w w'
theorem words_pos (l : List UInt8) : 0 < (wordsR l).length := by unfold wordsR; simp
theorem words_size (s : ByteArray) : ∀ y ∈ wordsR s.data.toList, y.length ≤ s.size := by
  have : ∀ (l : List UInt8) (p : List (List UInt8) × List UInt8) (n : Nat), (∀ y ∈ p.1, y.length ≤ n) ∧ p.2.length ≤ n → (∀ y ∈ (l.foldl stepWd p).1, y.length ≤ n + l.length) ∧ (l.foldl stepWd p).2.length ≤ n + l.length := by
    intro l
    induction l with
    | nil => intro p n h; simpa using h
    | cons c l ih =>
      intro p n h
      rw [List.foldl_cons]
      have h2 := ih (stepWd p c) (n + 1) (by
        unfold stepWd
        split
        · refine ⟨fun y hy => ?_, by simp⟩
          rcases List.mem_append.1 hy with hy | hy
          · exact Nat.le_succ_of_le (h.1 y hy)
          · rw [List.mem_singleton.1 hy]; exact Nat.le_succ_of_le h.2
        · exact ⟨fun y hy => Nat.le_succ_of_le (h.1 y hy), by simp; exact h.2⟩)
      simp only [List.length_cons]
      exact ⟨fun y hy => by have := h2.1 y hy; omega, by have := h2.2; omega⟩
  have h := this s.data.toList ([], []) 0 ⟨by simp, by simp⟩
  rw [sz_data, Nat.zero_add] at h
  intro y hy
  unfold wordsR wdSt at hy
  rcases List.mem_append.1 hy with hy | hy
  · exact h.1 y hy
  · rw [List.mem_singleton.1 hy]; exact h.2
theorem word_cmp (u r : List UInt8) : (((⟨u.toArray⟩ : ByteArray).toList == (⟨r.toArray⟩ : ByteArray).toList)) = decide (u = r) := by
  rw [ByteArray.toList_eq, ByteArray.toList_eq]
  by_cases h : u = r
  · simp [h]
  · simp [h]
theorem row_none (w : World) (base : Nat) : w.ownsRow base 5 1 (.slice none 0 0) 0 [] := World.ownsRow_nil _ _ _ _
theorem gs_eq (t : ByteArray) : gsF t = guessR (wordsR t.data.toList) := rfl
theorem zset {W : World} {z g : Nat} {o : Obj} (h : W.heap[z]? = some o) (hne : z ≠ g) (j : Nat) (v : Value) : (W.setCell ⟨g, j, none⟩ v).heap[z]? = some o := (Below.heap_setCell _ _ _ _ (by simpa using hne)).trans h
theorem bset {B : Nat} {w W : World} {g : Nat} (h : Below B w W) (hg : B ≤ g) (j : Nat) (v : Value) : Below B w (W.setCell ⟨g, j, none⟩ v) := h.setCell hg _
theorem own_slice {W : World} {base : Nat} {v : Value} {n : Nat} {xs : List Value} (h : W.ownsRow base 5 1 v n xs) : ∃ A m c, v = .slice A m c := by
  rcases h.2 with ⟨rfl, _⟩ | ⟨g, cap, cur, rfl, _⟩
  · exact ⟨_, _, _, rfl⟩
  · exact ⟨_, _, _, rfl⟩
theorem own_dn {w : World} {b b' : Nat} {e : TypeId} {s : Nat} {v : Value} {n : Nat} {xs : List Value} (h : w.ownsRow b e s v n xs) (hb : b' ≤ b) : w.ownsRow b' e s v n xs := by
  refine ⟨h.1, ?_⟩
  rcases h.2 with h0 | ⟨g, cap, cur, h1, h2, h3⟩
  · exact .inl h0
  · exact .inr ⟨g, cap, cur, h1, Nat.le_trans hb h2, h3⟩
theorem own_keep {W U : World} {base : Nat} {v : Value} {n : Nat} {xs : List Value} {z g : Nat} {cz cg : Array Value} {fz fg : Nat × Nat} (h : W.ownsRow base 5 1 v n xs) (hz : W.heap[z]? = some (.cells cz 28 fz)) (hg : W.heap[g]? = some (.cells cg 28 fg))
    (hU : ∀ b, b ≠ z → b ≠ g → U.heap[b]? = W.heap[b]?) : U.ownsRow base 5 1 v n xs :=
  row_same h (fun b hb => hU b (fun e => row_not h hz (by decide) (by rw [← e]; exact hb)) (fun e => row_not h hg (by decide) (by rw [← e]; exact hb)))
def strW (l : List UInt8) : ByteArray := ⟨l.toArray⟩
theorem strW_data (l : List UInt8) : (strW l).data.toList = l := rfl
/-- The words' cells, from a world on. -/
def WdsAt (w1 : World) (b : Nat) (L : List (List UInt8)) : Prop := ∀ i, i < L.length → ∀ W : World, Below w1.heap.size w1 W → W.cell? ⟨b, i, none⟩ = some (.string (strW (L.getD i [])))

theorem row7 {W : World} {g : Nat} {b0 b1 b2 b3 b4 b5 b6 : Value} (h : W.heap[g]? = some (.cells #[b0, b1, b2, b3, b4, b5, b6] 28 (0, 0))) (a0 a1 a2 a3 a4 a5 a6 : Value) :
    (((((((W.setCell ⟨g, 0, none⟩ a0).setCell ⟨g, 1, none⟩ a1).setCell ⟨g, 2, none⟩ a2).setCell ⟨g, 3, none⟩ a3).setCell ⟨g, 4, none⟩ a4).setCell ⟨g, 5, none⟩ a5).setCell ⟨g, 6, none⟩ a6).heap[g]? = some (.cells #[a0, a1, a2, a3, a4, a5, a6] 28 (0, 0)) := by
  have := set_blockx (j := 6) (v := a6) (set_blockx (j := 5) (v := a5) (set_blockx (j := 4) (v := a4) (set_blockx (j := 3) (v := a3) (set_blockx (j := 2) (v := a2) (set_blockx (j := 1) (v := a1) (set_blockx (j := 0) (v := a0) h))))))
  simpa using this
theorem below7 {B : Nat} {w W : World} {g : Nat} (h : Below B w W) (hg : B ≤ g) (a0 a1 a2 a3 a4 a5 a6 : Value) :
    Below B w (((((((W.setCell ⟨g, 0, none⟩ a0).setCell ⟨g, 1, none⟩ a1).setCell ⟨g, 2, none⟩ a2).setCell ⟨g, 3, none⟩ a3).setCell ⟨g, 4, none⟩ a4).setCell ⟨g, 5, none⟩ a5).setCell ⟨g, 6, none⟩ a6) :=
  ((((((h.setCell hg _).setCell hg _).setCell hg _).setCell hg _).setCell hg _).setCell hg _).setCell hg _
theorem gs_ret {W : World} {g : Nat} {a0 a1 a2 a3 a4 a5 a6 b0 b1 b2 b3 b4 b5 b6 : Value} {tmps : Array Value} {R : Ending → World → Prop} (h2 : tmps.getD 2 undef = .pointer (some ⟨g, 0, none⟩)) (hX : W.heap[g]? = some (.cells #[b0, b1, b2, b3, b4, b5, b6] 28 (0, 0)))
    (hR : R (.returned (.agg #[a0, a1, a2, a3, a4, a5, a6])) (((((((W.setCell ⟨g, 0, none⟩ a0).setCell ⟨g, 1, none⟩ a1).setCell ⟨g, 2, none⟩ a2).setCell ⟨g, 3, none⟩ a3).setCell ⟨g, 4, none⟩ a4).setCell ⟨g, 5, none⟩ a5).setCell ⟨g, 6, none⟩ a6)) :
    bodyPost Tryz.prog Tryz.f35 R .ret { tmps := tmps, defers := [] } (((((((W.setCell ⟨g, 0, none⟩ a0).setCell ⟨g, 1, none⟩ a1).setCell ⟨g, 2, none⟩ a2).setCell ⟨g, 3, none⟩ a3).setCell ⟨g, 4, none⟩ a4).setCell ⟨g, 5, none⟩ a5).setCell ⟨g, 6, none⟩ a6) := by
  have hr := row7 hX a0 a1 a2 a3 a4 a5 a6
  generalize ((((((W.setCell ⟨g, 0, none⟩ a0).setCell ⟨g, 1, none⟩ a1).setCell ⟨g, 2, none⟩ a2).setCell ⟨g, 3, none⟩ a3).setCell ⟨g, 4, none⟩ a4).setCell ⟨g, 5, none⟩ a5).setCell ⟨g, 6, none⟩ a6 = U at *
  refine ⟨rfl, _, ?_, hR⟩
  obtain ⟨c0, -, c1, -, c2, -, c3, -, c4, -, c5, -, c6, -⟩ := cells7 hr
  clear hr hX hR
  have h2' : tmps[2]?.getD undef = .pointer (some ⟨g, 0, none⟩) := by simpa using h2
  clear h2
  simp [results, Tryz.results35, h2', go_sem, c0, c1, c2, c3, c4, c5, c6]
set_option maxHeartbeats 8000000 in
theorem guess_any (s : ByteArray) (w : World) (hs : s.size ≤ 1000000) : Calls Tryz.prog 35 #[.string s] w (GsP s w) := by
  have HWD := Lib.hid (fun W => words_any s W hs)
  have hsz := words_size s
  have HG : Hid (∀ (x : En) (A : Option Addr) (n c : Nat) (w' : World), guessR (wordsR s.data.toList) = x → w'.ownsRow w.heap.size 5 1 (.slice A n c) x.dt.length (byt x.dt) → Below w.heap.size w w' →
      GsP s w (.returned (.agg #[.int .i64 x.kd, .int .u64 x.tk, .int .i64 x.id, .int .i64 x.fl, .int .i64 x.nn, .int .i64 x.er, .slice A n c])) w') := Lib.hid (by
    rintro x A n c w' rfl h1 h2
    exact ⟨A, n, c, rfl, h1, h2⟩)
  have hpos := words_pos s.data.toList
  generalize wordsR s.data.toList = L at *
  have HV : Hid (∀ i W, i < L.length → Calls Tryz.prog 60 #[.string (strW (L.getD i []))] W fun e w' => e = .returned (.int .u64 (valR (L.getD i []))) ∧ W = w') := Lib.hid (fun i W hi => value_any _ W (by
    have := hsz (L.getD i []) (by rw [List.getD_eq_getElem?_getD, List.getElem?_eq_getElem hi]; exact List.getElem_mem hi)
    unfold strW; rw [mk_size]; omega))
  have HSM : Hid (∀ i W, i < L.length → Calls Tryz.prog 61 #[.string (strW (L.getD i []))] W fun e w' => e = .returned (.int .i64 (smallR (L.getD i []))) ∧ W = w') := Lib.hid (fun i W hi => small_any _ W (by
    have := hsz (L.getD i []) (by rw [List.getD_eq_getElem?_getD, List.getElem?_eq_getElem hi]; exact List.getElem_mem hi)
    unfold strW; rw [mk_size]; omega))
  have HBY : Hid (∀ i W, i < L.length → Calls Tryz.prog 63 #[.string (strW (L.getD i []))] W fun e w' => ∃ v, e = .returned v ∧ w'.ownsRow W.heap.size 5 1 v (bytR (L.getD i []) ((L.getD i []).length / 2)).length (byt (bytR (L.getD i []) ((L.getD i []).length / 2))) ∧ Below W.heap.size W w') := Lib.hid (fun i W hi => by
    have h1 := hsz (L.getD i []) (by rw [List.getD_eq_getElem?_getD, List.getElem?_eq_getElem hi]; exact List.getElem_mem hi)
    have h2 := bytes_any (strW (L.getD i [])) W (by unfold strW; rw [mk_size]; omega)
    rw [strW_data, show (strW (L.getD i [])).size = (L.getD i []).length from mk_size _] at h2
    exact h2)
  have HPF := Lib.hid (fun s W => Fl.rfindTop0 s W)
  obtain ⟨G, hG⟩ : ∃ G : Nat → List UInt8, ∀ i, L.getD i [] = G i := ⟨fun i => L.getD i [], fun _ => rfl⟩
  simp only [hG] at HWD HV HSM HBY
  clear hsz
  have z1 := new_block w (.cells #[.int .i64 0, .int .u64 0, .int .i64 0, .int .i64 0, .int .i64 0, .int .i64 0, .slice none 0 0] 28)
  have b1 := (Below.refl w.heap.size w).alloc (Nat.le_refl _) (.cells #[.int .i64 0, .int .u64 0, .int .i64 0, .int .i64 0, .int .i64 0, .int .i64 0, .slice none 0 0] 28)
  go_enter Tryz.func35, Tryz.ntmps35
  go_wp2_with fail
  refine (HWD.out _).mono ?_
  rintro e w2 ⟨b, c, rfl, r1, r2, r3, r4, r5, b2⟩
  have x2 : w2.heap[w.heap.size]? = some (.cells #[.int .i64 0, .int .u64 0, .int .i64 0, .int .i64 0, .int .i64 0, .int .i64 0, .slice none 0 0] 28 (0, 0)) := (b2.block _ (by simp)).trans z1
  have B2 := Lib.hid (b1.trans (b2.mono b1.size))
  have X2 := Lib.hid x2
  clear b1 b2 z1 x2
  by_cases h3 : L.length < 3
  · have h3' : (L.length : Int) < 3 := by omega
    obtain ⟨c0, f0, c1, f1, c2, f2, c3, f3, c4, f4, c5, f5, c6, f6⟩ := cells7 X2.out
    have HR := Lib.hid (HG.out ⟨0, 0, 0, 0, 0, 0, []⟩ none 0 0)
    clear hG r5 r4 HG HWD HV HSM HBY HPF
    have hgl : guessR L = ⟨0, 0, 0, 0, 0, 0, []⟩ := by unfold guessR; rw [if_pos h3]
    go_wp2_with fail
    exact gs_ret rfl X2.out (HR.out _ hgl (row_none _ _) (below7 B2.out (Nat.le_refl _) _ _ _ _ _ _ _))
  · have h3' : ¬ (L.length : Int) < 3 := by omega
    have hb : b < w2.heap.size := r4
    have hne : ¬ w2.heap.size = b := by omega
    have hne2 : ¬ b = w2.heap.size := by omega
    have hbw : w.heap.size < b := by simp at r3; omega
    have hne3 : ¬ w.heap.size = w2.heap.size := by omega
    have HL := Lib.hid (fun i (hi : i < L.length) => show w2.cell? ⟨b, i, none⟩ = some (.string (strW (G i))) from r5 i hi)
    clear r3 r4 r5
    have l1 := HL.out 1 (by omega)
    have i0 : (0 : Int) < (L.length : Int) := by omega
    have i1 : (1 : Int) < (L.length : Int) := by omega
    have HV1 := Lib.hid (fun W => HV.out 1 W (by omega))
    have hge : w.heap.size + 1 ≤ w2.heap.size := by omega
    go_wp2_with fail
    refine (HV1.out _).mono ?_
    rintro e w3 ⟨rfl, rfl⟩
    go_upto_block 0 with (fail)
    have y3 := new_block w2 (.cells #[.int .i64 0, .int .u64 (valR (G 1)), .int .i64 0, .int .i64 0, .int .i64 0, .int .i64 0, .slice none 0 0] 28)
    have b3 := (Below.refl w2.heap.size w2).alloc (Nat.le_refl _) (.cells #[.int .i64 0, .int .u64 (valR (G 1)), .int .i64 0, .int .i64 0, .int .i64 0, .int .i64 0, .slice none 0 0] 28)
    generalize w2.alloc (.cells #[.int .i64 0, .int .u64 (valR (G 1)), .int .i64 0, .int .i64 0, .int .i64 0, .int .i64 0, .slice none 0 0] 28) = W3 at *
    have Y3 := Lib.hid y3
    have Z3 := Lib.hid ((b3.block _ (lt_of_block X2.out)).trans X2.out)
    have B3 := Lib.hid (B2.out.trans (b3.mono B2.out.size))
    have HL := Lib.hid (fun i (hi : i < L.length) => show W3.cell? ⟨b, i, none⟩ = some (.string (strW (G i))) from (b3.cell (p := ⟨b, i, none⟩) hb).trans (HL.out i hi))
    generalize w2.heap.size = g at *
    have hzg : w.heap.size ≤ g := by omega
    have hgz : w.heap.size ≠ g := hne3
    have l0 := HL.out 0 (by omega)
    obtain ⟨c0, f0, c1, f1, c2, f2, c3, f3, c4, f4, c5, f5, c6, f6⟩ := cells7 Z3.out
    obtain ⟨d0, e0, d1, k1, d2, k2, d3, k3, d4, k4, d5, k5, d6, k6⟩ := cells7 Y3.out
    obtain ⟨S0, hS0⟩ : ∃ S0, S0 = strW (G 0) := ⟨_, rfl⟩
    rw [← hS0] at l0
    have HS0 : Hid (S0 = ⟨(G 0).toArray⟩) := Lib.hid hS0
    clear hS0 b3 y3 X2 B2 hge l1
    by_cases e1 : G 0 = [116, 117, 114, 110]
    · have e2 : ¬ G 0 = [114, 117, 110] := by rw [e1]; decide
      have e3 : ¬ G 0 = [100, 105, 100] := by rw [e1]; decide
      have e4 : ¬ G 0 = [101, 110, 100] := by rw [e1]; decide
      have hgl : guessR L = ⟨1, valR (G 1), 0, 0, smallR (G 2), 0, []⟩ := by
        unfold guessR; simp only [hG]
        rw [if_neg h3]
        rw [if_pos e1]
      have l2 := HL.out 2 (by omega)
      have i2 : (2 : Int) < (L.length : Int) := by omega
      have HS2 := Lib.hid (fun W => HSM.out 2 W (by omega))
      have q1 : (S0.toList == ([116, 117, 114, 110] : List UInt8)) = true := by rw [HS0.out, ByteArray.toList_eq]; simpa using e1
      have r1 : (S0 = ⟨#[116, 117, 114, 110]⟩) := by rw [HS0.out, e1]
      have q2 : (S0.toList == ([114, 117, 110] : List UInt8)) = false := by rw [HS0.out, ByteArray.toList_eq]; simpa using e2
      have r2 : ¬ (S0 = ⟨#[114, 117, 110]⟩) := fun h => e2 (by have h2 := congrArg (fun b : ByteArray => b.data.toList) h; rw [HS0.out] at h2; exact h2)
      skip
      have q3 : (S0.toList == ([100, 105, 100] : List UInt8)) = false := by rw [HS0.out, ByteArray.toList_eq]; simpa using e3
      have r3 : ¬ (S0 = ⟨#[100, 105, 100]⟩) := fun h => e3 (by have h2 := congrArg (fun b : ByteArray => b.data.toList) h; rw [HS0.out] at h2; exact h2)
      skip
      have q4 : (S0.toList == ([101, 110, 100] : List UInt8)) = false := by rw [HS0.out, ByteArray.toList_eq]; simpa using e4
      have r4 : ¬ (S0 = ⟨#[101, 110, 100]⟩) := fun h => e4 (by have h2 := congrArg (fun b : ByteArray => b.data.toList) h; rw [HS0.out] at h2; exact h2)
      skip
      have HR := Lib.hid (fun A n c w' => HG.out _ A n c w' hgl)
      clear hG hgl HG HWD HV HSM HBY HPF HL HS0 e1 e2 e3 e4
      generalize G 1 = u1 at *
      generalize G 2 = u2 at *
      go_wp2_with fail
      refine (HS2.out _).mono ?_
      rintro e w4 ⟨rfl, rfl⟩
      go_wp2_with fail
      refine gs_ret (by rfl) (zset (zset Z3.out hgz 0 _) hgz 4 _) ?_
      have e := HR.out none 0 0
      simp only [List.length_nil] at e
      exact e _ (row_none _ _) (below7 (bset (bset B3.out hzg 0 _) hzg 4 _) (Nat.le_refl _) _ _ _ _ _ _ _)
    by_cases e2 : G 0 = [114, 117, 110]
    · have e3 : ¬ G 0 = [100, 105, 100] := by rw [e2]; decide
      have e4 : ¬ G 0 = [101, 110, 100] := by rw [e2]; decide
      by_cases n2 : 4 < L.length
      · skip
        have hgl : guessR L = ⟨2, valR (G 1), smallR (G 2), Fl.paR 0 (strW (G 3)), smallR (G 4), 0, []⟩ := by
          unfold guessR strW; simp only [hG]
          rw [if_neg h3]
          rw [if_neg e1]
          rw [if_pos ⟨e2, n2⟩]
        have l2 := HL.out 2 (by omega)
        have i2 : (2 : Int) < (L.length : Int) := by omega
        have l3 := HL.out 3 (by omega)
        have i3 : (3 : Int) < (L.length : Int) := by omega
        have l4 := HL.out 4 (by omega)
        have i4 : (4 : Int) < (L.length : Int) := by omega
        have HS2 := Lib.hid (fun W => HSM.out 2 W (by omega))
        have HP3 := Lib.hid (fun W => HPF.out (strW (G 3)) W)
        have HS4 := Lib.hid (fun W => HSM.out 4 W (by omega))
        have q1 : (S0.toList == ([116, 117, 114, 110] : List UInt8)) = false := by rw [HS0.out, ByteArray.toList_eq]; simpa using e1
        have r1 : ¬ (S0 = ⟨#[116, 117, 114, 110]⟩) := fun h => e1 (by have h2 := congrArg (fun b : ByteArray => b.data.toList) h; rw [HS0.out] at h2; exact h2)
        have q2 : (S0.toList == ([114, 117, 110] : List UInt8)) = true := by rw [HS0.out, ByteArray.toList_eq]; simpa using e2
        have r2 : (S0 = ⟨#[114, 117, 110]⟩) := by rw [HS0.out, e2]
        have m2 : (4 : Int) < (L.length : Int) := by omega
        have q3 : (S0.toList == ([100, 105, 100] : List UInt8)) = false := by rw [HS0.out, ByteArray.toList_eq]; simpa using e3
        have r3 : ¬ (S0 = ⟨#[100, 105, 100]⟩) := fun h => e3 (by have h2 := congrArg (fun b : ByteArray => b.data.toList) h; rw [HS0.out] at h2; exact h2)
        skip
        have q4 : (S0.toList == ([101, 110, 100] : List UInt8)) = false := by rw [HS0.out, ByteArray.toList_eq]; simpa using e4
        have r4 : ¬ (S0 = ⟨#[101, 110, 100]⟩) := fun h => e4 (by have h2 := congrArg (fun b : ByteArray => b.data.toList) h; rw [HS0.out] at h2; exact h2)
        skip
        have HR := Lib.hid (fun A n c w' => HG.out _ A n c w' hgl)
        clear hG hgl HG HWD HV HSM HBY HPF HL HS0 e1 e2 e3 e4
        generalize G 1 = u1 at *
        generalize G 2 = u2 at *
        generalize G 3 = u3 at *
        generalize G 4 = u4 at *
        go_wp2_with fail
        refine (HS2.out _).mono ?_
        rintro e w4 ⟨rfl, rfl⟩
        go_wp2_with fail
        refine (HP3.out _).mono ?_
        rintro e w4 ⟨rfl, rfl⟩
        go_wp2_with fail
        refine (HS4.out _).mono ?_
        rintro e w4 ⟨rfl, rfl⟩
        go_wp2_with fail
        refine gs_ret (by rfl) (zset (zset (zset (zset Z3.out hgz 0 _) hgz 2 _) hgz 3 _) hgz 4 _) ?_
        have e := HR.out none 0 0
        simp only [List.length_nil] at e
        exact e _ (row_none _ _) (below7 (bset (bset (bset (bset B3.out hzg 0 _) hzg 2 _) hzg 3 _) hzg 4 _) (Nat.le_refl _) _ _ _ _ _ _ _)
      · skip
        have hgl : guessR L = ⟨0, valR (G 1), 0, 0, 0, 0, []⟩ := by
          unfold guessR; simp only [hG]
          rw [if_neg h3]
          rw [if_neg e1]
          rw [if_neg (fun h => n2 h.2)]
          rw [if_neg (fun h => e3 h.1)]
          rw [if_neg (fun h => e4 h.1)]
        have q1 : (S0.toList == ([116, 117, 114, 110] : List UInt8)) = false := by rw [HS0.out, ByteArray.toList_eq]; simpa using e1
        have r1 : ¬ (S0 = ⟨#[116, 117, 114, 110]⟩) := fun h => e1 (by have h2 := congrArg (fun b : ByteArray => b.data.toList) h; rw [HS0.out] at h2; exact h2)
        have q2 : (S0.toList == ([114, 117, 110] : List UInt8)) = true := by rw [HS0.out, ByteArray.toList_eq]; simpa using e2
        have r2 : (S0 = ⟨#[114, 117, 110]⟩) := by rw [HS0.out, e2]
        have m2 : ¬ (4 : Int) < (L.length : Int) := by omega
        have q3 : (S0.toList == ([100, 105, 100] : List UInt8)) = false := by rw [HS0.out, ByteArray.toList_eq]; simpa using e3
        have r3 : ¬ (S0 = ⟨#[100, 105, 100]⟩) := fun h => e3 (by have h2 := congrArg (fun b : ByteArray => b.data.toList) h; rw [HS0.out] at h2; exact h2)
        skip
        have q4 : (S0.toList == ([101, 110, 100] : List UInt8)) = false := by rw [HS0.out, ByteArray.toList_eq]; simpa using e4
        have r4 : ¬ (S0 = ⟨#[101, 110, 100]⟩) := fun h => e4 (by have h2 := congrArg (fun b : ByteArray => b.data.toList) h; rw [HS0.out] at h2; exact h2)
        skip
        have HR := Lib.hid (fun A n c w' => HG.out _ A n c w' hgl)
        clear hG hgl HG HWD HV HSM HBY HPF HL HS0 e1 e2 e3 e4
        generalize G 1 = u1 at *
        go_wp2_with fail
        refine gs_ret (by rfl) Z3.out ?_
        have e := HR.out none 0 0
        simp only [List.length_nil] at e
        exact e _ (row_none _ _) (below7 B3.out (Nat.le_refl _) _ _ _ _ _ _ _)
    by_cases e3 : G 0 = [100, 105, 100]
    · have e4 : ¬ G 0 = [101, 110, 100] := by rw [e3]; decide
      by_cases n3 : 5 < L.length
      · skip
        have hgl : guessR L = ⟨3, valR (G 1), smallR (G 2), 0, smallR (G 3), smallR (G 4), bytR (G 5) ((G 5).length / 2)⟩ := by
          unfold guessR; simp only [hG]
          rw [if_neg h3]
          rw [if_neg e1]
          rw [if_neg (fun h => e2 h.1)]
          rw [if_pos ⟨e3, n3⟩]
        have l2 := HL.out 2 (by omega)
        have i2 : (2 : Int) < (L.length : Int) := by omega
        have l3 := HL.out 3 (by omega)
        have i3 : (3 : Int) < (L.length : Int) := by omega
        have l4 := HL.out 4 (by omega)
        have i4 : (4 : Int) < (L.length : Int) := by omega
        have l5 := HL.out 5 (by omega)
        have i5 : (5 : Int) < (L.length : Int) := by omega
        have HS2 := Lib.hid (fun W => HSM.out 2 W (by omega))
        have HS3 := Lib.hid (fun W => HSM.out 3 W (by omega))
        have HS4 := Lib.hid (fun W => HSM.out 4 W (by omega))
        have HB5 := Lib.hid (fun W => HBY.out 5 W (by omega))
        have q1 : (S0.toList == ([116, 117, 114, 110] : List UInt8)) = false := by rw [HS0.out, ByteArray.toList_eq]; simpa using e1
        have r1 : ¬ (S0 = ⟨#[116, 117, 114, 110]⟩) := fun h => e1 (by have h2 := congrArg (fun b : ByteArray => b.data.toList) h; rw [HS0.out] at h2; exact h2)
        have q2 : (S0.toList == ([114, 117, 110] : List UInt8)) = false := by rw [HS0.out, ByteArray.toList_eq]; simpa using e2
        have r2 : ¬ (S0 = ⟨#[114, 117, 110]⟩) := fun h => e2 (by have h2 := congrArg (fun b : ByteArray => b.data.toList) h; rw [HS0.out] at h2; exact h2)
        skip
        have q3 : (S0.toList == ([100, 105, 100] : List UInt8)) = true := by rw [HS0.out, ByteArray.toList_eq]; simpa using e3
        have r3 : (S0 = ⟨#[100, 105, 100]⟩) := by rw [HS0.out, e3]
        have m3 : (5 : Int) < (L.length : Int) := by omega
        have q4 : (S0.toList == ([101, 110, 100] : List UInt8)) = false := by rw [HS0.out, ByteArray.toList_eq]; simpa using e4
        have r4 : ¬ (S0 = ⟨#[101, 110, 100]⟩) := fun h => e4 (by have h2 := congrArg (fun b : ByteArray => b.data.toList) h; rw [HS0.out] at h2; exact h2)
        skip
        have HR := Lib.hid (fun A n c w' => HG.out _ A n c w' hgl)
        clear hG hgl HG HWD HV HSM HBY HPF HL HS0 e1 e2 e3 e4
        generalize G 1 = u1 at *
        generalize G 2 = u2 at *
        generalize G 3 = u3 at *
        generalize G 4 = u4 at *
        generalize G 5 = u5 at *
        go_wp2_with fail
        refine (HS2.out _).mono ?_
        rintro e w4 ⟨rfl, rfl⟩
        go_wp2_with fail
        refine (HS3.out _).mono ?_
        rintro e w4 ⟨rfl, rfl⟩
        go_wp2_with fail
        refine (HS4.out _).mono ?_
        rintro e w4 ⟨rfl, rfl⟩
        go_wp2_with fail
        refine (HB5.out _).mono ?_
        rintro e w5 ⟨v5, rfl, own5, b5⟩
        obtain ⟨A5, n5, c5, rfl⟩ := own_slice own5
        have Z5 := (b5.block _ (lt_of_block (zset (zset (zset (zset Z3.out hgz 0 _) hgz 2 _) hgz 4 _) hgz 5 _))).trans (zset (zset (zset (zset Z3.out hgz 0 _) hgz 2 _) hgz 4 _) hgz 5 _)
        have y4 := set_blockx (j := 5) (v := .int .i64 (smallR u4)) (set_blockx (j := 4) (v := .int .i64 (smallR u3)) (set_blockx (j := 2) (v := .int .i64 (smallR u2)) (set_blockx (j := 0) (v := .int .i64 3) Y3.out)))
        have Y5 := (b5.block _ (lt_of_block y4)).trans y4
        simp only [List.setIfInBounds_toArray, List.set_cons_zero, List.set_cons_succ] at Y5
        have BB4 := bset (bset (bset (bset B3.out hzg 0 (.int .i64 3)) hzg 2 (.int .i64 (smallR u2))) hzg 4 (.int .i64 (smallR u3))) hzg 5 (.int .i64 (smallR u4))
        have hU5 := BB4.size
        have BB5 := BB4.trans (b5.mono BB4.size)
        obtain ⟨k0, p0, k1, p1, k2, p2, k3, p3, k4, p4, k5, p5, k6, p6⟩ := cells7 Y5
        obtain ⟨t0, s0, t1, s1, t2, s2, t3, s3, t4, s4, t5, s5, t6, s6⟩ := cells7 Z5
        have OWN := Lib.hid own5; have HZ5 := Lib.hid Z5; have HY5 := Lib.hid Y5; have HB5 := Lib.hid BB5; have HU5 := Lib.hid hU5
        clear own5 Z5 Y5 BB5 BB4 y4 b5 hU5
        go_wp2_with fail
        refine gs_ret (by rfl) (zset HZ5.out hgz 6 _) ?_
        have e := HR.out A5 n5 c5
        try simp only at e
        exact e _ (own_keep (own_dn OWN.out HU5.out) HZ5.out HY5.out (fun b h1 h2 => by (repeat rw [Below.heap_setCell _ _ _ _ (by simpa using h1)]); exact Below.heap_setCell _ _ _ _ (by simpa using h2))) (below7 (bset HB5.out hzg 6 _) (Nat.le_refl _) _ _ _ _ _ _ _)
      · skip
        have hgl : guessR L = ⟨0, valR (G 1), 0, 0, 0, 0, []⟩ := by
          unfold guessR; simp only [hG]
          rw [if_neg h3]
          rw [if_neg e1]
          rw [if_neg (fun h => e2 h.1)]
          rw [if_neg (fun h => n3 h.2)]
          rw [if_neg (fun h => e4 h.1)]
        have q1 : (S0.toList == ([116, 117, 114, 110] : List UInt8)) = false := by rw [HS0.out, ByteArray.toList_eq]; simpa using e1
        have r1 : ¬ (S0 = ⟨#[116, 117, 114, 110]⟩) := fun h => e1 (by have h2 := congrArg (fun b : ByteArray => b.data.toList) h; rw [HS0.out] at h2; exact h2)
        have q2 : (S0.toList == ([114, 117, 110] : List UInt8)) = false := by rw [HS0.out, ByteArray.toList_eq]; simpa using e2
        have r2 : ¬ (S0 = ⟨#[114, 117, 110]⟩) := fun h => e2 (by have h2 := congrArg (fun b : ByteArray => b.data.toList) h; rw [HS0.out] at h2; exact h2)
        skip
        have q3 : (S0.toList == ([100, 105, 100] : List UInt8)) = true := by rw [HS0.out, ByteArray.toList_eq]; simpa using e3
        have r3 : (S0 = ⟨#[100, 105, 100]⟩) := by rw [HS0.out, e3]
        have m3 : ¬ (5 : Int) < (L.length : Int) := by omega
        have q4 : (S0.toList == ([101, 110, 100] : List UInt8)) = false := by rw [HS0.out, ByteArray.toList_eq]; simpa using e4
        have r4 : ¬ (S0 = ⟨#[101, 110, 100]⟩) := fun h => e4 (by have h2 := congrArg (fun b : ByteArray => b.data.toList) h; rw [HS0.out] at h2; exact h2)
        skip
        have HR := Lib.hid (fun A n c w' => HG.out _ A n c w' hgl)
        clear hG hgl HG HWD HV HSM HBY HPF HL HS0 e1 e2 e3 e4
        generalize G 1 = u1 at *
        go_wp2_with fail
        refine gs_ret (by rfl) Z3.out ?_
        have e := HR.out none 0 0
        simp only [List.length_nil] at e
        exact e _ (row_none _ _) (below7 B3.out (Nat.le_refl _) _ _ _ _ _ _ _)
    by_cases e4 : G 0 = [101, 110, 100]
    · by_cases n4 : 3 < L.length
      · skip
        have hgl : guessR L = ⟨4, valR (G 1), 0, 0, smallR (G 2), smallR (G 3), []⟩ := by
          unfold guessR; simp only [hG]
          rw [if_neg h3]
          rw [if_neg e1]
          rw [if_neg (fun h => e2 h.1)]
          rw [if_neg (fun h => e3 h.1)]
          rw [if_pos ⟨e4, n4⟩]
        have l2 := HL.out 2 (by omega)
        have i2 : (2 : Int) < (L.length : Int) := by omega
        have l3 := HL.out 3 (by omega)
        have i3 : (3 : Int) < (L.length : Int) := by omega
        have HS2 := Lib.hid (fun W => HSM.out 2 W (by omega))
        have HS3 := Lib.hid (fun W => HSM.out 3 W (by omega))
        have q1 : (S0.toList == ([116, 117, 114, 110] : List UInt8)) = false := by rw [HS0.out, ByteArray.toList_eq]; simpa using e1
        have r1 : ¬ (S0 = ⟨#[116, 117, 114, 110]⟩) := fun h => e1 (by have h2 := congrArg (fun b : ByteArray => b.data.toList) h; rw [HS0.out] at h2; exact h2)
        have q2 : (S0.toList == ([114, 117, 110] : List UInt8)) = false := by rw [HS0.out, ByteArray.toList_eq]; simpa using e2
        have r2 : ¬ (S0 = ⟨#[114, 117, 110]⟩) := fun h => e2 (by have h2 := congrArg (fun b : ByteArray => b.data.toList) h; rw [HS0.out] at h2; exact h2)
        skip
        have q3 : (S0.toList == ([100, 105, 100] : List UInt8)) = false := by rw [HS0.out, ByteArray.toList_eq]; simpa using e3
        have r3 : ¬ (S0 = ⟨#[100, 105, 100]⟩) := fun h => e3 (by have h2 := congrArg (fun b : ByteArray => b.data.toList) h; rw [HS0.out] at h2; exact h2)
        skip
        have q4 : (S0.toList == ([101, 110, 100] : List UInt8)) = true := by rw [HS0.out, ByteArray.toList_eq]; simpa using e4
        have r4 : (S0 = ⟨#[101, 110, 100]⟩) := by rw [HS0.out, e4]
        have m4 : (3 : Int) < (L.length : Int) := by omega
        have HR := Lib.hid (fun A n c w' => HG.out _ A n c w' hgl)
        clear hG hgl HG HWD HV HSM HBY HPF HL HS0 e1 e2 e3 e4
        generalize G 1 = u1 at *
        generalize G 2 = u2 at *
        generalize G 3 = u3 at *
        go_wp2_with fail
        refine (HS2.out _).mono ?_
        rintro e w4 ⟨rfl, rfl⟩
        go_wp2_with fail
        refine (HS3.out _).mono ?_
        rintro e w4 ⟨rfl, rfl⟩
        go_wp2_with fail
        refine gs_ret (by rfl) (zset (zset (zset Z3.out hgz 0 _) hgz 4 _) hgz 5 _) ?_
        have e := HR.out none 0 0
        simp only [List.length_nil] at e
        exact e _ (row_none _ _) (below7 (bset (bset (bset B3.out hzg 0 _) hzg 4 _) hzg 5 _) (Nat.le_refl _) _ _ _ _ _ _ _)
      · skip
        have hgl : guessR L = ⟨0, valR (G 1), 0, 0, 0, 0, []⟩ := by
          unfold guessR; simp only [hG]
          rw [if_neg h3]
          rw [if_neg e1]
          rw [if_neg (fun h => e2 h.1)]
          rw [if_neg (fun h => e3 h.1)]
          rw [if_neg (fun h => n4 h.2)]
        have q1 : (S0.toList == ([116, 117, 114, 110] : List UInt8)) = false := by rw [HS0.out, ByteArray.toList_eq]; simpa using e1
        have r1 : ¬ (S0 = ⟨#[116, 117, 114, 110]⟩) := fun h => e1 (by have h2 := congrArg (fun b : ByteArray => b.data.toList) h; rw [HS0.out] at h2; exact h2)
        have q2 : (S0.toList == ([114, 117, 110] : List UInt8)) = false := by rw [HS0.out, ByteArray.toList_eq]; simpa using e2
        have r2 : ¬ (S0 = ⟨#[114, 117, 110]⟩) := fun h => e2 (by have h2 := congrArg (fun b : ByteArray => b.data.toList) h; rw [HS0.out] at h2; exact h2)
        skip
        have q3 : (S0.toList == ([100, 105, 100] : List UInt8)) = false := by rw [HS0.out, ByteArray.toList_eq]; simpa using e3
        have r3 : ¬ (S0 = ⟨#[100, 105, 100]⟩) := fun h => e3 (by have h2 := congrArg (fun b : ByteArray => b.data.toList) h; rw [HS0.out] at h2; exact h2)
        skip
        have q4 : (S0.toList == ([101, 110, 100] : List UInt8)) = true := by rw [HS0.out, ByteArray.toList_eq]; simpa using e4
        have r4 : (S0 = ⟨#[101, 110, 100]⟩) := by rw [HS0.out, e4]
        have m4 : ¬ (3 : Int) < (L.length : Int) := by omega
        have HR := Lib.hid (fun A n c w' => HG.out _ A n c w' hgl)
        clear hG hgl HG HWD HV HSM HBY HPF HL HS0 e1 e2 e3 e4
        generalize G 1 = u1 at *
        go_wp2_with fail
        refine gs_ret (by rfl) Z3.out ?_
        have e := HR.out none 0 0
        simp only [List.length_nil] at e
        exact e _ (row_none _ _) (below7 B3.out (Nat.le_refl _) _ _ _ _ _ _ _)
    have hgl : guessR L = ⟨0, valR (G 1), 0, 0, 0, 0, []⟩ := by
      unfold guessR; simp only [hG]
      rw [if_neg h3]
      rw [if_neg e1]
      rw [if_neg (fun h => e2 h.1)]
      rw [if_neg (fun h => e3 h.1)]
      rw [if_neg (fun h => e4 h.1)]
    have q1 : (S0.toList == ([116, 117, 114, 110] : List UInt8)) = false := by rw [HS0.out, ByteArray.toList_eq]; simpa using e1
    have r1 : ¬ (S0 = ⟨#[116, 117, 114, 110]⟩) := fun h => e1 (by have h2 := congrArg (fun b : ByteArray => b.data.toList) h; rw [HS0.out] at h2; exact h2)
    have q2 : (S0.toList == ([114, 117, 110] : List UInt8)) = false := by rw [HS0.out, ByteArray.toList_eq]; simpa using e2
    have r2 : ¬ (S0 = ⟨#[114, 117, 110]⟩) := fun h => e2 (by have h2 := congrArg (fun b : ByteArray => b.data.toList) h; rw [HS0.out] at h2; exact h2)
    skip
    have q3 : (S0.toList == ([100, 105, 100] : List UInt8)) = false := by rw [HS0.out, ByteArray.toList_eq]; simpa using e3
    have r3 : ¬ (S0 = ⟨#[100, 105, 100]⟩) := fun h => e3 (by have h2 := congrArg (fun b : ByteArray => b.data.toList) h; rw [HS0.out] at h2; exact h2)
    skip
    have q4 : (S0.toList == ([101, 110, 100] : List UInt8)) = false := by rw [HS0.out, ByteArray.toList_eq]; simpa using e4
    have r4 : ¬ (S0 = ⟨#[101, 110, 100]⟩) := fun h => e4 (by have h2 := congrArg (fun b : ByteArray => b.data.toList) h; rw [HS0.out] at h2; exact h2)
    skip
    have HR := Lib.hid (fun A n c w' => HG.out _ A n c w' hgl)
    clear hG hgl HG HWD HV HSM HBY HPF HL HS0 e1 e2 e3 e4
    generalize G 1 = u1 at *
    go_wp2_with fail
    refine gs_ret (by rfl) Z3.out ?_
    have e := HR.out none 0 0
    simp only [List.length_nil] at e
    exact e _ (row_none _ _) (below7 B3.out (Nat.le_refl _) _ _ _ _ _ _ _)
end Go.Proofs.YtbanfkpfijcmcaaGreatDoor
