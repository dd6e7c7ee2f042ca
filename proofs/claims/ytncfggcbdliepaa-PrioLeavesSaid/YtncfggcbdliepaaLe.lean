/- PrioLeaves. -/
import Derived.Test.YtncfggcbdliepaaMo
namespace Go.Proofs.Ytncfggcbdliepaa
open Go.RowKit
set_option linter.unusedSimpArgs false
set_option linter.unusedVariables false
set_option maxRecDepth 100000

/-- A number that is put behind, and cut, leaves the list. -/
theorem cut_snoc {L : List It} {t : It} (h : look L t.id = none) : cutL (L ++ [t]) t.id = L := by
  have h1 := cut_none (look_none.1 h)
  unfold cutL at h1 ⊢
  rw [List.filter_append, h1]
  simp

/-- The lists that were told, in block x. -/
structure Was (W : World) (S : Nat → Prop) (x : Nat) (vs : List Value) (L : List It) (k : Nat) : Prop where
  b : W.heap[x]? = some (.cells vs.toArray 40 (0, 0))
  l : vs.length = 8
  xs : ¬ S x
  r : ∀ (j : Nat) (v : Value), j < k → vs[j]? = some v → W.ownsRow 0 35 3 v (row L j).length (flat (row L j)) ∧ ∀ b, v.ownBlock = some b → ¬ S b ∧ b ≠ x
theorem Was.stp {W W' : World} {S S' : Nat → Prop} {x : Nat} {vs : List Value} {L : List It} {k : Nat} (h : Was W S x vs L k) (st : Stp S W S' W') : Was W' S' x vs L k := by
  have key : ∀ b, b < W.heap.size → ¬ S b → ¬ S' b := fun b hb hs h' => by
    rcases st.s b h' with h1 | h1
    · exact hs h1
    · omega
  refine ⟨(st.f.block _ (lt_of_block h.b) h.xs).trans h.b, h.l, key _ (lt_of_block h.b) h.xs, fun j v hj hv => ?_⟩
  obtain ⟨h1, h2⟩ := h.r j v hj hv
  exact ⟨row_same h1 (fun b e => st.f.block b (h1.lt b e).2 (h2 b e).1), fun b e => ⟨key b (h1.lt b e).2 (h2 b e).1, (h2 b e).2⟩⟩
theorem Was.below {W W' : World} {S : Nat → Prop} {x : Nat} {vs : List Value} {L : List It} {k : Nat} (h : Was W S x vs L k) (hb : Below W.heap.size W W') : Was W' S x vs L k := h.stp (Stp.of_below hb)
theorem Was.cell {W : World} {S : Nat → Prop} {x : Nat} {vs : List Value} {L : List It} {k : Nat} (h : Was W S x vs L k) (j : Nat) (hj : j < 8) : ∃ v, vs[j]? = some v ∧ W.cell? ⟨x, j, none⟩ = some v ∧ W.frozen? ⟨x, j, none⟩ = false := by
  have hl : j < vs.length := by rw [h.l]; exact hj
  obtain ⟨h1, h2⟩ := cell_of h.b j
  refine ⟨vs[j], List.getElem?_eq_getElem hl, ?_, h2⟩
  rw [h1]
  simp [hl]
theorem Was.set {W W' : World} {S : Nat → Prop} {x : Nat} {vs : List Value} {L : List It} {k : Nat} {v : Value} (h : Was W S x vs L k) (hS : ∀ b, S b → b < W.heap.size) (hb : Below W.heap.size W W') (hv : W'.ownsRow W.heap.size 35 3 v (row L k).length (flat (row L k))) : Was (W'.setCell ⟨x, k, none⟩ v) S x (vs.set k v) L (k + 1) := by
  have h' := h.below hb
  have hx := lt_of_block h.b
  refine ⟨?_, by rw [List.length_set]; exact h.l, h.xs, fun j u hj hu => ?_⟩
  · rw [set_block h'.b k v]
    simp
  · have other : ∀ b, b ≠ x → (W'.setCell ⟨x, k, none⟩ v).heap[b]? = W'.heap[b]? := fun b hb => set_other _ hb _ _
    by_cases e : k = j
    · subst e
      have hu2 : u = v := by
        by_cases hl : k < vs.length
        · rw [List.getElem?_set_self hl] at hu; injection hu with hu; exact hu.symm
        · rw [List.getElem?_eq_none (by rw [List.length_set]; omega)] at hu; cases hu
      subst hu2
      refine ⟨row_same (row_base hv) (fun b e => other b ?_), fun b e => ⟨fun hs => ?_, ?_⟩⟩
      · have := (hv.lt b e).1; omega
      · have := (hv.lt b e).1; have := hS b hs; omega
      · have := (hv.lt b e).1; omega
    · rw [List.getElem?_set_ne e] at hu
      obtain ⟨h3, h4⟩ := h'.r j u (by omega) hu
      exact ⟨row_same h3 (fun b e => other b (h4 b e).2), h4⟩
theorem Was.start {W : World} {S : Nat → Prop} {L : List It} (hS : ∀ b, S b → b < W.heap.size) : Was (W.alloc (.cells (List.replicate 8 (Value.slice none 0 0)).toArray 40)) S W.heap.size (List.replicate 8 (Value.slice none 0 0)) L 0 :=
  ⟨new_block _ _, by simp, fun h => by have := hS _ h; omega, fun j v hj => absurd hj (Nat.not_lt_zero j)⟩

theorem leaves_out (a a' : Option Addr) (n cap n' cap' : Nat) (x p f : Int) (w : World) (hn : n ≤ maxLen) (hn' : n' ≤ maxLen) (h : 100 < n ∨ n' < n) :
    Calls Try.prog 4 #[.slice a n cap, .slice a' n' cap', .int .i64 x, .int .i64 p, .int .i64 f] w fun e w' => e = .returned (.bool true) ∧ Below w.heap.size w w' := by
  unfold maxLen at hn hn'
  by_cases h1 : (100 : Int) < (n : Int)
  case' neg =>
    have h2 : (n' : Int) < (n : Int) := by omega
    have h3 : (n : Int) ≤ 100 := by omega
  all_goals
    clear h
    go_enter Try.func4, Try.ntmps4
    go_wp2_with fail
    refine (alive_any w).mono ?_
    rintro e w1 ⟨rfl, b1⟩
    go_wp2_with fail
    go_ret
    exact ⟨rfl, b1⟩

set_option maxHeartbeats 8000000 in
theorem leaves_in (a a' : Option Addr) (cap cap' : Nat) (l l' : List Int) (x p f : Int) (w : World) (hl : l.length ≤ 100) (hl' : l.length ≤ l'.length) (hm' : l'.length ≤ maxLen) (hr : Ints .u16 w a l) (hr' : Ints .u8 w a' l') (hw : ∀ n ∈ l, (Lit.int .u16 n).wf = true) (hw' : ∀ n ∈ l', (Lit.int .u8 n).wf = true)
    (hx : (Lit.int .i64 x).wf = true) (hf : (Lit.int .i64 f).wf = true) :
    Calls Try.prog 4 #[.slice a l.length cap, .slice a' l'.length cap', .int .i64 x, .int .i64 p, .int .i64 f] w fun e w' => e = .returned (.bool true) ∧ Below w.heap.size w w' := by
  have HA := Lib.hid hr; have HA' := Lib.hid hr'; have HW := Lib.hid hw; have HW' := Lib.hid hw'; have HX := Lib.hid hx; have HF := Lib.hid hf
  clear hr hr' hw hw' hx hf
  unfold maxLen at hm'
  generalize hlen : l.length = len at *
  have HL := Lib.hid hlen; clear hlen
  generalize hlen : l'.length = len' at *
  have HL' := Lib.hid hlen; clear hlen
  go_enter Try.func4, Try.ntmps4
  go_wp2_with fail
  refine (alive_any w).mono ?_
  rintro e w1 ⟨rfl, b1⟩
  have B1 := Lib.hid b1; have z1 := b1.size
  clear b1
  go_wp2_with fail
  refine (New_ok 8 w1 (by omega) (by omega)).mono ?_
  rintro e w2 ⟨⟨g, S, rfl, q2, s2⟩, b2⟩
  have R2 : Hid (Run w w2 g S 0 8 []) := Lib.hid ⟨q2, B1.out.trans (b2.mono z1), fun b hb => by have := s2 b hb; omega⟩
  clear q2 s2 b2
  go_wp2_with fail
  go_loopw [14] (fun i wr => ∃ (k : Nat) (S : Nat → Prop) (L : List It), k ≤ len ∧ i = .int .i64 k ∧ Hid (Run w wr g S k 8 L)) (fun i _ => len - (intOf i).toNat)
  case atStart => exact ⟨0, S, [], Nat.zero_le _, rfl, R2⟩
  case round =>
    clear R2
    obtain ⟨k, S, L, hk, rfl, HR⟩ := hrel
    by_cases hlt : k < len
    · obtain ⟨b, off, rfl, hb, hc⟩ := HA.out (by rw [HL.out]; omega)
      obtain ⟨b', off', rfl, hb', hc'⟩ := HA'.out (by rw [HL'.out]; omega)
      have c1 := hc k (by rw [HL.out]; exact hlt)
      have c2 := hc' k (by rw [HL'.out]; omega)
      have hid := bd_u16 (HW.out (l.getD k 0) (by
        rw [List.getD_eq_getElem?_getD, List.getElem?_eq_getElem (by rw [HL.out]; exact hlt)]; exact List.getElem_mem _))
      have hpr := bd_u8 (HW'.out (l'.getD k 0) (by
        rw [List.getD_eq_getElem?_getD, List.getElem?_eq_getElem (by rw [HL'.out]; omega)]; exact List.getElem_mem _))
      have HC : Hid (∀ W : World, Below w.heap.size w W → W.cell? ⟨b', off' + k, none⟩ = some (.int .u8 (l'.getD k 0)) ∧ W.cell? ⟨b, off + k, none⟩ = some (.int .u16 (l.getD k 0))) := Lib.hid (fun W hW => ⟨(hW.cell (p := ⟨b', off' + k, none⟩) hb').trans c2, (hW.cell (p := ⟨b, off + k, none⟩) hb).trans c1⟩)
      have HPUT := Lib.hid (fun (W : World) (hb : Below wr.heap.size wr W) (pr i : Int) (hi : i ≤ 9223372036854775807) => Put_any W g S k 8 L pr i 1 1 (HR.out.q.below hb) (by omega) hi (by omega))
      obtain ⟨x1, x2⟩ := HC.out wr HR.out.b
      clear hc hc' c1 c2
      generalize l.getD k 0 = id at *
      generalize l'.getD k 0 = pr at *
      have hkl : (k : Int) < (len : Int) := by omega
      have hkl' : (k : Int) < (len' : Int) := by omega
      go_wp2_with fail
      go_region_held3 (fun w' => w'.cell? ⟨b', off' + k, none⟩ = some (.int .u8 pr) ∧ w'.cell? ⟨b, off + k, none⟩ = some (.int .u16 id)) (first | exact ⟨x1, x2⟩ | exact ⟨y1, y2⟩)
        (first | (go_at_call 10; refine (HPUT.out _ (by first | exact Below.refl _ _ | exact (Below.refl _ _).drew) _ _ (by first | omega | (simp only [IntKind.wrap_i64]; omega))).mono ?_; rintro e w4 ⟨rfl, S', q', st⟩; have R' := Lib.hid (HR.out.step q' (by first | exact st | exact st.undrew)); obtain ⟨y1, y2⟩ := HC.out w4 R'.out.b; clear q' st))
      go_wp2_with fail
      go_roundw
      case rel => exact ⟨k + 1, S', _, by omega, by go_num, R'⟩
      case measure => simp [intOf]; omega
    · obtain rfl : k = len := by omega
      have WS : Hid (Was (wr.alloc (.cells #[.slice none 0 0, .slice none 0 0, .slice none 0 0, .slice none 0 0, .slice none 0 0, .slice none 0 0, .slice none 0 0, .slice none 0 0] 40)) S wr.heap.size (List.replicate 8 (.slice none 0 0)) L 0) := Lib.hid (Was.start (fun b hb => HR.out.q.lt hb))
      have R3 := Lib.hid (HR.out.below ((Below.refl _ wr).alloc (Nat.le_refl _) (.cells #[.slice none 0 0, .slice none 0 0, .slice none 0 0, .slice none 0 0, .slice none 0 0, .slice none 0 0, .slice none 0 0, .slice none 0 0] 40)))
      have HXB := Lib.hid HR.out.b.size
      clear HR HL HL' HA HA' HW HW' hlt
      go_wp2_with fail
      generalize wr.alloc (.cells #[.slice none 0 0, .slice none 0 0, .slice none 0 0, .slice none 0 0, .slice none 0 0, .slice none 0 0, .slice none 0 0, .slice none 0 0] 40) = W3 at *
      generalize wr.heap.size = xb at *
      go_loopw [16] (fun i wq => ∃ (j : Nat) (vs : List Value), j ≤ 8 ∧ i = .int .i64 j ∧ Hid (Run w wq g S k 8 L) ∧ Hid (Was wq S xb vs L j)) (fun i _ => 8 - (intOf i).toNat)
      case atStart => exact ⟨0, _, by omega, rfl, R3, WS⟩
      case round =>
        clear R3 WS
        obtain ⟨wq, rfl⟩ : ∃ wq : World, wq = wr := ⟨_, rfl⟩
        obtain ⟨j, vs, hj, rfl, HR, HS⟩ := hrel
        by_cases hj8 : j < 8
        · have HLI := Lib.hid (List_any wq g S k 8 L j HR.out.q (by omega))
          go_wp2_with fail
          refine HLI.out.mono ?_
          rintro e w4 ⟨⟨v, rfl, rv⟩, b4⟩
          obtain ⟨A4, c4, rfl, -⟩ := row_form rv
          have HS5 := Lib.hid (HS.out.set (fun b hb => HR.out.q.lt hb) b4 rv)
          have HR4 := HR.out.below b4
          have hxs := HS.out.xs
          have HR5 : Hid (Run w (w4.setCell ⟨xb, j, none⟩ (.slice A4 (row L (j : Nat)).length c4)) g S k 8 L) := Lib.hid ⟨HR4.q.keep (fun b hb => set_other _ (fun e => hxs (by rw [← e]; exact hb)) _ _), HR4.b.setCell HXB.out _, HR4.s⟩
          obtain ⟨v0, -, hc0, hf0⟩ := (HS.out.below b4).cell j hj8
          clear b4 rv HR4 hxs HLI HR HS
          go_wp2_with fail
          go_roundw
          case rel => exact ⟨j + 1, _, by omega, by go_num, HR5, HS5⟩
          case measure => simp [intOf]; omega
        · obtain rfl : j = 8 := by omega
          cases hlk : look L x with
          | some t =>
            have HH := Lib.hid (Has_yes wq g S k 8 L x t HR.out.q HX.out hlk)
            clear hlk
            go_wp2_with fail
            refine HH.out.mono ?_
            rintro e w4 ⟨rfl, b4⟩
            have B4 := Lib.hid (b4.alloc b4.size (.cells #[.int .i64 t.id, .int .i64 t.fl, .int .i64 t.ct] 35))
            clear b4
            go_wp2_with fail
            go_ret
            exact ⟨rfl, HR.out.b.trans (B4.out.mono HR.out.b.size)⟩
          | none =>
            have HH := Lib.hid (Has_no wq g S k 8 L x HR.out.q HX.out hlk)
            have HLN := Lib.hid (fun (W : World) (hb : Below wq.heap.size wq W) => Len_any W g S k 8 L (HR.out.q.below hb) (by omega))
            have HPUT := Lib.hid (fun (W : World) (hb : Below wq.heap.size wq W) => Put_any W g S k 8 L p x f 1 (HR.out.q.below hb) (by omega) (bd_i64 HX.out).2 (bd_i64 HF.out).2)
            have hll : L.length ≤ 100 := by have := HR.out.q.ln; omega
            have HCN : ∀ (W : World) (S' : Nat → Prop), Qw W g S' (k + 1) 8 L → Calls Try.prog 16 #[.pointer (some ⟨g, 0, none⟩), .int .i64 x] W fun e w' => e = .returned (.bool false) ∧ ∃ S'', Qw w' g S'' (k + 1) 8 L ∧ Stp S' W S'' w' := fun W S' h => by
              have := Cut_any W g S' (k + 1) 8 L x h (by omega) HX.out
              rw [hlk, cut_none (look_none.1 hlk)] at this
              exact this
            have HCN := Lib.hid HCN
            by_cases hp : PutOk 8 p x f 1
            · have hE : putE 8 p x f 1 = 0 := by unfold putE; rw [if_pos hp]
              have hP : putL 8 L p x f 1 = L ++ [⟨x, f, 1, p⟩] := by unfold putL; rw [if_pos hp, hlk]; rfl
              rw [hE, hP] at HPUT
              have hl1 : look (L ++ [⟨x, f, 1, p⟩]) x = some ⟨x, f, 1, p⟩ := by rw [look_snoc L ⟨x, f, 1, p⟩ x hlk, if_pos rfl]
              have hcs : cutL (L ++ [⟨x, f, 1, p⟩]) x = L := cut_snoc (t := ⟨x, f, 1, p⟩) hlk
              have HL1 := Lib.hid hl1; have HCS := Lib.hid hcs
              clear hE hP hp hlk hl1 hcs
              generalize L ++ [⟨x, f, 1, p⟩] = L1 at *
              have HLN' := Lib.hid (fun (W : World) (S' : Nat → Prop) (h : Qw W g S' (k + 1) 8 L) => Len_any W g S' (k + 1) 8 L h (by omega))
              generalize L.length = ll at *
              go_wp2_with fail
              refine HH.out.mono ?_
              rintro e w4 ⟨rfl, b4⟩
              have B4 := Lib.hid (b4.alloc b4.size (.cells #[.int .i64 0, .int .i64 0, .int .i64 0] 35))
              clear b4
              go_wp2_with fail
              refine (HLN.out _ B4.out).mono ?_
              rintro e w5 ⟨rfl, b5⟩
              have B5 := Lib.hid (B4.out.trans (b5.mono B4.out.size))
              clear b5 B4
              go_wp2_with fail
              refine (HPUT.out _ B5.out).mono ?_
              rintro e w6 ⟨rfl, S6, q6, st6⟩
              have R6 := Lib.hid ((HR.out.below B5.out).step q6 st6)
              have W6 := Lib.hid ((HS.out.below B5.out).stp st6)
              clear q6 st6 B5 HPUT HLN HH HR HS
              have HH6 := Lib.hid (Has_yes w6 g S6 (k + 1) 8 L1 x _ R6.out.q HX.out HL1.out)
              go_wp2_with fail
              refine HH6.out.mono ?_
              rintro e w7 ⟨rfl, b7⟩
              have z7 := b7.size
              have K8 : Hid ((w7.alloc (.cells #[.int .i64 x, .int .i64 f, .int .i64 1] 35)).heap[w7.heap.size]? = some (.cells #[.int .i64 x, .int .i64 f, .int .i64 1] 35 (0, 0))) := Lib.hid (new_block _ _)
              have B8 := b7.alloc z7 (.cells #[.int .i64 x, .int .i64 f, .int .i64 1] 35)
              have R8 := Lib.hid (R6.out.below B8)
              have W8 := Lib.hid (W6.out.below B8)
              have HX8 : Hid (¬ S6 w7.heap.size) := Lib.hid (fun h => by have := R6.out.q.lt h; omega)
              clear b7 B8 R6 W6 HH6 z7
              go_upto_region 24 with (fail)
              generalize w7.alloc (.cells #[.int .i64 x, .int .i64 f, .int .i64 1] 35) = w8 at *
              generalize w7.heap.size = x8 at *
              have HC8 := Cut_any w8 g S6 (k + 1) 8 L1 x R8.out.q (by omega) HX.out
              rw [HL1.out, HCS.out] at HC8
              have HC8 := Lib.hid HC8
              go_wp2_with fail
              refine HC8.out.mono ?_
              rintro e w9 ⟨rfl, S9, q9, st9⟩
              have R9 := Lib.hid (R8.out.step q9 st9)
              have W9 := Lib.hid (W8.out.stp st9)
              have K9 := (st9.f.block _ (lt_of_block K8.out) HX8.out).trans K8.out
              have y0 := (cell_of K9 0).1
              simp at y0
              clear q9 st9 K9 K8 HX8 HC8 R8 W8
              go_wp2_with fail
              refine (HCN.out _ _ R9.out.q).mono ?_
              rintro e w10 ⟨rfl, S10, q10, st10⟩
              have R10 := Lib.hid (R9.out.step q10 st10)
              have W10 := Lib.hid (W9.out.stp st10)
              clear q10 st10 R9 W9 y0
              go_wp2_with fail
              refine (HLN'.out _ _ R10.out.q).mono ?_
              rintro e w11 ⟨rfl, b11⟩
              have R11 := Lib.hid (R10.out.below b11)
              have W11 := Lib.hid (W10.out.below b11)
              clear b11 R10 W10
              go_wp2_with fail
              go_loopw [26] (fun i wq => ∃ j : Nat, j ≤ 8 ∧ i = .int .i64 j ∧ Hid (Run w wq g S10 (k + 1) 8 L) ∧ Hid (Was wq S10 xb vs L 8)) (fun i _ => 8 - (intOf i).toNat)
              case atStart => exact ⟨0, by omega, rfl, R11, W11⟩
              case round =>
                clear R11 W11
                obtain ⟨wp, rfl⟩ : ∃ wp : World, wp = wr := ⟨_, rfl⟩
                obtain ⟨j, hj, rfl, HR, HS⟩ := hrel
                by_cases hj8 : j < 8
                · have HLI := Lib.hid (List_any wp g S10 (k + 1) 8 L j HR.out.q (by omega))
                  go_wp2_with fail
                  refine HLI.out.mono ?_
                  rintro e w12 ⟨⟨u, rfl, ru⟩, b12⟩
                  have R12 := Lib.hid (HR.out.below b12)
                  have W12 := Lib.hid (HS.out.below b12)
                  clear b12 HR HS HLI
                  obtain ⟨v, hv, hcv, -⟩ := W12.out.cell j hj8
                  obtain ⟨rv, -⟩ := W12.out.r j v hj8 hv
                  obtain ⟨Au, cu, rfl, -, -, hcu⟩ := row_cells (row_base ru)
                  obtain ⟨Av, cv, rfl, -, -, hcw⟩ := row_cells rv
                  have HCU := Lib.hid hcu; have HCW := Lib.hid hcw
                  have HCV := Lib.hid hcv
                  clear hcu hcw ru rv hv
                  have hrb : (row L (j : Nat)).length ≤ 200 := by have := row_len L (j : Nat); have := R12.out.q.ln; omega
                  generalize hrl : (row L (j : Nat)).length = rl at *
                  have HRL := Lib.hid hrl
                  clear hrl
                  go_wp2_with fail
                  clear hcv
                  go_loopw [28] (fun i wz => ∃ q : Nat, q ≤ rl ∧ i = .int .i64 q ∧ Below w12.heap.size w12 wz) (fun i _ => rl - (intOf i).toNat)
                  case atStart => exact ⟨0, Nat.zero_le _, rfl, Below.refl _ _⟩
                  case round =>
                    obtain ⟨wz, rfl⟩ : ∃ wz : World, wz = wr := ⟨_, rfl⟩
                    obtain ⟨q, hq, rfl, hbz⟩ := hrel
                    have HBZ := Lib.hid hbz
                    clear hbz
                    by_cases hqr : q < rl
                    · have hk2 : q < (row L (j : Nat)).length := by rw [HRL.out]; exact hqr
                      obtain ⟨bu, rfl, hbu, -, hu⟩ := HCU.out q _ (List.getElem?_eq_getElem hk2)
                      obtain ⟨bv, rfl, hbv, -, hv⟩ := HCW.out q _ (List.getElem?_eq_getElem hk2)
                      generalize (row L (j : Nat))[q] = t at *
                      obtain ⟨u0, u1, u2, -⟩ := hu wz (HBZ.out.block _ hbu)
                      obtain ⟨v0, v1, v2, -⟩ := hv wz (HBZ.out.block _ hbv)
                      have hcx := (HBZ.out.cell (p := ⟨xb, j, none⟩) (cell_lt HCV.out).1).trans HCV.out
                      clear hu hv
                      go_wp2_with fail
                      go_quiet (fail)
                      go_wp2_with fail
                      go_roundw
                      case rel => exact ⟨q + 1, by omega, by go_num, below_drewN HBZ.out _⟩
                      case measure => simp [intOf]; omega
                    · obtain rfl : q = rl := by omega
                      go_wp2_with fail
                      go_roundw
                      case rel => exact ⟨j + 1, by omega, by go_num, Lib.hid (R12.out.below HBZ.out), Lib.hid (W12.out.below HBZ.out)⟩
                      case measure => simp [intOf]; omega
                · obtain rfl : j = 8 := by omega
                  go_wp2_with fail
                  go_ret
                  exact ⟨rfl, HR.out.b⟩
            · have hE : putE 8 p x f 1 = 2 := by unfold putE; rw [if_neg hp]
              have hP : putL 8 L p x f 1 = L := by unfold putL; rw [if_neg hp]
              rw [hE, hP] at HPUT
              clear hE hP hp hlk
              have HLN' := Lib.hid (fun (W : World) (S' : Nat → Prop) (h : Qw W g S' (k + 1) 8 L) => Len_any W g S' (k + 1) 8 L h (by omega))
              generalize L.length = ll at *
              go_wp2_with fail
              refine HH.out.mono ?_
              rintro e w4 ⟨rfl, b4⟩
              have B4 := Lib.hid (b4.alloc b4.size (.cells #[.int .i64 0, .int .i64 0, .int .i64 0] 35))
              clear b4
              go_wp2_with fail
              refine (HLN.out _ B4.out).mono ?_
              rintro e w5 ⟨rfl, b5⟩
              have B5 := Lib.hid (B4.out.trans (b5.mono B4.out.size))
              clear b5 B4
              go_wp2_with fail
              refine (HPUT.out _ B5.out).mono ?_
              rintro e w6 ⟨rfl, S6, q6, st6⟩
              have R6 := Lib.hid ((HR.out.below B5.out).step q6 st6)
              clear q6 st6 B5 HPUT HLN HH HR HS
              go_wp2_with fail
              refine (HLN'.out _ _ R6.out.q).mono ?_
              rintro e w7 ⟨rfl, b7⟩
              have R7 := Lib.hid (R6.out.below b7)
              clear b7 R6
              go_wp2_with fail
              refine (HCN.out _ _ R7.out.q).mono ?_
              rintro e w8 ⟨rfl, S8, q8, st8⟩
              have R8 := Lib.hid (R7.out.step q8 st8)
              clear q8 st8 R7
              go_wp2_with fail
              go_ret
              exact ⟨rfl, R8.out.b⟩

theorem leaves_top (A : Option Addr) (len cap : Nat) (z : List Int) (A' : Option Addr) (len' cap' : Nat) (z' : List Int) (x p f : Int) (w : World) (hr : IsRow .u16 w A len cap z) (hr' : IsRow .u8 w A' len' cap' z') (w0 : (Lit.int .i64 x).wf = true) (w1 : (Lit.int .i64 p).wf = true) (w2 : (Lit.int .i64 f).wf = true) :
    Calls Try.prog 4 #[.slice A len cap, .slice A' len' cap', .int .i64 x, .int .i64 p, .int .i64 f] w fun e w' => e = .returned (.bool true) ∧ Below w.heap.size w w' := by
  obtain ⟨l, rfl, h2, h3, h4, h5⟩ := hr.ints
  obtain ⟨l', rfl, h2', h3', h4', h5'⟩ := hr'.ints
  by_cases hin : l.length ≤ 100 ∧ l.length ≤ l'.length
  · exact leaves_in A A' cap cap' l l' x p f w hin.1 hin.2 (by omega) h4 h4' h5 h5' w0 w2
  · exact leaves_out A A' _ cap _ cap' x p f w (by omega) (by omega) (by omega)
end Go.Proofs.Ytncfggcbdliepaa
