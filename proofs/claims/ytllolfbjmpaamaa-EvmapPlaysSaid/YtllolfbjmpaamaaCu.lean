/- EvmapCuts. -/
import Derived.Test.YtllolfbjmpaamaaTr
namespace Go.Proofs.Ytllolfbjmpaamaa
open Go.RowKit
set_option linter.unusedSimpArgs false
set_option linter.unusedVariables false
set_option maxRecDepth 100000

/-- What a cut answers. -/
def cutE (L : List It) (x : Int) : Int := if (itOf L x).wn ≠ 0 then 0 else 181
def cutSE (L : List It) (x : Int) : Int := if (look L x).isSome ∧ (itOf L x).wn = 0 then 0 else 181
theorem cuts_law (L : List It) (x : Int) (ho : Ok L) : cutS (cutF L x) x = cutL L x ∧
    (((look L x).isSome = true ∧ cutE L x = 0 ∧ cutSE (cutF L x) x = 181 ∧ (cutL L x).length + 1 = L.length) ∨ ((look L x).isSome = true ∧ cutE L x = 181 ∧ cutSE (cutF L x) x = 0 ∧ (cutL L x).length + 1 = L.length) ∨ ((look L x).isSome = false ∧ cutE L x = 181 ∧ cutSE (cutF L x) x = 181 ∧ cutL L x = L)) := by
  cases hl : look L x with
  | none =>
    have h0 : (itOf L x).wn = 0 := by rw [it_none hl]
    have e1 : cutF L x = L := by unfold cutF; rw [if_neg (fun h => h h0)]
    have e2 : cutS L x = L := by unfold cutS; rw [if_neg (fun h => by rw [hl] at h; exact absurd h.1 (by simp))]
    have e3 : cutL L x = L := cut_none (look_none.1 hl)
    rw [e1, e2, e3]
    refine ⟨rfl, .inr (.inr ⟨rfl, ?_, ?_, rfl⟩)⟩
    · unfold cutE; rw [if_neg (fun h => h h0)]
    · unfold cutSE; rw [if_neg (fun h => by rw [hl] at h; exact absurd h.1 (by simp))]
  | some t =>
    have hi : itOf L x = t := it_some hl
    obtain ⟨ht, hx⟩ := look_some hl
    have hcl : (cutL L x).length + 1 = L.length := by rw [← hx]; exact cut_len ho ht
    by_cases hw : t.wn = 0
    · have e1 : cutF L x = L := by unfold cutF; rw [hi, if_neg (fun h => h hw)]
      have hc : (look L x).isSome = true ∧ (itOf L x).wn = 0 := ⟨by rw [hl]; rfl, by rw [hi]; exact hw⟩
      rw [e1]
      refine ⟨by unfold cutS; rw [if_pos hc], .inr (.inl ⟨rfl, ?_, ?_, hcl⟩)⟩
      · unfold cutE; rw [hi, if_neg (fun h => h hw)]
      · unfold cutSE; rw [if_pos hc]
    · have e1 : cutF L x = cutL L x := by unfold cutF; rw [hi, if_pos hw]
      have hn : ¬ ((look (cutL L x) x).isSome = true ∧ (itOf (cutL L x) x).wn = 0) := fun h => by rw [look_cut_self] at h; exact absurd h.1 (by simp)
      rw [e1]
      refine ⟨by unfold cutS; rw [if_neg hn], .inl ⟨rfl, ?_, ?_, hcl⟩⟩
      · unfold cutE; rw [hi, if_pos hw]
      · unfold cutSE; rw [if_neg hn]
theorem ofL_cut (L : List It) (x n : Int) : ofL (cutL L x) n = cutL (ofL L n) x := by
  unfold ofL
  split
  · exact row_cut L x n
  · rfl
theorem sigL_cut (L : List It) (x n : Int) : sigL (cutL L x) n = cutL (sigL L n) x := by
  unfold sigL
  split
  · exact row_cut L x (n + 96)
  · rfl
theorem ofL_len (L : List It) (n : Int) : (ofL L n).length ≤ L.length := by
  unfold ofL
  split
  · exact row_len L n
  · simp
theorem sigL_len (L : List It) (n : Int) : (sigL L n).length ≤ L.length := by
  unfold sigL
  split
  · exact row_len L _
  · simp

theorem Cut_gen (w : World) (g : Nat) (S : Nat → Prop) (N : Nat) (L : List It) (x : Int) (h : Qw w g S N L) (hN : N ≤ 9000) (hx : (Lit.int .i64 x).wf = true) :
    Calls Try.prog 17 #[.pointer (some ⟨g, 0, none⟩), .int .i64 x] w fun e w' => (∃ a b c : Int, e = .returned (.tuple #[.int .i64 a, .int .i64 b, .int .i64 c, .int .i64 (cutE L x)])) ∧ ∃ S', Qw w' g S' N (cutF L x) ∧ Stp S w S' w' := by
  unfold cutF cutE
  by_cases hc : (itOf L x).wn = 0
  · rw [if_neg (fun e => e hc), if_neg (fun e => e hc)]
    refine (Cut_bad w g S N L x h hx hc).mono ?_
    rintro e w' ⟨rfl, b⟩
    exact ⟨⟨_, _, _, rfl⟩, S, h.below b, Stp.of_below b⟩
  · rw [if_pos hc, if_pos hc]
    cases hl : look L x with
    | none => rw [it_none hl] at hc; exact absurd rfl hc
    | some t =>
      rw [it_some hl] at hc
      obtain ⟨ht, rfl⟩ := look_some hl
      refine (Cut_ok w g S N L t h hN ht hc).mono ?_
      rintro e w' ⟨rfl, S', q, st⟩
      exact ⟨⟨_, _, _, rfl⟩, S', q, st⟩
theorem CutSignal_gen (w : World) (g : Nat) (S : Nat → Prop) (N : Nat) (L : List It) (x : Int) (h : Qw w g S N L) (hN : N ≤ 9000) (hx : (Lit.int .i64 x).wf = true) :
    Calls Try.prog 24 #[.pointer (some ⟨g, 0, none⟩), .int .i64 x] w fun e w' => (∃ (a : Int) (b : Bool), e = .returned (.tuple #[.int .i64 a, .bool b, .int .i64 (cutSE L x)])) ∧ ∃ S', Qw w' g S' N (cutS L x) ∧ Stp S w S' w' := by
  unfold cutS cutSE
  by_cases hc : (look L x).isSome ∧ (itOf L x).wn = 0
  · rw [if_pos hc, if_pos hc]
    cases hl : look L x with
    | none => rw [hl] at hc; exact absurd hc.1 (by simp)
    | some t =>
      have hw := hc.2
      rw [it_some hl] at hw
      obtain ⟨ht, rfl⟩ := look_some hl
      refine (CutSignal_ok w g S N L t h hN ht hw).mono ?_
      rintro e w' ⟨rfl, S', q, st⟩
      exact ⟨⟨_, _, rfl⟩, S', q, st⟩
  · rw [if_neg hc, if_neg hc]
    have hb : look L x = none ∨ (itOf L x).wn ≠ 0 := by
      cases hl : look L x with
      | none => exact .inl rfl
      | some t => exact .inr (fun e => hc ⟨by rw [hl]; rfl, e⟩)
    refine (CutSignal_bad w g S N L x h hx hb).mono ?_
    rintro e w' ⟨rfl, b⟩
    exact ⟨⟨_, _, rfl⟩, S, h.below b, Stp.of_below b⟩

/-- Two maps. -/
structure TwoM (w W : World) (g : Nat) (S : Nat → Prop) (L : List It) (g2 : Nat) (S2 : Nat → Prop) (L2 : List It) : Prop where
  p : Run w W g S 200 L
  q : Qw W g2 S2 200 L2
  d : ∀ b, S2 b → ¬ S b
theorem TwoM.below {w W W' : World} {g : Nat} {S : Nat → Prop} {L : List It} {g2 : Nat} {S2 : Nat → Prop} {L2 : List It} (h : TwoM w W g S L g2 S2 L2) (hb : Below W.heap.size W W') : TwoM w W' g S L g2 S2 L2 := ⟨h.p.below hb, h.q.below hb, h.d⟩
theorem TwoM.step {w W W' : World} {g : Nat} {S S' : Nat → Prop} {L L' : List It} {g2 : Nat} {S2 : Nat → Prop} {L2 : List It} (h : TwoM w W g S L g2 S2 L2) (q : Qw W' g S' 200 L') (st : Stp S W S' W') : TwoM w W' g S' L' g2 S2 L2 :=
  ⟨h.p.step q st, h.q.keep (fun b hb => st.f.block b (h.q.lt hb) (h.d b hb)), fun b hb hs => by
    rcases st.s b hs with h1 | h1
    · exact h.d b hb h1
    · have := h.q.lt hb; omega⟩

/-- The numbers of a row, as long as what is below stays. -/
theorem row_below {w : World} {base : Nat} {v : Value} {l : List It} (h : w.ownsRow base 3 1 v l.length (flat l)) : ∃ (A : Option Addr) (c : Nat), v = .slice A l.length c ∧ l.length ≤ c ∧ ∀ (k : Nat), k < l.length → ∃ (t : It) (b : Nat), l[k]? = some t ∧ A = some ⟨b, 0, none⟩ ∧ ∀ W : World, Below w.heap.size w W → W.cell? ⟨b, k, none⟩ = some (.int .i64 t.id) := by
  obtain ⟨A, c, e, h1, h2, h3⟩ := row_cells h
  refine ⟨A, c, e, h1, fun k hk => ?_⟩
  obtain ⟨b, hA, hb, ho, hW⟩ := h3 k _ (List.getElem?_eq_getElem hk)
  exact ⟨_, b, List.getElem?_eq_getElem hk, hA, fun W hB => hW W (hB.block b hb)⟩

theorem row_keep {w w' : World} {base : Nat} {e : TypeId} {s : Nat} {v : Value} {n : Nat} {xs : List Value} (h : w.ownsRow base e s v n xs) (hb : Below w.heap.size w w') : w'.ownsRow base e s v n xs := row_same h (fun b e => hb.block b (h.lt _ e).2)
theorem row_ids {w : World} {v : Value} {l : List It} (h : w.ownsRow 0 3 1 v l.length (flat l)) : w.ownsRow 0 3 1 v (ids l).length ((ids l).map (Value.int .i64)) := by
  unfold flat at h
  rw [show (ids l).length = l.length by simp [ids]]
  exact h

theorem cuts_out (a : Option Addr) (n cap : Nat) (x : Int) (w : World) (hn : n ≤ maxLen) (h : 200 < n) :
    Calls Try.prog 8 #[.slice a n cap, .int .i64 x] w fun e w' => e = .returned (.bool true) ∧ Below w.heap.size w w' := by
  unfold maxLen at hn
  have h2 : (200 : Int) < (n : Int) := by omega
  go_enter Try.func8, Try.ntmps8
  go_wp2_with fail
  refine (alive_any _).mono ?_
  rintro e w1 ⟨rfl, b1⟩
  go_wp2_with fail
  go_ret
  exact ⟨rfl, b1⟩

set_option maxHeartbeats 8000000 in
theorem cuts_in (a : Option Addr) (cap : Nat) (os : List OpV) (x : Int) (w : World) (hl : os.length ≤ 200) (ho : OpsAt w a os) (hk : ∀ o ∈ os, o.ok) (hx : (Lit.int .i64 x).wf = true) :
    Calls Try.prog 8 #[.slice a os.length cap, .int .i64 x] w fun e w' => e = .returned (.bool true) ∧ Below w.heap.size w w' := by
  have HG := Lib.hid (fun (W : World) (hb : Below w.heap.size w W) => grown_any a cap os W hl (ho.below hb) hk)
  clear ho hk
  generalize grownL os = L at *
  generalize hlen : os.length = len at *
  clear hlen
  go_enter Try.func8, Try.ntmps8
  go_wp2_with fail
  refine (alive_any _).mono ?_
  rintro e w1 ⟨rfl, b1⟩
  have B1 := Lib.hid b1
  clear b1
  go_wp2_with fail
  refine (HG.out _ B1.out).mono ?_
  rintro e w2 ⟨g, S, rfl, r2⟩
  have R2 := Lib.hid r2
  have B2 := Lib.hid (B1.out.trans (R2.out.b.mono B1.out.size))
  clear r2
  go_wp2_with fail
  refine (HG.out _ B2.out).mono ?_
  rintro e w3 ⟨g2, S2, rfl, r3⟩
  have T3 : Hid (TwoM w1 w3 g S L g2 S2 L) := Lib.hid ⟨R2.out.below r3.b, r3.q, fun b hb hs => by have := r3.s b hb; have := R2.out.q.lt hs; omega⟩
  clear r3 R2 B2 HG
  go_wp2_with fail
  refine (Has_any w3 g S 200 L x T3.out.p.q hx).mono ?_
  rintro e w4 ⟨rfl, b4⟩
  have T4 := Lib.hid (T3.out.below b4)
  clear T3 b4
  go_wp2_with fail
  refine (Cut_gen w4 g S 200 L x T4.out.p.q (by omega) hx).mono ?_
  rintro e w5 ⟨⟨a1, a2, a3, rfl⟩, S5, q5, st5⟩
  have T5 := Lib.hid (T4.out.step q5 st5)
  have HLAW := Lib.hid (cuts_law L x T4.out.p.q.ok)
  have HLN := Lib.hid T4.out.p.q.ln
  clear T4 q5 st5
  go_wp2_with fail
  refine (CutSignal_gen w5 g S5 200 _ x T5.out.p.q (by omega) hx).mono ?_
  rintro e w6 ⟨⟨a4, a5, rfl⟩, S6, q6, st6⟩
  have T6 := Lib.hid (T5.out.step q6 st6)
  rw [HLAW.out.1] at T6
  have HC := Lib.hid HLAW.out.2
  clear T5 q6 st6 HLAW
  have HH := Lib.hid (Has_any w6 g S6 200 _ x T6.out.p.q hx)
  rw [look_cut_self] at HH
  generalize cutE L x = e1 at *
  generalize cutSE (cutF L x) x = f1 at *
  generalize hhad : (look L x).isSome = had at *
  clear hhad
  go_upto_region 8 with (fail)
  go_cut [75] (fun s75 wx => s75 = .bool false ∧ ∃ W9, W9 = wx ∧ Hid (TwoM w1 W9 g S6 (cutL L x) g2 S2 L))
  case first =>
    rcases HC.out with ⟨rfl, rfl, rfl, -⟩ | ⟨rfl, rfl, rfl, -⟩ | ⟨rfl, rfl, rfl, -⟩
    all_goals
      clear HC
      go_wp2_with fail
      refine HH.out.mono ?_
      rintro e w7 ⟨rfl, b7⟩
      have T7 := Lib.hid (T6.out.below b7)
      clear b7 T6 HH
      go_wp2_with fail
      go_meet
      exact ⟨by simp, _, rfl, T7⟩
  case rest =>
    obtain ⟨rfl, wx, rfl, T7⟩ := hcut
    clear T6 HH
    obtain ⟨i3, hi0, hz0, hz1, hz2⟩ := info_parts info3
    have I3 := Lib.hid hi0; have Z3 := Lib.hid hz0; have S3 := Lib.hid hz1; have Y3 := Lib.hid hz2
    clear hi0 hz0 hz1 hz2
    go_wp2_with fail
    go_loopw [16] (fun i wr => ∃ k : Nat, k ≤ 96 ∧ i = .int .i64 k ∧ Hid (TwoM w1 wr g S6 (cutL L x) g2 S2 L)) (fun i _ => 96 - (intOf i).toNat)
    case atStart => exact ⟨0, by omega, rfl, T7⟩
    case round =>
      clear T7
      obtain ⟨w7, rfl⟩ : ∃ w7 : World, w7 = wr := ⟨_, rfl⟩
      obtain ⟨k, hk, rfl, HT⟩ := hrel
      by_cases hlt : k < 96
      · have HF := Lib.hid (Of_any w7 g2 S2 200 L (k : Nat) HT.out.q (by omega))
        have hk95 : (k : Int) ≤ 95 := by omega
        go_wp2_with fail
        refine HF.out.mono ?_
        rintro e w8 ⟨⟨v8, rfl, r8⟩, b8⟩
        have T8 := Lib.hid (HT.out.below b8)
        have HOL := Lib.hid (ofL_cut L x (k : Nat))
        have hol := ofL_len L (k : Nat)
        have hln := HLN.out
        obtain ⟨A8, c8, rfl, h8, hcell⟩ := row_below r8
        have HC8 := Lib.hid hcell
        have HTK : Hid ((ofL L (k : Nat)).take (ofL L (k : Nat)).length = ofL L (k : Nat)) := Lib.hid (List.take_length ..)
        clear r8 b8 hcell HF HT
        generalize ofL L (k : Nat) = R at *
        have HLR : Hid (R.length = R.length) := Lib.hid rfl
        generalize hl1 : R.length = ln at *
        replace HLR := Lib.hid hl1
        clear hl1
        go_wp2_with fail
        go_loopw [17, 84] (fun o i wq => ∃ j : Nat, j ≤ ln ∧ i = .int .i64 j ∧ wq.ownsRow w8.heap.size 3 1 o (cutL (R.take j) x).length (flat (cutL (R.take j) x)) ∧ Below w8.heap.size w8 wq) (fun _ i _ => ln - (intOf i).toNat)
        case atStart => exact ⟨0, Nat.zero_le _, rfl, World.ownsRow_nil _ _ _ _, Below.refl _ _⟩
        case round =>
          obtain ⟨wq, hwq⟩ : ∃ wq : World, wq = wr := ⟨_, rfl⟩
          obtain ⟨j, hj, rfl, hown, hb⟩ := hrel
          have hsz := hb.size
          by_cases hjl : j < ln
          · obtain ⟨t, b, ht, rfl, hW⟩ := HC8.out j hjl
            have c0 := hW _ hb
            have hst := take_step ht
            have hcl : (cutL (R.take j) x).length ≤ 200 := Nat.le_trans (cutL_len _ _) (by rw [List.length_take]; omega)
            obtain ⟨A', c', rfl, hc'⟩ := row_form hown
            have hjl2 : (j : Int) < (ln : Int) := by omega
            by_cases he : t.id = x
            · have hst2 : cutL (R.take (j + 1)) x = cutL (R.take j) x := by rw [hst, cutL_append, cutL_one, if_pos he, List.append_nil]
              have HST := Lib.hid hst2
              have e1 : (t.id != x) = false := by simpa using he
              have H0 := Lib.hid hown; have HB := Lib.hid hb
              clear hst hst2 he hW ht hown hb
              generalize t.id = ti at *
              go_wp2_with fail
              go_roundw
              case rel => exact ⟨j + 1, by omega, by go_num, by rw [HST.out]; exact H0.out, HB.out⟩
              case measure => simp [intOf]; omega
            · have hst2 : cutL (R.take (j + 1)) x = cutL (R.take j) x ++ [t] := by rw [hst, cutL_append, cutL_one, if_neg he]
              have HST := Lib.hid hst2
              have e1 : (t.id != x) = true := by simpa using he
              have HF := Lib.hid (show flat [t] = [.int .i64 t.id] from rfl)
              have H0 := Lib.hid hown; have HB := Lib.hid hb
              clear hst hst2 he hW ht hown hb
              generalize cutL (R.take j) x = Q at *
              generalize hrn : Q.length = rn at *
              have HRN := Lib.hid hrn
              clear hrn
              generalize t.id = ti at *
              go_wp2_with (at_builtin; refine wpList_append_own _ rfl _ _ 28 rfl w8.heap.size 3 i3 (.int .i64 0) 1 8 Try.underlying28 I3.out Z3.out S3.out Y3.out rfl (by decide) _ _ _ rfl (H0.out.alloc _) ⟨wr.heap.size, 0, none⟩ 1 1 [.int .i64 ti] rfl rfl (cell_one_new _ _ _) (by simp [Value.oneCell']) (by unfold maxLen; omega) (by omega) (by simp; omega) ?_; intro v' w5 hown' hgrow _; have hb5 := Lib.hid (below_append HB.out H0.out hgrow (Nat.le_refl _) hsz); have H5 := Lib.hid hown'; clear hgrow hown')
              go_roundw
              case rel => exact ⟨j + 1, by omega, by go_num, by rw [HST.out, flat_append, List.length_append, HRN.out, HF.out]; exact H5.out, hb5.out⟩
              case measure => simp [intOf]; omega
          · obtain rfl : j = ln := by omega
            rw [HTK.out] at hown
            have hcn : (cutL R x).length ≤ 200 := Nat.le_trans (cutL_len _ _) (by have := HLR.out; omega)
            obtain ⟨A9, c9, rfl, -⟩ := row_form hown
            have T9 := Lib.hid (T8.out.below hb)
            have F9 := Lib.hid (row_base hown)
            clear T8 HC8 HTK hown hb hsz hjl hj h8 hwq wq
            obtain ⟨w9, rfl⟩ : ∃ w9 : World, w9 = wr := ⟨_, rfl⟩
            have HF2 := Lib.hid (OfSignal_any w9 g2 S2 200 L (k : Nat) T9.out.q (by omega))
            have HSL := Lib.hid (sigL_cut L x (k : Nat))
            have hol2 := sigL_len L (k : Nat)
            generalize hrn : (cutL R x).length = rn at *
            have HRN := Lib.hid hrn
            clear hrn
            go_wp2_with fail
            refine HF2.out.mono ?_
            rintro e w10 ⟨⟨v10, rfl, r10⟩, b10⟩
            have T10 := Lib.hid (T9.out.below b10)
            have F10 := Lib.hid (row_keep F9.out b10)
            obtain ⟨A10, c10, rfl, h10, hcell⟩ := row_below r10
            have HC10 := Lib.hid hcell
            have HTK2 : Hid ((sigL L (k : Nat)).take (sigL L (k : Nat)).length = sigL L (k : Nat)) := Lib.hid (List.take_length ..)
            clear r10 b10 hcell HF2 T9 F9
            generalize sigL L (k : Nat) = R2 at *
            have HLR2 : Hid (R2.length = R2.length) := Lib.hid rfl
            generalize hl2 : R2.length = ln2 at *
            replace HLR2 := Lib.hid hl2
            clear hl2
            go_wp2_with fail
            go_loopw [18, 100] (fun o i wq => ∃ j : Nat, j ≤ ln2 ∧ i = .int .i64 j ∧ wq.ownsRow w10.heap.size 3 1 o (cutL (R2.take j) x).length (flat (cutL (R2.take j) x)) ∧ Below w10.heap.size w10 wq) (fun _ i _ => ln2 - (intOf i).toNat)
            case atStart => exact ⟨0, Nat.zero_le _, rfl, World.ownsRow_nil _ _ _ _, Below.refl _ _⟩
            case round =>
              obtain ⟨wq, hwq⟩ : ∃ wq : World, wq = wr := ⟨_, rfl⟩
              obtain ⟨j, hj, rfl, hown, hb⟩ := hrel
              have hsz := hb.size
              by_cases hjl : j < ln2
              · obtain ⟨t, b, ht, rfl, hW⟩ := HC10.out j hjl
                have c0 := hW _ hb
                have hst := take_step ht
                have hcl : (cutL (R2.take j) x).length ≤ 200 := Nat.le_trans (cutL_len _ _) (by rw [List.length_take]; omega)
                obtain ⟨A', c', rfl, hc'⟩ := row_form hown
                have hjl2 : (j : Int) < (ln2 : Int) := by omega
                by_cases he : t.id = x
                · have hst2 : cutL (R2.take (j + 1)) x = cutL (R2.take j) x := by rw [hst, cutL_append, cutL_one, if_pos he, List.append_nil]
                  have HST := Lib.hid hst2
                  have e1 : (t.id != x) = false := by simpa using he
                  have H0 := Lib.hid hown; have HB := Lib.hid hb
                  clear hst hst2 he hW ht hown hb
                  generalize t.id = ti at *
                  go_wp2_with fail
                  go_roundw
                  case rel => exact ⟨j + 1, by omega, by go_num, by rw [HST.out]; exact H0.out, HB.out⟩
                  case measure => simp [intOf]; omega
                · have hst2 : cutL (R2.take (j + 1)) x = cutL (R2.take j) x ++ [t] := by rw [hst, cutL_append, cutL_one, if_neg he]
                  have HST := Lib.hid hst2
                  have e1 : (t.id != x) = true := by simpa using he
                  have HF := Lib.hid (show flat [t] = [.int .i64 t.id] from rfl)
                  have H0 := Lib.hid hown; have HB := Lib.hid hb
                  clear hst hst2 he hW ht hown hb
                  generalize cutL (R2.take j) x = Q at *
                  generalize hrn : Q.length = rn at *
                  have HRN := Lib.hid hrn
                  clear hrn
                  generalize t.id = ti at *
                  go_wp2_with (at_builtin; refine wpList_append_own _ rfl _ _ 28 rfl w10.heap.size 3 i3 (.int .i64 0) 1 8 Try.underlying28 I3.out Z3.out S3.out Y3.out rfl (by decide) _ _ _ rfl (H0.out.alloc _) ⟨wr.heap.size, 0, none⟩ 1 1 [.int .i64 ti] rfl rfl (cell_one_new _ _ _) (by simp [Value.oneCell']) (by unfold maxLen; omega) (by omega) (by simp; omega) ?_; intro v' w5 hown' hgrow _; have hb5 := Lib.hid (below_append HB.out H0.out hgrow (Nat.le_refl _) hsz); have H5 := Lib.hid hown'; clear hgrow hown')
                  go_roundw
                  case rel => exact ⟨j + 1, by omega, by go_num, by rw [HST.out, flat_append, List.length_append, HRN.out, HF.out]; exact H5.out, hb5.out⟩
                  case measure => simp [intOf]; omega
              · obtain rfl : j = ln2 := by omega
                rw [HTK2.out] at hown
                have hcn2 : (cutL R2 x).length ≤ 200 := Nat.le_trans (cutL_len _ _) (by have := HLR2.out; omega)
                obtain ⟨A11, c11, rfl, -⟩ := row_form hown
                have T11 := Lib.hid (T10.out.below hb)
                have F11 := Lib.hid (row_keep F10.out hb)
                have G11 := Lib.hid (row_base hown)
                clear T10 F10 HC10 HTK2 hown hb hsz hjl hj h10 hwq wq
                obtain ⟨w11, rfl⟩ : ∃ w11 : World, w11 = wr := ⟨_, rfl⟩
                have HO := Of_any w11 g S6 200 (cutL L x) (k : Nat) T11.out.p.q (by omega)
                rw [HOL.out] at HO
                have HO := Lib.hid HO
                rw [← HRN.out] at F11 ⊢
                generalize hrn2 : (cutL R2 x).length = rn2 at *
                have HRN2 := Lib.hid hrn2
                clear hrn2
                go_wp2_with fail
                refine HO.out.mono ?_
                rintro e w12 ⟨⟨v12, rfl, r12⟩, b12⟩
                have T12 := Lib.hid (T11.out.below b12)
                have F12 := Lib.hid (row_keep F11.out b12)
                have G12 := Lib.hid (row_keep G11.out b12)
                have U12 := Lib.hid (row_base r12)
                clear T11 F11 G11 r12 b12 HO
                go_wp2_with fail
                refine (same_any w12 _ _ (ids (cutL R x)) (by have := HRN.out; simp [ids]; omega) (row_ids U12.out) (row_ids F12.out)).mono ?_
                rintro e w13 ⟨rfl, b13⟩
                have T13 := Lib.hid (T12.out.below b13)
                have G13 := Lib.hid (row_keep G12.out b13)
                clear T12 G12 F12 U12 b13
                have HO2 := OfSignal_any w13 g S6 200 (cutL L x) (k : Nat) T13.out.p.q (by omega)
                rw [HSL.out] at HO2
                have HO2 := Lib.hid HO2
                rw [← HRN2.out] at G13 ⊢
                go_wp2_with fail
                refine HO2.out.mono ?_
                rintro e w14 ⟨⟨v14, rfl, r14⟩, b14⟩
                have T14 := Lib.hid (T13.out.below b14)
                have G14 := Lib.hid (row_keep G13.out b14)
                have U14 := Lib.hid (row_base r14)
                clear T13 G13 r14 b14 HO2
                go_wp2_with fail
                refine (same_any w14 _ _ (ids (cutL R2 x)) (by have := HRN2.out; simp [ids]; omega) (row_ids U14.out) (row_ids G14.out)).mono ?_
                rintro e w15 ⟨rfl, b15⟩
                have T15 := Lib.hid (T14.out.below b15)
                clear T14 G14 U14 b15
                go_wp2_with fail
                go_roundw
                case rel => exact ⟨k + 1, by omega, by go_num, T15⟩
                case measure => simp [intOf]; omega
      · obtain rfl : k = 96 := by omega
        have HL1 := Lib.hid (Len_any w7 g S6 200 (cutL L x) HT.out.p.q)
        have HL2 := Lib.hid (Len_any w7 g2 S2 200 L HT.out.q)
        have hc2 : (had = true ∧ L.length = (cutL L x).length + 1) ∨ (had = false ∧ L.length = (cutL L x).length) := by
          rcases HC.out with ⟨h1, -, -, h2⟩ | ⟨h1, -, -, h2⟩ | ⟨h1, -, -, h2⟩
          · exact .inl ⟨h1, h2.symm⟩
          · exact .inl ⟨h1, h2.symm⟩
          · exact .inr ⟨h1, by rw [h2]⟩
        have hln := HLN.out
        have BB := Lib.hid (B1.out.trans (HT.out.p.b.mono B1.out.size))
        clear HC HT HLN
        generalize (cutL L x).length = n1 at *
        generalize L.length = n2 at *
        rcases hc2 with ⟨rfl, rfl⟩ | ⟨rfl, rfl⟩
        all_goals
          go_wp2_with fail
          refine HL1.out.mono ?_
          rintro e w8 ⟨rfl, rfl⟩
          go_wp2_with fail
          refine HL2.out.mono ?_
          rintro e w9 ⟨rfl, rfl⟩
          go_wp2_with fail
          go_ret
          exact ⟨by first | rfl | simp, BB.out⟩

theorem cuts_top {H : Type} {enc : TypeId × Value → H} {base : Nat} {held : Bool} (v : Value) (d : DataW H) (p : List MemPlace) (x : Int) (w : World) {r : Reach} {b0 : Nat} (hv : Value.okWide Try.prog w r b0 22 v) (h : DataW.Trod enc Try.prog w base (fun _ => true) held 22 v d p) (w1 : (Lit.int .i64 x).wf = true) :
    Calls Try.prog 8 #[v, .int .i64 x] w fun e w' => e = .returned (.bool true) ∧ Below w.heap.size w w' := by
  obtain ⟨a, cap, os, rfl, hm, ho, hk⟩ := open_ops hv h
  by_cases hin : os.length ≤ 200
  · exact cuts_in a cap os x w hin ho hk w1
  · exact cuts_out a os.length cap x w hm (by omega)
end Go.Proofs.Ytllolfbjmpaamaa
