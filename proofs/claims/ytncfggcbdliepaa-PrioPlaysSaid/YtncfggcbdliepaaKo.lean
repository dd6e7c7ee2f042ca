/- Put of a number that is there. -/
import Derived.Test.YtncfggcbdliepaaJ
namespace Go.Proofs.Ytncfggcbdliepaa
open Go.RowKit
set_option linter.unusedSimpArgs false
set_option linter.unusedVariables false
set_option maxRecDepth 100000

theorem flat_at (l : List It) (k : Nat) : (flat l)[k]? = (l[k / 3]?).bind fun t => (enc t)[k % 3]? := by
  cases h : l[k / 3]? with
  | none =>
    have := List.getElem?_eq_none_iff.1 h
    rw [List.getElem?_eq_none (by rw [flat_len]; omega)]; rfl
  | some t =>
    have := flat_get l (k / 3) (k % 3) (by omega) t h
    rw [show k / 3 * 3 + k % 3 = k by omega] at this
    rw [this]; rfl
/-- Flags and count of an item in a row are written. -/
theorem row_set {w w' : World} {v : Value} {l : List It} (h : w.ownsRow 0 35 3 v l.length (flat l)) {i : Nat} {t t' : It} (ht : l[i]? = some t) (e : t'.id = t.id) {b : Nat} (hb : v.ownBlock = some b)
    (hW : ∀ cur fr, w.heap[b]? = some (.cells cur 35 fr) → w'.heap[b]? = some (.cells ((cur.setIfInBounds (i * 3 + 1) (.int .i64 t'.fl)).setIfInBounds (i * 3 + 2) (.int .i64 t'.ct)) 35 fr)) :
    w'.ownsRow 0 35 3 v (l.set i t').length (flat (l.set i t')) := by
  have hil : i < l.length := (List.getElem?_eq_some_iff.1 ht).1
  rcases h.2 with ⟨rfl, _⟩ | ⟨g, cap, cur, rfl, hg, hh, hc, hm, hs, hk⟩
  · cases hb
  · obtain rfl : g = b := by simpa [Value.ownBlock] using hb
    refine ⟨flat_len _, .inr ⟨g, cap, _, by rw [List.length_set], hg, hW _ _ hh, by rw [List.length_set]; exact hc, hm, by simpa using hs, ?_⟩⟩
    rw [List.length_set]
    refine List.ext_getElem? fun k => ?_
    rcases Nat.lt_or_ge k (l.length * 3) with hk2 | hk2
    · rw [List.getElem?_take_of_lt hk2, Array.getElem?_toList]
      have h0 : cur[k]? = (flat l)[k]? := by rw [← hk, List.getElem?_take_of_lt hk2, Array.getElem?_toList]
      by_cases e2 : k / 3 = i
      · have hkk : k = i * 3 ∨ k = i * 3 + 1 ∨ k = i * 3 + 2 := by omega
        rw [flat_at, e2, List.getElem?_set_self hil]
        rcases hkk with rfl | rfl | rfl
        · rw [Array.getElem?_setIfInBounds_ne (by omega), Array.getElem?_setIfInBounds_ne (by omega), h0, flat_at, e2, ht]
          simp [enc, e]
        · rw [Array.getElem?_setIfInBounds_ne (by omega), Array.getElem?_setIfInBounds_self_of_lt (by omega)]
          simp [enc, show (i * 3 + 1) % 3 = 1 by omega]
        · rw [Array.getElem?_setIfInBounds_self_of_lt (by simp; omega)]
          simp [enc, show (i * 3 + 2) % 3 = 2 by omega]
      · rw [Array.getElem?_setIfInBounds_ne (by omega), Array.getElem?_setIfInBounds_ne (by omega), h0, flat_at, flat_at, List.getElem?_set_ne (fun e3 => e2 e3.symm)]
    · rw [List.getElem?_eq_none (by simp; omega), List.getElem?_eq_none (by rw [flat_len, List.length_set]; omega)]

theorem set_same {α : Type} (l : List α) (p : Nat) (v : α) (h : l[p]? = some v) : l.set p v = l := by
  refine List.ext_getElem? fun k => ?_
  by_cases e : p = k
  · subst e; rw [List.getElem?_set_self (List.getElem?_eq_some_iff.1 h).1, h]
  · rw [List.getElem?_set_ne e]

set_option maxHeartbeats 4000000 in
theorem put_old (w : World) (g : Nat) (S : Nat → Prop) (N m : Nat) (L : List It) (q : Nat) (f c : Int) (t : It) (k : Int) (h : Qw w g S N m L) (hN : N ≤ 10000) (hq : q < m) (hf0 : 0 ≤ f) (hf1 : f ≤ 9223372036854775807) (hc0 : 0 ≤ c) (ht : t ∈ L) (hk : t.ct + (if 2147483647 - t.ct < c then 2147483647 - t.ct else c) = k) (hk2 : k = capc (t.ct + c)) :
    Calls Try.prog 10 #[.pointer (some ⟨g, 0, none⟩), .int .i64 q, .int .i64 t.id, .int .i64 f, .int .i64 c] w fun e w' => e = .returned (.int .i64 0) ∧ ∃ S', Qw w' g S' N m (upd L t.id f c) ∧ Stp S w S' w' := by
  have hok := h.ok
  have hl := look_mem hok ht
  have hb := hok.b t ht
  have hwx := wf64 (x := t.id) (by omega) hb.2.1
  have MA := Lib.hid (Many_any w g S N m L h)
  have IS := Lib.hid (is_any w g S N m L q h true (by simpa using hq))
  have AT := Lib.hid (at_yes w g S N m L t.id t h hwx hl)
  have hm8 := h.m8
  have hm0 : ((m : Int) == 0) = false := by simp; omega
  obtain ⟨p0, p1, p2, p3⟩ := spot hok hl
  obtain ⟨lb, mb, D, vs, h, hS⟩ := h
  obtain ⟨p, hp⟩ := Int.eq_ofNat_of_zero_le p0
  rw [hp] at p1 p2 p3 AT
  have hpm : p < m := by omega
  obtain ⟨v, hv, cv, zv, hrow⟩ := h.cell p hpm
  have hg := h.foot_lt (.inl rfl)
  have hlb := h.foot_lt (.inr (.inl rfl))
  obtain ⟨c0, c1⟩ := h.cells
  have hap := h.ar p v
  have hln : (row L p).length ≤ 10000 := by have := row_len L p; have := h.ln; omega
  obtain ⟨A, cc, rfl, hlc, hcm, hcell⟩ := row_cells hrow
  obtain ⟨b, rfl, hbl, hob, hW⟩ := hcell _ t p3
  have hab := hap b hv hob
  have CC := Lib.hid (fun (W : World) (hB : Below w.heap.size w W) => And.intro ((hB.cell (p := ⟨g, 0, none⟩) hg).trans c0) (And.intro ((hB.cell (p := ⟨lb, p, none⟩) hlb).trans cv) (hW W (hB.block b hbl))))
  have HE : Hid (row (upd L t.id f c) (p : Nat) = (row L p).set (plc (row L p) t.id) (updT t.id f c t)) := Lib.hid (by
    rw [row_upd]
    exact upd_set (hok.row _).nd (mem_row.2 ⟨ht, hp⟩) f c)
  have HO : Hid (∀ r : Nat, r ≠ p → row (upd L t.id f c) r = row L r) := Lib.hid (fun r hr => by
    rw [row_upd]
    refine upd_none (fun s hs e => ?_)
    obtain ⟨h1, h2⟩ := mem_row.1 hs
    rw [eq_of_id hok h1 ht e] at h2
    omega)
  have HT : Hid (updT t.id f c t = ⟨t.id, bits .or .i64 t.fl f, k, t.pr⟩) := Lib.hid (by unfold updT; rw [if_pos rfl, hk2])
  have H := Lib.hid h; have HS := Lib.hid hS; have HV := Lib.hid hv; have HR := Lib.hid hrow; have HP3 := Lib.hid p3; have HF := Lib.hid hf1; have HT1 := Lib.hid ht; have HAB := Lib.hid hab
  obtain ⟨b1, b2, b3, b4, b5, b6, b7, b8⟩ := hb
  have HB4 := Lib.hid b4; have HB2 := Lib.hid b2
  clear h hS hv hap hrow hl c0 c1 cv zv hlc hcm hwx hcell hW p3 hok hk2 hf1 ht b4 b2 b7 b8 p0 hab hp
  unfold maxLen at *
  obtain ⟨ti, tf, tc, tp⟩ := t
  simp only at AT CC HE HT HP3 HT1 HB4 HB2 b1 b3 b5 b6 hk p2 HO ⊢
  generalize hi : plc (row L p) ti = i at *
  generalize hM : (row L p).length = ln at *
  have HM := Lib.hid hM
  clear hM hi
  have hlb2 : lb ≠ b := fun e => HAB.out.2.1 e.symm
  have hgb2 : g ≠ b := fun e => HAB.out.1 e.symm
  go_enter Try.func10, Try.ntmps10
  go_wp2_with (first | (go_at_call 26; refine MA.out.mono ?_; rintro e w1 ⟨rfl, rfl⟩) | (go_at_call 28; refine IS.out.mono ?_; rintro e w1 ⟨rfl, rfl⟩))
  refine AT.out.mono ?_
  rintro e w1 ⟨rfl, b1'⟩
  obtain ⟨d0, d1, e0, e1, e2, z0, z1, z2⟩ := CC.out w1 b1'
  have hw1 := b1'.size
  have B1 := Lib.hid b1'
  clear b1' AT MA IS CC
  go_wp2_with fail
  go_region
  go_wp2_with fail
  all_goals
    go_ret
    refine ⟨rfl, ?_⟩
    have h0 := grown_trans (grown_set w1 b (i * 3 + 1) (.int .i64 (bits .or .i64 tf f))) (grown_set _ b (i * 3 + 2) (.int .i64 k))
    have hg1 : w1.grownBy ((w1.setCell ⟨b, i * 3 + 1, none⟩ (.int .i64 (bits .or .i64 tf f))).setCell ⟨b, i * 3 + 2, none⟩ (.int .i64 k)).drew (some b) := ⟨h0.os, h0.tape, h0.output, h0.size, h0.block⟩
    generalize hW2 : ((w1.setCell ⟨b, i * 3 + 1, none⟩ (.int .i64 (bits .or .i64 tf f))).setCell ⟨b, i * 3 + 2, none⟩ (.int .i64 k)).drew = w2 at hg1 ⊢
    have keep : ∀ j, j < w.heap.size → j ≠ b → w2.heap[j]? = w.heap[j]? := fun j hj hne => (hg1.block j (by omega) (fun e => hne (by injection e))).trans (B1.out.block j hj)
    have hr1 := row_same HR.out (fun b e => B1.out.block b (HR.out.lt b e).2)
    rw [← HM.out] at hr1
    have hrow' := row_set (w' := w2) (t' := updT ti f c ⟨ti, tf, tc, tp⟩) hr1 HP3.out (by rw [HT.out]) (b := b) rfl (fun cur fr hc => by
      rw [HT.out, ← hW2]
      exact set_block (set_block hc _ _) _ _)
    rw [← HE.out] at hrow'
    have hup : ∀ y s, look (upd L ti f c) y = some s → ∃ s', look L y = some s' ∧ s.pr = s'.pr := fun y s hs => by
      rw [look_upd] at hs
      cases h0 : look L y with
      | none => rw [h0] at hs; cases hs
      | some s' => rw [h0] at hs; injection hs with hs; exact ⟨s', rfl, by rw [← hs, updT_pr]⟩
    have hm2 := H.out.mp.lt
    refine turn (w1 := w2) (w2 := w2) (v' := .slice (some ⟨b, 0, none⟩) ln cc) H.out HS.out p _ HV.out (grown_trans (grown_of_below B1.out _) hg1) (by rw [HM.out] at hrow'; exact hrow') (fun b' e => .inl e) (grown_refl _ _) (by rw [set_same _ _ _ HV.out]; exact (keep lb hlb hlb2).trans H.out.l)
      (grown_refl _ _) (map_same H.out.mp (keep mb hm2 (fun e => HAB.out.2.2 e.symm))) HO.out (fun y hy => by rw [H.out.hd y hy, look_upd, Option.isSome_map]) (fun y s hs => by obtain ⟨s', h1, h2⟩ := hup y s hs; rw [h2]; exact H.out.ad y s' h1) (H.out.ok.upd ti f c hf0 HF.out hc0) (by unfold upd; rw [List.length_map]; exact H.out.ln)
theorem Put_old (w : World) (g : Nat) (S : Nat → Prop) (N m : Nat) (L : List It) (q : Nat) (f c : Int) (t : It) (h : Qw w g S N m L) (hN : N ≤ 10000) (hq : q < m) (hf0 : 0 ≤ f) (hf1 : f ≤ 9223372036854775807) (hc0 : 0 ≤ c) (ht : t ∈ L) :
    Calls Try.prog 10 #[.pointer (some ⟨g, 0, none⟩), .int .i64 q, .int .i64 t.id, .int .i64 f, .int .i64 c] w fun e w' => e = .returned (.int .i64 0) ∧ ∃ S', Qw w' g S' N m (upd L t.id f c) ∧ Stp S w S' w' :=
  put_old w g S N m L q f c t _ h hN hq hf0 hf1 hc0 ht rfl (by unfold capc; split <;> split <;> omega)
end Go.Proofs.Ytncfggcbdliepaa
