/- grown. -/
import Derived.Test.YtllolfbjmpaamaaR
namespace Go.Proofs.Ytllolfbjmpaamaa
open Go.RowKit
set_option linter.unusedSimpArgs false
set_option linter.unusedVariables false
set_option maxRecDepth 100000

/-- The map and the world, between two calls. -/
structure Run (w W : World) (g : Nat) (S : Nat → Prop) (N : Nat) (L : List It) : Prop where
  q : Qw W g S N L
  b : Below w.heap.size w W
  s : ∀ b, S b → w.heap.size ≤ b
theorem Run.below {w W W' : World} {g : Nat} {S : Nat → Prop} {N : Nat} {L : List It} (h : Run w W g S N L) (hb : Below W.heap.size W W') : Run w W' g S N L :=
  ⟨h.q.below hb, h.b.trans (hb.mono h.b.size), h.s⟩
theorem Run.step {w W W' : World} {g : Nat} {S S' : Nat → Prop} {N N' : Nat} {L L' : List It} (h : Run w W g S N L) (q : Qw W' g S' N' L') (st : Stp S W S' W') : Run w W' g S' N' L' :=
  ⟨q, h.b.trans (st.below h.s h.b.size).1, (st.below h.s h.b.size).2⟩

/-- The list behind a call. -/
def addL (L : List It) (ev fd wn : Int) : List It := if chk L ev fd wn = 0 then L ++ [⟨ev, wn, fd, fd⟩] else L
def asL (L : List It) (ev sg : Int) : List It := if asE L ev sg = 0 then L ++ [⟨ev, 0, sg, sg + 96⟩] else L
def cutF (L : List It) (x : Int) : List It := if (itOf L x).wn ≠ 0 then cutL L x else L
def cutS (L : List It) (x : Int) : List It := if (look L x).isSome ∧ (itOf L x).wn = 0 then cutL L x else L
theorem it_some {L : List It} {x : Int} {t : It} (h : look L x = some t) : itOf L x = t := by unfold itOf; rw [h]; rfl
theorem it_none {L : List It} {x : Int} (h : look L x = none) : itOf L x = ⟨0, 0, 0, 0⟩ := by unfold itOf; rw [h]; rfl

theorem Add_step (w : World) (g : Nat) (S : Nat → Prop) (N : Nat) (L : List It) (ev fd wn : Int) (h : Qw w g S N L) (hN : N ≤ 9000) (hev : (Lit.int .i64 ev).wf = true) (hwn : (Lit.int .i64 wn).wf = true) :
    Calls Try.prog 15 #[.pointer (some ⟨g, 0, none⟩), .int .i64 ev, .int .i64 fd, .int .i64 wn] w fun e w' => (∃ v, e = .returned v) ∧ ∃ S', Qw w' g S' (N + 1) (addL L ev fd wn) ∧ Stp S w S' w' := by
  unfold addL
  by_cases hc : chk L ev fd wn = 0
  · rw [if_pos hc]
    refine (Add_ok w g S N L ev fd wn h hN hev hwn hc).mono ?_
    rintro e w' ⟨rfl, S', q, st⟩
    exact ⟨⟨_, rfl⟩, S', q, st⟩
  · rw [if_neg hc]
    refine (Add_bad w g S N L ev fd wn h hN hev hwn hc).mono ?_
    rintro e w' ⟨rfl, b⟩
    exact ⟨⟨_, rfl⟩, S, (h.below b).mono (Nat.le_succ _), Stp.of_below b⟩
theorem AddSignal_step (w : World) (g : Nat) (S : Nat → Prop) (N : Nat) (L : List It) (ev sg : Int) (h : Qw w g S N L) (hN : N ≤ 9000) (hev : (Lit.int .i64 ev).wf = true) :
    Calls Try.prog 21 #[.pointer (some ⟨g, 0, none⟩), .int .i64 ev, .int .i64 sg] w fun e w' => (∃ v, e = .returned v) ∧ ∃ S', Qw w' g S' (N + 1) (asL L ev sg) ∧ Stp S w S' w' := by
  unfold asL
  by_cases hc : asE L ev sg = 0
  · rw [if_pos hc]
    refine (AddSignal_ok w g S N L ev sg h hN hev hc).mono ?_
    rintro e w' ⟨rfl, S', q, st⟩
    exact ⟨⟨_, rfl⟩, S', q, st⟩
  · rw [if_neg hc]
    refine (AddSignal_bad w g S N L ev sg h hev hc).mono ?_
    rintro e w' ⟨rfl, b⟩
    exact ⟨⟨_, rfl⟩, S, (h.below b).mono (Nat.le_succ _), Stp.of_below b⟩
theorem Cut_step (w : World) (g : Nat) (S : Nat → Prop) (N : Nat) (L : List It) (x : Int) (h : Qw w g S N L) (hN : N ≤ 9000) (hx : (Lit.int .i64 x).wf = true) :
    Calls Try.prog 17 #[.pointer (some ⟨g, 0, none⟩), .int .i64 x] w fun e w' => (∃ v, e = .returned v) ∧ ∃ S', Qw w' g S' (N + 1) (cutF L x) ∧ Stp S w S' w' := by
  unfold cutF
  by_cases hc : (itOf L x).wn = 0
  · rw [if_neg (fun e => e hc)]
    refine (Cut_bad w g S N L x h hx hc).mono ?_
    rintro e w' ⟨rfl, b⟩
    exact ⟨⟨_, rfl⟩, S, (h.below b).mono (Nat.le_succ _), Stp.of_below b⟩
  · rw [if_pos hc]
    cases hl : look L x with
    | none => rw [it_none hl] at hc; exact absurd rfl hc
    | some t =>
      rw [it_some hl] at hc
      obtain ⟨ht, rfl⟩ := look_some hl
      refine (Cut_ok w g S N L t h hN ht hc).mono ?_
      rintro e w' ⟨rfl, S', q, st⟩
      exact ⟨⟨_, rfl⟩, S', q.mono (Nat.le_succ _), st⟩
theorem CutSignal_step (w : World) (g : Nat) (S : Nat → Prop) (N : Nat) (L : List It) (x : Int) (h : Qw w g S N L) (hN : N ≤ 9000) (hx : (Lit.int .i64 x).wf = true) :
    Calls Try.prog 24 #[.pointer (some ⟨g, 0, none⟩), .int .i64 x] w fun e w' => (∃ v, e = .returned v) ∧ ∃ S', Qw w' g S' (N + 1) (cutS L x) ∧ Stp S w S' w' := by
  unfold cutS
  by_cases hc : (look L x).isSome ∧ (itOf L x).wn = 0
  · rw [if_pos hc]
    cases hl : look L x with
    | none => rw [hl] at hc; exact absurd hc.1 (by simp)
    | some t =>
      have hw := hc.2
      rw [it_some hl] at hw
      obtain ⟨ht, rfl⟩ := look_some hl
      refine (CutSignal_ok w g S N L t h hN ht hw).mono ?_
      rintro e w' ⟨rfl, S', q, st⟩
      exact ⟨⟨_, rfl⟩, S', q.mono (Nat.le_succ _), st⟩
  · rw [if_neg hc]
    have hb : look L x = none ∨ (itOf L x).wn ≠ 0 := by
      cases hl : look L x with
      | none => exact .inl rfl
      | some t => exact .inr (fun e => hc ⟨by rw [hl]; rfl, e⟩)
    refine (CutSignal_bad w g S N L x h hx hb).mono ?_
    rintro e w' ⟨rfl, b⟩
    exact ⟨⟨_, rfl⟩, S, (h.below b).mono (Nat.le_succ _), Stp.of_below b⟩

/-- A call's turn. -/
def stepL (L : List It) (o : OpV) : List It :=
  if o.kd = 0 then addL L o.ev o.fd o.wn else if o.kd = 1 then asL L o.ev o.fd else if o.kd = 2 then cutF L o.ev else if o.kd = 3 then cutS L o.ev else L
/-- The list behind calls. -/
def grownL (os : List OpV) : List It := os.foldl stepL []
theorem grown_take {os : List OpV} {k : Nat} {o : OpV} (h : os[k]? = some o) : grownL (os.take (k + 1)) = stepL (grownL (os.take k)) o := by
  have : os.take (k + 1) = os.take k ++ [o] := by
    rw [List.take_add_one, h]; rfl
  unfold grownL
  rw [this, List.foldl_append]
  rfl

set_option maxHeartbeats 4000000 in
theorem grown_any (a : Option Addr) (cap : Nat) (os : List OpV) (w : World) (hl : os.length ≤ 200) (ho : OpsAt w a os) (hk : ∀ o ∈ os, o.ok) :
    Calls Try.prog 10 #[.slice a os.length cap] w fun e w' => ∃ g S, e = .returned (.pointer (some ⟨g, 0, none⟩)) ∧ Run w w' g S 200 (grownL os) := by
  have HO := Lib.hid ho; have HK := Lib.hid hk
  have HT : Hid (os.take os.length = os) := Lib.hid (List.take_length ..)
  clear ho hk
  generalize hlen : os.length = len at *
  have HL := Lib.hid hlen; clear hlen
  go_enter Try.func10, Try.ntmps10
  go_wp2_with fail
  refine (New_ok w).mono ?_
  rintro e w2 ⟨⟨g, S, rfl, q2, s2⟩, b2⟩
  have R2 : Hid (Run w w2 g S 0 []) := Lib.hid ⟨q2, b2, s2⟩
  clear q2 s2 b2
  go_wp2_with fail
  go_loopw [8] (fun i wr => ∃ (k : Nat) (S : Nat → Prop), k ≤ len ∧ i = .int .i64 k ∧ Hid (Run w wr g S k (grownL (os.take k)))) (fun i _ => len - (intOf i).toNat)
  case atStart => exact ⟨0, S, Nat.zero_le _, rfl, R2⟩
  case round =>
    clear R2
    obtain ⟨k, S, hk, rfl, HR⟩ := hrel
    by_cases hlt : k < len
    · obtain ⟨o, b, off, hko, hok, rfl, hb, hc⟩ := HO.out.one HK.out k (by rw [HL.out]; exact hlt)
      obtain ⟨c0, c1, c2, c3⟩ := hc wr HR.out.b
      have HOK := Lib.hid hok
      have HST := Lib.hid (grown_take hko)
      have HC := Lib.hid hc
      have hkl : (k : Int) < (len : Int) := by omega
      clear hko hok hc
      generalize hL : grownL (os.take k) = L at *
      obtain ⟨kd, ev, fd, wn⟩ := o
      simp only at c0 c1 c2 c3 HC
      by_cases h0 : kd = 0
      · subst h0
        have HADD := Lib.hid (fun (W : World) (hb : Below wr.heap.size wr W) => Add_step W g S k L ev fd wn (HR.out.q.below hb) (by omega) HOK.out.e HOK.out.w)
        rw [show stepL L ⟨0, ev, fd, wn⟩ = addL L ev fd wn by unfold stepL; rfl] at HST
        go_wp2_with fail
        go_region_held3 (fun w' => w'.cell? ⟨b, off + k * 4 + 1, none⟩ = some (.int .i64 ev) ∧ w'.cell? ⟨b, off + k * 4 + 2, none⟩ = some (.int .i64 fd) ∧ w'.cell? ⟨b, off + k * 4 + 3, none⟩ = some (.int .i64 wn)) (first | exact ⟨c1, c2, c3⟩ | exact ⟨y1, y2, y3⟩)
          ((go_at_call 15; refine (HADD.out _ (by first | exact Below.refl _ _ | exact (Below.refl _ _).drew)).mono ?_; rintro e w4 ⟨⟨v, rfl⟩, S1, q1, st1⟩; have R1 := Lib.hid (HR.out.step q1 (by first | exact st1 | exact ⟨st1.f.undrew, st1.s⟩)); obtain ⟨-, y1, y2, y3⟩ := HC.out _ R1.out.b; clear q1 st1))
        all_goals
          go_wp2_with fail
          go_roundw
          case rel => exact ⟨k + 1, _, by omega, by go_num, by rw [HST.out]; exact R1⟩
          case measure => simp [intOf]; omega
      · have e0 : (kd == 0) = false := by simpa using h0
        by_cases h1 : kd = 1
        · subst h1
          have HADD := Lib.hid (fun (W : World) (hb : Below wr.heap.size wr W) => AddSignal_step W g S k L ev fd (HR.out.q.below hb) (by omega) HOK.out.e)
          rw [show stepL L ⟨1, ev, fd, wn⟩ = asL L ev fd by unfold stepL; rfl] at HST
          go_wp2_with fail
          go_region_held3 (fun w' => w'.cell? ⟨b, off + k * 4 + 1, none⟩ = some (.int .i64 ev) ∧ w'.cell? ⟨b, off + k * 4 + 2, none⟩ = some (.int .i64 fd)) (first | exact ⟨c1, c2⟩ | exact ⟨y1, y2⟩)
            ((go_at_call 21; refine (HADD.out _ (by first | exact Below.refl _ _ | exact (Below.refl _ _).drew)).mono ?_; rintro e w4 ⟨⟨v, rfl⟩, S1, q1, st1⟩; have R1 := Lib.hid (HR.out.step q1 (by first | exact st1 | exact ⟨st1.f.undrew, st1.s⟩)); obtain ⟨-, y1, y2, y3⟩ := HC.out _ R1.out.b; clear q1 st1))
          all_goals
            go_wp2_with fail
            go_roundw
            case rel => exact ⟨k + 1, _, by omega, by go_num, by rw [HST.out]; exact R1⟩
            case measure => simp [intOf]; omega
        · have e1 : (kd == 1) = false := by simpa using h1
          by_cases h2 : kd = 2
          · subst h2
            have HADD := Lib.hid (Cut_step wr g S k L ev HR.out.q (by omega) HOK.out.e)
            rw [show stepL L ⟨2, ev, fd, wn⟩ = cutF L ev by unfold stepL; rfl] at HST
            go_wp2_with fail
            refine HADD.out.mono ?_
            rintro e w4 ⟨⟨v, rfl⟩, S1, q1, st1⟩
            have R1 := Lib.hid (HR.out.step q1 st1)
            clear q1 st1
            go_wp2_with fail
            go_roundw
            case rel => exact ⟨k + 1, _, by omega, by go_num, by rw [HST.out]; exact R1⟩
            case measure => simp [intOf]; omega
          · have e2 : (kd == 2) = false := by simpa using h2
            by_cases h3 : kd = 3
            · subst h3
              have HADD := Lib.hid (CutSignal_step wr g S k L ev HR.out.q (by omega) HOK.out.e)
              rw [show stepL L ⟨3, ev, fd, wn⟩ = cutS L ev by unfold stepL; rfl] at HST
              go_wp2_with fail
              refine HADD.out.mono ?_
              rintro e w4 ⟨⟨v, rfl⟩, S1, q1, st1⟩
              have R1 := Lib.hid (HR.out.step q1 st1)
              clear q1 st1
              go_wp2_with fail
              go_roundw
              case rel => exact ⟨k + 1, _, by omega, by go_num, by rw [HST.out]; exact R1⟩
              case measure => simp [intOf]; omega
            · have e3 : (kd == 3) = false := by simpa using h3
              rw [show stepL L ⟨kd, ev, fd, wn⟩ = L by unfold stepL; rw [if_neg h0, if_neg h1, if_neg h2, if_neg h3]] at HST
              go_wp2_with fail
              go_roundw
              case rel => exact ⟨k + 1, _, by omega, by go_num, by rw [HST.out]; exact Lib.hid ⟨HR.out.q.mono (Nat.le_succ _), HR.out.b, HR.out.s⟩⟩
              case measure => simp [intOf]; omega
    · obtain rfl : k = len := by omega
      go_wp2_with fail
      go_ret
      rw [HT.out] at HR
      exact ⟨g, S, rfl, HR.out.q.mono (by omega), HR.out.b, HR.out.s⟩
end Go.Proofs.Ytllolfbjmpaamaa
