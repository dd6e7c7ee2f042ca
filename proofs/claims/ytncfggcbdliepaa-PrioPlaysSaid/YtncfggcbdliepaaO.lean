/- Each method, whatever is asked; alive; the calls that came in. -/
import Derived.Test.YtncfggcbdliepaaNb
import Derived.Test.YtncfggcbdliepaaKo
import Derived.Test.YtncfggcbdliepaaB2
import Derived.Deep.Slices
namespace Go.Proofs.Ytncfggcbdliepaa
open Go.ChangeShapes Go.WideShapes Go.ChangeAt Go.RowKit
set_option linter.unusedSimpArgs false
set_option linter.unusedVariables false
set_option maxRecDepth 100000

theorem Qb.mono {w : World} {g lb mb N N' : Nat} {D : DataW Unit} {vs : List Value} {m : Nat} {L : List It} (h : Qb w g lb mb N D vs m L) (hN : N ≤ N') : Qb w g lb mb N' D vs m L :=
  ⟨h.q, h.l, h.vl, h.r, h.mp.mono hN, h.hd, h.ad, h.ap, h.ar, h.aa, h.ok, Nat.le_trans h.ln hN, h.m8⟩
theorem Qw.mono {w : World} {g : Nat} {S : Nat → Prop} {N N' m : Nat} {L : List It} (h : Qw w g S N m L) (hN : N ≤ N') : Qw w g S N' m L := by
  obtain ⟨lb, mb, D, vs, h, hS⟩ := h
  exact ⟨lb, mb, D, vs, h.mono hN, hS⟩

/-- May it be put? -/
def PutOk (m : Nat) (pr x f c : Int) : Prop := (0 ≤ pr ∧ pr < m) ∧ 0 ≤ x ∧ 0 ≤ f ∧ 0 ≤ c
instance (m : Nat) (pr x f c : Int) : Decidable (PutOk m pr x f c) := by unfold PutOk; infer_instance
def putL (m : Nat) (L : List It) (pr x f c : Int) : List It := if PutOk m pr x f c then (if (look L x).isSome then upd L x f c else L ++ [⟨x, f, capc c, pr⟩]) else L
def putE (m : Nat) (pr x f c : Int) : Int := if PutOk m pr x f c then 0 else 2
theorem Put_any (w : World) (g : Nat) (S : Nat → Prop) (N m : Nat) (L : List It) (pr x f c : Int) (h : Qw w g S N m L) (hN : N ≤ 10000) (hx : x ≤ 9223372036854775807) (hf : f ≤ 9223372036854775807) :
    Calls Try.prog 10 #[.pointer (some ⟨g, 0, none⟩), .int .i64 pr, .int .i64 x, .int .i64 f, .int .i64 c] w fun e w' => e = .returned (.int .i64 (putE m pr x f c)) ∧ ∃ S', Qw w' g S' (N + 1) m (putL m L pr x f c) ∧ Stp S w S' w' := by
  by_cases hp : PutOk m pr x f c
  · unfold putE putL
    rw [if_pos hp, if_pos hp]
    obtain ⟨⟨p0, p1⟩, x0, f0, c0⟩ := hp
    obtain ⟨p, rfl⟩ := Int.eq_ofNat_of_zero_le p0
    cases hl : look L x with
    | none =>
      rw [Option.isSome_none, if_neg (by simp)]
      exact Put_new w g S N m L p x f c h hN (by omega) x0 hx f0 hf c0 hl
    | some t =>
      rw [Option.isSome_some, if_pos rfl]
      obtain ⟨ht, rfl⟩ := look_some hl
      refine (Put_old w g S N m L p f c t h hN (by omega) f0 hf c0 ht).mono ?_
      rintro e w' ⟨rfl, S', q, st⟩
      exact ⟨rfl, S', q.mono (by omega), st⟩
  · unfold putE putL
    rw [if_neg hp, if_neg hp]
    refine (Put_bad w g S N m L pr x f c h ?_).mono ?_
    · unfold PutOk at hp; omega
    · rintro e w' ⟨rfl, rfl⟩
      exact ⟨rfl, S, h.mono (by omega), Stp.refl _ _⟩
theorem Cut_any (w : World) (g : Nat) (S : Nat → Prop) (N m : Nat) (L : List It) (x : Int) (h : Qw w g S N m L) (hN : N ≤ 10000) (hx : (Lit.int .i64 x).wf = true) :
    Calls Try.prog 16 #[.pointer (some ⟨g, 0, none⟩), .int .i64 x] w fun e w' => e = .returned (.bool (look L x).isSome) ∧ ∃ S', Qw w' g S' N m (cutL L x) ∧ Stp S w S' w' := by
  cases hl : look L x with
  | none =>
    refine (Cut_no w g S N m L x h hx hl).mono ?_
    rintro e w' ⟨rfl, b⟩
    rw [cut_none (look_none.1 hl)]
    exact ⟨rfl, S, h.below b, Stp.of_below b⟩
  | some t => exact Cut_yes w g S N m L x t h (by omega) hx hl
def moveL (m : Nat) (L : List It) (x pr : Int) : List It := match look L x with
  | none => L
  | some t => if 0 ≤ pr ∧ pr < m ∧ t.pr ≠ pr then cutL L x ++ [⟨t.id, t.fl, t.ct, pr⟩] else L
def moveE (m : Nat) (L : List It) (x pr : Int) : Int := if (look L x).isSome ∧ 0 ≤ pr ∧ pr < m then 0 else 2
theorem Move_any (w : World) (g : Nat) (S : Nat → Prop) (N m : Nat) (L : List It) (x pr : Int) (h : Qw w g S N m L) (hN : N ≤ 10000) (hx : (Lit.int .i64 x).wf = true) :
    Calls Try.prog 17 #[.pointer (some ⟨g, 0, none⟩), .int .i64 x, .int .i64 pr] w fun e w' => e = .returned (.int .i64 (moveE m L x pr)) ∧ ∃ S', Qw w' g S' (N + 1) m (moveL m L x pr) ∧ Stp S w S' w' := by
  unfold moveE moveL
  cases hl : look L x with
  | none =>
    rw [if_neg (by simp)]
    refine (Move_none w g S N m L x pr h hx hl).mono ?_
    rintro e w' ⟨rfl, b⟩
    exact ⟨rfl, S, (h.below b).mono (by omega), Stp.of_below b⟩
  | some t =>
    obtain ⟨ht, rfl⟩ := look_some hl
    by_cases hp : 0 ≤ pr ∧ pr < m
    · rw [if_pos ⟨rfl, hp⟩]
      by_cases he : t.pr = pr
      · subst he
        refine (Move_stay w g S N m L t h ht).mono ?_
        rintro e w' ⟨rfl, b⟩
        refine ⟨rfl, S, ?_, Stp.of_below b⟩
        simp only
        rw [if_neg (fun h => h.2.2 rfl)]
        exact (h.below b).mono (by omega)
      · obtain ⟨q, rfl⟩ := Int.eq_ofNat_of_zero_le hp.1
        refine (Move_go w g S N m L t q h hN ht (by omega) he).mono ?_
        rintro e w' ⟨rfl, S', q', st⟩
        refine ⟨rfl, S', ?_, st⟩
        simp only
        rw [if_pos ⟨hp.1, hp.2, he⟩]
        exact q'
    · rw [if_neg (fun h => hp h.2)]
      refine (Move_bad w g S N m L t pr h ht hp).mono ?_
      rintro e w' ⟨rfl, b⟩
      refine ⟨rfl, S, ?_, Stp.of_below b⟩
      simp only
      rw [if_neg (fun h => hp ⟨h.1, h.2.1⟩)]
      exact (h.below b).mono (by omega)
theorem Batch_any (w : World) (g : Nat) (S : Nat → Prop) (N m : Nat) (L : List It) (h : Qw w g S N m L) (hN : N ≤ 10000) :
    Calls Try.prog 13 #[.pointer (some ⟨g, 0, none⟩)] w fun e w' => ∃ v S', e = .returned v ∧ w'.ownsRow 0 35 3 v (row L (least L)).length (flat (row L (least L))) ∧ Qw w' g S' N m (restL L (least L)) ∧ Stp S w S' w' ∧ (∀ b, v.ownBlock = some b → S b ∧ ¬ S' b) := by
  by_cases h0 : L = []
  · subst h0
    refine (Batch_none w g S N m h (by omega)).mono ?_
    rintro e w' ⟨rfl, b⟩
    exact ⟨_, S, rfl, World.ownsRow_nil _ _ _ _, h.below b, Stp.of_below b, fun b e => by cases e⟩
  · obtain ⟨⟨t, ht, e⟩, -⟩ := least_of (fun t ht => (h.ok.b t ht).2.2.2.2.2.2.1) h0
    have hb := h.ok.b t ht
    obtain ⟨p, hp⟩ := Int.eq_ofNat_of_zero_le hb.2.2.2.2.2.2.1
    rw [hp] at e
    refine (batch_some w g S N m L p h hN e (by omega)).mono ?_
    rintro e' w' ⟨v, rfl, r, S', q, st, hs⟩
    rw [e]
    exact ⟨v, S', rfl, r, q, st, hs⟩
/-- What Has tells. -/
def hasV (L : List It) (x : Int) : Value := match look L x with
  | none => .tuple #[.agg #[.int .i64 0, .int .i64 0, .int .i64 0], .int .i64 0, .bool false]
  | some t => .tuple #[.agg #[.int .i64 t.id, .int .i64 t.fl, .int .i64 t.ct], .int .i64 t.pr, .bool true]
/-- What it tells, part by part. -/
def itOf (L : List It) (x : Int) : It := (look L x).getD ⟨0, 0, 0, 0⟩
theorem Has_any (w : World) (g : Nat) (S : Nat → Prop) (N m : Nat) (L : List It) (x : Int) (h : Qw w g S N m L) (hx : (Lit.int .i64 x).wf = true) :
    Calls Try.prog 15 #[.pointer (some ⟨g, 0, none⟩), .int .i64 x] w fun e w' => e = .returned (.tuple #[.agg #[.int .i64 (itOf L x).id, .int .i64 (itOf L x).fl, .int .i64 (itOf L x).ct], .int .i64 (itOf L x).pr, .bool (look L x).isSome]) ∧ Below w.heap.size w w' := by
  unfold itOf
  cases hl : look L x with
  | none => exact Has_no w g S N m L x h hx hl
  | some t => exact Has_yes w g S N m L x t h hx hl
end Go.Proofs.Ytncfggcbdliepaa
