/- The iterator over those who are hit. -/
import Derived.RangeFuncNested
import Derived.RangeFuncBound
import Derived.RangeFuncCalls
import Derived.RangeFuncLeaves
import Derived.RangeFuncBox
import Derived.Test.YtllolfbjmpaamaaJ
namespace Go.Proofs.Ytllolfbjmpaamaa
open Go.RowKit Go.Shelf
attribute [local go_sem] Oper.semAt_some
set_option linter.unusedSimpArgs false
set_option linter.unusedVariables false
set_option maxRecDepth 100000

theorem wpIn_scope_wide {n : Nat} {P : Program} {Q : Exit → Act → World → Prop} {a : Act} {w : World} {c : Code} (h : c.wpIn Fence.wide n P (Exit.noGoto Q) a w) : (Code.scope c).wpIn Fence.wide n P Q a w := wpIn_wide.2 (wp_scope_straight (wpIn_wide.1 h))

/-- How an event is hit. -/
def nF (fl wn : Int) : Int := bits .and .i64 (bits .and .i64 wn fl) 6
def hitOf (fl : Int) (t : It) : It := ⟨t.id, nF fl t.wn, t.nu, t.pr⟩
def hitsL (R : List It) (fl : Int) : List It := (R.map (hitOf fl)).filter fun t => t.wn != 0
theorem hits_snoc (R : List It) (t : It) (fl : Int) : hitsL (R ++ [t]) fl = hitsL R fl ++ if nF fl t.wn = 0 then [] else [hitOf fl t] := by
  unfold hitsL
  rw [List.map_append, List.filter_append]
  congr 1
  by_cases h : nF fl t.wn = 0 <;> simp [hitOf, h]
theorem hits_len (R : List It) (fl : Int) : (hitsL R fl).length ≤ R.length := by
  unfold hitsL
  exact Nat.le_trans (List.length_filter_le _ _) (by simp)
theorem hits_prefix (R : List It) (fl : Int) (k : Nat) : hitsL (R.take k) fl <+: hitsL R fl := by
  have e : R = R.take k ++ R.drop k := (List.take_append_drop k R).symm
  refine ⟨hitsL (R.drop k) fl, ?_⟩
  unfold hitsL
  rw [← List.filter_append, ← List.map_append, List.take_append_drop]

/-- What a round keeps: all cells but those of hits, all maps. -/
def Kept (o : Obj) : Prop := (∃ cs T fr, o = .cells cs T fr ∧ T ≠ 26 ∧ T ≠ 31) ∨ o.isWalk = true
def KQ (W W' : World) : Prop := ∀ (b : Nat) (o : Obj), W.heap[b]? = some o → Kept o → W'.heap[b]? = some o
theorem KQ.refl (W : World) : KQ W W := fun _ _ h _ => h
theorem KQ.t {A B C : World} (h : KQ A B) (k : KQ B C) : KQ A C := fun b o ho hk => k b o (h b o ho hk) hk
theorem KQ.b (W : World) (l : Nat) (o o' : Obj) (h : W.heap[l]? = some o) (hc : o.isCells = false) (hw : o.isWalk = false) : KQ W (W.putObj l o') := fun b p hp hk => by
  have hne : b ≠ l := fun e => by
    subst e
    rw [h] at hp
    injection hp with hp
    subst hp
    rcases hk with ⟨cs, T, fr, rfl, _⟩ | hk
    · simp [Obj.isCells] at hc
    · rw [hw] at hk; cases hk
  rw [World.putObj_heap_other hne]
  exact hp
theorem KQ.below {W W' : World} (h : Below W.heap.size W W') : KQ W W' := fun b o hb _ => (h.block b (Array.getElem?_eq_some_iff.1 hb).1).trans hb
theorem Qw.objs {W : World} {g : Nat} {S : Nat → Prop} {N : Nat} {L : List It} (h : Qw W g S N L) : ∀ b, S b → ∃ o, W.heap[b]? = some o ∧ Kept o := by
  obtain ⟨mb, D, vs, h, hS⟩ := h
  intro b hb
  rcases (hS b).1 hb with rfl | rfl | ⟨v, hv, e⟩
  · exact ⟨_, h.q, .inl ⟨_, _, _, rfl, by decide, by decide⟩⟩
  · obtain ⟨es, clock, hb, _⟩ := h.mp
    exact ⟨_, hb, .inr rfl⟩
  · obtain ⟨p, hp, rfl⟩ := List.getElem_of_mem hv
    rcases (h.r p _ (List.getElem?_eq_getElem hp)).2 with ⟨h0, _⟩ | ⟨gg, cap, cur, h0, _, hh, _⟩
    · rw [h0] at e; cases e
    · rw [h0] at e
      have : gg = b := by simpa [Value.ownBlock] using e
      subst this
      exact ⟨_, hh, .inl ⟨_, _, _, rfl, by decide, by decide⟩⟩
theorem Qw.kq {W W' : World} {g : Nat} {S : Nat → Prop} {N : Nat} {L : List It} (h : Qw W g S N L) (k : KQ W W') : Qw W' g S N L := h.keep (fun b hb => by
  obtain ⟨o, ho, hk⟩ := h.objs b hb
  rw [ho]
  exact k b o ho hk)
/-- What the iterator reads. -/
structure Src (W : World) (B1 B2 B3 g : Nat) (S : Nat → Prop) (N : Nat) (L : List It) (fd fl : Int) : Prop where
  b1 : Boxed W B1 24 (.pointer (some ⟨g, 0, none⟩))
  b2 : Boxed W B2 3 (.int .i64 fd)
  b3 : Boxed W B3 3 (.int .i64 fl)
  q : Qw W g S N L
theorem Src.kq {W W' : World} {B1 B2 B3 g : Nat} {S : Nat → Prop} {N : Nat} {L : List It} {fd fl : Int} (h : Src W B1 B2 B3 g S N L fd fl) (k : KQ W W') : Src W' B1 B2 B3 g S N L fd fl :=
  ⟨k _ _ h.b1 (.inl ⟨_, _, _, rfl, by decide, by decide⟩), k _ _ h.b2 (.inl ⟨_, _, _, rfl, by decide, by decide⟩), k _ _ h.b3 (.inl ⟨_, _, _, rfl, by decide, by decide⟩), h.q.kq k⟩
theorem fld78 (a b : Int) (h) : (#[Value.int .i64 a, Value.int .i64 b])[(#[({ name := "at", type := 3, offset := 0, embedded := false, tag := "", pkgPath := "roundhouse/evmap", byteOffset := 0 } : Field), { name := "wants", type := 3, offset := 1, embedded := false, tag := "", pkgPath := "roundhouse/evmap", byteOffset := 8 }][1]).offset]'h = .int .i64 b := rfl

/-- The numbers of a row, as long as they are kept. -/
theorem row_kq {w : World} {base : Nat} {v : Value} {l : List It} (h : w.ownsRow base 3 1 v l.length (flat l)) : ∃ (A : Option Addr) (c : Nat), v = .slice A l.length c ∧ l.length ≤ c ∧ c ≤ maxLen ∧ ∀ (k : Nat), k < l.length → ∃ (t : It) (b : Nat), l[k]? = some t ∧ A = some ⟨b, 0, none⟩ ∧ ∀ W : World, KQ w W → W.cell? ⟨b, k, none⟩ = some (.int .i64 t.id) := by
  obtain ⟨A, c, e, h1, h2, h3⟩ := row_cells h
  refine ⟨A, c, e, h1, h2, fun k hk => ?_⟩
  obtain ⟨b, hA, hb, ho, hW⟩ := h3 k _ (List.getElem?_eq_getElem hk)
  refine ⟨_, b, List.getElem?_eq_getElem hk, hA, fun W hk => hW W ?_⟩
  rcases h.2 with ⟨rfl, hn⟩ | ⟨g, cap, cur, rfl, hgb, hh, _⟩
  · cases ho
  · have : g = b := by simpa [Value.ownBlock] using ho
    subst this
    rw [hh]
    exact hk _ _ hh (.inl ⟨_, _, _, rfl, by decide, by decide⟩)

set_option maxHeartbeats 2000000 in
theorem iter_in (n : Nat) (hn : 1 ≤ n) (l B1 B2 B3 g : Nat) (S : Nat → Prop) (N : Nat) (L : List It) (fd fl : Int) (hN : N ≤ 9000) (J Jx : List It → World → Prop)
    (hY : ∀ pre (x : It) W, J pre W → pre.length < 10000 → YieldAt Fence.wide (n - 1) Try.prog l #[.agg #[.int .i64 x.id, .int .i64 x.wn]] W fun e W' =>
      (e = .returned (.bool true) ∧ J (pre ++ [x]) W' ∧ KQ W W') ∨ (e = .returned (.bool false) ∧ Jx (pre ++ [x]) W'))
    (W : World) (hS : Src W B1 B2 B3 g S N L fd fl) (hJ : AbidesFrom W.heap.size J) (h0 : J [] W) :
    CallsIn Fence.wide n Try.prog 43 #[.func (.yield l) #[] #[], .pointer (some ⟨B1, 0, none⟩), .pointer (some ⟨B2, 0, none⟩), .pointer (some ⟨B3, 0, none⟩)] W fun e W' => (∃ v, e = .returned v) ∧
      ((∃ ys, ys = hitsL (ofL L fd) fl ∧ J ys W') ∨ (∃ pre, pre <+: hitsL (ofL L fd) fl ∧ Jx pre W')) := by
  have cb1 := hS.b1.cell
  have cb2 := hS.b2.cell
  have HO := Lib.hid (Of_any W g S N L fd hS.q (by omega))
  have hol : (ofL L fd).length ≤ 9000 := by
    have := hS.q.ln
    unfold ofL
    split
    · have := row_len L fd; omega
    · simp
  have HMO : Hid (∀ t ∈ ofL L fd, itOf L t.id = t ∧ (Lit.int .i64 t.id).wf = true) := Lib.hid (fun t ht => by
    have hm : t ∈ L := by
      unfold ofL at ht
      split at ht
      · exact (mem_row.1 ht).1
      · exact absurd ht (List.not_mem_nil)
    exact ⟨by unfold itOf; rw [look_mem hS.q.ok hm]; rfl, wf64 (hS.q.ok.b t hm).lo (hS.q.ok.b t hm).hi⟩)
  have H0 := Lib.hid h0
  have HSr := Lib.hid hS
  clear h0 hS
  refine callsIn_of_wp Try.func43 rfl trivial ?_ rfl
  simp only [Try.ntmps43, List.size_toArray, List.length_cons, List.length_nil, Nat.reduceAdd, Nat.reduceSub, Array.replicate_succ, Array.replicate_zero, List.push_toArray, List.append_toArray, List.nil_append, List.cons_append]
  gi_wp2_with fail
  refine wpIn_scope_wide ?_
  gi_wp2_with fail
  refine wpIn_label ?_
  gi_wp2_with fail
  refine ⟨trivial, (callsIn_wide.2 HO.out).mono ?_⟩
  rintro e W1 ⟨⟨v1, rfl, r1⟩, b1⟩
  have hj1 := hJ _ _ _ none H0.out (grown_of_below b1 none) (fun _ e => by cases e)
  have k1 := KQ.below b1
  have hs1 := HSr.out.kq k1
  have hsz := b1.size
  obtain ⟨A, c, rfl, hlc, hcm, hcell⟩ := row_kq r1
  have HJ1 := Lib.hid hj1
  have HC := Lib.hid hcell
  have HS1 := Lib.hid hs1
  clear HO H0 hj1 hs1 hcell r1 cb1 cb2
  generalize hR : ofL L fd = R at *
  unfold maxLen at hcm
  generalize hll : R.length = ln at *
  gi_wp2_with fail
  gi_loopw [12] (fun i wr => ∃ k : Nat, k ≤ ln ∧ i = .int .i64 k ∧ J (hitsL (R.take k) fl) wr ∧ KQ W1 wr) (fun i _ => ln - (intOf i).toNat)
  case atStart => exact ⟨0, by omega, rfl, HJ1.out, KQ.refl _⟩
  case round =>
    obtain ⟨k, hk, rfl, hj, hkq⟩ := hrel
    by_cases hlt : k < ln
    · have hs := HS1.out.kq hkq
      obtain ⟨t, b, htk, rfl, hcw⟩ := HC.out k hlt
      have hcl := hcw wr hkq
      obtain ⟨hit, hwf⟩ := HMO.out t (List.mem_of_getElem? htk)
      have cb1 := hs.b1.cell
      have cb3 := hs.b3.cell
      have hst := hits_snoc (R.take k) t fl
      rw [← take_step htk] at hst
      have HST := Lib.hid hst
      have hlen : (hitsL (R.take k) fl).length < 10000 := Nat.lt_of_le_of_lt (hits_len _ _) (by rw [List.length_take]; omega)
      obtain ⟨mb, D, vs, hq, hqS⟩ := hs.q
      have hlk : ∀ m, (Instr.lookup 65 (.map (some mb)) (.int .i64 t.id) false).run Try.prog (wr.drewN m) = .ok (.agg #[.int .i64 t.nu, .int .i64 t.wn]) (wr.drewN m) := fun m => by
        have := (hq.keep (w' := wr.drewN m) (fun _ _ => rfl)).look1 (x := t.id) hwf
        rw [hit] at this
        exact this
      have hc0 := hq.cell0
      have hf := fun m => field1 t.nu t.wn (wr.drewN m)
      have HX := Lib.hid (hits_prefix R fl (k + 1))
      clear hq hqS hcw hwf hit hst htk
      have hkl : (k : Int) < (ln : Int) := by omega
      gi_wp2_with fail
      gi_quiet (fail)
      have hj2 := hJ _ _ (wr.drewN nq) none hj ⟨rfl, rfl, rfl, Nat.le_refl _, fun _ _ _ => rfl⟩ (fun _ e => by cases e)
      have hkq2 : KQ W1 (wr.drewN nq) := hkq
      clear hlk hc0 hf cb1 cb3 hcl hkq hj
      generalize wr.drewN nq = wq at *
      by_cases h0 : bits .and .i64 (bits .and .i64 t.wn fl) 6 = 0
      · rw [h0]
        gi_wp2_with fail
        go_roundw
        case rel => exact ⟨k + 1, by omega, by go_num, by rw [HST.out, if_pos (show nF fl t.wn = 0 from h0), List.append_nil]; exact hj2, hkq2⟩
        case measure => simp [intOf]; omega
      · obtain ⟨fn, tmps, assign, body, hy, hRY⟩ := hY _ (hitOf fl t) wq hj2 hlen
        have e1 : hitsL (R.take (k + 1)) fl = hitsL (R.take k) fl ++ [hitOf fl t] := by rw [HST.out, if_neg (show ¬ nF fl t.wn = 0 from h0)]
        have E1 := Lib.hid e1
        clear e1
        generalize hq : bits .and .i64 (bits .and .i64 t.wn fl) 6 = q at *
        have hw : (hitOf fl t).wn = q := hq
        have hi : (hitOf fl t).id = t.id := rfl
        rw [hw, hi] at hy
        clear hw hi
        gi_wp2_with fail
        refine hRY.mono ?_
        rintro e W3 (⟨rfl, hJ3, hk3⟩ | ⟨rfl, hJx3⟩)
        · gi_wp2_with fail
          go_roundw
          case rel => exact ⟨k + 1, by omega, by go_num, by rw [E1.out]; exact hJ3, hkq2.t hk3⟩
          case measure => simp [intOf]; omega
        · gi_wp2_with fail
          rw [Exit.noGoto_ret]
          refine bodyPost_ret (results_none rfl _ _ _) rfl ?_
          refine ⟨⟨_, rfl⟩, .inr ⟨_, ?_, hJx3⟩⟩
          rw [← E1.out]
          rw [hR]
          exact HX.out
    · obtain rfl : k = ln := by omega
      gi_wp2_with fail
      rw [Exit.noGoto_normal]
      go_end0
      refine ⟨⟨_, rfl⟩, .inl ⟨_, rfl, ?_⟩⟩
      rw [← hll, List.take_length] at hj
      rw [hR]
      exact hj
end Go.Proofs.Ytllolfbjmpaamaa
