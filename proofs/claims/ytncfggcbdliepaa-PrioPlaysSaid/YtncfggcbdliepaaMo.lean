/- PrioMoves. -/
import Derived.Test.YtncfggcbdliepaaAl
namespace Go.Proofs.Ytncfggcbdliepaa
open Go.RowKit
set_option linter.unusedSimpArgs false
set_option linter.unusedVariables false
set_option maxRecDepth 100000

theorem cut_len {m : Nat} {L : List It} (ho : Ok m L) {t : It} (ht : t ∈ L) : (cutL L t.id).length + 1 = L.length := by
  have h := plc_lt ht
  rw [cut_plc ho ht, List.length_append, List.length_take, List.length_drop]
  omega
/-- The worlds that keep W. -/
structure Aft (W : World) where
  val : World
  property : Below W.heap.size W val
instance (W : World) : Nonempty (Aft W) := ⟨⟨W, Below.refl _ _⟩⟩
theorem quiet_call {W : World} {P : Program} {f : FuncId} {args : Array Value} {v : Value} (n : Aft W) (h : Calls P f args n.val fun e w' => e = .returned v ∧ Below n.val.heap.size n.val w') : Calls P f args n.val fun e w'' => e = .returned v ∧ ∃ m : Aft W, w'' = m.val :=
  h.mono fun _ w' ⟨he, hb⟩ => ⟨he, ⟨w', n.property.trans (hb.mono n.property.size)⟩, rfl⟩
/-- A region that draws its order, reads, and calls what makes memory: one walk, in the order of the text. -/
theorem wp_region_aft {P : Program} {W : World} {id : Nat} {Q : Exit → Act → World → Prop} {a : Act} {w : World} {l : List Oper} (hm : P.follows .mixedOrders = true) (hB : Region.lexB .any l.toArray = true) (h0 : Below W.heap.size W w)
    (h : wpQuiet P l.toArray (fun w' => ∃ n : Aft W, w' = n.val) (fun a' => ∀ w', (∃ n : Aft W, w' = n.val) → Q .normal a' w') l a) : (Code.region id l.toArray true).wp P Q a w :=
  wp_region_quiet (C := fun w' => ∃ n : Aft W, w' = n.val) hm hB ⟨⟨_, h0.drew⟩, rfl⟩ (by simpa using h)
/-- A Put of one of the calls: a region that draws its order. -/
def PutAt (w W : World) (g : Nat) (S : Nat → Prop) (k m : Nat) (L : List It) (W' : World) : Prop := ∃ S', Run w W' g S' (k + 1) m L

/-- What is moved. -/
theorem move_facts {m : Nat} {L : List It} (ho : Ok m L) {t : It} (ht : t ∈ L) (q : Int) (hq0 : 0 ≤ q) (hq : q < m) :
    ∃ L', moveL m L t.id q = L' ∧ Ok m L' ∧ L'.length = L.length ∧ look L' t.id = some ⟨t.id, t.fl, t.ct, q⟩ ∧ (t.pr ≠ q → ∃ r, row L' q = r ++ [⟨t.id, t.fl, t.ct, q⟩]) ∧ (t.pr = q → L' = L) := by
  have hl := look_mem ho ht
  obtain ⟨b1, b2, b3, b4, b5, b6, b7, b8⟩ := ho.b t ht
  unfold moveL
  rw [hl]
  simp only
  by_cases e : t.pr = q
  · rw [if_neg (fun h => h.2.2 e)]
    refine ⟨L, rfl, ho, rfl, ?_, fun h => absurd e h, fun _ => rfl⟩
    rw [hl, ← e]
  · rw [if_pos ⟨hq0, hq, e⟩]
    have hn : look (cutL L t.id) t.id = none := look_cut_self L t.id
    refine ⟨_, rfl, (ho.cut t.id).snoc _ (look_none.1 hn) ⟨b1, b2, b3, b4, b5, b6, hq0, hq⟩, ?_, ?_, fun _ => ⟨_, row_snoc_same _ ⟨t.id, t.fl, t.ct, q⟩⟩, fun h => absurd h e⟩
    · have := cut_len ho ht
      rw [List.length_append]; simp; omega
    · exact (look_snoc (cutL L t.id) ⟨t.id, t.fl, t.ct, q⟩ t.id hn).trans (if_pos rfl)

theorem moves_out (a : Option Addr) (n cap : Nat) (id tq : Int) (w : World) (hn : n ≤ maxLen) (h : 60 < n) :
    Calls Try.prog 5 #[.slice a n cap, .int .i64 id, .int .i64 tq] w fun e w' => e = .returned (.bool true) ∧ Below w.heap.size w w' := by
  unfold maxLen at hn
  go_enter Try.func5, Try.ntmps5
  go_wp2_with fail
  refine (alive_any w).mono ?_
  rintro e w1 ⟨rfl, b1⟩
  go_wp2_with fail
  go_ret
  exact ⟨rfl, b1⟩

set_option maxHeartbeats 8000000 in
theorem moves_in (a : Option Addr) (cap : Nat) (os : List OpV) (id tq : Int) (w : World) (hl : os.length ≤ 60) (ho : OpsAt w a os) (hk : ∀ o ∈ os, o.ok) (hid : (Lit.int .i64 id).wf = true) :
    Calls Try.prog 5 #[.slice a os.length cap, .int .i64 id, .int .i64 tq] w fun e w' => e = .returned (.bool true) ∧ Below w.heap.size w w' := by
  have HO := Lib.hid ho; have HK := Lib.hid hk; have HID := Lib.hid hid
  clear ho hk hid
  generalize hlen : os.length = len at *
  have HL := Lib.hid hlen; clear hlen
  go_enter Try.func5, Try.ntmps5
  go_wp2_with fail
  refine (alive_any w).mono ?_
  rintro e w1 ⟨rfl, b1⟩
  have B1 := Lib.hid b1; have z1 := b1.size
  clear b1
  go_wp2_with fail
  refine (New_ok 8 w1 (by omega) (by omega)).mono ?_
  rintro e w2 ⟨⟨g, S, rfl, q2, s2⟩, b2⟩
  have R2 : Hid (Run w w2 g S 0 8 (puts 8 (os.take 0))) := Lib.hid ⟨q2, B1.out.trans (b2.mono z1), fun b hb => by have := s2 b hb; omega⟩
  clear q2 s2 b2
  go_wp2_with fail
  go_loopw [10] (fun i wr => ∃ (k : Nat) (S : Nat → Prop), k ≤ len ∧ i = .int .i64 k ∧ Hid (Run w wr g S k 8 (puts 8 (os.take k)))) (fun i _ => len - (intOf i).toNat)
  case atStart => exact ⟨0, S, Nat.zero_le _, rfl, R2⟩
  case round =>
    clear R2
    obtain ⟨k, S, hk, rfl, HR⟩ := hrel
    by_cases hlt : k < len
    · obtain ⟨o, b, off, hko, hok, rfl, hb, hc⟩ := HO.out.one HK.out k (by rw [HL.out]; exact hlt)
      obtain ⟨c0, c1, c2, c3, c4⟩ := hc wr HR.out.b
      have HPUT := Lib.hid (fun (W : World) (hb : Below wr.heap.size wr W) => Put_any W g S k 8 (puts 8 (os.take k)) o.pr o.id o.fl 0 (HR.out.q.below hb) (by omega) (bd_i64 hok.i).2 (bd_i64 hok.f).2)
      have HST : Hid (puts 8 (os.take (k + 1)) = putL 8 (puts 8 (os.take k)) o.pr o.id o.fl 0) := Lib.hid (by
        obtain ⟨hk2, hke⟩ := List.getElem?_eq_some_iff.1 hko
        rw [List.take_succ_eq_append_getElem hk2, puts_snoc, hke])
      have HC := Lib.hid hc
      clear hko hok hc c0 c4
      obtain ⟨kd, pr, oi, fl, ct⟩ := o
      simp only at c1 c2 c3 HPUT HST HC
      generalize puts 8 (os.take k) = L at *
      go_wp2_with fail
      go_region_held3 (fun w' => w'.cell? ⟨b, off + k * 5 + 1, none⟩ = some (.int .i64 pr) ∧ w'.cell? ⟨b, off + k * 5 + 2, none⟩ = some (.int .i64 oi) ∧ w'.cell? ⟨b, off + k * 5 + 3, none⟩ = some (.int .i64 fl)) (first | exact ⟨c1, c2, c3⟩ | exact ⟨y1, y2, y3⟩)
        (first | (go_at_call 10; refine (HPUT.out _ (by first | exact Below.refl _ _ | exact (Below.refl _ _).drew)).mono ?_; rintro e w4 ⟨rfl, S', q', st⟩; have R' := Lib.hid (HR.out.step q' (by first | exact st | exact st.undrew)); obtain ⟨-, y1, y2, y3, -⟩ := HC.out w4 R'.out.b; clear q' st))
      go_wp2_with fail
      go_roundw
      case rel => exact ⟨k + 1, S', by omega, by go_num, by rw [HST.out]; exact R'⟩
      case measure => simp [intOf]; omega
    · obtain rfl : k = len := by omega
      have htk : os.take k = os := List.take_of_length_le (by rw [HL.out]; exact Nat.le_refl _)
      rw [htk] at HR
      have hok := HR.out.q.ok
      clear htk
      generalize puts 8 os = L at *
      have HLN := Lib.hid (fun (W : World) (hb : Below wr.heap.size wr W) => Len_any W g S k 8 L (HR.out.q.below hb) (by omega))
      have hll : L.length ≤ 60 := by have := HR.out.q.ln; omega
      cases hlk : look L id with
      | none =>
        have HH := Lib.hid (Has_no wr g S k 8 L id HR.out.q HID.out hlk)
        have HMV := Lib.hid (fun (W : World) (hb : Below wr.heap.size wr W) => Move_none W g S k 8 L id tq (HR.out.q.below hb) HID.out hlk)
        generalize L.length = ll at *
        clear hlk hok
        go_wp2_with fail
        refine HH.out.mono ?_
        rintro e w4 ⟨rfl, b4⟩
        have B4 := Lib.hid (b4.alloc b4.size (.cells #[.int .i64 0, .int .i64 0, .int .i64 0] 35))
        clear b4
        go_wp2_with fail
        refine (HLN.out _ B4.out).mono ?_
        rintro e w5 ⟨rfl, b5⟩
        have B5 := Lib.hid (B4.out.trans (b5.mono B4.out.size))
        clear b5
        go_wp2_with fail
        refine (HMV.out _ B5.out).mono ?_
        rintro e w6 ⟨rfl, b6⟩
        have B6 := Lib.hid (B5.out.trans (b6.mono B5.out.size))
        clear b6
        go_wp2_with fail
        refine (HLN.out _ B6.out).mono ?_
        rintro e w7 ⟨rfl, b7⟩
        have B7 := Lib.hid (B6.out.trans (b7.mono B6.out.size))
        clear b7
        go_wp2_with fail
        go_ret
        exact ⟨rfl, HR.out.b.trans (B7.out.mono HR.out.b.size)⟩
      | some t =>
        obtain ⟨ht, rfl⟩ := look_some hlk
        have HH := Lib.hid (Has_yes wr g S k 8 L t.id t HR.out.q HID.out hlk)
        by_cases hto : 0 ≤ tq ∧ tq < 8
        · obtain ⟨L', hL', ok', len', lk', rw', same'⟩ := move_facts hok ht tq hto.1 (by omega)
          have hE : moveE 8 L t.id tq = 0 := by unfold moveE; rw [if_pos ⟨by rw [hlk]; rfl, hto.1, by omega⟩]
          have HMV := Lib.hid (fun (W : World) (hb : Below wr.heap.size wr W) => Move_any W g S k 8 L t.id tq (HR.out.q.below hb) (by omega) HID.out)
          rw [hE, hL'] at HMV
          have htp := (hok.b t ht).2.2.2.2.2.2
          obtain ⟨L2, hL2, ok2, len2, lk2, rw2, same2⟩ := move_facts ok' (t := ⟨t.id, t.fl, t.ct, tq⟩) (look_some lk').1 t.pr htp.1 htp.2
          have hE2 : moveE 8 L' t.id t.pr = 0 := by unfold moveE; rw [if_pos ⟨by rw [lk']; rfl, htp⟩]
          simp only at hL2 lk2 rw2 same2
          obtain ⟨ti, tf, tc, tp⟩ := t
          simp only at HMV hL2 lk2 rw2 same2 hE2 lk' rw' same' htp HH
          have hll' : L'.length ≤ 60 := by omega
          have hlr : (row L' tq).length ≤ 60 := by have := row_len L' tq; omega
          have hlr2 : (row L2 tp).length ≤ 60 := by have := row_len L2 tp; omega
          clear hlk hok hL' hE ok2
          generalize hlen1 : L.length = ll at *
          have hto0 := hto.1
          have hto1 : tq ≤ 7 := by omega
          clear hto
          go_wp2_with fail
          refine HH.out.mono ?_
          rintro e w4 ⟨rfl, b4⟩
          have z4 := b4.size
          have B4 := Lib.hid (b4.alloc b4.size (.cells #[.int .i64 ti, .int .i64 tf, .int .i64 tc] 35))
          have K4 : Hid ((w4.alloc (.cells #[.int .i64 ti, .int .i64 tf, .int .i64 tc] 35)).heap[w4.heap.size]? = some (.cells #[.int .i64 ti, .int .i64 tf, .int .i64 tc] 35 (0, 0))) := Lib.hid (new_block _ _)
          clear b4
          go_wp2_with fail
          refine (HLN.out _ B4.out).mono ?_
          rintro e w5 ⟨rfl, b5⟩
          have B5 := Lib.hid (B4.out.trans (b5.mono B4.out.size))
          have K5 := Lib.hid ((b5.block _ (lt_of_block K4.out)).trans K4.out)
          clear b5 B4 K4
          generalize hx4 : w4.heap.size = x4 at *
          have HX4 := Lib.hid hx4
          clear hx4
          go_wp2_with fail
          refine (HMV.out _ B5.out).mono ?_
          rintro e w6 ⟨rfl, S', q', st⟩
          have hxs : ¬ S x4 := fun h => by have := HR.out.q.lt h; omega
          have K6 := Lib.hid ((st.f.block _ (lt_of_block K5.out) hxs).trans K5.out)
          have R6 := Lib.hid ((HR.out.below B5.out).step q' st)
          have HXS' : Hid (¬ S' x4) := Lib.hid (fun h => by
            rcases st.s _ h with h1 | h1
            · exact hxs h1
            · have := lt_of_block K5.out; omega)
          clear q' st B5 K5 HR HLN HH HMV
          have HLI := Lib.hid (List_any w6 g S' (k + 1) 8 L' tq R6.out.q (by omega))
          go_wp2_with fail
          refine HLI.out.mono ?_
          rintro e w7 ⟨⟨va, rfl, ra⟩, b7⟩
          have B7 := Lib.hid b7
          have RA := Lib.hid (row_base ra)
          clear b7 ra HLI
          obtain ⟨A7, c7, rfl, -, -, hc7⟩ := row_cells RA.out
          have HC7 := Lib.hid hc7
          clear hc7
          have HHA := Lib.hid (Has_yes w7 g S' (k + 1) 8 L' ti _ (R6.out.q.below B7.out) HID.out lk')
          go_wp2_with fail
          refine HHA.out.mono ?_
          rintro e w8 ⟨rfl, b8⟩
          go_upto_region 18 with (fail)
          obtain ⟨W9, hW9⟩ : ∃ W9, W9 = w8.alloc (.cells #[.int .i64 ti, .int .i64 tf, .int .i64 tc] 35) := ⟨_, rfl⟩
          have B9 : Hid (Below w7.heap.size w7 W9) := Lib.hid (by rw [hW9]; exact b8.alloc b8.size _)
          have K9 : Hid (W9.heap[w8.heap.size]? = some (.cells #[.int .i64 ti, .int .i64 tf, .int .i64 tc] 35 (0, 0))) := Lib.hid (by rw [hW9]; exact new_block _ _)
          have K9' : Hid (W9.heap[x4]? = some (.cells #[.int .i64 ti, .int .i64 tf, .int .i64 tc] 35 (0, 0))) := Lib.hid ((B9.out.block _ (Nat.lt_of_lt_of_le (lt_of_block K6.out) B7.out.size)).trans ((B7.out.block _ (lt_of_block K6.out)).trans K6.out))
          have R9 := Lib.hid ((R6.out.below B7.out).below B9.out)
          rw [← hW9]
          clear b8 HHA hW9
          generalize hx9 : w8.heap.size = x9 at *
          have HX9 := Lib.hid hx9
          clear hx9
          have hk4 : ∀ W : World, Below W9.heap.size W9 W → W.cell? ⟨x4, 0, none⟩ = some (.int .i64 ti) ∧ W.cell? ⟨x4, 1, none⟩ = some (.int .i64 tf) ∧ W.cell? ⟨x4, 2, none⟩ = some (.int .i64 tc) := fun W hb => by
            have hc := cell_of ((hb.block _ (lt_of_block K9'.out)).trans K9'.out)
            have c0 := (hc 0).1; have c1 := (hc 1).1; have c2 := (hc 2).1
            simp at c0 c1 c2
            exact ⟨c0, c1, c2⟩
          have hk9 : ∀ W : World, Below W9.heap.size W9 W → W.cell? ⟨x9, 0, none⟩ = some (.int .i64 ti) ∧ W.cell? ⟨x9, 1, none⟩ = some (.int .i64 tf) ∧ W.cell? ⟨x9, 2, none⟩ = some (.int .i64 tc) := fun W hb => by
            have hc := cell_of ((hb.block _ (lt_of_block K9.out)).trans K9.out)
            have c0 := (hc 0).1; have c1 := (hc 1).1; have c2 := (hc 2).1
            simp at c0 c1 c2
            exact ⟨c0, c1, c2⟩
          have HLN := Lib.hid (fun (W : World) (hb : Below W9.heap.size W9 W) => Len_any W g S' (k + 1) 8 L' (R9.out.q.below hb) (by omega))
          rw [len'] at HLN
          have HMV := Lib.hid (fun (W : World) (hb : Below W9.heap.size W9 W) => Move_any W g S' (k + 1) 8 L' ti tp (R9.out.q.below hb) (by omega) HID.out)
          rw [hE2, hL2] at HMV
          clear hE2
          have HXS : Hid (¬ S' x4) := HXS'
          by_cases hpq : tp = tq
          · subst hpq
            have x0 := fun n : Aft W9 => (hk4 n.val n.property).1
            have x1 := fun n : Aft W9 => (hk4 n.val n.property).2.1
            have x2 := fun n : Aft W9 => (hk4 n.val n.property).2.2
            have y0 := fun n : Aft W9 => (hk9 n.val n.property).1
            have y1 := fun n : Aft W9 => (hk9 n.val n.property).2.1
            have y2 := fun n : Aft W9 => (hk9 n.val n.property).2.2
            refine wp_region_aft (by kernel_rfl) (by kernel_rfl) (Below.refl _ W9) ?_
            repeat (any_goals (first | go_big_quiet_step ((go_at_call 11; exact quiet_call _ (HLN.out _ (Aft.property _)))) | quiet_step ((go_at_call 11; exact quiet_call _ (HLN.out _ (Aft.property _))))))
            refine wpQuiet_nil ?_
            intro _ hw'
            obtain ⟨⟨w10, b10⟩, hw''⟩ := hw'
            subst hw''
            have HB10 := Lib.hid b10
            clear b10 x0 x1 x2 y0 y1 y2
            go_wp2_with fail
            refine (HMV.out _ HB10.out).mono ?_
            rintro e w11 ⟨rfl, S2, q2, st2⟩
            have hxs : ¬ S' x4 := fun h => HXS.out h
            have R11 := Lib.hid ((R9.out.below HB10.out).step q2 st2)
            have K11 : Hid (w11.heap[x4]? = some (.cells #[.int .i64 ti, .int .i64 tf, .int .i64 tc] 35 (0, 0))) := Lib.hid ((st2.f.block _ (Nat.lt_of_lt_of_le (lt_of_block K9'.out) HB10.out.size) hxs).trans ((HB10.out.block _ (lt_of_block K9'.out)).trans K9'.out))
            clear q2 st2 hxs
            have HLI := Lib.hid (List_any w11 g S2 (k + 1 + 1) 8 L2 tp R11.out.q (by omega))
            go_wp2_with fail
            refine HLI.out.mono ?_
            rintro e w12 ⟨⟨vb, rfl, rb⟩, b12⟩
            have RB := Lib.hid (row_base rb)
            have B12 := Lib.hid b12
            have K12 := Lib.hid ((b12.block _ (lt_of_block K11.out)).trans K11.out)
            clear rb b12 HLI
            obtain ⟨A12, c12, rfl, -, -, hc12⟩ := row_cells RB.out
            have HC12 := Lib.hid hc12
            clear hc12
            have hkc : w12.cell? ⟨x4, 0, none⟩ = some (.int .i64 ti) ∧ w12.cell? ⟨x4, 1, none⟩ = some (.int .i64 tf) ∧ w12.cell? ⟨x4, 2, none⟩ = some (.int .i64 tc) := by
              have hc := cell_of K12.out
              have c0 := (hc 0).1; have c1 := (hc 1).1; have c2 := (hc 2).1
              simp at c0 c1 c2
              exact ⟨c0, c1, c2⟩
            obtain ⟨x0, x1, x2⟩ := hkc
            clear HC12
            generalize (row L2 tp).length = rl2 at *
            go_wp2_with fail
            go_quiet (fail)
            go_wp2_with fail
            go_ret
            exact ⟨rfl, below_drewN (R11.out.b.trans (B12.out.mono R11.out.b.size)) _⟩
          · obtain ⟨r, hr⟩ := rw' hpq
            obtain ⟨r2, hr2⟩ := rw2 (fun e => hpq e.symm)
            obtain ⟨ba, rfl, hba, -, hca⟩ := HC7.out r.length ⟨ti, tf, tc, tq⟩ (by rw [hr]; simp)
            have hla : (row L' tq).length = r.length + 1 := by rw [hr]; simp
            have hlb : (row L2 tp).length = r2.length + 1 := by rw [hr2]; simp
            have hgr : (row L2 tp)[r2.length]? = some ⟨ti, tf, tc, tp⟩ := by rw [hr2]; simp
            rw [hla] at hlr ⊢
            have hka : ∀ n : Aft W9, n.val.cell? ⟨ba, r.length * 3, none⟩ = some (.int .i64 ti) ∧ n.val.cell? ⟨ba, r.length * 3 + 1, none⟩ = some (.int .i64 tf) ∧ n.val.cell? ⟨ba, r.length * 3 + 2, none⟩ = some (.int .i64 tc) := fun n => by
              obtain ⟨x0, x1, x2, -⟩ := hca n.val ((n.property.block _ (Nat.lt_of_lt_of_le hba B9.out.size)).trans (B9.out.block _ hba))
              exact ⟨x0, x1, x2⟩
            clear HC7 hca hr hla rw' rw2 same' same2 hr2
            generalize r.length = ra at *
            have z0 := fun n : Aft W9 => (hka n).1
            have z1' := fun n : Aft W9 => (hka n).2.1
            have z2 := fun n : Aft W9 => (hka n).2.2
            have x0 := fun n : Aft W9 => (hk4 n.val n.property).1
            have x1 := fun n : Aft W9 => (hk4 n.val n.property).2.1
            have x2 := fun n : Aft W9 => (hk4 n.val n.property).2.2
            have y0 := fun n : Aft W9 => (hk9 n.val n.property).1
            have y1 := fun n : Aft W9 => (hk9 n.val n.property).2.1
            have y2 := fun n : Aft W9 => (hk9 n.val n.property).2.2
            have hne1 : (tp != tq) = true := by simpa using hpq
            have hne2 : (tp == tq) = false := by simpa using hpq
            have hsub : IntKind.i64.wrap (ra : Int) = (ra : Int) := IntWalk.i64_in _ (by omega)
            have hsub2 : ((ra : Int) + 1 == 0) = false := by rw [beq_eq_false_iff_ne]; omega
            have hsub3 : (ra : Int) < (ra : Int) + 1 := by omega
            have hsub4 : (0 : Int) < (ra : Int) + 1 := by omega
            clear hka hpq
            refine wp_region_aft (by kernel_rfl) (by kernel_rfl) (Below.refl _ W9) ?_
            repeat (any_goals (first | go_big_quiet_step ((go_at_call 11; exact quiet_call _ (HLN.out _ (Aft.property _)))) | quiet_step ((go_at_call 11; exact quiet_call _ (HLN.out _ (Aft.property _))))))
            refine wpQuiet_nil ?_
            intro _ hw'
            obtain ⟨⟨w10, b10⟩, hw''⟩ := hw'
            subst hw''
            have HB10 := Lib.hid b10
            clear b10 x0 x1 x2 y0 y1 y2 z0 z1' z2 hsub hsub2 hsub3 hsub4
            go_wp2_with fail
            refine (HMV.out _ HB10.out).mono ?_
            rintro e w11 ⟨rfl, S2, q2, st2⟩
            have hxs : ¬ S' x4 := fun h => HXS.out h
            have R11 := Lib.hid ((R9.out.below HB10.out).step q2 st2)
            have K11 : Hid (w11.heap[x4]? = some (.cells #[.int .i64 ti, .int .i64 tf, .int .i64 tc] 35 (0, 0))) := Lib.hid ((st2.f.block _ (Nat.lt_of_lt_of_le (lt_of_block K9'.out) HB10.out.size) hxs).trans ((HB10.out.block _ (lt_of_block K9'.out)).trans K9'.out))
            clear q2 st2 hxs
            have HLI := Lib.hid (List_any w11 g S2 (k + 1 + 1) 8 L2 tp R11.out.q (by omega))
            go_wp2_with fail
            refine HLI.out.mono ?_
            rintro e w12 ⟨⟨vb, rfl, rb⟩, b12⟩
            have RB := Lib.hid (row_base rb)
            have B12 := Lib.hid b12
            have K12 := Lib.hid ((b12.block _ (lt_of_block K11.out)).trans K11.out)
            clear rb b12 HLI
            obtain ⟨A12, c12, rfl, -, -, hc12⟩ := row_cells RB.out
            have HC12 := Lib.hid hc12
            clear hc12
            have hkc : w12.cell? ⟨x4, 0, none⟩ = some (.int .i64 ti) ∧ w12.cell? ⟨x4, 1, none⟩ = some (.int .i64 tf) ∧ w12.cell? ⟨x4, 2, none⟩ = some (.int .i64 tc) := by
              have hc := cell_of K12.out
              have c0 := (hc 0).1; have c1 := (hc 1).1; have c2 := (hc 2).1
              simp at c0 c1 c2
              exact ⟨c0, c1, c2⟩
            obtain ⟨x0, x1, x2⟩ := hkc
            obtain ⟨bb, rfl, hbb, -, hcb⟩ := HC12.out r2.length ⟨ti, tf, tc, tp⟩ hgr
            obtain ⟨v0, v1, v2, -⟩ := hcb w12 rfl
            rw [hlb] at hlr2 ⊢
            clear HC12 hcb hgr hlb
            generalize r2.length = rb at *
            have hsub : IntKind.i64.wrap (rb : Int) = (rb : Int) := IntWalk.i64_in _ (by omega)
            have hsub2 : ((rb : Int) + 1 == 0) = false := by rw [beq_eq_false_iff_ne]; omega
            have hsub3 : (rb : Int) < (rb : Int) + 1 := by omega
            have hsub4 : (0 : Int) < (rb : Int) + 1 := by omega
            go_wp2_with fail
            go_quiet (fail)
            go_wp2_with fail
            go_ret
            exact ⟨rfl, below_drewN (R11.out.b.trans (B12.out.mono R11.out.b.size)) _⟩
        · have HMV := Lib.hid (fun (W : World) (hb : Below wr.heap.size wr W) => Move_bad W g S k 8 L t tq (HR.out.q.below hb) ht hto)
          have hto2 : tq < 0 ∨ 7 < tq := by omega
          obtain ⟨ti, tf, tc, tp⟩ := t
          generalize L.length = ll at *
          clear hlk hok ht hto
          by_cases h0 : tq < 0
          case' neg =>
            have h0 : 0 ≤ tq := by omega
            have h1 : 7 < tq := by omega
          all_goals
            clear hto2
            go_wp2_with fail
            refine HH.out.mono ?_
            rintro e w4 ⟨rfl, b4⟩
            have B4 := Lib.hid (b4.alloc b4.size (.cells #[.int .i64 ti, .int .i64 tf, .int .i64 tc] 35))
            clear b4
            go_wp2_with fail
            refine (HLN.out _ B4.out).mono ?_
            rintro e w5 ⟨rfl, b5⟩
            have B5 := Lib.hid (B4.out.trans (b5.mono B4.out.size))
            clear b5
            go_wp2_with fail
            refine (HMV.out _ B5.out).mono ?_
            rintro e w6 ⟨rfl, b6⟩
            have B6 := Lib.hid (B5.out.trans (b6.mono B5.out.size))
            clear b6
            go_wp2_with fail
            refine (HLN.out _ B6.out).mono ?_
            rintro e w7 ⟨rfl, b7⟩
            have B7 := Lib.hid (B6.out.trans (b7.mono B6.out.size))
            clear b7
            go_wp2_with fail
            go_ret
            exact ⟨rfl, HR.out.b.trans (B7.out.mono HR.out.b.size)⟩

open Go.ChangeShapes Go.WideShapes Go.ChangeAt in
theorem moves_top {H : Type} {enc : TypeId × Value → H} {base : Nat} {held : Bool} (v : Value) (d : DataW H) (p : List MemPlace) (id tq : Int) (w : World) {r : Reach} {b0 : Nat} (hv : Value.okWide Try.prog w r b0 22 v) (h : DataW.Trod enc Try.prog w base (fun _ => true) held 22 v d p) (w1 : (Lit.int .i64 id).wf = true) (w2 : (Lit.int .i64 tq).wf = true) :
    Calls Try.prog 5 #[v, .int .i64 id, .int .i64 tq] w fun e w' => e = .returned (.bool true) ∧ Below w.heap.size w w' := by
  obtain ⟨a, cap, os, rfl, hm, ho, hk⟩ := open_ops hv h
  by_cases hin : os.length ≤ 60
  · exact moves_in a cap os id tq w hin ho hk w1
  · exact moves_out a os.length cap id tq w hm (by omega)
end Go.Proofs.Ytncfggcbdliepaa
