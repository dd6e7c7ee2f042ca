/- PrioOnce. -/
import Derived.Test.YtncfggcbdliepaaR
namespace Go.Proofs.Ytncfggcbdliepaa
open Go.RowKit
set_option linter.unusedSimpArgs false
set_option linter.unusedVariables false
set_option maxRecDepth 100000

/-- A call's turn. -/
def stepL (m : Nat) (L : List It) (kd pr x f c : Int) : List It :=
  if kd = 0 then putL m L pr x f c else if kd = 1 then cutL L x else if kd = 2 then moveL m L x pr else if kd = 3 then restL L (least L) else L
/-- How often a number stands in a list. -/
def cnt (l : List It) (x : Int) : Nat := (l.filter fun t => t.id == x).length
theorem cnt_snoc (l : List It) (t : It) (x : Int) : cnt (l ++ [t]) x = cnt l x + if t.id = x then 1 else 0 := by
  unfold cnt
  rw [List.filter_append, List.length_append]
  by_cases h : t.id = x <;> simp [h]
theorem cnt_nil (x : Int) : cnt [] x = 0 := rfl
/-- In all rows below k. -/
def lensK (L : List It) (k : Nat) : Nat := ((List.range k).map fun p : Nat => (row L p).length).sum
def cntK (L : List It) (x : Int) (k : Nat) : Nat := ((List.range k).map fun p : Nat => cnt (row L p) x).sum
theorem lensK_succ (L : List It) (k : Nat) : lensK L (k + 1) = lensK L k + (row L (k : Nat)).length := by simp [lensK, List.range_succ]
theorem cntK_succ (L : List It) (x : Int) (k : Nat) : cntK L x (k + 1) = cntK L x k + cnt (row L (k : Nat)) x := by simp [cntK, List.range_succ]
theorem cnt_le (l : List It) (x : Int) : cnt l x ≤ l.length := List.length_filter_le _ _
theorem cnt_row (L : List It) (x : Int) (p : Int) : cnt (row L p) x = (row (L.filter fun t => t.id == x) p).length := by
  unfold cnt row
  rw [List.filter_filter, List.filter_filter]
  congr 2
  funext t
  rw [Bool.and_comm]
theorem cntK_all {m : Nat} {L : List It} (ho : Ok m L) (x : Int) : cntK L x m = cnt L x := by
  unfold cntK
  have : (fun p : Nat => cnt (row L p) x) = fun p : Nat => (row (L.filter fun t => t.id == x) p).length := funext fun p => cnt_row L x p
  rw [this]
  exact lens_all (fun t ht => (ho.b t (List.mem_filter.1 ht).1).2.2.2.2.2.2)
theorem lensK_all {m : Nat} {L : List It} (ho : Ok m L) : lensK L m = L.length := lens_all (fun t ht => (ho.b t ht).2.2.2.2.2.2)
theorem cnt_one {m : Nat} {L : List It} (ho : Ok m L) (x : Int) : cnt L x = if (look L x).isSome then 1 else 0 := by
  cases hl : look L x with
  | none =>
    rw [if_neg (by simp)]
    unfold cnt
    rw [List.filter_eq_nil_iff.2 (fun t ht => by simpa using look_none.1 hl t ht)]
    rfl
  | some t =>
    rw [if_pos (by simp)]
    obtain ⟨ht, rfl⟩ := look_some hl
    unfold cnt
    have hn := ho.nd
    clear hl
    have hsame : ∀ s ∈ L, s.id = t.id → s = t := fun s hs e => eq_of_id ho hs ht e
    clear ho
    induction L with
    | nil => exact absurd ht (List.not_mem_nil)
    | cons a r ih =>
      simp only [List.map_cons, List.nodup_cons, List.mem_map, not_exists, not_and] at hn
      by_cases e : a.id = t.id
      · rw [List.filter_cons, if_pos (by simpa using e), List.filter_eq_nil_iff.2 (fun s hs => by simpa using fun e2 => hn.1 s hs (by rw [e2, e]))]
        rfl
      · rw [List.filter_cons, if_neg (by simpa using e)]
        have ht : t ∈ r := by
          rcases List.mem_cons.1 ht with h | h
          · exact absurd (by rw [h]) e
          · exact h
        exact ih ht hn.2 (fun s hs e => hsame s (by simp [hs]) e)
theorem lensK_le (L : List It) (k : Nat) : lensK L k ≤ k * L.length := by
  induction k with
  | zero => simp [lensK]
  | succ k ih => rw [lensK_succ, Nat.add_mul, Nat.one_mul]; have := row_len L (k : Nat); omega
theorem cntK_le (L : List It) (x : Int) (k : Nat) : cntK L x k ≤ lensK L k := by
  induction k with
  | zero => simp [lensK, cntK]
  | succ k ih => rw [lensK_succ, cntK_succ]; have := cnt_le (row L (k : Nat)) x; omega
theorem row_base {w : World} {base : Nat} {e : TypeId} {s : Nat} {v : Value} {n : Nat} {xs : List Value} (h : w.ownsRow base e s v n xs) : w.ownsRow 0 e s v n xs := by
  refine ⟨h.1, ?_⟩
  rcases h.2 with h0 | ⟨g, cap, cur, h1, _, h2⟩
  · exact .inl h0
  · exact .inr ⟨g, cap, cur, h1, Nat.zero_le _, h2⟩
theorem look_cut_self (L : List It) (x : Int) : look (cutL L x) x = none := by rw [look_cut, if_pos rfl]

/-- The queues and the world, between two calls. -/
structure Run (w W : World) (g : Nat) (S : Nat → Prop) (N m : Nat) (L : List It) : Prop where
  q : Qw W g S N m L
  b : Below w.heap.size w W
  s : ∀ b, S b → w.heap.size ≤ b
theorem Run.below {w W W' : World} {g : Nat} {S : Nat → Prop} {N m : Nat} {L : List It} (h : Run w W g S N m L) (hb : Below W.heap.size W W') : Run w W' g S N m L :=
  ⟨h.q.below hb, h.b.trans (hb.mono h.b.size), h.s⟩
theorem Run.step {w W W' : World} {g : Nat} {S S' : Nat → Prop} {N N' m : Nat} {L L' : List It} (h : Run w W g S N m L) (q : Qw W' g S' N' m L') (st : Stp S W S' W') : Run w W' g S' N' m L' :=
  ⟨q, h.b.trans (st.below h.s h.b.size).1, (st.below h.s h.b.size).2⟩

theorem once_out (m : Int) (a : Option Addr) (n cap : Nat) (w : World) (hn : n ≤ maxLen) (h : m < 1 ∨ 8 < m ∨ 100 < n) :
    Calls Try.prog 7 #[.int .i64 m, .slice a n cap] w fun e w' => e = .returned (.bool true) ∧ Below w.heap.size w w' := by
  unfold maxLen at hn
  by_cases h1 : m < 1
  case' neg =>
    have h1 : 1 ≤ m := by omega
    by_cases h2 : 8 < m
    case' neg =>
      have h2 : m ≤ 8 := by omega
      have h3 : (100 : Int) < (n : Int) := by omega
  all_goals
    clear h
    go_enter Try.func7, Try.ntmps7
    go_wp2_with fail
    refine (alive_any w).mono ?_
    rintro e w1 ⟨rfl, b1⟩
    go_wp2_with fail
    go_ret
    exact ⟨rfl, b1⟩

/-- A call's box. -/
def Bx (W : World) (bx : Nat) (o : OpV) : Prop := W.heap[bx]? = some (.cells #[.int .i64 o.kd, .int .i64 o.pr, .int .i64 o.id, .int .i64 o.fl, .int .i64 o.ct] 30 (0, 0))
theorem Bx.cells {W : World} {bx : Nat} {o : OpV} (h : Bx W bx o) : W.cell? ⟨bx, 0, none⟩ = some (.int .i64 o.kd) ∧ W.cell? ⟨bx, 1, none⟩ = some (.int .i64 o.pr) ∧ W.cell? ⟨bx, 2, none⟩ = some (.int .i64 o.id) ∧ W.cell? ⟨bx, 3, none⟩ = some (.int .i64 o.fl) ∧ W.cell? ⟨bx, 4, none⟩ = some (.int .i64 o.ct) := by
  have hc := cell_of h
  have c0 := (hc 0).1; have c1 := (hc 1).1; have c2 := (hc 2).1; have c3 := (hc 3).1; have c4 := (hc 4).1
  simp at c0 c1 c2 c3 c4
  exact ⟨c0, c1, c2, c3, c4⟩
theorem Bx.below {W W' : World} {bx : Nat} {o : OpV} (h : Bx W bx o) (hb : Below W.heap.size W W') : Bx W' bx o := (hb.block _ (lt_of_block h)).trans h
theorem Bx.stp {W W' : World} {S S' : Nat → Prop} {bx : Nat} {o : OpV} (h : Bx W bx o) (st : Stp S W S' W') (hs : ¬ S bx) : Bx W' bx o := (st.f.block _ (lt_of_block h) hs).trans h

set_option maxHeartbeats 8000000 in
theorem once_in (m : Nat) (a : Option Addr) (cap : Nat) (os : List OpV) (w : World) (h1 : 1 ≤ m) (h8 : m ≤ 8) (hl : os.length ≤ 100) (ho : OpsAt w a os) (hk : ∀ o ∈ os, o.ok) :
    Calls Try.prog 7 #[.int .i64 m, .slice a os.length cap] w fun e w' => e = .returned (.bool true) ∧ Below w.heap.size w w' := by
  have HO := Lib.hid ho; have HK := Lib.hid hk
  clear ho hk
  generalize hlen : os.length = len at *
  have HL := Lib.hid hlen; clear hlen
  go_enter Try.func7, Try.ntmps7
  go_wp2_with fail
  refine (alive_any w).mono ?_
  rintro e w1 ⟨rfl, b1⟩
  have B1 := Lib.hid b1; have z1 := b1.size
  clear b1
  go_wp2_with fail
  refine (New_ok m w1 h1 h8).mono ?_
  rintro e w2 ⟨⟨g, S, rfl, q2, s2⟩, b2⟩
  have R2 : Hid (Run w w2 g S 0 m []) := Lib.hid ⟨q2, B1.out.trans (b2.mono z1), fun b hb => by have := s2 b hb; omega⟩
  clear q2 s2 b2
  go_wp2_with fail
  go_loopw [8] (fun i wr => ∃ (k : Nat) (S : Nat → Prop) (L : List It), k ≤ len ∧ i = .int .i64 k ∧ Hid (Run w wr g S k m L)) (fun i _ => len - (intOf i).toNat)
  case atStart => exact ⟨0, S, [], Nat.zero_le _, rfl, R2⟩
  case round =>
    clear R2
    obtain ⟨k, S, L, hk, rfl, HR⟩ := hrel
    by_cases hlt : k < len
    · obtain ⟨o, b, off, hko, hok, rfl, hb, hc⟩ := HO.out.one HK.out k (by rw [HL.out]; exact hlt)
      obtain ⟨c0, c1, c2, c3, c4⟩ := hc wr HR.out.b
      have hwz := HR.out.b.size
      have BX : Hid (Bx (wr.alloc (.cells #[.int .i64 o.kd, .int .i64 o.pr, .int .i64 o.id, .int .i64 o.fl, .int .i64 o.ct] 30)) wr.heap.size o) := Lib.hid (new_block _ _)
      have RW := Lib.hid (HR.out.below ((Below.refl _ wr).alloc (Nat.le_refl _) (.cells #[.int .i64 o.kd, .int .i64 o.pr, .int .i64 o.id, .int .i64 o.fl, .int .i64 o.ct] 30)))
      have hxs : Hid (¬ S wr.heap.size) := Lib.hid (fun h => by have := HR.out.q.lt h; omega)
      have HOK := Lib.hid hok
      clear hko hok hc
      obtain ⟨kd, pr, id, fl, ct⟩ := o
      simp only at c0 c1 c2 c3 c4 RW BX
      go_upto_block 2 with (fail)
      generalize wr.alloc (.cells #[.int .i64 kd, .int .i64 pr, .int .i64 id, .int .i64 fl, .int .i64 ct] 30) = W0 at *
      generalize hbx : wr.heap.size = bx at *
      have HBX := Lib.hid hbx
      clear hbx
      go_cut [] (fun wx => ∃ (S' : Nat → Prop) (L' : List It), Hid (Run w wx g S' (k + 1) m L') ∧ Hid (Bx wx bx ⟨kd, pr, id, fl, ct⟩) ∧ Hid (kd = 1 → look L' id = none))
      case first =>
        obtain ⟨x0, x1, x2, x3, x4⟩ := BX.out.cells
        simp only at x0 x1 x2 x3 x4
        clear c0 c1 c2 c3 c4
        have HPUT := Lib.hid (Put_any W0 g S k m L pr id fl 0 RW.out.q (by omega) (bd_i64 HOK.out.i).2 (bd_i64 HOK.out.f).2)
        have HCUT := Lib.hid (Cut_any W0 g S k m L id RW.out.q (by omega) HOK.out.i)
        have HMOV := Lib.hid (Move_any W0 g S k m L id pr RW.out.q (by omega) HOK.out.i)
        have HBAT := Lib.hid (Batch_any W0 g S k m L RW.out.q (by omega))
        by_cases h0 : kd = 0
        · subst h0
          go_wp2_with fail
          refine HPUT.out.mono ?_
          rintro e W2 ⟨rfl, S', q', st⟩
          have R' := Lib.hid (RW.out.step q' st); have X' := Lib.hid (BX.out.stp st hxs.out)
          clear q' st
          go_wp2_with fail
          go_meet
          exact ⟨_, _, R', X', Lib.hid (fun h => by omega)⟩
        · have e0 : (kd == 0) = false := by simpa using h0
          by_cases h1 : kd = 1
          · subst h1
            go_wp2_with fail
            refine HCUT.out.mono ?_
            rintro e W2 ⟨rfl, S', q', st⟩
            have R' := Lib.hid (RW.out.step (q'.mono (Nat.le_succ _)) st); have X' := Lib.hid (BX.out.stp st hxs.out)
            clear q' st
            go_wp2_with fail
            go_meet
            exact ⟨_, _, R', X', Lib.hid (fun _ => look_cut_self L id)⟩
          · have e1 : (kd == 1) = false := by simpa using h1
            by_cases h2 : kd = 2
            · subst h2
              go_wp2_with fail
              refine HMOV.out.mono ?_
              rintro e W2 ⟨rfl, S', q', st⟩
              have R' := Lib.hid (RW.out.step q' st); have X' := Lib.hid (BX.out.stp st hxs.out)
              clear q' st
              go_wp2_with fail
              go_meet
              exact ⟨_, _, R', X', Lib.hid (fun h => by omega)⟩
            · have e2 : (kd == 2) = false := by simpa using h2
              by_cases h3 : kd = 3
              · subst h3
                go_wp2_with fail
                refine HBAT.out.mono ?_
                rintro e W2 ⟨v, S', rfl, r', q', st, -⟩
                have R' := Lib.hid (RW.out.step (q'.mono (Nat.le_succ _)) st); have X' := Lib.hid (BX.out.stp st hxs.out)
                clear q' st r'
                go_wp2_with fail
                go_meet
                exact ⟨_, _, R', X', Lib.hid (fun h => by omega)⟩
              · have e3 : (kd == 3) = false := by simpa using h3
                have R' := Lib.hid (show Run w W0 g S (k + 1) m L from ⟨RW.out.q.mono (Nat.le_succ _), RW.out.b, RW.out.s⟩)
                go_wp2_with fail
                go_meet
                exact ⟨_, _, R', BX, Lib.hid (fun h => by omega)⟩
      case rest =>
        obtain ⟨S', L', HR', HX', HN⟩ := hcut
        clear RW BX hxs c0 c1 c2 c3 c4 hb
        go_wp2_with fail
        have hlk := lensK_le L'
        have hln' := HR'.out.q.ln
        have HLK := Lib.hid hlk
        have HLN := Lib.hid hln'
        clear hlk hln'
        have wf_id := HOK.out.i
        have HWI := Lib.hid wf_id
        clear wf_id
        go_loopw [10, 11, 12] (fun n c p wq => ∃ j : Nat, j ≤ m ∧ p = .int .i64 j ∧ n = .int .i64 (lensK L' j) ∧ c = .int .i64 (cntK L' id j) ∧ Hid (Run w wq g S' (k + 1) m L') ∧ Hid (Bx wq bx ⟨kd, pr, id, fl, ct⟩)) (fun _ _ p _ => m - (intOf p).toNat)
        case atStart => exact ⟨0, Nat.zero_le _, rfl, rfl, rfl, HR', HX'⟩
        case round =>
          clear HR' HX'
          obtain ⟨wq, rfl⟩ : ∃ wq : World, wq = wr := ⟨_, rfl⟩
          obtain ⟨j, hj, rfl, rfl, rfl, HR, HX⟩ := hrel
          by_cases hjm : j < m
          · have hb1 := HLK.out j
            have hb2 : j * L'.length ≤ 8 * 101 := Nat.mul_le_mul (by omega) (by have := HLN.out; omega)
            have hb3 := cntK_le L' id j
            have hb4 : (row L' (j : Nat)).length ≤ 101 := by have := row_len L' (j : Nat); have := HLN.out; omega
            have hb5 := cnt_le (row L' (j : Nat)) id
            have hs1 := Lib.hid (lensK_succ L' j)
            have hs2 := Lib.hid (cntK_succ L' id j)
            have HLI := Lib.hid (List_any wq g S' (k + 1) m L' (j : Nat) HR.out.q (by omega))
            generalize lensK L' j = A at *
            generalize cntK L' id j = C at *
            go_wp2_with fail
            refine HLI.out.mono ?_
            rintro e w3 ⟨⟨v, rfl, r3⟩, b3⟩
            have HR3 := Lib.hid (HR.out.below b3)
            have HX3 := Lib.hid (HX.out.below b3)
            obtain ⟨A3, c3, rfl, -, -, hc3⟩ := row_cells (row_base r3)
            have HC3 := Lib.hid hc3
            clear b3 r3 hc3 HR HX HLI
            generalize hrl : (row L' (j : Nat)).length = rl at *
            have HRL := Lib.hid hrl
            clear hrl
            go_wp2_with fail
            go_loopw [11, 14] (fun c i wz => ∃ kk : Nat, kk ≤ rl ∧ i = .int .i64 kk ∧ c = .int .i64 (C + cnt ((row L' (j : Nat)).take kk) id : Nat) ∧ Below w3.heap.size w3 wz) (fun _ i _ => rl - (intOf i).toNat)
            case atStart => exact ⟨0, Nat.zero_le _, rfl, rfl, Below.refl _ _⟩
            case round =>
              obtain ⟨kk, hkk, rfl, rfl, hbz⟩ := hrel
              have HBZ := Lib.hid hbz
              clear hbz
              by_cases hkr : kk < rl
              · have hk2 : kk < (row L' (j : Nat)).length := by rw [HRL.out]; exact hkr
                obtain ⟨bb, hA3, hbb, -, hcc⟩ := HC3.out kk _ (List.getElem?_eq_getElem hk2)
                have hst := cnt_snoc ((row L' (j : Nat)).take kk) (row L' (j : Nat))[kk] id
                rw [← List.take_succ_eq_append_getElem hk2] at hst
                have hct : cnt ((row L' (j : Nat)).take kk) id ≤ kk := Nat.le_trans (cnt_le _ _) (List.length_take_le _ _)
                have HST := Lib.hid hst
                clear hst
                generalize (row L' (j : Nat))[kk] = t at *
                obtain ⟨x0, x1, x2, -⟩ := hcc _ (HBZ.out.block bb hbb)
                obtain ⟨y0, y1, y2, y3, y4⟩ := (HX3.out.below HBZ.out).cells
                simp only at y0 y1 y2 y3 y4
                subst hA3
                clear hcc
                generalize cnt ((row L' (j : Nat)).take kk) id = cc at *
                by_cases he : t.id = id
                · have e1 : (t.id == id) = true := by simpa using he
                  rw [if_pos he] at HST
                  clear he
                  go_wp2_with fail
                  go_quiet (fail)
                  go_wp2_with fail
                  go_roundw
                  case rel => exact ⟨kk + 1, by omega, by go_num, by rw [HST.out]; go_num, below_drewN HBZ.out _⟩
                  case measure => simp [intOf]; omega
                · have e1 : (t.id == id) = false := by simpa using he
                  rw [if_neg he] at HST
                  clear he
                  go_wp2_with fail
                  go_quiet (fail)
                  go_wp2_with fail
                  go_roundw
                  case rel => exact ⟨kk + 1, by omega, by go_num, by rw [HST.out]; go_num, below_drewN HBZ.out _⟩
                  case measure => simp [intOf]; omega
              · obtain rfl : kk = rl := by omega
                have htk : (row L' (j : Nat)).take kk = row L' (j : Nat) := List.take_of_length_le (by rw [HRL.out]; exact Nat.le_refl _)
                rw [htk]
                clear htk
                go_wp2_with fail
                go_roundw
                case rel => exact ⟨j + 1, by omega, by go_num, by rw [hs1.out]; go_num, by rw [hs2.out], Lib.hid (HR3.out.below HBZ.out), Lib.hid (HX3.out.below HBZ.out)⟩
                case measure => simp [intOf]; omega
          · obtain rfl : j = m := by omega
            have hq := HR.out.q.ok
            rw [lensK_all hq, cntK_all hq, cnt_one hq id]
            have HHA := Lib.hid (Has_any wq g S' (k + 1) j L' id HR.out.q HWI.out)
            have HLE := Lib.hid (fun (W : World) (hb : Below wq.heap.size wq W) => Len_any W g S' (k + 1) j L' (HR.out.q.below hb) (by omega))
            obtain ⟨y0, -, y2, -⟩ := HX.out.cells
            simp only at y0 y2
            have HN2 := HN.out
            generalize itOf L' id = it at *
            obtain ⟨ti, tf, tc, tp⟩ := it
            simp only at HHA
            generalize L'.length = ll at *
            clear hq HOK HLK HN
            cases hls : (look L' id).isSome with
            | true =>
              have hkd : kd ≠ 1 := fun h => by rw [HN2 h] at hls; cases hls
              have hk1 : (kd == 1) = false := by simpa using hkd
              rw [hls] at HHA
              clear HN2 hls hkd
              rw [if_pos rfl]
              go_wp2_with fail
              refine HHA.out.mono ?_
              rintro e w4 ⟨rfl, b4⟩
              have hz4 := b4.size
              have z0 := (HX.out.below b4).cells.1
              simp only at z0
              have hbl := lt_of_block (HX.out.below b4)
              have B4 := Lib.hid b4
              clear b4
              go_wp2_with fail
              refine (HLE.out _ (B4.out.alloc hz4 _)).mono ?_
              rintro e w5 ⟨rfl, b5⟩
              have B5 := Lib.hid (B4.out.trans (((Below.refl _ w4).alloc (Nat.le_refl _) (.cells #[.int .i64 ti, .int .i64 tf, .int .i64 tc] 35)).trans (b5.mono (by simp)) |>.mono hz4))
              have v0 := (HX.out.below B5.out).cells.1
              simp only at v0
              clear b5
              go_wp2_with fail
              go_roundw
              case rel => exact ⟨k + 1, S', L', by omega, by go_num, Lib.hid (HR.out.below B5.out)⟩
              case measure => simp [intOf]; omega
            | false =>
              rw [hls] at HHA
              clear HN2 hls
              rw [if_neg (by simp)]
              go_wp2_with fail
              refine HHA.out.mono ?_
              rintro e w4 ⟨rfl, b4⟩
              have hz4 := b4.size
              have B4 := Lib.hid b4
              clear b4
              go_wp2_with fail
              refine (HLE.out _ (B4.out.alloc hz4 _)).mono ?_
              rintro e w5 ⟨rfl, b5⟩
              have B5 := Lib.hid (B4.out.trans (((Below.refl _ w4).alloc (Nat.le_refl _) (.cells #[.int .i64 ti, .int .i64 tf, .int .i64 tc] 35)).trans (b5.mono (by simp)) |>.mono hz4))
              have v0 := (HX.out.below B5.out).cells.1
              simp only at v0
              clear b5
              go_wp2_with fail
              all_goals
                go_roundw
                case rel => exact ⟨k + 1, S', L', by omega, by go_num, Lib.hid (HR.out.below B5.out)⟩
                case measure => simp [intOf]; omega
    · obtain rfl : k = len := by omega
      go_wp2_with fail
      go_ret
      exact ⟨rfl, HR.out.b⟩

theorem once_top {H : Type} {enc : TypeId × Value → H} {base : Nat} {held : Bool} (c : Int) (v : Value) (d : DataW H) (p : List MemPlace) (w : World) (w0 : (Lit.int .i64 c).wf = true) {r : Reach} {b0 : Nat} (hv : Value.okWide Try.prog w r b0 22 v) (h : DataW.Trod enc Try.prog w base (fun _ => true) held 22 v d p) :
    Calls Try.prog 7 #[.int .i64 c, v] w fun e w' => e = .returned (.bool true) ∧ Below w.heap.size w w' := by
  obtain ⟨a, cap, os, rfl, hm, ho, hk⟩ := open_ops hv h
  by_cases hin : (1 ≤ c ∧ c ≤ 8) ∧ os.length ≤ 100
  · obtain ⟨C, rfl⟩ := Int.eq_ofNat_of_zero_le (show 0 ≤ c by omega)
    exact once_in C a cap os w (by omega) (by omega) hin.2 ho hk
  · exact once_out c a os.length cap w hm (by omega)
end Go.Proofs.Ytncfggcbdliepaa
