/- The reference's map: what it is; May, find, Of, Wants, Check. -/
import Derived.Test.YtllolfbjmpaamaaCu
namespace Go.Proofs.Ytllolfbjmpaamaa
open Go.RowKit
set_option linter.unusedSimpArgs false
set_option linter.unusedVariables false
set_option maxRecDepth 100000

theorem info83 : (Try.prog.info? 83).map (fun i => (i.zero, i.size, i.bytes)) = some (some (.agg #[.int .i64 0, .int .i64 0, .int .i64 0]), 3, 24) := by kernel_rfl
/-- An event's cells. -/
def enc3 (t : It) : List Value := [.int .i64 t.id, .int .i64 t.nu, .int .i64 t.wn]
def flat3 (l : List It) : List Value := l.flatMap enc3
theorem flat3_len (l : List It) : (flat3 l).length = l.length * 3 := by
  induction l with
  | nil => rfl
  | cons a r ih => simp only [flat3, List.flatMap_cons, List.length_append, List.length_cons] at ih ⊢; rw [ih]; simp [enc3]; omega
theorem flat3_append (l m : List It) : flat3 (l ++ m) = flat3 l ++ flat3 m := List.flatMap_append ..
theorem flat3_one (l : List It) : ∀ u ∈ flat3 l, u.oneCell' = true := by
  intro u hu
  simp only [flat3, List.mem_flatMap] at hu
  obtain ⟨t, _, ht⟩ := hu
  simp [enc3] at ht
  rcases ht with rfl | rfl | rfl <;> rfl
theorem flat3_get (l : List It) (k j : Nat) (hj : j < 3) (t : It) (h : l[k]? = some t) : (flat3 l)[k * 3 + j]? = (enc3 t)[j]? := by
  induction l generalizing k with
  | nil => simp at h
  | cons a r ih =>
    have e : flat3 (a :: r) = enc3 a ++ flat3 r := rfl
    rw [e]
    cases k with
    | zero =>
      simp at h; subst h
      rw [Nat.zero_mul, Nat.zero_add, List.getElem?_append_left (by simp [enc3]; omega)]
    | succ k =>
      rw [List.getElem?_append_right (by simp [enc3]; omega)]
      have : (k + 1) * 3 + j - (enc3 a).length = k * 3 + j := by simp [enc3]; omega
      rw [this]
      exact ih k (by simpa using h)
/-- The cells of an event of a row. -/
def Cel3 (W : World) (b k : Nat) (t : It) : Prop :=
  W.cell? ⟨b, k * 3, none⟩ = some (.int .i64 t.id) ∧ W.cell? ⟨b, k * 3 + 1, none⟩ = some (.int .i64 t.nu) ∧ W.cell? ⟨b, k * 3 + 2, none⟩ = some (.int .i64 t.wn)
theorem row3_cells {w : World} {base : Nat} {v : Value} {l : List It} (h : w.ownsRow base 83 3 v l.length (flat3 l)) : ∃ (A : Option Addr) (c : Nat), v = .slice A l.length c ∧ l.length ≤ c ∧ c ≤ maxLen ∧ ∀ (k : Nat) (t : It), l[k]? = some t → ∃ b, A = some ⟨b, 0, none⟩ ∧ b < w.heap.size ∧ v.ownBlock = some b ∧
    (∀ W : World, W.heap[b]? = w.heap[b]? → Cel3 W b k t) := by
  rcases h.2 with ⟨rfl, hn⟩ | ⟨g, cap, cur, rfl, hb, hh, hc, hm, hs, ht⟩
  · refine ⟨none, 0, by rw [hn], by omega, Nat.zero_le _, fun k t hk => ?_⟩
    rw [List.eq_nil_of_length_eq_zero hn] at hk
    simp at hk
  · refine ⟨_, cap, rfl, hc, hm, fun k t hk => ⟨g, rfl, lt_of_block hh, rfl, fun W hW => ?_⟩⟩
    rw [hh] at hW
    have hkl : k < l.length := (List.getElem?_eq_some_iff.1 hk).1
    have key : ∀ j, j < 3 → cur[k * 3 + j]? = (enc3 t)[j]? := fun j hj => by
      rw [← flat3_get l k j hj t hk, ← ht, List.getElem?_take_of_lt (by omega)]
      simp
    have k0 := key 0 (by omega)
    have k1 := key 1 (by omega)
    have k2 := key 2 (by omega)
    simp [enc3] at k0 k1 k2
    simp [Cel3, World.cell?, hW, k0, k1, k2]

/-- The reference's map in block r, the list in v. -/
structure Rf (w : World) (r : Nat) (v : Value) (N : Nat) (L : List It) : Prop where
  q : w.heap[r]? = some (.cells #[v] 49 (0, 0))
  o : w.ownsRow 0 83 3 v L.length (flat3 L)
  x : ∀ b, v.ownBlock = some b → b ≠ r
  ok : Ok L
  ln : L.length ≤ N
def RFoot (r : Nat) (v : Value) (b : Nat) : Prop := b = r ∨ v.ownBlock = some b
theorem Rf.foot_lt {w : World} {r : Nat} {v : Value} {N : Nat} {L : List It} (h : Rf w r v N L) {b : Nat} (hb : RFoot r v b) : b < w.heap.size := by
  rcases hb with rfl | e
  · exact lt_of_block h.q
  · exact (h.o.lt b e).2
theorem Rf.keep {w w' : World} {r : Nat} {v : Value} {N : Nat} {L : List It} (h : Rf w r v N L) (hk : ∀ b, RFoot r v b → w'.heap[b]? = w.heap[b]?) : Rf w' r v N L :=
  ⟨(hk r (.inl rfl)).trans h.q, row_same h.o (fun b e => hk b (.inr e)), h.x, h.ok, h.ln⟩
theorem Rf.below {w w' : World} {r : Nat} {v : Value} {N : Nat} {L : List It} (h : Rf w r v N L) (hb : Below w.heap.size w w') : Rf w' r v N L := h.keep (fun b hS => hb.block b (h.foot_lt hS))
theorem Rf.cells {w : World} {r : Nat} {v : Value} {N : Nat} {L : List It} (h : Rf w r v N L) : w.cell? ⟨r, 0, none⟩ = some v ∧ w.frozen? ⟨r, 0, none⟩ = false := by
  have c0 := (cell_of h.q 0).1
  simp at c0
  exact ⟨c0, (cell_of h.q 0).2⟩
theorem Rf.mono {w : World} {r : Nat} {v : Value} {N N' : Nat} {L : List It} (h : Rf w r v N L) (hN : N ≤ N') : Rf w r v N' L := ⟨h.q, h.o, h.x, h.ok, Nat.le_trans h.ln hN⟩
theorem Rf.at {w : World} {r : Nat} {v : Value} {N : Nat} {L : List It} (h : Rf w r v N L) : ∃ (A : Option Addr) (c : Nat), v = .slice A L.length c ∧ L.length ≤ c ∧ c ≤ maxLen ∧ (∀ W : World, Below w.heap.size w W → W.cell? ⟨r, 0, none⟩ = some v) ∧
    ∀ (k : Nat), k < L.length → ∃ (t : It) (b : Nat), L[k]? = some t ∧ A = some ⟨b, 0, none⟩ ∧ ∀ W : World, Below w.heap.size w W → Cel3 W b k t := by
  obtain ⟨A, c, e, h1, h2, h3⟩ := row3_cells h.o
  refine ⟨A, c, e, h1, h2, fun W hW => ((h.below hW).cells).1, fun k hk => ?_⟩
  obtain ⟨b, hA, hb, _, hW⟩ := h3 k _ (List.getElem?_eq_getElem hk)
  exact ⟨_, b, List.getElem?_eq_getElem hk, hA, fun W hB => hW W (hB.block b hb)⟩

/-! ### May -/
theorem rhas_bit (x f : Int) (w : World) : Calls Try.prog 48 #[.int .i64 x, .int .i64 f] w fun e w' => e = .returned (.bool (bits .and .i64 x f != 0)) ∧ w = w' := by
  go_enter Try.func48, Try.ntmps48
  go_wp2_with fail
  go_ret
  exact ⟨rfl, rfl⟩
def mayR (x : Int) : Bool := decide (0 ≤ x ∧ x ≤ 38) && !(bits .and .i64 x 1 != 0) && !(bits .and .i64 x 8 != 0) && !(bits .and .i64 x 16 != 0) && ((x == 0) || (bits .and .i64 x 2 != 0) || (bits .and .i64 x 4 != 0))
theorem mayR_eq (x : Int) : mayR x = decide (x = 0 ∨ MayW x) := by
  by_cases h : 0 ≤ x ∧ x ≤ 38
  · obtain ⟨n, rfl⟩ := Int.eq_ofNat_of_zero_le h.1
    have key : ∀ n : Fin 39, mayR (n.val : Int) = decide ((n.val : Int) = 0 ∨ MayW (n.val : Int)) := by decide +kernel
    exact key ⟨n, by omega⟩
  · have h1 : mayR x = false := by unfold mayR; simp [h]
    rw [h1, eq_comm, decide_eq_false_iff_not]
    unfold MayW
    omega
set_option maxHeartbeats 1000000 in
theorem rmay_any (x : Int) (w : World) : Calls Try.prog 46 #[.int .i64 x] w fun e w' => e = .returned (.bool (decide (x = 0 ∨ MayW x))) ∧ Below w.heap.size w w' := by
  rw [← mayR_eq]
  have HB := Lib.hid (fun f W => rhas_bit x f W)
  by_cases h : 0 ≤ x ∧ x ≤ 38
  · have hd : mayR x = (!(bits .and .i64 x 1 != 0) && !(bits .and .i64 x 8 != 0) && !(bits .and .i64 x 16 != 0) && ((x == 0) || (bits .and .i64 x 2 != 0) || (bits .and .i64 x 4 != 0))) := by unfold mayR; simp [h]
    rw [hd]
    obtain ⟨h1, h2⟩ := h
    have H1 := Lib.hid (HB.out 1); have H8 := Lib.hid (HB.out 8); have H16 := Lib.hid (HB.out 16); have H2 := Lib.hid (HB.out 2); have H4 := Lib.hid (HB.out 4)
    clear HB hd
    generalize (bits .and .i64 x 1 != 0) = b1 at *
    generalize (bits .and .i64 x 8 != 0) = b8 at *
    generalize (bits .and .i64 x 16 != 0) = b16 at *
    generalize (bits .and .i64 x 2 != 0) = b2 at *
    generalize (bits .and .i64 x 4 != 0) = b4 at *
    have hB0 : Hid (Below w.heap.size w (w.alloc (.cells #[.int .i64 1, .int .i64 8, .int .i64 16] 3))) := Lib.hid ((Below.refl _ w).alloc (Nat.le_refl _) _)
    have k0 : (w.alloc (.cells #[.int .i64 1, .int .i64 8, .int .i64 16] 3)).cell? ⟨w.heap.size, 0, none⟩ = some (.int .i64 1) := (cell_of (new_block w (.cells #[.int .i64 1, .int .i64 8, .int .i64 16] 3)) 0).1
    have k1 : (w.alloc (.cells #[.int .i64 1, .int .i64 8, .int .i64 16] 3)).cell? ⟨w.heap.size, 1, none⟩ = some (.int .i64 8) := (cell_of (new_block w (.cells #[.int .i64 1, .int .i64 8, .int .i64 16] 3)) 1).1
    have k2 : (w.alloc (.cells #[.int .i64 1, .int .i64 8, .int .i64 16] 3)).cell? ⟨w.heap.size, 2, none⟩ = some (.int .i64 16) := (cell_of (new_block w (.cells #[.int .i64 1, .int .i64 8, .int .i64 16] 3)) 2).1
    go_enter Try.func46, Try.ntmps46
    go_wp2_with fail
    generalize w.alloc (.cells #[.int .i64 1, .int .i64 8, .int .i64 16] 3) = w0 at *
    go_loopw [16] (fun i wr => ∃ k : Nat, k ≤ 3 ∧ i = .int .i64 k ∧ w0 = wr ∧ (1 ≤ k → b1 = false) ∧ (2 ≤ k → b8 = false) ∧ (3 ≤ k → b16 = false)) (fun i _ => 3 - (intOf i).toNat)
    case atStart => exact ⟨0, by omega, rfl, rfl, fun h => by omega, fun h => by omega, fun h => by omega⟩
    case round =>
      obtain ⟨k, hk, rfl, rfl, e1, e8, e16⟩ := hrel
      have hkk : k = 0 ∨ k = 1 ∨ k = 2 ∨ k = 3 := by omega
      rcases hkk with rfl | rfl | rfl | rfl
      · clear e1 e8 e16
        go_wp2_with fail
        refine (H1.out _).mono ?_
        rintro e w1 ⟨rfl, rfl⟩
        cases b1
        · go_wp2_with fail
          go_roundw
          case rel => exact ⟨1, by omega, rfl, by first | rfl | trivial, by first | trivial | exact (fun _ => rfl), fun h => by omega, fun h => by omega⟩
          case measure => simp [intOf]
        · go_wp2_with fail
          go_ret
          exact ⟨rfl, hB0.out⟩
      · obtain rfl := e1 (by omega)
        clear e1 e8 e16
        go_wp2_with fail
        refine (H8.out _).mono ?_
        rintro e w1 ⟨rfl, rfl⟩
        cases b8
        · go_wp2_with fail
          go_roundw
          case rel => exact ⟨2, by omega, rfl, by first | rfl | trivial, by first | trivial | exact (fun _ => rfl), by first | trivial | exact (fun _ => rfl), fun h => by omega⟩
          case measure => simp [intOf]
        · go_wp2_with fail
          go_ret
          exact ⟨rfl, hB0.out⟩
      · obtain rfl := e1 (by omega)
        obtain rfl := e8 (by omega)
        clear e1 e8 e16
        go_wp2_with fail
        refine (H16.out _).mono ?_
        rintro e w1 ⟨rfl, rfl⟩
        cases b16
        · go_wp2_with fail
          go_roundw
          case rel => exact ⟨3, by omega, rfl, by first | rfl | trivial, by first | trivial | exact (fun _ => rfl), by first | trivial | exact (fun _ => rfl), by first | trivial | exact (fun _ => rfl)⟩
          case measure => simp [intOf]
        · go_wp2_with fail
          go_ret
          exact ⟨rfl, hB0.out⟩
      · obtain rfl := e1 (by omega)
        obtain rfl := e8 (by omega)
        obtain rfl := e16 (by omega)
        clear e1 e8 e16
        go_wp2_with fail
        refine (H2.out _).mono ?_
        rintro e w1 ⟨rfl, rfl⟩
        go_wp2_with fail
        refine (H4.out _).mono ?_
        rintro e w1 ⟨rfl, rfl⟩
        cases hx : (x == 0) <;> cases b2 <;> cases b4
        all_goals
          go_wp2_with fail
          go_ret
          exact ⟨by first | rfl | (simp; done) | simpa using hx, hB0.out⟩
  · have hd : mayR x = false := by unfold mayR; simp [h]
    rw [hd]
    clear HB hd
    by_cases h1 : x < 0
    case' neg => have h2 : 38 < x := by omega
    all_goals
      clear h
      go_enter Try.func46, Try.ntmps46
      go_wp2_with fail
      go_ret
      exact ⟨rfl, Below.refl _ _⟩

/-! ### find -/
theorem plc_of_look {L : List It} {x : Int} {t : It} (h : look L x = some t) : plc L x < L.length ∧ L[plc L x]? = some t := by
  have hl : plc L x < L.length := by
    obtain ⟨h1, rfl⟩ := look_some h
    exact plc_lt h1
  refine ⟨hl, ?_⟩
  unfold look at h
  rw [List.find?_eq_some_iff_getElem] at h
  obtain ⟨hx, i, hi, e, hlt⟩ := h
  have e2 : plc L x = i := by
    unfold plc
    rw [List.findIdx_eq hi]
    refine ⟨by rw [e]; exact hx, fun j hj => by simpa using hlt j hj⟩
  rw [e2, List.getElem?_eq_getElem hi, e]
set_option maxHeartbeats 1000000 in
theorem find_yes (w : World) (r : Nat) (v : Value) (N : Nat) (L : List It) (x : Int) (t : It) (h : Rf w r v N L) (hN : N ≤ 10000) (hl : look L x = some t) :
    Calls Try.prog 39 #[.pointer (some ⟨r, 0, none⟩), .int .i64 x] w fun e w' => e = .returned (.int .i64 (plc L x)) ∧ w = w' := by
  obtain ⟨A, c, rfl, hlc, hcm, hq, hcell⟩ := h.at
  have q1 := hq w (Below.refl _ _)
  have hp := (plc_of_look hl).1
  have hln := h.ln
  have HC : Hid (∀ k, k ≤ plc L x → ∃ (t : It) (b : Nat), A = some ⟨b, 0, none⟩ ∧ (t.id = x ↔ k = plc L x) ∧ w.cell? ⟨b, k * 3, none⟩ = some (.int .i64 t.id)) := Lib.hid (fun k hk => by
    obtain ⟨t, ht, hiff⟩ := plc_lt' hp hk
    obtain ⟨t', b, ht', hA, hW⟩ := hcell k (by omega)
    rw [ht] at ht'
    cases ht'
    exact ⟨t, b, hA, hiff, (hW w (Below.refl _ _)).1⟩)
  clear hcell h hl hq
  unfold maxLen at hcm
  generalize plc L x = n at *
  generalize L.length = ln at *
  go_enter Try.func39, Try.ntmps39
  go_wp2_with fail
  go_loopw [5] (fun i wr => ∃ k : Nat, k ≤ n ∧ i = .int .i64 k ∧ w = wr) (fun i _ => n - (intOf i).toNat)
  case atStart => exact ⟨0, Nat.zero_le _, rfl, rfl⟩
  case round =>
    obtain ⟨k, hk, rfl, rfl⟩ := hrel
    obtain ⟨t, b, rfl, hiff, c0⟩ := HC.out k hk
    generalize t.id = ti at *
    have hkl : k < ln := by omega
    by_cases he : k = n
    · have e1 : (ti == x) = true := by simp [hiff.2 he]
      clear hiff
      subst he
      go_wp2_with fail
      go_ret
      exact ⟨rfl, rfl⟩
    · have e1 : (ti == x) = false := by
        rw [Bool.eq_false_iff]; intro h; exact he (hiff.1 (eq_of_beq h))
      clear hiff
      go_wp2_with fail
      go_roundw
      case rel => exact ⟨k + 1, by omega, by go_num, by first | rfl | trivial⟩
      case measure => simp [intOf]; omega
set_option maxHeartbeats 1000000 in
theorem find_no (w : World) (r : Nat) (v : Value) (N : Nat) (L : List It) (x : Int) (h : Rf w r v N L) (hN : N ≤ 10000) (hl : look L x = none) :
    Calls Try.prog 39 #[.pointer (some ⟨r, 0, none⟩), .int .i64 x] w fun e w' => e = .returned (.int .i64 (-1)) ∧ w = w' := by
  obtain ⟨A, c, rfl, hlc, hcm, hq, hcell⟩ := h.at
  have q1 := hq w (Below.refl _ _)
  have hln := h.ln
  have HC : Hid (∀ k, k < L.length → ∃ (t : It) (b : Nat), A = some ⟨b, 0, none⟩ ∧ t.id ≠ x ∧ w.cell? ⟨b, k * 3, none⟩ = some (.int .i64 t.id)) := Lib.hid (fun k hk => by
    obtain ⟨t, b, ht, hA, hW⟩ := hcell k hk
    exact ⟨t, b, hA, look_none.1 hl _ (List.mem_of_getElem? ht), (hW w (Below.refl _ _)).1⟩)
  clear hcell h hl hq
  unfold maxLen at hcm
  generalize L.length = ln at *
  go_enter Try.func39, Try.ntmps39
  go_wp2_with fail
  go_loopw [5] (fun i wr => ∃ k : Nat, k ≤ ln ∧ i = .int .i64 k ∧ w = wr) (fun i _ => ln - (intOf i).toNat)
  case atStart => exact ⟨0, Nat.zero_le _, rfl, rfl⟩
  case round =>
    obtain ⟨k, hk, rfl, rfl⟩ := hrel
    by_cases hkl : k < ln
    · obtain ⟨t, b, rfl, hne, c0⟩ := HC.out k hkl
      generalize t.id = ti at *
      have e1 : (ti == x) = false := by simpa using hne
      go_wp2_with fail
      go_roundw
      case rel => exact ⟨k + 1, by omega, by go_num, by first | rfl | trivial⟩
      case measure => simp [intOf]; omega
    · obtain rfl : k = ln := by omega
      go_wp2_with fail
      go_ret
      exact ⟨rfl, rfl⟩

/-! ### Of -/
/-- The reference's row. -/
def rof (L : List It) (at_ : Int) (sg : Bool) : List It := L.filter fun t => t.nu == at_ && ((t.wn == 0) == sg)
theorem rof_append (L M : List It) (a : Int) (sg : Bool) : rof (L ++ M) a sg = rof L a sg ++ rof M a sg := List.filter_append ..
theorem rof_one (t : It) (a : Int) (sg : Bool) : rof [t] a sg = if t.nu = a ∧ (t.wn == 0) = sg then [t] else [] := by
  unfold rof
  by_cases h1 : t.nu = a <;> by_cases h2 : (t.wn == 0) = sg <;> simp [h1, h2]
theorem rof_len (L : List It) (a : Int) (sg : Bool) : (rof L a sg).length ≤ L.length := List.length_filter_le _ _
theorem rof_of {L : List It} (ho : Ok L) (fd : Int) : rof L fd false = ofL L fd := by
  unfold ofL rof
  split
  · rename_i h
    unfold row
    refine List.filter_congr fun t ht => ?_
    rcases (ho.b t ht).b with ⟨h1, h2, h3, h4⟩ | ⟨h1, h2, h3, h4⟩
    · have : ¬ t.pr = fd := by omega
      simp [h1, this]
    · have h5 : t.wn ≠ 0 := by unfold MayW at h1; omega
      simp [h5, h4]
  · rename_i h
    rw [List.filter_eq_nil_iff]
    intro t ht
    rcases (ho.b t ht).b with ⟨h1, h2, h3, h4⟩ | ⟨h1, h2, h3, h4⟩
    · simp [h1]
    · have : ¬ t.nu = fd := by omega
      simp [this]
theorem rof_sig {L : List It} (ho : Ok L) (s : Int) : rof L s true = sigL L s := by
  unfold sigL rof
  split
  · rename_i h
    unfold row
    refine List.filter_congr fun t ht => ?_
    rcases (ho.b t ht).b with ⟨h1, h2, h3, h4⟩ | ⟨h1, h2, h3, h4⟩
    · have h5 : (t.nu = s ↔ t.pr = s + 96) := by omega
      by_cases h6 : t.nu = s
      · simp [h1, h6, h5.1 h6]
      · have e1 : (t.pr == s + 96) = false := by simpa using fun e => h6 (h5.2 e)
        have e2 : (t.nu == s) = false := by simpa using h6
        rw [e1, e2]; rfl
    · have h5 : t.wn ≠ 0 := by unfold MayW at h1; omega
      have e1 : (t.pr == s + 96) = false := by rw [beq_eq_false_iff_ne]; omega
      have e2 : (t.wn == 0) = false := by simpa using h5
      rw [e1, e2]; simp
  · rename_i h
    rw [List.filter_eq_nil_iff]
    intro t ht
    rcases (ho.b t ht).b with ⟨h1, h2, h3, h4⟩ | ⟨h1, h2, h3, h4⟩
    · have : ¬ t.nu = s := by omega
      simp [this]
    · have h5 : t.wn ≠ 0 := by unfold MayW at h1; omega
      simp [h5]

set_option maxHeartbeats 2000000 in
theorem rof_any (w : World) (r : Nat) (v : Value) (N : Nat) (L : List It) (fd : Int) (sg : Bool) (h : Rf w r v N L) (hN : N ≤ 10000) :
    Calls Try.prog 40 #[.pointer (some ⟨r, 0, none⟩), .int .i64 fd, .bool sg] w fun e w' => (∃ v', e = .returned v' ∧ w'.ownsRow w.heap.size 3 1 v' (rof L fd sg).length (flat (rof L fd sg))) ∧ Below w.heap.size w w' := by
  obtain ⟨i3, hi0, hz0, hz1, hz2⟩ := info_parts info3
  have I3 := Lib.hid hi0; have Z3 := Lib.hid hz0; have S3 := Lib.hid hz1; have Y3 := Lib.hid hz2
  clear hi0 hz0 hz1 hz2
  obtain ⟨A, c, rfl, hlc, hcm, hq, hcell⟩ := h.at
  have hln := h.ln
  have HC := Lib.hid hcell; have HQ := Lib.hid hq
  have HT : Hid (L.take L.length = L) := Lib.hid (List.take_length ..)
  have HRL : Hid (∀ k, (rof (L.take k) fd sg).length ≤ 10000) := Lib.hid (fun k => Nat.le_trans (rof_len _ _ _) (by rw [List.length_take]; omega))
  clear hcell h hq
  unfold maxLen at hcm
  generalize hll : L.length = ln at *
  clear hll
  go_enter Try.func40, Try.ntmps40
  go_wp2_with fail
  go_loopw [7, 8] (fun o i wr => ∃ k : Nat, k ≤ ln ∧ i = .int .i64 k ∧ wr.ownsRow w.heap.size 3 1 o (rof (L.take k) fd sg).length (flat (rof (L.take k) fd sg)) ∧ Below w.heap.size w wr) (fun _ i _ => ln - (intOf i).toNat)
  case atStart => exact ⟨0, Nat.zero_le _, rfl, World.ownsRow_nil _ _ _ _, Below.refl _ _⟩
  case round =>
    obtain ⟨k, hk, rfl, hown, hb⟩ := hrel
    have hsz := hb.size
    have q1 := HQ.out _ hb
    by_cases hkl : k < ln
    · obtain ⟨t, b, ht, rfl, hW⟩ := HC.out k hkl
      obtain ⟨c0, c1, c2⟩ := hW wr hb
      have hst := take_step ht
      have hrl := HRL.out k
      obtain ⟨A', c', rfl, hc'⟩ := row_form hown
      have HF := Lib.hid (show flat [t] = [.int .i64 t.id] from rfl)
      by_cases he : t.nu = fd ∧ (t.wn == 0) = sg
      · have hst2 : rof (L.take (k + 1)) fd sg = rof (L.take k) fd sg ++ [t] := by rw [hst, rof_append, rof_one, if_pos he]
        have HST := Lib.hid hst2
        have e1 : (t.nu == fd) = true := by simpa using he.1
        have e2 : ((t.wn == 0) == sg) = true := by simpa using he.2
        have H0 := Lib.hid hown; have HB := Lib.hid hb
        clear hst hst2 he hW ht hown hb
        generalize rof (L.take k) fd sg = R at *
        generalize hrn : R.length = rn at *
        have HRN := Lib.hid hrn
        clear hrn
        generalize t.id = ti at *
        generalize t.nu = tn at *
        generalize t.wn = tw at *
        go_wp2_with (at_builtin; refine wpList_append_own _ rfl _ _ 28 rfl w.heap.size 3 i3 (.int .i64 0) 1 8 Try.underlying28 I3.out Z3.out S3.out Y3.out rfl (by decide) _ _ _ rfl (H0.out.alloc _) ⟨wr.heap.size, 0, none⟩ 1 1 [.int .i64 ti] rfl rfl (cell_one_new _ _ _) (by simp [Value.oneCell']) (by unfold maxLen; omega) (by omega) (by simp; omega) ?_; intro v' w5 hown' hgrow _; have hb5 := Lib.hid (below_append HB.out H0.out hgrow (Nat.le_refl _) hsz); have H5 := Lib.hid hown'; clear hgrow hown')
        go_roundw
        case rel => exact ⟨k + 1, by omega, by go_num, by rw [HST.out, flat_append, List.length_append, HRN.out, HF.out]; exact H5.out, hb5.out⟩
        case measure => simp [intOf]; omega
      · have hst2 : rof (L.take (k + 1)) fd sg = rof (L.take k) fd sg := by rw [hst, rof_append, rof_one, if_neg he, List.append_nil]
        have HST := Lib.hid hst2
        have H0 := Lib.hid hown; have HB := Lib.hid hb
        by_cases he1 : t.nu = fd
        case' neg => have e1 : (t.nu == fd) = false := by simpa using he1
        case' pos =>
          have e1 : (t.nu == fd) = true := by simpa using he1
          have e2 : ((t.wn == 0) == sg) = false := by
            rw [Bool.eq_false_iff]
            intro h
            exact he ⟨he1, eq_of_beq h⟩
        all_goals
          clear hst hst2 he he1 hW ht hown hb
          generalize t.id = ti at *
          generalize t.nu = tn at *
          generalize t.wn = tw at *
          go_wp2_with fail
          go_roundw
          case rel => exact ⟨k + 1, by omega, by go_num, by rw [HST.out]; exact H0.out, HB.out⟩
          case measure => simp [intOf]; omega
    · obtain rfl : k = ln := by omega
      rw [HT.out] at hown
      obtain ⟨A', c', rfl, hc'⟩ := row_form hown
      have H0 := Lib.hid hown
      clear hown
      generalize hrp : (rof L fd sg).length = rl at *
      have HRP := Lib.hid hrp
      clear hrp
      go_wp2_with fail
      go_ret
      refine ⟨⟨_, rfl, ?_⟩, hb⟩
      rw [HRP.out]
      exact H0.out

/-! ### Wants -/
set_option maxHeartbeats 2000000 in
theorem rwants_any (w : World) (r : Nat) (v : Value) (N : Nat) (L : List It) (fd : Int) (h : Rf w r v N L) (hN : N ≤ 10000) :
    Calls Try.prog 38 #[.pointer (some ⟨r, 0, none⟩), .int .i64 fd] w fun e w' => e = .returned (.int .i64 (wants L fd)) ∧ w = w' := by
  obtain ⟨A, c, rfl, hlc, hcm, hq, hcell⟩ := h.at
  have hln := h.ln
  have q1 := hq w (Below.refl _ _)
  have HC : Hid (∀ k, k < L.length → ∃ (t : It) (b : Nat), L[k]? = some t ∧ A = some ⟨b, 0, none⟩ ∧ Cel3 w b k t) := Lib.hid (fun k hk => by
    obtain ⟨t, b, ht, hA, hW⟩ := hcell k hk
    exact ⟨t, b, ht, hA, hW w (Below.refl _ _)⟩)
  have HT : Hid (wants L fd = wntL (rof (L.take L.length) fd false)) := Lib.hid (by rw [List.take_length, rof_of h.ok]; rfl)
  clear hcell h hq
  unfold maxLen at hcm
  generalize wants L fd = ws at *
  generalize hll : L.length = ln at *
  clear hll
  go_enter Try.func38, Try.ntmps38
  go_wp2_with fail
  go_loopw [5, 6] (fun o i wr => ∃ k : Nat, k ≤ ln ∧ i = .int .i64 k ∧ o = .int .i64 (wntL (rof (L.take k) fd false)) ∧ w = wr) (fun _ i _ => ln - (intOf i).toNat)
  case atStart => exact ⟨0, Nat.zero_le _, rfl, rfl, rfl⟩
  case round =>
    obtain ⟨k, hk, rfl, rfl, rfl⟩ := hrel
    by_cases hkl : k < ln
    · obtain ⟨t, b, ht, rfl, c0, c1, c2⟩ := HC.out k hkl
      have hst := take_step ht
      by_cases he : t.nu = fd ∧ (t.wn == 0) = false
      · have hst2 : wntL (rof (L.take (k + 1)) fd false) = bits .or .i64 (wntL (rof (L.take k) fd false)) t.wn := by rw [hst, rof_append, rof_one, if_pos he, wntL_snoc]
        have HST := Lib.hid hst2
        have e1 : (t.nu == fd) = true := by simpa using he.1
        have e2 : (t.wn == 0) = false := he.2
        clear hst hst2 he ht
        generalize wntL (rof (L.take k) fd false) = o at *
        generalize t.nu = tn at *
        generalize t.wn = tw at *
        go_wp2_with fail
        go_roundw
        case rel => exact ⟨k + 1, by omega, by go_num, by rw [HST.out], by first | rfl | trivial⟩
        case measure => simp [intOf]; omega
      · have hst2 : wntL (rof (L.take (k + 1)) fd false) = wntL (rof (L.take k) fd false) := by rw [hst, rof_append, rof_one, if_neg he, List.append_nil]
        have HST := Lib.hid hst2
        by_cases he1 : t.nu = fd
        case' neg => have e1 : (t.nu == fd) = false := by simpa using he1
        case' pos =>
          have e1 : (t.nu == fd) = true := by simpa using he1
          have e2 : (t.wn == 0) = true := by
            cases hz : (t.wn == 0)
            · exact absurd ⟨he1, hz⟩ he
            · rfl
        all_goals
          clear hst hst2 he he1 ht
          generalize wntL (rof (L.take k) fd false) = o at *
          generalize t.nu = tn at *
          generalize t.wn = tw at *
          go_wp2_with fail
          go_roundw
          case rel => exact ⟨k + 1, by omega, by go_num, by rw [HST.out], by first | rfl | trivial⟩
          case measure => simp [intOf]; omega
    · obtain rfl : k = ln := by omega
      rw [← HT.out]
      go_wp2_with fail
      go_ret
      exact ⟨rfl, rfl⟩
end Go.Proofs.Ytllolfbjmpaamaa
