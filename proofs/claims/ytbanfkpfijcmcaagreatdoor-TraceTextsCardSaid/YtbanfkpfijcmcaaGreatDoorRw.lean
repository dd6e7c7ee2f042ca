/- read's deferred closure. -/
/- read, walked. -/
import Derived.Test.YtbanfkpfijcmcaaGreatDoorRn
import Derived.Laws.CopyOwn
import Derived.Test.YtbanfkpfijcmcaaGreatDoorRe

namespace Go.Proofs.YtbanfkpfijcmcaaGreatDoor
open Go.RowKit
set_option linter.unusedSimpArgs false
set_option linter.unusedVariables false
set_option maxRecDepth 100000

theorem catch_idle (px pi : Addr) (w : World) :
    CallsD Tryz.prog 52 #[.pointer (some px), .pointer (some pi)] .returning w fun e u' w' => e = .returned (.tuple #[]) ∧ u' = .returning ∧ w' = w := by
  refine callsD_of_wpS Tryz.func52 rfl fun c₀ cs hu => ?_
  apply wpS_seq
  apply wpS_region
  simp [wpOpsS, go_sem, recoverD, hu, Tryz.ntmps52, Exit.thenS]
  refine wpS_of_wp ?_
  go_wp2_with fail
  cases c₀
  simp_all [bodyPostS, results, Tryz.results52]
theorem l7 {α : Type} (l : List α) (h : l.length = 7) : ∃ a b c d e f g, l = [a, b, c, d, e, f, g] := by
  match l, h with
  | [a, b, c, d, e, f, g], _ => exact ⟨a, b, c, d, e, f, g, rfl⟩
def zeroX : Array Value := #[.int .i64 0, .int .u64 0, .int .i64 0, .int .i64 0, .int .i64 0, .int .i64 0, .slice none 0 0]
theorem set_blockx {w : World} {b j : Nat} {cs : Array Value} {T : TypeId} {v : Value} (h : w.heap[b]? = some (.cells cs T (0, 0))) : (w.setCell ⟨b, j, none⟩ v).heap[b]? = some (.cells (cs.setIfInBounds j v) T (0, 0)) := by
  rw [setCell_eq_setRow w b j cs T (0, 0) v h]
  exact setRow_heap w b cs _ T (0, 0) h
def wrongW (w : World) (bx bi : Nat) : World := (((((((((w.setCell ⟨bx, 0, none⟩ (.int .i64 0)).setCell ⟨bx, 1, none⟩ (.int .u64 0)).setCell ⟨bx, 2, none⟩ (.int .i64 0)).setCell ⟨bx, 3, none⟩ (.int .i64 0)).setCell ⟨bx, 4, none⟩ (.int .i64 0)).setCell ⟨bx, 5, none⟩ (.int .i64 0)).setCell ⟨bx, 6, none⟩ (.slice none 0 0)).setCell ⟨bi, 0, none⟩ (.bool false)).alloc (.cells #[] 89))
theorem wrong_world {w : World} {bx bi : Nat} {a0 a1 a2 a3 a4 a5 a6 v : Value} (hx : w.heap[bx]? = some (.cells #[a0, a1, a2, a3, a4, a5, a6] 28 (0, 0))) (hi : w.heap[bi]? = some (.cells #[v] 4 (0, 0))) (hne : bi ≠ bx) :
    (wrongW w bx bi).heap[bx]? = some (.cells zeroX 28 (0, 0)) ∧ (wrongW w bx bi).heap[bi]? = some (.cells #[.bool false] 4 (0, 0)) ∧ ∀ B, B ≤ bx → B ≤ bi → Below B w (wrongW w bx bi) := by
  have hzx : ((((((((#[a0, a1, a2, a3, a4, a5, a6] : Array Value).setIfInBounds 0 (.int .i64 0)).setIfInBounds 1 (.int .u64 0)).setIfInBounds 2 (.int .i64 0)).setIfInBounds 3 (.int .i64 0)).setIfInBounds 4 (.int .i64 0)).setIfInBounds 5 (.int .i64 0)).setIfInBounds 6 (.slice none 0 0)) = zeroX := by simp [zeroX]
  have X1 := set_blockx (j := 6) (v := .slice none 0 0) (set_blockx (j := 5) (v := .int .i64 0) (set_blockx (j := 4) (v := .int .i64 0) (set_blockx (j := 3) (v := .int .i64 0) (set_blockx (j := 2) (v := .int .i64 0) (set_blockx (j := 1) (v := .int .u64 0) (set_blockx (j := 0) (v := .int .i64 0) hx))))))
  rw [hzx] at X1
  have I1 : ((((((((w.setCell ⟨bx, 0, none⟩ (.int .i64 0)).setCell ⟨bx, 1, none⟩ (.int .u64 0)).setCell ⟨bx, 2, none⟩ (.int .i64 0)).setCell ⟨bx, 3, none⟩ (.int .i64 0)).setCell ⟨bx, 4, none⟩ (.int .i64 0)).setCell ⟨bx, 5, none⟩ (.int .i64 0)).setCell ⟨bx, 6, none⟩ (.slice none 0 0))).heap[bi]? = some (.cells #[v] 4 (0, 0)) := by
    rw [Below.heap_setCell _ _ _ _ hne, Below.heap_setCell _ _ _ _ hne, Below.heap_setCell _ _ _ _ hne, Below.heap_setCell _ _ _ _ hne, Below.heap_setCell _ _ _ _ hne, Below.heap_setCell _ _ _ _ hne, Below.heap_setCell _ _ _ _ hne]
    exact hi
  have X2 := (Below.heap_setCell _ ⟨bi, 0, none⟩ (.bool false) bx (Ne.symm hne)).trans X1
  have I2 := set_blockx (j := 0) (v := .bool false) I1
  have hbx := lt_of_block hx; have hbi := lt_of_block hi
  unfold wrongW
  refine ⟨(Below.heap_alloc _ (.cells #[] 89) _ (lt_of_block X2)).trans X2, (Below.heap_alloc _ (.cells #[] 89) _ (lt_of_block I2)).trans I2, fun B hB1 hB2 => ?_⟩
  refine Below.alloc (Below.setCell (Below.setCell (Below.setCell (Below.setCell (Below.setCell (Below.setCell (Below.setCell (Below.setCell (Below.refl B w) ?_ _) ?_ _) ?_ _) ?_ _) ?_ _) ?_ _) ?_ _) ?_ _) ?_ _ <;> (try simp) <;> omega
set_option maxHeartbeats 4000000 in
theorem catch_wrong (bx bi : Nat) (older : List PanicEntry) (w : World) (cs : Array Value) (hx : w.heap[bx]? = some (.cells cs 28 (0, 0))) (hcs : cs.size = 7) (v : Value) (hi : w.heap[bi]? = some (.cells #[v] 4 (0, 0))) (hne : bi ≠ bx) :
    CallsD Tryz.prog 52 #[.pointer (some ⟨bx, 0, none⟩), .pointer (some ⟨bi, 0, none⟩)] (.panicking ({ v := .iface 89 (.agg #[]), recovered := false } :: older)) w fun e u' w' => e = .returned (.tuple #[]) ∧ u' = .panicking ({ v := .iface 89 (.agg #[]), recovered := true } :: older) ∧
      w'.heap[bx]? = some (.cells zeroX 28 (0, 0)) ∧ w'.heap[bi]? = some (.cells #[.bool false] 4 (0, 0)) ∧ ∀ B, B ≤ bx → B ≤ bi → Below B w w' := by
  obtain ⟨a0, a1, a2, a3, a4, a5, a6, hcl⟩ := l7 cs.toList (by simpa using hcs)
  obtain rfl : cs = #[a0, a1, a2, a3, a4, a5, a6] := by rw [← hcl]
  clear hcl hcs
  suffices h : CallsD Tryz.prog 52 #[.pointer (some ⟨bx, 0, none⟩), .pointer (some ⟨bi, 0, none⟩)] (.panicking ({ v := .iface 89 (.agg #[]), recovered := false } :: older)) w fun e u' w' => e = .returned (.tuple #[]) ∧ u' = .panicking ({ v := .iface 89 (.agg #[]), recovered := true } :: older) ∧ w' = wrongW w bx bi from
    h.mono fun e u' w' ⟨h1, h2, h3⟩ => by subst h3; exact ⟨h1, h2, wrong_world hx hi hne⟩
  have hta : ∀ w : World, (Instr.typeAssert (.iface 89 (.agg #[])) 20 89 true).run Tryz.prog w = .ok (.tuple #[.agg #[], .bool true]) w := fun w => by kernel_rfl
  obtain ⟨c0, f0⟩ := cell_of hx 0
  obtain ⟨c1, f1⟩ := cell_of hx 1
  obtain ⟨c2, f2⟩ := cell_of hx 2
  obtain ⟨c3, f3⟩ := cell_of hx 3
  obtain ⟨c4, f4⟩ := cell_of hx 4
  obtain ⟨c5, f5⟩ := cell_of hx 5
  obtain ⟨c6, f6⟩ := cell_of hx 6
  obtain ⟨d0, e0⟩ := cell_of hi 0
  have hbx := lt_of_block hx; have hbi := lt_of_block hi
  clear hx hi
  simp only [List.getElem?_toArray, List.getElem?_cons_zero, List.getElem?_cons_succ] at c0 c1 c2 c3 c4 c5 c6 d0
  refine callsD_of_wpS Tryz.func52 rfl fun c₀ cs hu => ?_
  apply wpS_seq
  apply wpS_region
  simp [wpOpsS, go_sem, recoverD, hu, Tryz.ntmps52, Exit.thenS]
  refine wpS_of_wp ?_
  go_wp2_with fail
  clear f0 f1 f2 f3 f4 f5 f6 e0 c0 c1 c2 c3 c4 c5 c6 d0 hta
  cases c₀
  simp [bodyPostS, results, Tryz.results52]
  rfl
end Go.Proofs.YtbanfkpfijcmcaaGreatDoor

namespace Go.Proofs.YtbanfkpfijcmcaaGreatDoor
open Go.RowKit
set_option linter.unusedSimpArgs false
set_option linter.unusedVariables false
set_option maxRecDepth 100000

theorem split_any (s : ByteArray) (w : World) (hE : Ep w) (hs : s.size ≤ 1000000) : Calls Tryz.prog 53 #[.string s, .string ⟨#[32]⟩] w fun e w' => ∃ b, e = .returned (.slice (some ⟨b, 0, none⟩) (pcW s).length (pcW s).length) ∧
    (∀ i, i < (pcW s).length → w'.cell? ⟨b, i, none⟩ = some (.string (wAt (pcW s) i))) ∧ b < w'.heap.size ∧ w.heap.size ≤ b ∧ Below w.heap.size w w' := by
  obtain ⟨m, hm⟩ := hE.m
  refine (Tryz.strings_Split s ⟨#[32]⟩ m w (by omega) hm (by decide)).mono ?_
  rintro e w' ⟨rfl, rfl⟩
  refine ⟨w.heap.size, by rw [pcW_len], fun i hi => Fl.made_cell w (pcW s) i hi, by simp, Nat.le_refl _, (Below.refl _ w).alloc (Nat.le_refl _) _⟩
theorem wsz {s : ByteArray} {i : Nat} (hi : i < (pcW s).length) : (wAt (pcW s) i).size ≤ s.size := pcW_size s _ (by unfold wAt; rw [List.getD_eq_getElem?_getD, List.getElem?_eq_getElem hi]; exact List.getElem_mem hi)
theorem pcW_pos (s : ByteArray) : 0 < (pcW s).length := by rw [pcW_len]; omega
theorem idxS_bd (x : ByteArray) : ∀ (l : List ByteArray) (i : Nat), -1 ≤ Lib.idxFromS l x i ∧ Lib.idxFromS l x i < ((i + l.length : Nat) : Int) ∨ Lib.idxFromS l x i = -1
  | [], i => .inr rfl
  | y :: l, i => by
    unfold Lib.idxFromS
    split
    · left; simp; omega
    · rcases idxS_bd x l (i + 1) with h | h
      · left; simp only [List.length_cons] at h ⊢; omega
      · right; exact h
theorem kind_bd (s : ByteArray) : -1 ≤ kindF s ∧ kindF s < 5 := by
  have h := idxS_bd s twl 0
  have hl : twl.length = 5 := rfl
  rw [hl] at h
  unfold kindF Lib.idxOfS
  omega
/-- What read answers. -/
def ReadP (s : ByteArray) (w : World) (e : Ending) (w' : World) : Prop := ∃ (x : En) (A : Option Addr) (n c : Nat), e = .returned (.tuple #[.agg #[.int .i64 x.kd, .int .u64 x.tk, .int .i64 x.id, .int .i64 x.fl, .int .i64 x.nn, .int .i64 x.er, .slice A n c], .bool (readF s).isSome]) ∧
  (∀ y, readF s = some y → x = y ∧ w'.ownsRow w.heap.size 5 1 (.slice A n c) y.dt.length (byt y.dt)) ∧ Below w.heap.size w w'
theorem read_none {s : ByteArray} (h : guessL (pcW s) = none) : readF s = none := by unfold readF; rw [h]

def dfr (g : Nat) : Deferred := { target := .fn (.func 52) #[.pointer (some ⟨g, 0, none⟩), .pointer (some ⟨g + 1, 0, none⟩)], args := #[] }
theorem res20 (tmps : Array Value) (W : World) (g : Nat) (a0 a1 a2 a3 a4 a5 a6 v : Value) (h2 : tmps.getD 2 undef = .pointer (some ⟨g, 0, none⟩)) (h3 : tmps.getD 3 undef = .pointer (some ⟨g + 1, 0, none⟩))
    (hX : W.heap[g]? = some (.cells #[a0, a1, a2, a3, a4, a5, a6] 28 (0, 0))) (hI : W.heap[g + 1]? = some (.cells #[v] 4 (0, 0))) : (results Tryz.f34 tmps).run Tryz.prog W = .ok (.tuple #[.agg #[a0, a1, a2, a3, a4, a5, a6], v]) W := by
  obtain ⟨c0, -⟩ := cell_of hX 0
  obtain ⟨c1, -⟩ := cell_of hX 1
  obtain ⟨c2, -⟩ := cell_of hX 2
  obtain ⟨c3, -⟩ := cell_of hX 3
  obtain ⟨c4, -⟩ := cell_of hX 4
  obtain ⟨c5, -⟩ := cell_of hX 5
  obtain ⟨c6, -⟩ := cell_of hX 6
  obtain ⟨d0, -⟩ := cell_of hI 0
  simp only [List.getElem?_toArray, List.getElem?_cons_zero, List.getElem?_cons_succ] at c0 c1 c2 c3 c4 c5 c6 d0
  clear hX hI
  have h2' : tmps[2]?.getD undef = .pointer (some ⟨g, 0, none⟩) := by simpa using h2
  have h3' : tmps[3]?.getD undef = .pointer (some ⟨g + 1, 0, none⟩) := by simpa using h3
  clear h2 h3
  simp [results, Tryz.results34, h2', h3', go_sem, c0, c1, c2, c3, c4, c5, c6, d0]
theorem leave_ok {tmps : Array Value} {W : World} {g : Nat} {a0 a1 a2 a3 a4 a5 a6 v : Value} {R : Ending → World → Prop} (h2 : tmps.getD 2 undef = .pointer (some ⟨g, 0, none⟩)) (h3 : tmps.getD 3 undef = .pointer (some ⟨g + 1, 0, none⟩))
    (hX : W.heap[g]? = some (.cells #[a0, a1, a2, a3, a4, a5, a6] 28 (0, 0))) (hI : W.heap[g + 1]? = some (.cells #[v] 4 (0, 0))) (hR : R (.returned (.tuple #[.agg #[a0, a1, a2, a3, a4, a5, a6], v])) W) :
    Leaves Tryz.prog Tryz.f34 tmps R [dfr g] .returning W := by
  refine leaves_cons (f := 52) (args := #[.pointer (some ⟨g, 0, none⟩), .pointer (some ⟨g + 1, 0, none⟩)]) (by simp) (by simp [go_sem]) ?_
  refine (catch_idle _ _ W).mono ?_
  rintro e u w' ⟨rfl, rfl, rfl⟩
  exact ⟨_, res20 tmps _ g _ _ _ _ _ _ _ _ h2 h3 hX hI, hR⟩
theorem leave_wrong {tmps : Array Value} {W : World} {g : Nat} {cs : Array Value} {v : Value} {R : Ending → World → Prop} (h2 : tmps.getD 2 undef = .pointer (some ⟨g, 0, none⟩)) (h3 : tmps.getD 3 undef = .pointer (some ⟨g + 1, 0, none⟩))
    (hX : W.heap[g]? = some (.cells cs 28 (0, 0))) (hcs : cs.size = 7) (hI : W.heap[g + 1]? = some (.cells #[v] 4 (0, 0))) (hR : ∀ W', Below g W W' → R (.returned (.tuple #[.agg zeroX, .bool false])) W') :
    Leaves Tryz.prog Tryz.f34 tmps R [dfr g] (.panicking wrongP) W := by
  refine leaves_cons (f := 52) (args := #[.pointer (some ⟨g, 0, none⟩), .pointer (some ⟨g + 1, 0, none⟩)]) (by simp) (by simp [go_sem]) ?_
  refine (catch_wrong g (g + 1) [] W cs hX hcs v hI (by omega)).mono ?_
  rintro e u w' ⟨rfl, rfl, h1, h2', h3'⟩
  exact ⟨_, res20 tmps _ g _ _ _ _ _ _ _ _ h2 h3 h1 h2', hR _ (h3' g (Nat.le_refl _) (by omega))⟩
/-- The cells of the results, and the rest. -/
structure XI (w W : World) (cs : Array Value) : Prop where
  x : W.heap[w.heap.size]? = some (.cells cs 28 (0, 0))
  i : W.heap[w.heap.size + 1]? = some (.cells #[.bool false] 4 (0, 0))
  b : Below w.heap.size w W
theorem XI.start (w : World) (cs : Array Value) : XI w ((w.alloc (.cells cs 28)).alloc (.cells #[.bool false] 4)) cs := by
  have h1 := new_block w (.cells cs 28)
  have h2 := new_block (w.alloc (.cells cs 28)) (.cells #[.bool false] 4)
  rw [World.size_alloc] at h2
  exact ⟨(Below.heap_alloc _ _ _ (by simp)).trans h1, h2, ((Below.refl _ w).alloc (Nat.le_refl _) _).alloc (by simp) _⟩
theorem XI.below {w W W' : World} {cs : Array Value} (h : XI w W cs) (hb : Below W.heap.size W W') : XI w W' cs :=
  ⟨(hb.block _ (lt_of_block h.x)).trans h.x, (hb.block _ (lt_of_block h.i)).trans h.i, h.b.trans (hb.mono h.b.size)⟩
theorem XI.set {w W : World} {cs : Array Value} (h : XI w W cs) (j : Nat) (v : Value) : XI w (W.setCell ⟨w.heap.size, j, none⟩ v) (cs.setIfInBounds j v) :=
  ⟨set_blockx h.x, (Below.heap_setCell _ _ _ _ (by simp)).trans h.i, h.b.setCell (Nat.le_refl _) _⟩
theorem XI.drew {w W : World} {cs : Array Value} (h : XI w W cs) : XI w W.drew cs := h.below (Below.refl _ W).drew
theorem XI.fin {w W : World} {cs : Array Value} (h : XI w W cs) (v : Value) : (W.setCell ⟨w.heap.size + 1, 0, none⟩ v).heap[w.heap.size]? = some (.cells cs 28 (0, 0)) ∧ (W.setCell ⟨w.heap.size + 1, 0, none⟩ v).heap[w.heap.size + 1]? = some (.cells #[v] 4 (0, 0)) ∧ Below w.heap.size w (W.setCell ⟨w.heap.size + 1, 0, none⟩ v) :=
  ⟨(Below.heap_setCell _ _ _ _ (by simp)).trans h.x, set_blockx h.i, h.b.setCell (by simp) _⟩
theorem fin_alloc {w W : World} {g : Nat} {cs cs2 : Array Value} (h : W.heap[g]? = some (.cells cs 28 (0, 0)) ∧ W.heap[g + 1]? = some (.cells cs2 4 (0, 0)) ∧ Below w.heap.size w W) (o : Obj) : (W.alloc o).heap[g]? = some (.cells cs 28 (0, 0)) ∧ (W.alloc o).heap[g + 1]? = some (.cells cs2 4 (0, 0)) ∧ Below w.heap.size w (W.alloc o) :=
  ⟨(Below.heap_alloc _ _ _ (lt_of_block h.1)).trans h.1, (Below.heap_alloc _ _ _ (lt_of_block h.2.1)).trans h.2.1, h.2.2.alloc h.2.2.size _⟩
theorem XI.row {w W : World} {b0 b1 b2 b3 b4 b5 b6 : Value} (h : XI w W #[b0, b1, b2, b3, b4, b5, b6]) (a0 a1 a2 a3 a4 a5 a6 : Value) :
    XI w (((((((W.setCell ⟨w.heap.size, 0, none⟩ a0).setCell ⟨w.heap.size, 1, none⟩ a1).setCell ⟨w.heap.size, 2, none⟩ a2).setCell ⟨w.heap.size, 3, none⟩ a3).setCell ⟨w.heap.size, 4, none⟩ a4).setCell ⟨w.heap.size, 5, none⟩ a5).setCell ⟨w.heap.size, 6, none⟩ a6) #[a0, a1, a2, a3, a4, a5, a6] := by
  have := ((((((h.set 0 a0).set 1 a1).set 2 a2).set 3 a3).set 4 a4).set 5 a5).set 6 a6
  simpa using this
theorem tick_any (s : ByteArray) (w : World) (hE : Ep w) (hs : s.size ≤ 281474976710656) : Calls Tryz.prog 55 #[.string s, .int .i64 10, .int .i64 64] w fun e w' => ∃ ev, e = .returned (.tuple #[.int .u64 (tickF s), ev]) ∧ Below w.heap.size w w' := by
  cases hA : Lib.parseUintB 64 s.data.toList
  case ok v =>
    have hn : tickF s = v := by unfold tickF; rw [hA]
    refine (Tryz.strconv_ParseUint_10_at64_ok s (by omega) v hA w).mono ?_
    rintro e w1 ⟨rfl, hw1⟩
    rw [hn]
    refine ⟨_, rfl, ?_⟩
    rcases hw1 with rfl | rfl
    · exact Below.refl _ _
    · exact Joins.below_bytesWorld _ _ _ _ (Nat.le_refl _)
  case range =>
    obtain ⟨ev, hc, hev⟩ := hE.r
    have hn : tickF s = 18446744073709551615 := by unfold tickF; rw [hA]
    refine (Tryz.strconv_ParseUint_10_at64_range s hs hA ev w hc hev).mono ?_
    rintro e w1 ⟨N, rfl, -, -, b1⟩
    rw [hn]
    exact ⟨_, rfl, b1⟩
  · obtain ⟨ev, hc, hev⟩ := hE.s
    have hn : tickF s = 0 := by unfold tickF; rw [hA]
    refine (Tryz.strconv_ParseUint_10_at64_no s hs (fun v e => by rw [hA] at e; cases e) (fun e => by rw [hA] at e; cases e) ev w hc hev).mono ?_
    rintro e w1 ⟨N, rfl, -, -, b1⟩
    rw [hn]
    exact ⟨_, rfl, b1⟩
/-- The words, as the walk lays them. -/
def twA : Array Value := #[.string ⟨#[]⟩, .string ⟨#[116, 117, 114, 110]⟩, .string ⟨#[114, 117, 110]⟩, .string ⟨#[100, 105, 100]⟩, .string ⟨#[101, 110, 100]⟩]
theorem index_any {w W : World} {g : Nat} (h : W.heap[g]? = some (.cells twA 73 (0, 0))) (x : ByteArray) : Calls Tryz.prog 54 #[.slice (some ⟨g, 0, none⟩) 5 5, .string x] W fun e w' => e = .returned (.int .i64 (kindF x)) ∧ Below W.heap.size W w' := by
  refine (Tryz.slices_Index_string g 0 5 5 twl x W (by decide) (by decide) (fun j hj => ?_)).mono ?_
  · rw [Nat.zero_add, (cell_of h j).1]
    have : ∀ k : Fin 5, twA[k.val]? = some (.string (twl.getD k.val ByteArray.empty)) := by
      intro k
      match k with
      | 0 => rfl
      | 1 => rfl
      | 2 => rfl
      | 3 => rfl
      | 4 => rfl
    exact this ⟨j, hj⟩
  · rintro e w' ⟨rfl, rfl⟩
    exact ⟨rfl, Below.refl _ _⟩


/-- The results' cells, and the line's words. -/
structure XL (w W : World) (cs : Array Value) (L : List ByteArray) (b : Nat) : Prop where
  h : XI w W cs
  lb : w.heap.size + 1 < b
  lt : b < W.heap.size
  c : ∀ i, i < L.length → W.cell? ⟨b, i, none⟩ = some (.string (wAt L i))
theorem XL.below {w W W' : World} {cs : Array Value} {L : List ByteArray} {b : Nat} (X : XL w W cs L b) (hb : Below W.heap.size W W') : XL w W' cs L b :=
  ⟨X.h.below hb, X.lb, Nat.lt_of_lt_of_le X.lt hb.size, fun i hi => (hb.cell (p := ⟨b, i, none⟩) X.lt).trans (X.c i hi)⟩
theorem XL.set {w W : World} {cs : Array Value} {L : List ByteArray} {b : Nat} (X : XL w W cs L b) (j : Nat) (v : Value) : XL w (W.setCell ⟨w.heap.size, j, none⟩ v) (cs.setIfInBounds j v) L b :=
  ⟨X.h.set j v, X.lb, by have := X.lt; simpa [World.setCell] using this, fun i hi => (World.cell?_setCell_far _ _ _ _ (by have := X.lb; simp; omega)).trans (X.c i hi)⟩
theorem XL.row {w W : World} {b0 b1 b2 b3 b4 b5 b6 : Value} {L : List ByteArray} {b : Nat} (X : XL w W #[b0, b1, b2, b3, b4, b5, b6] L b) (a0 a1 a2 a3 a4 a5 a6 : Value) :
    XL w (((((((W.setCell ⟨w.heap.size, 0, none⟩ a0).setCell ⟨w.heap.size, 1, none⟩ a1).setCell ⟨w.heap.size, 2, none⟩ a2).setCell ⟨w.heap.size, 3, none⟩ a3).setCell ⟨w.heap.size, 4, none⟩ a4).setCell ⟨w.heap.size, 5, none⟩ a5).setCell ⟨w.heap.size, 6, none⟩ a6) #[a0, a1, a2, a3, a4, a5, a6] L b := by
  have := ((((((X.set 0 a0).set 1 a1).set 2 a2).set 3 a3).set 4 a4).set 5 a5).set 6 a6
  simpa using this

/-! The last region: what lies in the results' cells while their stores are under way. -/
def curI (W : World) (a : Addr) : Value := (W.cell? a).getD undef
structure XK (w W : World) (a0 a1 a2 a3 a4 a5 a6 : Value) (d : List UInt8) : Prop where
  x : W.heap[w.heap.size]? = some (.cells #[a0, a1, a2, a3, a4, a5, a6] 28 (0, 0))
  i : ∃ v, W.heap[w.heap.size + 1]? = some (.cells #[v] 4 (0, 0))
  b : Below w.heap.size w W
  r : W.ownsRow w.heap.size 5 1 a6 d.length (byt d)
theorem row_set {W : World} {base : Nat} {s : Nat} {v : Value} {n : Nat} {xs : List Value} {g : Nat} {cs : Array Value} {T : TypeId} (h : W.ownsRow base 5 s v n xs) (hb : W.heap[g]? = some (.cells cs T (0, 0))) (hne : T ≠ 5) (j : Nat) (u : Value) : (W.setCell ⟨g, j, none⟩ u).ownsRow base 5 s v n xs :=
  row_same h (fun b e => Below.heap_setCell _ _ _ _ (fun e2 => row_not h hb hne (by rw [e]; exact congrArg some e2)))
theorem XK.below {w W W' : World} {a0 a1 a2 a3 a4 a5 a6 : Value} {d : List UInt8} (h : XK w W a0 a1 a2 a3 a4 a5 a6 d) (hb : Below W.heap.size W W') : XK w W' a0 a1 a2 a3 a4 a5 a6 d :=
  ⟨(hb.block _ (lt_of_block h.x)).trans h.x, h.i.imp fun v hv => (hb.block _ (lt_of_block hv)).trans hv, h.b.trans (hb.mono h.b.size), row_keep h.r hb⟩
theorem XK.set {w W : World} {a0 a1 a2 a3 a4 a5 a6 : Value} {d : List UInt8} (h : XK w W a0 a1 a2 a3 a4 a5 a6 d) (v : Value) : XK w (W.setCell ⟨w.heap.size + 1, 0, none⟩ v) a0 a1 a2 a3 a4 a5 a6 d := by
  obtain ⟨u, hu⟩ := h.i
  exact ⟨(Below.heap_setCell _ _ _ _ (by simp)).trans h.x, ⟨v, set_blockx hu⟩, h.b.setCell (by simp) _, row_set h.r hu (by decide) _ _⟩
theorem XK.same {w W : World} {a0 a1 a2 a3 a4 a5 a6 : Value} {d : List UInt8} (h : XK w W a0 a1 a2 a3 a4 a5 a6 d) (j : Nat) (v : Value) (hv : (#[a0, a1, a2, a3, a4, a5, a6] : Array Value).setIfInBounds j v = #[a0, a1, a2, a3, a4, a5, a6]) : XK w (W.setCell ⟨w.heap.size, j, none⟩ v) a0 a1 a2 a3 a4 a5 a6 d := by
  obtain ⟨u, hu⟩ := h.i
  refine ⟨?_, ⟨u, (Below.heap_setCell _ _ _ _ (by simp)).trans hu⟩, h.b.setCell (Nat.le_refl _) _, row_set h.r h.x (by decide) _ _⟩
  have := set_blockx (j := j) (v := v) h.x
  rw [hv] at this
  exact this
theorem XK.row {w W : World} {a0 a1 a2 a3 a4 a5 a6 : Value} {d : List UInt8} (h : XK w W a0 a1 a2 a3 a4 a5 a6 d) :
    XK w (((((((W.setCell ⟨w.heap.size, 0, none⟩ a0).setCell ⟨w.heap.size, 1, none⟩ a1).setCell ⟨w.heap.size, 2, none⟩ a2).setCell ⟨w.heap.size, 3, none⟩ a3).setCell ⟨w.heap.size, 4, none⟩ a4).setCell ⟨w.heap.size, 5, none⟩ a5).setCell ⟨w.heap.size, 6, none⟩ a6) a0 a1 a2 a3 a4 a5 a6 d :=
  ((((((h.same 0 a0 rfl).same 1 a1 rfl).same 2 a2 rfl).same 3 a3 rfl).same 4 a4 rfl).same 5 a5 rfl).same 6 a6 rfl
theorem s18 {w W : World} {a0 a1 a2 a3 a4 a5 a6 : Value} {d : List UInt8} (h : XK w W a0 a1 a2 a3 a4 a5 a6 d) : XK w W a0 a1 a2 a3 a4 a5 a6 d ∧ W.cell? ⟨w.heap.size, 0, none⟩ = some a0 ∧ W.frozen? ⟨w.heap.size, 0, none⟩ = false ∧ W.cell? ⟨w.heap.size, 1, none⟩ = some a1 ∧ W.frozen? ⟨w.heap.size, 1, none⟩ = false ∧ W.cell? ⟨w.heap.size, 2, none⟩ = some a2 ∧ W.frozen? ⟨w.heap.size, 2, none⟩ = false ∧ W.cell? ⟨w.heap.size, 3, none⟩ = some a3 ∧ W.frozen? ⟨w.heap.size, 3, none⟩ = false ∧ W.cell? ⟨w.heap.size, 4, none⟩ = some a4 ∧ W.frozen? ⟨w.heap.size, 4, none⟩ = false ∧ W.cell? ⟨w.heap.size, 5, none⟩ = some a5 ∧ W.frozen? ⟨w.heap.size, 5, none⟩ = false ∧ W.cell? ⟨w.heap.size, 6, none⟩ = some a6 ∧ W.frozen? ⟨w.heap.size, 6, none⟩ = false ∧ W.cell? ⟨w.heap.size + 1, 0, none⟩ = some (curI W ⟨w.heap.size + 1, 0, none⟩) ∧ W.frozen? ⟨w.heap.size + 1, 0, none⟩ = false := by
  obtain ⟨u, hu⟩ := h.i
  have hc := cell_of hu 0
  refine ⟨h, (cell_of h.x 0).1, (cell_of h.x 0).2, (cell_of h.x 1).1, (cell_of h.x 1).2, (cell_of h.x 2).1, (cell_of h.x 2).2, (cell_of h.x 3).1, (cell_of h.x 3).2, (cell_of h.x 4).1, (cell_of h.x 4).2, (cell_of h.x 5).1, (cell_of h.x 5).2, (cell_of h.x 6).1, (cell_of h.x 6).2, ?_, hc.2⟩
  unfold curI
  rw [hc.1]
  rfl
theorem XK.of {w W : World} {a0 a1 a2 a3 a4 a5 a6 : Value} {d : List UInt8} (h : XI w W #[a0, a1, a2, a3, a4, a5, a6]) (hr : W.ownsRow w.heap.size 5 1 a6 d.length (byt d)) : XK w W a0 a1 a2 a3 a4 a5 a6 d := ⟨h.x, ⟨_, h.i⟩, h.b, hr⟩
theorem XK.row_i {w W : World} {u : Value} (a0 a1 a2 a3 a4 a5 a6 : Value) (h : W.heap[w.heap.size + 1]? = some (.cells #[u] 4 (0, 0))) :
    (((((((W.setCell ⟨w.heap.size, 0, none⟩ a0).setCell ⟨w.heap.size, 1, none⟩ a1).setCell ⟨w.heap.size, 2, none⟩ a2).setCell ⟨w.heap.size, 3, none⟩ a3).setCell ⟨w.heap.size, 4, none⟩ a4).setCell ⟨w.heap.size, 5, none⟩ a5).setCell ⟨w.heap.size, 6, none⟩ a6).heap[w.heap.size + 1]? = some (.cells #[u] 4 (0, 0)) := by
  rw [Below.heap_setCell _ _ _ _ (by simp), Below.heap_setCell _ _ _ _ (by simp), Below.heap_setCell _ _ _ _ (by simp), Below.heap_setCell _ _ _ _ (by simp), Below.heap_setCell _ _ _ _ (by simp), Below.heap_setCell _ _ _ _ (by simp), Below.heap_setCell _ _ _ _ (by simp)]
  exact h
theorem XK.set_i {w W : World} {a0 a1 a2 a3 a4 a5 a6 : Value} {d : List UInt8} (h : XK w W a0 a1 a2 a3 a4 a5 a6 d) (v : Value) : (W.setCell ⟨w.heap.size + 1, 0, none⟩ v).heap[w.heap.size + 1]? = some (.cells #[v] 4 (0, 0)) := by
  obtain ⟨u, hu⟩ := h.i
  exact set_blockx hu
/-- The end. -/
theorem leave_read {tmps : Array Value} {s : ByteArray} {w W : World} {x : En} {dv : Value} {ok : Bool} (h2 : tmps.getD 2 undef = .pointer (some ⟨w.heap.size, 0, none⟩)) (h3 : tmps.getD 3 undef = .pointer (some ⟨w.heap.size + 1, 0, none⟩))
    (h : XK w W (.int .i64 x.kd) (.int .u64 x.tk) (.int .i64 x.id) (.int .i64 x.fl) (.int .i64 x.nn) (.int .i64 x.er) dv x.dt) (hi : W.heap[w.heap.size + 1]? = some (.cells #[.bool ok] 4 (0, 0))) (hr : readF s = if ok then some x else none) :
    Leaves Tryz.prog Tryz.f34 tmps (ReadP s w) [dfr w.heap.size] .returning W := by
  have hdv : ∃ A n c, dv = .slice A n c := by
    rcases h.r.2 with ⟨rfl, _⟩ | ⟨g, cap, cur, rfl, _⟩
    · exact ⟨_, _, _, rfl⟩
    · exact ⟨_, _, _, rfl⟩
  obtain ⟨A, n, c, rfl⟩ := hdv
  refine leave_ok h2 h3 h.x hi ⟨x, A, n, c, ?_, ?_, h.b⟩
  · rw [hr]; cases ok <;> rfl
  · intro y hy
    rw [hr] at hy
    cases ok
    · cases hy
    · cases hy; exact ⟨rfl, h.r⟩
theorem leave_none {tmps : Array Value} {s : ByteArray} {w W : World} {cs : Array Value} {L : List ByteArray} {b : Nat} (h2 : tmps.getD 2 undef = .pointer (some ⟨w.heap.size, 0, none⟩)) (h3 : tmps.getD 3 undef = .pointer (some ⟨w.heap.size + 1, 0, none⟩))
    (h : XL w W cs L b) (hcs : cs.size = 7) (hr : readF s = none) : Leaves Tryz.prog Tryz.f34 tmps (ReadP s w) [dfr w.heap.size] (.panicking wrongP) W := by
  refine leave_wrong h2 h3 h.h.x hcs h.h.i (fun W' hb => ⟨⟨0, 0, 0, 0, 0, 0, []⟩, none, 0, 0, (by rw [hr]; rfl), (fun y hy => by rw [hr] at hy; cases hy), h.h.b.trans hb⟩)
end Go.Proofs.YtbanfkpfijcmcaaGreatDoor
