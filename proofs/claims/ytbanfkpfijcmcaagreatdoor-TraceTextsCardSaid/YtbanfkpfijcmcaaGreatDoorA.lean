/- Layer 24, plainly: entries, where two lists part, what is picked, iterations. No program in sight. -/
/- What reads as entries. -/
/- Two entries: one, One. -/
import Derived.Below
import Derived.Test.YtbanfkpfijcmcaaGreatDoorBase
import Derived.Test.YtbanfkpfijcmcaaGreatDoorRow
import Derived.WalkKit
import Derived.OwnWalk
import Derived.Lib.Hide
import Derived.BigQuiet
import Derived.Laws.IdiomStrings
import Derived.Laws.BytesArg

namespace Go.Proofs.YtbanfkpfijcmcaaGreatDoor
set_option linter.unusedSimpArgs false
set_option linter.unusedVariables false

/-- An entry. -/
structure En where
  kd : Int
  tk : Int
  id : Int
  fl : Int
  nn : Int
  er : Int
  dt : List UInt8
/-- Two entries are the same. -/
def oneF (x y : En) : Bool := x.kd == y.kd && (x.tk == y.tk && (x.id == y.id && (x.fl == y.fl && (x.nn == y.nn && (x.er == y.er && x.dt == y.dt)))))
theorem oneF_iff {x y : En} : oneF x y = true ↔ x = y := by
  obtain ⟨a, b, c, d, e, f, g⟩ := x
  obtain ⟨a', b', c', d', e', f', g'⟩ := y
  unfold oneF
  simp only [Bool.and_eq_true, beq_iff_eq, En.mk.injEq]
theorem oneF_self (x : En) : oneF x x = true := oneF_iff.2 rfl
theorem oneF_ne {x y : En} (h : x ≠ y) : oneF x y = false := by
  rw [Bool.eq_false_iff]
  exact fun e => h (oneF_iff.1 e)

/-- How far two lists go together. -/
def cpl : List En → List En → Nat
  | x :: a, y :: b => if oneF x y then cpl a b + 1 else 0
  | _, _ => 0
theorem cpl_le : ∀ (a b : List En), cpl a b ≤ a.length ∧ cpl a b ≤ b.length
  | [], b => ⟨Nat.zero_le _, by simp [cpl]⟩
  | x :: a, [] => ⟨Nat.zero_le _, Nat.zero_le _⟩
  | x :: a, y :: b => by
    have := cpl_le a b
    unfold cpl
    simp only [List.length_cons]
    split <;> omega
theorem cpl_lt : ∀ {a b : List En} {k : Nat}, k < cpl a b → ∃ x, a[k]? = some x ∧ b[k]? = some x
  | [], b, k, h => by simp [cpl] at h
  | x :: a, [], k, h => by simp [cpl] at h
  | x :: a, y :: b, k, h => by
    unfold cpl at h
    split at h
    · rename_i e
      obtain rfl := oneF_iff.1 e
      cases k with
      | zero => exact ⟨x, rfl, rfl⟩
      | succ k =>
        obtain ⟨z, h1, h2⟩ := cpl_lt (a := a) (b := b) (k := k) (by omega)
        exact ⟨z, by simpa using h1, by simpa using h2⟩
    · omega
theorem cpl_at : ∀ {a b : List En} {x y : En}, a[cpl a b]? = some x → b[cpl a b]? = some y → oneF x y = false
  | [], b, x, y, h, _ => by simp at h
  | u :: a, [], x, y, _, h => by simp at h
  | u :: a, v :: b, x, y, h1, h2 => by
    unfold cpl at h1 h2
    split at h1
    · rename_i e
      rw [if_pos e] at h2
      exact cpl_at (by simpa using h1) (by simpa using h2)
    · rename_i e
      rw [if_neg e] at h2
      simp at h1 h2
      subst h1 h2
      simpa using e
/-- Where two lists part. -/
def partsF (a b : List En) : Int := if cpl a b = a.length ∧ cpl a b = b.length then -1 else cpl a b
def sameF (a b : List En) : Bool := decide (cpl a b = a.length ∧ cpl a b = b.length)
theorem cpl_self : ∀ a : List En, cpl a a = a.length
  | [] => rfl
  | x :: a => by unfold cpl; rw [if_pos (oneF_self x), cpl_self a]; rfl
theorem sameF_self (a : List En) : sameF a a = true := by
  unfold sameF
  rw [cpl_self]
  simp

/-- An event's entries. -/
def ofP (id : Int) (x : En) : Bool := x.id == id && (x.kd == 2 || x.kd == 3)
def ofF (l : List En) (id : Int) : List En := l.filter (ofP id)
theorem ofF_snoc (l : List En) (x : En) (id : Int) : ofF (l ++ [x]) id = if ofP id x then ofF l id ++ [x] else ofF l id := by
  unfold ofF
  rw [List.filter_append]
  by_cases h : ofP id x <;> simp [h]
/-- The bytes of one kind of action. -/
def byP (id n : Int) (x : En) : Bool := x.kd == 3 && (x.id == id && x.nn == n)
def byF (l : List En) (id n : Int) : List UInt8 := (l.filter (byP id n)).flatMap En.dt
theorem byF_snoc (l : List En) (x : En) (id n : Int) : byF (l ++ [x]) id n = if byP id n x then byF l id n ++ x.dt else byF l id n := by
  unfold byF
  rw [List.filter_append]
  by_cases h : byP id n x <;> simp [h]

/-- Iterations: groups, each begun by a turn. -/
structure Gs (l : List En) (gs : List (List En)) : Prop where
  fl : gs.flatten = l
  ne : ∀ g ∈ gs, g ≠ []
  k0 : ∀ (i k : Nat) (g : List En) (x : En), gs[i]? = some g → g[k]? = some x → (k = 0 ↔ (i = 0 ∧ k = 0) ∨ x.kd = 1)
theorem Gs.nil : Gs [] [] := ⟨rfl, fun g h => absurd h (List.not_mem_nil), fun i k g x h => by simp at h⟩
theorem Gs.new {l : List En} {gs : List (List En)} (h : Gs l gs) (x : En) (hx : x.kd = 1 ∨ gs = []) : Gs (l ++ [x]) (gs ++ [[x]]) := by
  refine ⟨by simp [h.fl], fun g hg => ?_, fun i k g y hi hk => ?_⟩
  · rcases List.mem_append.1 hg with hg | hg
    · exact h.ne g hg
    · rw [List.mem_singleton.1 hg]; simp
  · by_cases hlt : i < gs.length
    · rw [List.getElem?_append_left hlt] at hi
      exact h.k0 i k g y hi hk
    · have hi2 : i = gs.length := by
        have := (List.getElem?_eq_some_iff.1 hi).1
        simp at this; omega
      subst hi2
      simp at hi
      subst hi
      cases k with
      | zero =>
        simp at hk
        subst hk
        constructor
        · intro _
          rcases hx with hx | hx
          · exact .inr hx
          · exact .inl ⟨by simp [hx], rfl⟩
        · intro _; rfl
      | succ k => simp at hk
theorem Gs.more {l : List En} {gs : List (List En)} {g : List En} (h : Gs l (gs ++ [g])) (x : En) (hx : x.kd ≠ 1) : Gs (l ++ [x]) (gs ++ [g ++ [x]]) := by
  have hg : g ≠ [] := h.ne g (by simp)
  refine ⟨by have := h.fl; simp at this ⊢; rw [← this]; simp, fun g' hg' => ?_, fun i k g' y hi hk => ?_⟩
  · rcases List.mem_append.1 hg' with hg' | hg'
    · exact h.ne g' (by simp [hg'])
    · rw [List.mem_singleton.1 hg']; simp
  · by_cases hlt : i < gs.length
    · rw [List.getElem?_append_left hlt] at hi
      exact h.k0 i k g' y (by rw [List.getElem?_append_left hlt]; exact hi) hk
    · have hi2 : i = gs.length := by
        have := (List.getElem?_eq_some_iff.1 hi).1
        simp at this; omega
      subst hi2
      simp at hi
      subst hi
      by_cases hk2 : k < g.length
      · rw [List.getElem?_append_left hk2] at hk
        exact h.k0 gs.length k g y (by simp) hk
      · have hk3 : k = g.length := by
          have := (List.getElem?_eq_some_iff.1 hk).1
          simp at this; omega
        subst hk3
        simp at hk
        subst hk
        have hl : 0 < g.length := List.length_pos_iff.2 hg
        constructor
        · intro h0; omega
        · rintro (⟨_, h0⟩ | h0)
          · omega
          · exact absurd h0 hx
/-- The place in the list of the k-th of the i-th group. -/
theorem flatten_at {α : Type} : ∀ (gs : List (List α)) (i k : Nat) (g : List α) (x : α), gs[i]? = some g → g[k]? = some x → gs.flatten[(gs.take i).flatten.length + k]? = some x
  | [], i, k, g, x, h, _ => by simp at h
  | u :: gs, 0, k, g, x, h, hk => by
    simp at h
    subst h
    simp only [List.take_zero, List.flatten_nil, List.length_nil, Nat.zero_add, List.flatten_cons]
    rw [List.getElem?_append_left (List.getElem?_eq_some_iff.1 hk).1]
    exact hk
  | u :: gs, i + 1, k, g, x, h, hk => by
    have := flatten_at gs i k g x (by simpa using h) hk
    simp only [List.take_succ_cons, List.flatten_cons, List.length_append]
    rw [List.getElem?_append_right (by omega)]
    rw [show u.length + (List.take i gs).flatten.length + k - u.length = (List.take i gs).flatten.length + k by omega]
    exact this
theorem flatten_take {α : Type} (gs : List (List α)) (i : Nat) (g : List α) (h : gs[i]? = some g) : (gs.take (i + 1)).flatten.length = (gs.take i).flatten.length + g.length := by
  rw [List.take_add_one, h]
  simp
/-- How great a list is. -/
def grt (l : List En) : Nat := (l.map fun x => 10 + x.dt.length).sum
theorem grt_snoc (l : List En) (x : En) : grt (l ++ [x]) = grt l + (10 + x.dt.length) := by simp [grt]
end Go.Proofs.YtbanfkpfijcmcaaGreatDoor

namespace Go.Proofs.YtbanfkpfijcmcaaGreatDoor
open Go.RowKit
set_option linter.unusedSimpArgs false
set_option linter.unusedVariables false
set_option maxRecDepth 100000

theorem add_plain (b off k : Nat) : (⟨b, off, none⟩ : Addr).add k = ⟨b, off + k, none⟩ := by
  unfold Addr.add; split
  · rename_i h; subst h; rfl
  · rfl
theorem new_block (w : World) (o : Obj) : (w.alloc o).heap[w.heap.size]? = some o := Go.heap_alloc_new w o
theorem cell_of {w : World} {b : Nat} {cs : Array Value} {T : TypeId} (h : w.heap[b]? = some (.cells cs T (0, 0))) (j : Nat) : w.cell? ⟨b, j, none⟩ = cs[j]? ∧ w.frozen? ⟨b, j, none⟩ = false := by
  unfold World.cell? World.frozen?
  simp only [h]
  exact ⟨by cases cs[j]? <;> rfl, by simp⟩
theorem below_drewN {B : Nat} {a w : World} (h : Below B a w) (n : Nat) : Below B a (w.drewN n) := ⟨h.os, h.tape, h.output, h.size, h.block⟩

/-- Bytes in a slice. -/
def DataAt (w : World) (dv : Value) (d : List UInt8) : Prop := ∃ A c, dv = .slice A d.length c ∧ d.length ≤ c ∧ c ≤ maxLen ∧ (A = none → d.length = 0 ∧ c = 0) ∧
  (0 < d.length → ∃ b off, A = some ⟨b, off, none⟩ ∧ b < w.heap.size ∧ ∀ j u, d[j]? = some u → w.cell? ⟨b, off + j, none⟩ = some (.int .u8 (u.toNat : Int)))
theorem DataAt.below {w w' : World} {dv : Value} {d : List UInt8} (h : DataAt w dv d) (hb : Below w.heap.size w w') : DataAt w' dv d := by
  obtain ⟨A, c, e, h1, h2, hn, h3⟩ := h
  refine ⟨A, c, e, h1, h2, hn, fun h0 => ?_⟩
  obtain ⟨b, off, hA, hlt, hc⟩ := h3 h0
  exact ⟨b, off, hA, Nat.lt_of_lt_of_le hlt hb.size, fun j u hj => (hb.cell (p := ⟨b, off + j, none⟩) hlt).trans (hc j u hj)⟩

/-- An entry, and the slice of its bytes. -/
structure Ex where
  e : En
  dv : Value
def encX (x : Ex) : List Value := [.int .i64 x.e.kd, .int .u64 x.e.tk, .int .i64 x.e.id, .int .i64 x.e.fl, .int .i64 x.e.nn, .int .i64 x.e.er, x.dv]
def agX (x : Ex) : Value := .agg #[.int .i64 x.e.kd, .int .u64 x.e.tk, .int .i64 x.e.id, .int .i64 x.e.fl, .int .i64 x.e.nn, .int .i64 x.e.er, x.dv]
def ents (xs : List Ex) : List En := xs.map Ex.e
/-- Entries in a slice. -/
def EntsAt (w : World) (v : Value) (xs : List Ex) : Prop := ∃ A c, v = .slice A xs.length c ∧ xs.length ≤ c ∧ c ≤ maxLen ∧
  ∀ i x, xs[i]? = some x → (∃ b off, A = some ⟨b, off, none⟩ ∧ b < w.heap.size ∧ ∀ j, j < 7 → w.cell? ⟨b, off + i * 7 + j, none⟩ = (encX x)[j]?) ∧ DataAt w x.dv x.e.dt
theorem EntsAt.below {w w' : World} {v : Value} {xs : List Ex} (h : EntsAt w v xs) (hb : Below w.heap.size w w') : EntsAt w' v xs := by
  obtain ⟨A, c, e, h1, h2, h3⟩ := h
  refine ⟨A, c, e, h1, h2, fun i x hx => ?_⟩
  obtain ⟨⟨b, off, hA, hlt, hc⟩, hd⟩ := h3 i x hx
  exact ⟨⟨b, off, hA, Nat.lt_of_lt_of_le hlt hb.size, fun j hj => (hb.cell (p := ⟨b, off + i * 7 + j, none⟩) hlt).trans (hc j hj)⟩, hd.below hb⟩
/-- The cells of one. -/
theorem EntsAt.one {w : World} {v : Value} {xs : List Ex} (h : EntsAt w v xs) : ∃ A c, v = .slice A xs.length c ∧ xs.length ≤ c ∧ c ≤ maxLen ∧ ∀ k, k < xs.length → ∃ (x : Ex) (b off : Nat), xs[k]? = some x ∧ A = some ⟨b, off, none⟩ ∧ DataAt w x.dv x.e.dt ∧
    ∀ W : World, Below w.heap.size w W → W.cell? ⟨b, off + k * 7, none⟩ = some (.int .i64 x.e.kd) ∧ W.cell? ⟨b, off + k * 7 + 1, none⟩ = some (.int .u64 x.e.tk) ∧ W.cell? ⟨b, off + k * 7 + 2, none⟩ = some (.int .i64 x.e.id) ∧ W.cell? ⟨b, off + k * 7 + 3, none⟩ = some (.int .i64 x.e.fl) ∧ W.cell? ⟨b, off + k * 7 + 4, none⟩ = some (.int .i64 x.e.nn) ∧ W.cell? ⟨b, off + k * 7 + 5, none⟩ = some (.int .i64 x.e.er) ∧ W.cell? ⟨b, off + k * 7 + 6, none⟩ = some x.dv := by
  obtain ⟨A, c, e, h1, h2, h3⟩ := h
  refine ⟨A, c, e, h1, h2, fun k hk => ?_⟩
  obtain ⟨⟨b, off, hA, hlt, hc⟩, hd⟩ := h3 k _ (List.getElem?_eq_getElem hk)
  refine ⟨_, b, off, List.getElem?_eq_getElem hk, hA, hd, fun W hb => ?_⟩
  have key := fun j hj => (hb.cell (p := ⟨b, off + k * 7 + j, none⟩) hlt).trans (hc j hj)
  exact ⟨key 0 (by omega), key 1 (by omega), key 2 (by omega), key 3 (by omega), key 4 (by omega), key 5 (by omega), key 6 (by omega)⟩
/-- The values of a row of entries. -/
def flatX (l : List Ex) : List Value := l.flatMap encX
theorem flatX_len (l : List Ex) : (flatX l).length = l.length * 7 := by
  induction l with
  | nil => rfl
  | cons a r ih => simp only [flatX, List.flatMap_cons, List.length_append, List.length_cons] at ih ⊢; rw [ih]; simp [encX]; omega
theorem flatX_append (l m : List Ex) : flatX (l ++ m) = flatX l ++ flatX m := List.flatMap_append ..
theorem flatX_get (l : List Ex) (k j : Nat) (hj : j < 7) (t : Ex) (h : l[k]? = some t) : (flatX l)[k * 7 + j]? = (encX t)[j]? := by
  induction l generalizing k with
  | nil => simp at h
  | cons a r ih =>
    have e : flatX (a :: r) = encX a ++ flatX r := rfl
    rw [e]
    cases k with
    | zero =>
      simp at h; subst h
      rw [Nat.zero_mul, Nat.zero_add, List.getElem?_append_left (by simp [encX]; omega)]
    | succ k =>
      rw [List.getElem?_append_right (by simp [encX]; omega)]
      have : (k + 1) * 7 + j - (encX a).length = k * 7 + j := by simp [encX]; omega
      rw [this]
      exact ih k (by simpa using h)
theorem ents_own {w : World} {base : Nat} {v : Value} {l : List Ex} (h : w.ownsRow base 28 7 v l.length (flatX l)) (hd : ∀ x ∈ l, DataAt w x.dv x.e.dt) : EntsAt w v l := by
  rcases h.2 with ⟨rfl, hn⟩ | ⟨g, cap, cur, rfl, hb, hh, hc, hm, hs, ht⟩
  · refine ⟨none, 0, by rw [hn], by omega, Nat.zero_le _, fun k t hk => ?_⟩
    rw [List.eq_nil_of_length_eq_zero hn] at hk
    simp at hk
  · refine ⟨_, cap, rfl, hc, hm, fun k t hk => ⟨⟨g, 0, rfl, lt_of_block hh, fun j hj => ?_⟩, hd t (List.mem_of_getElem? hk)⟩⟩
    have hkl : k < l.length := (List.getElem?_eq_some_iff.1 hk).1
    rw [← flatX_get l k j hj t hk, ← ht, List.getElem?_take_of_lt (by omega), (cell_of hh _).1]
    simp
theorem row_same {w w' : World} {base : Nat} {e : TypeId} {s : Nat} {v : Value} {n : Nat} {xs : List Value} (h : w.ownsRow base e s v n xs) (hk : ∀ b, v.ownBlock = some b → w'.heap[b]? = w.heap[b]?) : w'.ownsRow base e s v n xs := by
  refine ⟨h.1, ?_⟩
  rcases h.2 with h0 | ⟨g, cap, cur, rfl, hb, hg, h1⟩
  · exact .inl h0
  · exact .inr ⟨g, cap, cur, rfl, hb, (hk g rfl).trans hg, h1⟩
theorem row_keep {w w' : World} {base : Nat} {e : TypeId} {s : Nat} {v : Value} {n : Nat} {xs : List Value} (h : w.ownsRow base e s v n xs) (hb : Below w.heap.size w w') : w'.ownsRow base e s v n xs := row_same h (fun b e => hb.block b (h.lt _ e).2)

/-- 'string(bytes)'. -/
theorem DataAt.str {w : World} {dv : Value} {d : List UInt8} (h : DataAt w dv d) : (convert 26 9 dv).run Tryz.prog w = .ok (.string ⟨d.toArray⟩) w := by
  obtain ⟨A, c, rfl, h1, h2, hn, h3⟩ := h
  cases d with
  | nil =>
    cases A with
    | none => exact run_convert_bytes_nil w 26 5 Tryz.underlying26 Tryz.underlying5 _ _ 9 Tryz.underlying9
    | some a => exact run_convert_bytes_back w 26 9 5 a c [] Tryz.underlying26 Tryz.underlying5 Tryz.underlying9 (fun j hj => absurd hj (Nat.not_lt_zero _))
  | cons u r =>
    obtain ⟨b, off, rfl, _, hc⟩ := h3 (by simp)
    exact run_convert_bytes_back w 26 9 5 ⟨b, off, none⟩ c (u :: r) Tryz.underlying26 Tryz.underlying5 Tryz.underlying9 (fun j hj => by rw [add_plain]; exact hc j _ (List.getElem?_eq_getElem hj))
theorem str_toL (l : List UInt8) : (⟨l.toArray⟩ : ByteArray).toList = l := by rw [ByteArray.toList_eq]

/-! ### Equal -/
set_option maxHeartbeats 1000000 in
theorem equal_any (w : World) (u v : Value) (d1 d2 : List UInt8) (hu : DataAt w u d1) (hv : DataAt w v d2) :
    Calls Tryz.prog 40 #[u, v] w fun e w' => e = .returned (.bool (d1 == d2)) ∧ Below w.heap.size w w' := by
  obtain ⟨A, c, rfl, hlc, hcm, -, hcu⟩ := hu
  obtain ⟨A', c', rfl, hlc', hcm', -, hcv⟩ := hv
  unfold maxLen at hcm hcm'
  by_cases hlen : d1.length = d2.length
  · have HC := Lib.hid hcu; have HD := Lib.hid hcv
    rw [← hlen] at hlc' ⊢
    rw [← hlen] at HD
    have HL := Lib.hid hlen
    have HT : Hid (d1.take d1.length = d1 ∧ d2.take d1.length = d2) := Lib.hid ⟨List.take_length .., by rw [hlen, List.take_length]⟩
    clear hcu hcv hlen
    have HM : Hid (d1.length = d1.length) := Lib.hid rfl
    generalize hM : d1.length = n at *
    replace HM := Lib.hid hM
    clear hM
    go_enter Tryz.func40, Tryz.ntmps40
    go_wp2_with fail
    go_loopw [13] (fun i wr => ∃ k : Nat, k ≤ n ∧ i = .int .i64 k ∧ Below w.heap.size w wr ∧ d1.take k = d2.take k) (fun i _ => n - (intOf i).toNat)
    case atStart => exact ⟨0, Nat.zero_le _, rfl, Below.refl _ _, rfl⟩
    case round =>
      obtain ⟨wq, rfl⟩ : ∃ wq : World, wq = wr := ⟨_, rfl⟩
      obtain ⟨k, hk, rfl, hB, htk⟩ := hrel
      by_cases hkn : k < n
      · have hk1 : k < d1.length := by rw [HM.out]; exact hkn
        have hk2 : k < d2.length := by rw [← HL.out]; exact hkn
        obtain ⟨b, off, rfl, hb, hW⟩ := HC.out (by omega)
        obtain ⟨b', off', rfl, hb', hW'⟩ := HD.out (by omega)
        have c0 := (hB.cell (p := ⟨b, off + k, none⟩) hb).trans (hW k _ (List.getElem?_eq_getElem hk1))
        have d0 := (hB.cell (p := ⟨b', off' + k, none⟩) hb').trans (hW' k _ (List.getElem?_eq_getElem hk2))
        have hkn' : (k : Int) < (n : Int) := by omega
        have hs1 : d1.take (k + 1) = d1.take k ++ [d1[k]] := List.take_succ_eq_append_getElem hk1
        have hs2 : d2.take (k + 1) = d2.take k ++ [d2[k]] := List.take_succ_eq_append_getElem hk2
        have hne : d1[k] ≠ d2[k] → (d1 == d2) = false := fun h => by
          rw [beq_eq_false_iff_ne]; intro e; subst e; exact h rfl
        have HS1 := Lib.hid hs1; have HS2 := Lib.hid hs2; have HTK := Lib.hid htk; have HNE := Lib.hid hne
        clear hW hW' hs1 hs2 htk hne
        generalize d1[k] = x at *
        generalize d2[k] = y at *
        by_cases he : x = y
        · subst he
          go_wp2_with fail
          go_quiet (fail)
          go_wp2_with fail
          go_roundw
          case rel => exact ⟨k + 1, by omega, by go_num, below_drewN hB _, by rw [HS1.out, HS2.out, HTK.out]⟩
          case measure => simp [intOf]; omega
        · have hz : (((x.toNat : Nat) : Int) != ((y.toNat : Nat) : Int)) = true := by
            rw [bne_iff_ne]; intro e; exact he (UInt8.toNat_inj.1 (by omega))
          go_wp2_with fail
          go_quiet (fail)
          go_wp2_with fail
          go_ret
          exact ⟨by rw [HNE.out he]; rfl, below_drewN hB _⟩
      · obtain rfl : k = n := by omega
        have he : (d1 == d2) = true := by
          rw [beq_iff_eq, ← HT.out.1, ← HT.out.2]; exact htk
        go_wp2_with fail
        go_ret
        exact ⟨by rw [he]; rfl, hB⟩
  · have he : (d1 == d2) = false := by rw [beq_eq_false_iff_ne]; intro e; exact hlen (by rw [e])
    rw [he]
    have hz : ((d1.length : Int) != (d2.length : Int)) = true := by rw [bne_iff_ne]; intro e; exact hlen (by omega)
    clear hcu hcv he
    generalize d1.length = n at *
    generalize d2.length = m at *
    go_enter Tryz.func40, Tryz.ntmps40
    go_wp2_with fail
    go_ret
    exact ⟨rfl, Below.refl _ _⟩
end Go.Proofs.YtbanfkpfijcmcaaGreatDoor

namespace Go.Proofs.YtbanfkpfijcmcaaGreatDoor
open Go.RowKit
set_option linter.unusedSimpArgs false
set_option linter.unusedVariables false
set_option maxRecDepth 100000

/-- The box of an entry. -/
def XBx (W : World) (b : Nat) (x : Ex) : Prop := W.heap[b]? = some (.cells #[.int .i64 x.e.kd, .int .u64 x.e.tk, .int .i64 x.e.id, .int .i64 x.e.fl, .int .i64 x.e.nn, .int .i64 x.e.er, x.dv] 28 (0, 0))
theorem XBx.cells {W : World} {b : Nat} {x : Ex} (h : XBx W b x) : W.cell? ⟨b, 0, none⟩ = some (.int .i64 x.e.kd) ∧ W.cell? ⟨b, 1, none⟩ = some (.int .u64 x.e.tk) ∧ W.cell? ⟨b, 2, none⟩ = some (.int .i64 x.e.id) ∧ W.cell? ⟨b, 3, none⟩ = some (.int .i64 x.e.fl) ∧ W.cell? ⟨b, 4, none⟩ = some (.int .i64 x.e.nn) ∧ W.cell? ⟨b, 5, none⟩ = some (.int .i64 x.e.er) ∧ W.cell? ⟨b, 6, none⟩ = some x.dv := by
  have hc := cell_of h
  have c0 := (hc 0).1; have c1 := (hc 1).1; have c2 := (hc 2).1; have c3 := (hc 3).1; have c4 := (hc 4).1; have c5 := (hc 5).1; have c6 := (hc 6).1
  simp at c0 c1 c2 c3 c4 c5 c6
  exact ⟨c0, c1, c2, c3, c4, c5, c6⟩
theorem XBx.below {W W' : World} {b : Nat} {x : Ex} (h : XBx W b x) (hb : Below W.heap.size W W') : XBx W' b x := (hb.block _ (lt_of_block h)).trans h

set_option maxHeartbeats 4000000 in
theorem one_any (w : World) (x y : Ex) (hx : DataAt w x.dv x.e.dt) (hy : DataAt w y.dv y.e.dt) :
    Calls Tryz.prog 28 #[agX x, agX y] w fun e w' => e = .returned (.bool (oneF x.e y.e)) ∧ Below w.heap.size w w' := by
  unfold agX
  have B2 : Hid (Below w.heap.size w ((w.alloc (.cells #[.int .i64 x.e.kd, .int .u64 x.e.tk, .int .i64 x.e.id, .int .i64 x.e.fl, .int .i64 x.e.nn, .int .i64 x.e.er, x.dv] 28)).alloc (.cells #[.int .i64 y.e.kd, .int .u64 y.e.tk, .int .i64 y.e.id, .int .i64 y.e.fl, .int .i64 y.e.nn, .int .i64 y.e.er, y.dv] 28))) := Lib.hid (((Below.refl _ w).alloc (Nat.le_refl _) _).alloc (by simp) _)
  have HE := Lib.hid (equal_any _ x.dv y.dv x.e.dt y.e.dt (hx.below B2.out) (hy.below B2.out))
  clear hx hy
  obtain ⟨⟨a1, a2, a3, a4, a5, a6, ad⟩, av⟩ := x
  obtain ⟨⟨b1, b2, b3, b4, b5, b6, bd⟩, bv⟩ := y
  simp only at HE B2 ⊢
  unfold oneF
  simp only
  cases e1 : (a1 == b1)
  case' true =>
    cases e2 : (a2 == b2)
    case' true =>
      cases e3 : (a3 == b3)
      case' true =>
        cases e4 : (a4 == b4)
        case' true =>
          cases e5 : (a5 == b5)
          case' true =>
            cases e6 : (a6 == b6)
  all_goals
    first
      | (go_enter Tryz.func28, Tryz.ntmps28
         go_wp2_with fail
         refine HE.out.mono ?_
         rintro e w1 ⟨rfl, bb⟩
         go_wp2_with fail
         go_ret
         exact ⟨rfl, B2.out.trans (bb.mono B2.out.size)⟩)
      | (clear HE
         go_enter Tryz.func28, Tryz.ntmps28
         go_wp2_with fail
         go_ret
         exact ⟨rfl, B2.out⟩)

set_option maxHeartbeats 4000000 in
theorem rone_any (w : World) (x y : Ex) (hx : DataAt w x.dv x.e.dt) (hy : DataAt w y.dv y.e.dt) :
    Calls Tryz.prog 64 #[agX x, agX y] w fun e w' => e = .returned (.bool (oneF x.e y.e)) ∧ Below w.heap.size w w' := by
  unfold agX
  have B2 : Hid (Below w.heap.size w ((w.alloc (.cells #[.int .i64 x.e.kd, .int .u64 x.e.tk, .int .i64 x.e.id, .int .i64 x.e.fl, .int .i64 x.e.nn, .int .i64 x.e.er, x.dv] 28)).alloc (.cells #[.int .i64 y.e.kd, .int .u64 y.e.tk, .int .i64 y.e.id, .int .i64 y.e.fl, .int .i64 y.e.nn, .int .i64 y.e.er, y.dv] 28))) := Lib.hid (((Below.refl _ w).alloc (Nat.le_refl _) _).alloc (by simp) _)
  have sx := (hx.below B2.out).str
  have sy := (hy.below B2.out).str
  have tx := str_toL x.e.dt
  have ty := str_toL y.e.dt
  clear hx hy
  obtain ⟨⟨a1, a2, a3, a4, a5, a6, ad⟩, av⟩ := x
  obtain ⟨⟨b1, b2, b3, b4, b5, b6, bd⟩, bv⟩ := y
  simp only at sx sy tx ty B2 ⊢
  unfold oneF
  simp only
  cases e1 : (a1 == b1)
  case' true =>
    cases e2 : (a2 == b2)
    case' true =>
      cases e3 : (a3 == b3)
      case' true =>
        cases e4 : (a4 == b4)
        case' true =>
          cases e5 : (a5 == b5)
          case' true =>
            cases e6 : (a6 == b6)
  all_goals
    go_enter Tryz.func64, Tryz.ntmps64
    go_wp2_with fail
    go_ret
    exact ⟨by first | rfl | simp, B2.out⟩
end Go.Proofs.YtbanfkpfijcmcaaGreatDoor
