/- The lists that came in. -/
import Derived.Test.YtbanfkpfijcmcaaGreatDoorPt
import Derived.Test.YtbanfkpfijcmcaaGreatDoorRows
import Derived.Deep.Slices
namespace Go.Proofs.YtbanfkpfijcmcaaGreatDoor
open Go.ChangeShapes Go.WideShapes Go.ChangeAt Go.RowKit
set_option linter.unusedSimpArgs false
set_option linter.unusedVariables false
set_option maxRecDepth 100000

def Nz (v : Value) : Prop := ∀ n c, v = .slice none n c → n = 0 ∧ c = 0
theorem list7 {α : Type} (l : List α) (h : l.length = 7) : ∃ a b c d e f g, l = [a, b, c, d, e, f, g] := by
  match l, h with
  | [a, b, c, d, e, f, g], _ => exact ⟨a, b, c, d, e, f, g, rfl⟩
theorem cells3 : Tryz.prog.cellsOf 3 = 1 := by kernel_rfl
theorem cells26 : Tryz.prog.cellsOf 25 = 1 := by kernel_rfl
theorem cells24 : Tryz.prog.cellsOf 23 = 1 := by kernel_rfl
theorem cells27 : Tryz.prog.cellsOf 26 = 1 := by kernel_rfl
theorem cells29 : Tryz.prog.cellsOf 28 = 7 := by kernel_rfl
theorem bulk_one {H : Type} (d : DataW H) : 1 ≤ Rows.uptoBulk d := by
  cases d with
  | lit l => cases l <;> simp [Rows.uptoBulk]
  | nil => simp [Rows.uptoBulk]
  | ptr d => simp [Rows.uptoBulk]
  | slice elems spare => simp [Rows.uptoBulk]
  | agg parts => simp [Rows.uptoBulk]
  | iface t d => simp [Rows.uptoBulk]
  | map entries => simp [Rows.uptoBulk]
  | held h => simp [Rows.uptoBulk]
theorem bulk_len {H : Type} (l : List (DataW H)) : l.length ≤ Rows.uptoBulkAll l := by
  induction l with
  | nil => simp [Rows.uptoBulkAll]
  | cons x r ih => have := bulk_one x; simp only [Rows.uptoBulkAll, List.length_cons]; omega
theorem bulk_seven {H : Type} (l : List (DataW H)) (h : l.length = 7) (d : DataW H) (h6 : l[6]? = some d) : Rows.uptoBulk d + 7 ≤ Rows.uptoBulk (.agg l) := by
  obtain ⟨a, b, c, d', e, f, g, rfl⟩ := list7 l h
  simp at h6
  subst h6
  simp only [Rows.uptoBulk, Rows.uptoBulkAll]
  have := bulk_one a; have := bulk_one b; have := bulk_one c; have := bulk_one d'; have := bulk_one e; have := bulk_one f
  omega
theorem i64_of {z : Int} (h : (Lit.int .i64 z).wf = true) : i64ok z := by
  have : -9223372036854775808 ≤ z ∧ z ≤ 9223372036854775807 := by simpa [Lit.wf, IntKind.min, IntKind.max, IntKind.signed, IntKind.bits] using h
  exact this
theorem u64_of {z : Int} (h : (Lit.int .u64 z).wf = true) : 0 ≤ z ∧ z < 18446744073709551616 := by
  have : 0 ≤ z ∧ z ≤ 18446744073709551615 := by simpa [Lit.wf, IntKind.min, IntKind.max, IntKind.signed, IntKind.bits] using h
  omega
theorem byte_back {z : Int} (h : (Lit.int .u8 z).wf = true) : (((UInt8.ofNat z.toNat).toNat : Nat) : Int) = z := by
  have hz : 0 ≤ z ∧ z ≤ 255 := by simpa [Lit.wf, IntKind.min, IntKind.max, IntKind.signed, IntKind.bits] using h
  rw [UInt8.toNat_ofNat']
  omega

section
variable {H : Type} {enc : TypeId × Value → H} {w : World} {base : Nat} {held : Bool}
theorem open_data {n : Nat} {v : Value} {x : DataW H × List MemPlace} (h : DataW.trod enc Tryz.prog w base (fun _ => true) held n 26 [v] = some x) : ∃ d : List UInt8, DataAt w v d ∧ d.length + 1 ≤ Rows.uptoBulk x.1 := by
  rcases open_ints Tryz.underlying26 Tryz.underlying5 (by kernel_rfl) h with ⟨hcs, hx⟩ | ⟨a, l, c, zs, hcs, _, hl, hm, hz, hx, hcell, hwz⟩
  · simp at hcs
    subst hcs
    exact ⟨[], ⟨none, 0, rfl, Nat.le_refl _, Nat.zero_le _, fun _ => ⟨rfl, rfl⟩, fun h => absurd h (Nat.lt_irrefl _)⟩, by rw [hx]; simp [Rows.uptoBulk]⟩
  · simp at hcs hz
    subst hcs
    have hlz : (zs.take l).length = l := by simp; omega
    refine ⟨(zs.take l).map fun z => UInt8.ofNat z.toNat, ⟨some a, c, by simp; omega, by simp; omega, hm, (fun e => by cases e), fun h0 => ?_⟩, ?_⟩
    · rw [List.length_map, hlz] at h0
      have h00 := hcell 0 (by omega)
      obtain ⟨hb, hs⟩ := cell_lt h00
      obtain ⟨b, off, spot⟩ := a
      simp [Addr.add] at hb hs
      subst hs
      refine ⟨b, off, rfl, hb, fun j u hj => ?_⟩
      rw [List.getElem?_map] at hj
      obtain ⟨z, hz1, rfl⟩ := Option.map_eq_some_iff.1 hj
      have hjl : j < l := by have := (List.getElem?_eq_some_iff.1 hz1).1; omega
      rw [List.getElem?_take_of_lt hjl] at hz1
      have := hcell j (by omega)
      rw [add_plain, List.getD_eq_getElem?_getD, hz1] at this
      rw [this, byte_back (hwz z (List.mem_of_getElem? hz1))]
      rfl
    · rw [hx]
      simp only [Rows.uptoBulk]
      have := bulk_len (lits (H := H) .u8 (zs.take l))
      simp [lits] at this ⊢
      omega
theorem open_ent {n : Nat} {cs : List Value} {x : DataW H × List MemPlace} (h : DataW.trod enc Tryz.prog w base (fun _ => true) held n 28 cs = some x) : ∃ o : Ex, cs = encX o ∧ DataAt w o.dv o.e.dt ∧ 10 + o.e.dt.length ≤ 2 * Rows.uptoBulk x.1 ∧ EnOk o.e := by
  obtain ⟨xs, n', _, hx0, hlen, hxl, hf⟩ := DataW.trod_struct Tryz.underlying28 h
  rw [cells29] at hlen
  obtain ⟨c0, c1, c2, c3, c4, c5, c6, rfl⟩ := list7 cs hlen
  have hx : ∀ i, i < 7 → xs[i]? = some (xs[i]?.getD (.nil, [])) := by
    intro i hi
    have : i < xs.length := by rw [hxl]; exact hi
    rw [List.getElem?_eq_getElem this]; rfl
  have h0 := (hf 0 _ rfl).trans (hx 0 (by omega))
  have h1 := (hf 1 _ rfl).trans (hx 1 (by omega))
  have h2 := (hf 2 _ rfl).trans (hx 2 (by omega))
  have h3 := (hf 3 _ rfl).trans (hx 3 (by omega))
  have h4 := (hf 4 _ rfl).trans (hx 4 (by omega))
  have h5 := (hf 5 _ rfl).trans (hx 5 (by omega))
  have h6 := (hf 6 _ rfl).trans (hx 6 (by omega))
  simp only [List.getElem_toArray, List.getElem_cons_zero, List.getElem_cons_succ, cells3, cells26, cells24, cells27, List.drop_zero, List.drop_succ_cons, List.take_succ_cons, List.take_zero] at h0 h1 h2 h3 h4 h5 h6
  obtain ⟨a0, e0, _, w0⟩ := DataW.trod_int Tryz.underlying3 h0
  obtain ⟨a1, e1, _, w1⟩ := DataW.trod_int Tryz.underlying25 h1
  obtain ⟨a2, e2, _, w2⟩ := DataW.trod_int Tryz.underlying3 h2
  obtain ⟨a3, e3, _, w3⟩ := DataW.trod_int Tryz.underlying3 h3
  obtain ⟨a4, e4, _, w4⟩ := DataW.trod_int Tryz.underlying3 h4
  obtain ⟨a5, e5, _, w5⟩ := DataW.trod_int Tryz.underlying23 h5
  obtain ⟨d, hd, hb⟩ := open_data h6
  simp at e0 e1 e2 e3 e4 e5
  subst e0 e1 e2 e3 e4 e5
  refine ⟨⟨⟨a0, a1, a2, a3, a4, a5, d⟩, c6⟩, rfl, hd, ?_, ⟨i64_of w0, u64_of w1, i64_of w2, i64_of w3, i64_of w4, i64_of w5⟩⟩
  have hl7 : (xs.map (·.1)).length = 7 := by rw [List.length_map, hxl]; rfl
  have h66 : (xs.map (·.1))[6]? = some (xs[6]?.getD (.nil, [])).1 := by rw [List.getElem?_map, hx 6 (by omega)]; rfl
  have hseven := bulk_seven (xs.map (·.1)) hl7 _ h66
  rw [show x.1 = .agg (xs.map (·.1)) by rw [hx0]]
  simp only
  omega
theorem grt_bulk (O : Nat → Ex) (D : Nat → DataW H) : ∀ l : List Nat, (∀ i ∈ l, 10 + (O i).e.dt.length ≤ 2 * Rows.uptoBulk (D i)) → grt (ents (l.map O)) ≤ 2 * Rows.uptoBulkAll (l.map D)
  | [], _ => by simp [grt, ents]
  | i :: r, h => by
    have h1 := grt_bulk O D r (fun j hj => h j (List.mem_cons_of_mem _ hj))
    have h2 := h i List.mem_cons_self
    simp only [grt, ents, List.map_cons, List.sum_cons, Rows.uptoBulkAll] at h1 ⊢
    omega
theorem open_ents {v : Value} {d : DataW H} {p : List MemPlace} {r : Reach} {b0 : Nat} (hv : Value.okWide Tryz.prog w r b0 29 v) (h : DataW.Trod enc Tryz.prog w base (fun _ => true) held 29 v d p) :
    ∃ xs : List Ex, EntsAt w v xs ∧ grt (ents xs) ≤ 2 * Rows.uptoBulk d ∧ Nz v ∧ ∀ x ∈ ents xs, EnOk x := by
  obtain ⟨a, len, cap, rfl⟩ := okWide_slice Tryz.underlying29 hv
  obtain ⟨fuel, hf⟩ := h
  rcases Deep.open_slice Tryz.underlying29 hf with ⟨hcs, _⟩ | ⟨ad, l, c, m, n, D, Pl, hcs, _, hl, hm, hmm, hx, hi⟩
  · simp [Value.cells] at hcs
    obtain ⟨rfl, rfl, rfl⟩ := hcs
    exact ⟨[], ⟨none, 0, rfl, Nat.le_refl _, Nat.zero_le _, fun i x hx => by simp at hx⟩, by simp [grt, ents], (fun n c e => by cases e; exact ⟨rfl, rfl⟩), by simp [ents]⟩
  · simp [Value.cells] at hcs
    obtain ⟨rfl, rfl, rfl⟩ := hcs
    have hlm : len ≤ m := by rw [hmm]; split <;> omega
    have ex : ∀ i, ∃ o : Ex, i < len → DataAt w o.dv o.e.dt ∧ 10 + o.e.dt.length ≤ 2 * Rows.uptoBulk (D i) ∧ EnOk o.e ∧ ∀ j, j < 7 → w.cell? ((ad.add (i * 7)).add j) = (encX o)[j]? := by
      intro i
      by_cases hil : i < len
      · obtain ⟨cs', hc, ht⟩ := hi i (by omega)
        rw [cells29] at hc
        obtain ⟨o, rfl, ho, hb, hk⟩ := open_ent ht
        obtain ⟨_, _, hat⟩ := World.cells?_some hc
        exact ⟨o, fun _ => ⟨ho, hb, hk, fun j hj => hat j hj⟩⟩
      · exact ⟨⟨⟨0, 0, 0, 0, 0, 0, []⟩, .slice none 0 0⟩, fun h => absurd h hil⟩
    obtain ⟨O, hO⟩ := Classical.axiomOfChoice ex
    refine ⟨(List.range len).map O, ⟨some ad, cap, by simp, by simp; omega, by omega, fun i x hx => ?_⟩, ?_, (fun n c e => by cases e), ?_⟩
    · rw [List.getElem?_map] at hx
      obtain ⟨k, hk, rfl⟩ := Option.map_eq_some_iff.1 hx
      have hil : i < len := by have := (List.getElem?_eq_some_iff.1 hk).1; simpa using this
      obtain rfl : i = k := by rw [List.getElem?_range hil] at hk; injection hk
      obtain ⟨h1, h2, _, h3⟩ := hO i hil
      have h00 := (hO 0 (by omega)).2.2.2 0 (by omega)
      have hsome : (encX (O 0))[0]? = some (.int .i64 (O 0).e.kd) := rfl
      rw [hsome] at h00
      obtain ⟨hb, hs⟩ := cell_lt h00
      obtain ⟨b, off, spot⟩ := ad
      simp [Addr.add] at hb hs
      subst hs
      refine ⟨⟨b, off, rfl, hb, fun j hj => ?_⟩, h1⟩
      have := h3 j hj
      rw [add_plain, add_plain] at this
      exact this
    · have hb := grt_bulk O D (List.range len) (fun i hil => (hO i (List.mem_range.1 hil)).2.1)
      have e : d = .slice ((List.range len).map D) ((List.range (m - len)).map fun j => D (len + j)) := by
        have := congrArg Prod.fst hx; simpa using this
      rw [e]
      simp only [Rows.uptoBulk]
      omega
    · intro x hx
      unfold ents at hx
      rw [List.map_map] at hx
      obtain ⟨i, hi2, rfl⟩ := List.mem_map.1 hx
      exact (hO i (List.mem_range.1 hi2)).2.2.1
end
end Go.Proofs.YtbanfkpfijcmcaaGreatDoor
