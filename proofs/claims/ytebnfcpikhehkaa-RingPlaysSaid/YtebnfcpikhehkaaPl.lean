/- The law RingPlays. -/
import Derived.Test.YtebnfcpikhehkaaRc
import Derived.Deep.DeepCutAuto
import Derived.Deep.CutBlock
namespace Go.Proofs.Ytebnfcpikhehkaa
open Go.RowKit
set_option linter.unusedSimpArgs false
set_option linter.unusedVariables false
set_option maxRecDepth 100000

/-- append onto a row of the call's own, the source nil or not. -/
theorem wpList_append_any {P : Program} {w : World} {ops : Array Oper} {rest : List Oper} {o : Oper} {a : Act} {Q : Exit → Act → World → Prop} (hgd : o.guard = none) (s x : Operand) (t : TypeId)
    (ho : o.op = .call { callee := .builtin .append, args := #[s, x], argTypes := #[t, t] }) (base : Nat) (e : TypeId) (i : TypeInfo) (z : Value) (size bytes : Nat) (h1 : P.underlying t = some (.slice e)) (h2 : P.info? e = some i) (h3 : i.zero = some z) (h4 : i.size = size) (h5 : i.bytes = bytes) (h6 : z.cells.size = size) (h7 : 0 < size)
    (v : Value) (k : Nat) (xs : List Value) (hs : a.eval s = v) (hown : w.ownsRow base e size v k xs) (A : Option Addr) (m c : Nat) (news : List Value) (hx : a.eval x = .slice A m c) (hn : news.length = m * size) (hz : A = none → m = 0 ∧ c = 0)
    (hc : ∀ ad, A = some ad → ∀ j u, news[j]? = some u → w.cell? (ad.add j) = some u) (h1c : ∀ u ∈ news, u.oneCell' = true) (b1 : k + m ≤ maxLen) (b2 : (k + m) * bytes ≤ 140737488355328) (b3 : base ≤ w.heap.size)
    (hK : ∀ v' w', w'.ownsRow base e size v' (k + m) (xs ++ news) → w.grownBy w' v.ownBlock → wpList P ops Q rest (a.put o.dst v') w') : wpList P ops Q (o :: rest) a w := by
  cases A with
  | none =>
    obtain ⟨rfl, rfl⟩ := hz rfl
    have hnil : news = [] := List.eq_nil_of_length_eq_zero (by rw [hn]; omega)
    subst hnil
    exact wpList_append_own_none hgd s x t ho base e i size h1 h2 v k xs hs hown hx (hK v w (by simpa using hown) (World.grownBy.refl w _))
  | some ad => exact wpList_append_own w hgd s x t ho base e i z size bytes h1 h2 h3 h4 h5 h6 h7 v k xs hs hown ad m c news hx hn (hc ad rfl) h1c b1 b2 b3 (fun v' w' r1 r2 _ => hK v' w' r1 r2)
theorem ints_src {w : World} {A : Option Addr} {zs : List Int} (h : Ints .u8 w A zs) : ∀ ad, A = some ad → ∀ j u, (zs.map (Value.int .u8))[j]? = some u → w.cell? (ad.add j) = some u := by
  intro ad e j u hj
  rw [List.getElem?_map] at hj
  have hjl : j < zs.length := by
    rcases Nat.lt_or_ge j zs.length with h | h
    · exact h
    · rw [List.getElem?_eq_none h] at hj; cases hj
  obtain ⟨b, off, e2, hlt, hc⟩ := h (by omega)
  rw [e] at e2; injection e2 with e2; subst e2
  rw [add_plain, hc j hjl]
  rw [List.getElem?_eq_getElem hjl] at hj
  simp [List.getD, hjl] at hj ⊢
  exact hj
theorem Rr.fr2 {w w' : World} {q M : Nat} {A : Option Addr} {cap : Nat} {L : List Int} {ip op : Nat} {g gb : Nat} (h : Rr w q M A cap L ip op) (f : Fr2 g gb w w') (n1 : q ≠ g) (n2 : q ≠ gb) (hA : ∀ b o s, 0 < L.length → A = some ⟨b, o, s⟩ → b ≠ g ∧ b ≠ gb) : Rr w' q M A cap L ip op := by
  refine ⟨(f.2.2.2.2 _ h.lt n1 n2).trans h.k, ?_, h.c, h.m, h.z⟩
  intro h0
  obtain ⟨b, off, e, hlt, hc⟩ := h.i h0
  obtain ⟨m1, m2⟩ := hA _ _ _ h0 e
  refine ⟨b, off, e, Nat.lt_of_lt_of_le hlt f.2.2.2.1, fun i hi => ?_⟩
  rw [← hc i hi]
  unfold World.cell?
  simp only
  rw [f.2.2.2.2 b hlt m1 m2]

theorem OpsAt.cells2 {w : World} {a : Option Addr} {os : List OpV} (h : OpsAt w a os) (hs : ∀ o ∈ os, o.len ≤ reachBytes ∧ (o.A = none → o.len = 0 ∧ o.cap = 0)) (k : Nat) (hk : k < os.length) : ∃ (b off : Nat) (kd n : Int) (A : Option Addr) (len cap : Nat) (bs : List Int), a = some ⟨b, off, none⟩ ∧ b < w.heap.size ∧
    (∀ W, Below w.heap.size w W → W.cell? ⟨b, off + k * 3, none⟩ = some (.int .i64 kd) ∧ W.cell? ⟨b, off + k * 3 + 1, none⟩ = some (.int .i64 n) ∧ W.cell? ⟨b, off + k * 3 + 2, none⟩ = some (.slice A len cap)) ∧ Ints .u8 w A bs ∧
    bs.length = len ∧ len ≤ cap ∧ cap ≤ maxLen ∧ (∀ x ∈ bs, 0 ≤ x ∧ x < 256) ∧ (Lit.int .i64 n).wf = true ∧ (∀ b o s, 0 < len → A = some ⟨b, o, s⟩ → b < w.heap.size) ∧ len ≤ reachBytes ∧ (A = none → len = 0 ∧ cap = 0) := by
  obtain ⟨b, off, e, hlt, hc⟩ := h (by omega)
  obtain ⟨⟨x1, x2, x3, x4, x5, x6, x7⟩, hcells⟩ := hc k hk
  obtain ⟨s1, s2⟩ := hs _ (List.getElem_mem hk)
  refine ⟨b, off, _, _, _, _, _, _, e, hlt, fun W hb => ⟨(hb.cell (p := ⟨b, off + k * 3, none⟩) hlt).trans (hcells 0 (by omega)), (hb.cell (p := ⟨b, off + k * 3 + 1, none⟩) hlt).trans (hcells 1 (by omega)), (hb.cell (p := ⟨b, off + k * 3 + 2, none⟩) hlt).trans (hcells 2 (by omega))⟩, x6, x3, x4, x5, x7, x2, ?_, s1, s2⟩
  intro b o s h0 e
  obtain ⟨b', o', e', hb, _⟩ := x6 (by omega)
  rw [e] at e'; injection e' with e'; injection e' with e1; omega

/-- The two rings, program's and reference's, are one. -/
structure PlS (w wr : World) (g gb q C : Nat) (A : Option Addr) (cap : Nat) (L : List Int) (ip op : Nat) : Prop where
  r : Rg wr g gb C L ip op
  s : Rr wr q C A cap L ip op
  b : Below w.heap.size w wr
  n : w.heap.size ≤ g ∧ w.heap.size ≤ gb ∧ w.heap.size ≤ q ∧ q ≠ g ∧ q ≠ gb
  a : ∀ b o s, 0 < L.length → A = some ⟨b, o, s⟩ → b ≠ g ∧ b ≠ gb ∧ b ≠ q
  i : ip = op + L.length
theorem PlS.below {w wr w' : World} {g gb q C : Nat} {A : Option Addr} {cap : Nat} {L : List Int} {ip op : Nat} (h : PlS w wr g gb q C A cap L ip op) (hb : Below wr.heap.size wr w') : PlS w w' g gb q C A cap L ip op :=
  ⟨h.r.below hb h.r.lt.1 h.r.lt.2, h.s.below hb, h.b.trans (hb.mono h.b.size), h.n, h.a, h.i⟩

/-- All that is there, looked at. -/
theorem Look_allR (g gb C : Nat) (L : List Int) (ip op : Nat) (m : Nat) (w : World) (h : Rg w g gb C L ip op) (hm : L.length = m) :
    Calls Try.prog 15 #[.pointer (some ⟨g, 0, none⟩), .int .i64 (m : Int)] w fun e w' => (∃ v, e = .returned v ∧ Got w' w.heap.size v L) ∧ Below w.heap.size w w' := by
  have := Look_any g gb C L ip op (m : Int) w h
  rw [Int.toNat_natCast, List.take_of_length_le (by omega)] at this
  exact this
/-- A call's box, and its bytes: as the call has them, and the call's own copy. -/
structure Xe (W : World) (bx : Nat) (kd nn : Int) (X : Option Addr) (bl bcap : Nat) (Ao : Option Addr) (bs : List Int) : Prop where
  c : W.heap[bx]? = some (.cells #[.int .i64 kd, .int .i64 nn, .slice X bl bcap] 39 (0, 0))
  o : Ints .u8 W Ao bs
  x : Ints .u8 W X bs
theorem Xe.cells {W : World} {bx : Nat} {kd nn : Int} {X : Option Addr} {bl bcap : Nat} {Ao : Option Addr} {bs : List Int} (h : Xe W bx kd nn X bl bcap Ao bs) :
    W.cell? ⟨bx, 0, none⟩ = some (.int .i64 kd) ∧ W.cell? ⟨bx, 1, none⟩ = some (.int .i64 nn) ∧ W.cell? ⟨bx, 2, none⟩ = some (.slice X bl bcap) := by
  have k := h.c
  simp [World.cell?, k]
theorem Ints.kept {W W' : World} {A : Option Addr} {zs : List Int} (h : Ints .u8 W A zs) (hs : W.heap.size ≤ W'.heap.size) (hk : ∀ b o s, 0 < zs.length → A = some ⟨b, o, s⟩ → b < W.heap.size → W'.heap[b]? = W.heap[b]?) : Ints .u8 W' A zs := by
  intro h0
  obtain ⟨b, off, e, hlt, hc⟩ := h h0
  refine ⟨b, off, e, Nat.lt_of_lt_of_le hlt hs, fun i hi => ?_⟩
  rw [← hc i hi]
  unfold World.cell?
  simp only
  rw [hk b off none h0 e hlt]
/-- Where the three blocks of the rings do not lie. -/
structure Ap (g gb q bx : Nat) (X Ao : Option Addr) (bs : List Int) : Prop where
  b : bx ≠ g ∧ bx ≠ gb ∧ bx ≠ q
  x : ∀ b o s, 0 < bs.length → X = some ⟨b, o, s⟩ → b ≠ g ∧ b ≠ gb ∧ b ≠ q
  o : ∀ b o s, 0 < bs.length → Ao = some ⟨b, o, s⟩ → b ≠ g ∧ b ≠ gb ∧ b ≠ q
theorem Xe.step {W W' : World} {bx : Nat} {kd nn : Int} {X : Option Addr} {bl bcap : Nat} {Ao : Option Addr} {bs : List Int} {g gb q : Nat} (h : Xe W bx kd nn X bl bcap Ao bs) (a : Ap g gb q bx X Ao bs) (hs : W.heap.size ≤ W'.heap.size)
    (hk : ∀ j, j < W.heap.size → j ≠ g → j ≠ gb → j ≠ q → W'.heap[j]? = W.heap[j]?) : Xe W' bx kd nn X bl bcap Ao bs :=
  ⟨(hk _ (Array.getElem?_eq_some_iff.1 h.c).1 a.b.1 a.b.2.1 a.b.2.2).trans h.c,
   h.o.kept hs (fun b o s h0 e hl => by obtain ⟨m1, m2, m3⟩ := a.o b o s h0 e; exact hk b hl m1 m2 m3),
   h.x.kept hs (fun b o s h0 e hl => by obtain ⟨m1, m2, m3⟩ := a.x b o s h0 e; exact hk b hl m1 m2 m3)⟩
theorem Xe.below {W W' : World} {bx : Nat} {kd nn : Int} {X : Option Addr} {bl bcap : Nat} {Ao : Option Addr} {bs : List Int} (h : Xe W bx kd nn X bl bcap Ao bs) (hb : Below W.heap.size W W') : Xe W' bx kd nn X bl bcap Ao bs :=
  ⟨(hb.block _ (Array.getElem?_eq_some_iff.1 h.c).1).trans h.c, h.o.below hb, h.x.below hb⟩
theorem Xe.fr2 {W W' : World} {bx : Nat} {kd nn : Int} {X : Option Addr} {bl bcap : Nat} {Ao : Option Addr} {bs : List Int} {g gb q : Nat} (h : Xe W bx kd nn X bl bcap Ao bs) (a : Ap g gb q bx X Ao bs) (f : Fr2 g gb W W') : Xe W' bx kd nn X bl bcap Ao bs :=
  h.step a f.2.2.2.1 (fun j hj n1 n2 _ => f.2.2.2.2 j hj n1 n2)
theorem Xe.grown {W W' : World} {bx : Nat} {kd nn : Int} {X : Option Addr} {bl bcap : Nat} {Ao : Option Addr} {bs : List Int} {g gb q : Nat} (h : Xe W bx kd nn X bl bcap Ao bs) (a : Ap g gb q bx X Ao bs) (f : W.grownBy W' (some q)) : Xe W' bx kd nn X bl bcap Ao bs :=
  h.step a f.size (fun j hj _ _ n3 => f.block j hj (fun e => n3 (by injection e)))
theorem Rr.drew {w : World} {q M : Nat} {A : Option Addr} {cap : Nat} {L : List Int} {ip op : Nat} (h : Rr w q M A cap L ip op) : Rr w.drew q M A cap L ip op := ⟨h.k, h.i, h.c, h.m, h.z⟩
theorem Fr2.undrew {g gb : Nat} {w w' : World} (h : Fr2 g gb w.drew w') : Fr2 g gb w w' := h
theorem PlS.step {w W W1 W2 : World} {g gb q C C' : Nat} {A A' : Option Addr} {cap cap' : Nat} {L L' : List Int} {ip op ip' op' : Nat} (h : PlS w W g gb q C A cap L ip op) (f : Fr2 g gb W W1) (gr : W1.grownBy W2 (some q)) (gb' : Nat) (hgb : gb' = gb ∨ W.heap.size ≤ gb')
    (r : Rg W1 g gb' C' L' ip' op') (s : Rr W2 q C' A' cap' L' ip' op') (ha : ∀ b o s, 0 < L'.length → A' = some ⟨b, o, s⟩ → b ≠ g ∧ b ≠ gb' ∧ b ≠ q) (hi : ip' = op' + L'.length) : PlS w W2 g gb' q C' A' cap' L' ip' op' := by
  obtain ⟨n1, n2, n3, n4, n5⟩ := h.n
  have hq := h.s.lt
  have hb1 := f.below h.b n1 n2 h.b.size
  exact ⟨r.grown gr (fun e => n4 e.symm) (by rcases hgb with rfl | hh; exact fun e => n5 e.symm; omega), s, hb1.grown gr hb1.size (fun k e => by injection e; omega), ⟨n1, by rcases hgb with rfl | hh; exact n2; have := h.b.size; omega, n3, n4, by rcases hgb with rfl | hh; exact n5; omega⟩, ha, hi⟩
theorem PlS.sfr {w W W1 : World} {g gb q C : Nat} {A : Option Addr} {cap : Nat} {L : List Int} {ip op : Nat} (h : PlS w W g gb q C A cap L ip op) (f : Fr2 g gb W W1) : Rr W1 q C A cap L ip op :=
  h.s.fr2 f h.n.2.2.2.1 h.n.2.2.2.2 (fun b o s h0 e => ⟨(h.a b o s h0 e).1, (h.a b o s h0 e).2.1⟩)

/-- What holds between two rounds. -/
def PlRel (w : World) (g q len : Nat) (i : Value) (wr : World) : Prop := ∃ (k gb C : Nat) (A : Option Addr) (cap : Nat) (L : List Int) (ip op : Nat), k ≤ len ∧ i = .int .i64 k ∧ Hid (PlS w wr g gb q C A cap L ip op) ∧ ip ≤ 65536 * k

set_option maxHeartbeats 8000000 in
theorem plays_in (C0 : Nat) (a : Option Addr) (acap : Nat) (os : List OpV) (w : World) (hC0 : C0 ≤ 65536) (ho : OpsAt w a os) (hm : os.length ≤ maxLen) (hsz : ∀ o ∈ os, o.len ≤ reachBytes ∧ (o.A = none → o.len = 0 ∧ o.cap = 0))
    (hG : Calls Try.prog 18 #[.slice a os.length acap] w (GreatR os.length w)) :
    Calls Try.prog 7 #[.int .i64 C0, .slice a os.length acap] w fun e w' => e = .returned (.bool true) ∧ Below w.heap.size w w' := by
  obtain ⟨i5, hi5, hz5, hs5, hy5⟩ := info_parts info5
  have I9 := Lib.hid hi5; have Z9 := Lib.hid hz5; have S9 := Lib.hid hs5; have Y9 := Lib.hid hy5
  clear hi5 hz5 hs5 hy5
  have HG := Lib.hid hG; have HO := Lib.hid ho; have HSZ := Lib.hid hsz
  clear hG ho hm hsz
  generalize hlen : os.length = len at *
  have HL := Lib.hid hlen; clear hlen
  go_enter Try.func7, Try.ntmps7
  go_wp2_with fail
  refine HG.out.mono ?_
  rintro e w' ⟨⟨g, rfl, hg⟩, rfl⟩
  cases g with
  | true =>
    clear hg
    go_wp2_with fail
    go_ret
    exact ⟨rfl, Below.refl _ _⟩
  | false =>
  skip
  have h100 : len ≤ 100 := hg rfl
  clear hg
  go_wp2_with fail
  refine (New_ok C0 w (by omega)).mono ?_
  rintro e w2 ⟨rfl, r2, b2⟩
  have R2 := Lib.hid r2; have l2 := r2.lt; have B2 := Lib.hid b2; have z2 := b2.size; clear r2 b2
  go_wp2_with fail
  refine (rnew_ok C0 w2 (by omega)).mono ?_
  rintro e w3 ⟨rfl, b3⟩
  have R3 := Lib.hid (R2.out.below b3 (by omega) (by omega)); have B3 := Lib.hid (B2.out.trans (b3.mono (by omega))); have z3 := b3.size; clear b3
  have S3 : Hid (PlS w (w3.alloc (.cells #[.int .i64 C0, .slice none 0 0, .int .u64 0, .int .u64 0] 43)) (w.heap.size + 1) w.heap.size w3.heap.size C0 none 0 [] 0 0) := Lib.hid (by
    have hb : Below w3.heap.size w3 (w3.alloc (.cells #[.int .i64 C0, .slice none 0 0, .int .u64 0, .int .u64 0] 43)) := (Below.refl _ _).alloc (Nat.le_refl _) _
    exact ⟨R3.out.below hb (by omega) (by omega), ⟨World.alloc_heap_new w3 _, fun h => absurd h (Nat.lt_irrefl _), Nat.le_refl _, Nat.zero_le _, fun _ => rfl⟩, B3.out.trans (hb.mono (by omega)), by omega, fun b o s h => absurd h (Nat.lt_irrefl _), rfl⟩)
  go_wp2_with fail
  generalize hq : w3.heap.size = q at S3 ⊢
  have HQ := Lib.hid hq
  clear hq
  generalize w3.alloc (.cells #[.int .i64 C0, .slice none 0 0, .int .u64 0, .int .u64 0] 43) = w4 at S3 ⊢
  generalize hgg : w.heap.size + 1 = g at S3 ⊢
  have HGG := Lib.hid hgg
  clear hgg R2 R3 B2 B3
  go_loopw [9] (fun i wr => PlRel w g q len i wr) (fun i _ => len - (intOf i).toNat)
  case atStart => exact ⟨0, w.heap.size, C0, none, 0, [], 0, 0, by omega, rfl, S3, by omega⟩
  case round =>
    obtain ⟨k, gb, C, A, cap, L, ip, op, hk, rfl, HS, hip⟩ := hrel
    by_cases hlt : k < len
    · obtain ⟨b, off, kd, nn, X, bl, bcap, bs, rfl, hbw, hc, hX, hbl, hlc, hcap, hby, hnn, hAl, hrb, hXn⟩ := HO.out.cells2 HSZ.out k (by rw [HL.out]; exact hlt)
      obtain ⟨nn0, nn1⟩ := bd_i64 hnn
      have hrb2 : bl ≤ 140737488351232 := Nat.le_trans hrb (by decide)
      have hwz := HS.out.b.size
      obtain ⟨ck, cn, cb⟩ := hc wr HS.out.b
      have HX := Lib.hid hX; have BL := Lib.hid hbl; have HBY := Lib.hid hby; have HAL := Lib.hid hAl; have HXN := Lib.hid hXn
      clear hc hX hbl hby hAl hXn hrb hnn
      obtain ⟨w5, hw5⟩ : ∃ w5, w5 = (wr.alloc (.cells #[.int .i64 kd, .int .i64 nn, .slice X bl bcap] 39)).alloc (.cells #[] 5) := ⟨_, rfl⟩
      have hs5 : w5.heap.size = wr.heap.size + 2 := by rw [hw5]; simp
      have hb5 : Below wr.heap.size wr w5 := by rw [hw5]; exact ((Below.refl _ _).alloc (Nat.le_refl _) _).alloc (by simp) _
      have hx5 : w5.heap[wr.heap.size]? = some (.cells #[.int .i64 kd, .int .i64 nn, .slice X bl bcap] 39 (0, 0)) := by
        rw [hw5]; exact (Below.heap_alloc _ _ _ (by simp)).trans (World.alloc_heap_new wr _)
      have hown0 : w5.ownsRow (wr.heap.size + 1) 5 1 (.slice (some ⟨wr.heap.size + 1, 0, none⟩) 0 0) 0 [] := by
        have := World.ownsRow_made (base := wr.heap.size + 1) (e := 5) (size := 1) (wr.alloc (.cells #[.int .i64 kd, .int .i64 nn, .slice X bl bcap] 39)) #[] 0 (by simp) (Nat.zero_le _) (by simp)
        rw [World.size_alloc] at this
        rw [hw5]; exact this
      have hx2 : w5.cell? ⟨wr.heap.size, 2, none⟩ = some (.slice X bl bcap) := by simp [World.cell?, hx5]
      have hsr := ints_src (HX.out.below (HS.out.b.trans (hb5.mono hwz)))
      have hmp : (bs.map (Value.int .u8)).length = bl * 1 := by have := BL.out; simp; omega
      have hon : ∀ u ∈ bs.map (Value.int .u8), u.oneCell' = true := fun u hu => by obtain ⟨y, _, rfl⟩ := List.mem_map.1 hu; rfl
      have HW5 := Lib.hid hw5; have HB5 := Lib.hid hb5; have HX5 := Lib.hid hx5; have HMP := Lib.hid hmp; have HON := Lib.hid hon; have HS5 := Lib.hid hs5
      have HOW := Lib.hid hown0; have HSR := Lib.hid hsr
      rw [hw5] at hown0 hsr
      have HOW2 := Lib.hid hown0; have HSR2 := Lib.hid hsr
      have hb52 := hb5
      rw [hw5] at hb52
      have HB52 := Lib.hid hb52
      clear hw5 hb5 hx5 hown0 hsr hmp hon hs5 hx2 hb52
      have FIN : Hid (∀ (w6 : World) (Ao : Option Addr) (co : Nat), w6.ownsRow (wr.heap.size + 1) 5 1 (.slice Ao bl co) bl (bs.map (Value.int .u8)) → w5.grownBy w6 (some (wr.heap.size + 1)) →
          PlS w w6 g gb q C A cap L ip op ∧ Xe w6 wr.heap.size kd nn X bl bcap Ao bs ∧ Ap g gb q wr.heap.size X Ao bs ∧ wr.heap.size + 2 ≤ w6.heap.size ∧ bl ≤ co ∧ co ≤ maxLen) := Lib.hid (by
        intro w6 Ao co h1 h2
        have hb6 : Below wr.heap.size wr w6 := HB5.out.grown h2 (by have := HS5.out; omega) (fun k e => by injection e; omega)
        have hx6 : w6.heap[wr.heap.size]? = some (.cells #[.int .i64 kd, .int .i64 nn, .slice X bl bcap] 39 (0, 0)) := (h2.block _ (by have := HS5.out; omega) (fun e => by injection e; omega)).trans HX5.out
        have hG : Got w6 (wr.heap.size + 1) (.slice Ao bl co) bs := by unfold Got; rw [BL.out]; exact h1
        obtain ⟨m1, m2, m3, m4, m5⟩ := HS.out.n
        have lt1 := HS.out.r.lt
        have lt2 := HS.out.s.lt
        refine ⟨HS.out.below hb6, ⟨hx6, hG.ints.1, HX.out.below (HS.out.b.trans (hb6.mono hwz))⟩, ⟨by omega, fun b o s h0 e => by have := HAL.out b o s (by have := BL.out; omega) e; omega, fun b o s h0 e => ?_⟩, by have := HS5.out; have := h2.size; omega, ?_⟩
        · have := (h1.lt b (by rw [e]; rfl)).1; omega
        · rcases h1.2 with ⟨e, _⟩ | ⟨g', cap', cur, e, _, _, hn, hcm, _⟩
          · injection e with _ e2 e3; subst e2 e3; exact ⟨Nat.le_refl _, Nat.zero_le _⟩
          · injection e with _ _ e3; subst e3; exact ⟨hn, hcm⟩)
      go_upto_block 2 with (at_builtin; refine wpList_append_any rfl (.tmp 50) (.tmp 52) 22 rfl (wr.heap.size + 1) 5 i5 (.int .u8 0) 1 1 Try.underlying22 I9.out Z9.out S9.out Y9.out rfl (by decide) _ 0 [] rfl HOW2.out X bl bcap _ rfl HMP.out HXN.out HSR2.out HON.out (by unfold maxLen; omega) (by omega) (by simp) ?_; intro v' w6 hown' hgrow; rw [← HW5.out] at hgrow; simp only [Nat.zero_add, List.nil_append] at hown'; obtain ⟨Ao, co, rfl, _⟩ := row_form hown'; obtain ⟨P6, X6, A6, z6, o1, o2⟩ := FIN.out w6 Ao co hown' hgrow; have HP6 := Lib.hid P6; have HX6 := Lib.hid X6; have HA6 := Lib.hid A6; obtain ⟨x0, x1, x2⟩ := X6.cells; clear hown' hgrow P6 X6 A6)
      have hapl := HP6.out.r.len
      have hin := HP6.out.i
      have hop : op ≤ ip := by omega
      have hq6 := HP6.out.s.lt
      have hg6 := HP6.out.r.lt
      clear ck cn cb x0
      go_cut [12] (fun s12 wx => ∃ (gb' C' : Nat) (A' : Option Addr) (cap' : Nat) (L' : List Int) (ip' op' : Nat), s12 = .bool true ∧ Hid (PlS w wx g gb' q C' A' cap' L' ip' op') ∧ ip' ≤ 65536 * (k + 1) ∧ Hid (Xe wx wr.heap.size kd nn X bl bcap Ao bs))
      case first =>
        have HIN := Lib.hid hin
        clear hin
        by_cases h0 : kd = 0
        · have e0 : (kd == 0) = true := by simp [h0]
          clear h0 x1
          have hmin : min bl (C - L.length) ≤ 65536 := by omega
          have hbl := BL.out
          have hi := Lib.hid (show ip + min bl (C - L.length) = op + (L ++ bs.take (C - L.length)).length by have := HIN.out; rw [List.length_append, List.length_take]; omega)
          clear hbl
          have hPk := fun w7 h i => Put_any g gb C L ip op Ao bl co bs w7 h i BL.out o1 o2 HBY.out (fun x o s h0 e => ⟨(HA6.out.o x o s (by have := BL.out; omega) e).1, (HA6.out.o x o s (by have := BL.out; omega) e).2.1⟩) (by omega)
          have hRk := fun w7 h i => rput_any q C A cap L ip op X bl bcap bs w7 h hapl.1 hapl.2.1 i BL.out (by unfold maxLen; omega) (by omega)
          generalize L ++ bs.take (C - L.length) = L' at *
          generalize hmm : min bl (C - L.length) = mm at *
          clear hmm
          have HPK := Lib.hid hPk; have HRK := Lib.hid hRk
          clear hPk hRk
          go_wp2_with fail
          go_region_held3 (fun w' => w'.cell? ⟨wr.heap.size, 2, none⟩ = some (.slice X bl bcap)) (first | exact x2 | exact y2 | exact v2)
            (first
              | (go_at_call 11; refine (HPK.out _ (by exact HP6.out.r) (by exact HX6.out.o)).mono ?_; rintro e w7 ⟨rfl, r7, f7⟩; have F7 : Hid (Fr2 g gb w6 w7) := Lib.hid f7; have R7 := Lib.hid r7; have X7 := Lib.hid (HX6.out.fr2 HA6.out F7.out); have y2 := X7.out.cells.2.2; clear r7 f7)
              | (go_at_call 21; refine (HRK.out _ (by exact HP6.out.sfr F7.out) (by exact X7.out.x)).mono ?_; rintro e w8 ⟨rfl, ⟨A', cap', r8, ha8⟩, g8⟩; have G8 := Lib.hid g8; have R8 := Lib.hid r8; have HA8 := Lib.hid ha8; have X8 := Lib.hid (X7.out.grown HA6.out g8); have v2 := X8.out.cells.2.2; clear r8 ha8 g8))
          go_wp2_with fail
          go_meet
          exact ⟨gb, C, A', cap', L', ip + mm, op, rfl, Lib.hid (HP6.out.step F7.out G8.out gb (.inl rfl) R7.out R8.out (fun b o s _ e => by have := HA8.out b o s e; have := R7.out.lt; have := F7.out.2.2.2.1; omega) hi.out), by omega, X8⟩
        · have e0 : (kd == 0) = false := by simpa using h0
          clear h0 x2
          by_cases h1 : kd = 1
          · have e1 : (kd == 1) = true := by simp [h1]
            clear h1
            have hTk := fun w7 h => Take_any g gb C L ip op nn w7 h (by omega)
            have hRk := fun w7 h => rtake_any q C A cap L ip op nn w7 h (by omega) (by omega) (fun b o s h0 e => (HP6.out.a b o s h0 e).2.2)
            have hi : op + (L.take nn.toNat).length + (L.drop nn.toNat).length = op + L.length := by rw [List.length_take, List.length_drop]; omega
            have hdl : (L.drop nn.toNat).length ≤ L.length := by rw [List.length_drop]; omega
            generalize L.take nn.toNat = T at *
            generalize L.drop nn.toNat = D at *
            have HTK := Lib.hid hTk; have HRK := Lib.hid hRk; have HI := Lib.hid hi; have HDL := Lib.hid hdl
            clear hTk hRk hi hdl
            go_wp2_with fail
            go_region_with (first
                | (go_at_call 12; refine (HTK.out _ (by exact HP6.out.r)).mono ?_; rintro e w7 ⟨⟨v, rfl, v7⟩, r7, g7⟩; obtain ⟨A7, c7, rfl, -⟩ := v7.form; have F7 : Hid (Fr2 g gb w6 w7) := Lib.hid (Fr2.of_grown (gb := gb) (grown_undrew g7)); have R7 := Lib.hid r7; have X7 := Lib.hid (HX6.out.fr2 HA6.out F7.out); have y1 := X7.out.cells.2.1; have s7 := v7.str; have V7 := Lib.hid v7; clear r7 g7 v7)
                | (go_at_call 22; refine (HRK.out _ (by exact HP6.out.sfr F7.out)).mono ?_; rintro e w8 ⟨⟨v, rfl, v8⟩, ⟨A', cap', r8, ha8⟩, g8⟩; obtain ⟨A8, c8, rfl, -⟩ := v8.form; have G8 := Lib.hid g8; have R8 := Lib.hid r8; have HA8 := Lib.hid ha8; have X8 := Lib.hid (X7.out.grown HA6.out g8); have v1 := X8.out.cells.2.1; have s8 := v8.str; have s78 := (V7.out.kept g8 (by exact hq6)).str; clear r8 ha8 g8 v8))
            all_goals
              go_wp2_with fail
              go_meet
              exact ⟨gb, C, A', cap', D, ip, op + T.length, rfl, Lib.hid (HP6.out.step F7.out G8.out gb (.inl rfl) R7.out R8.out (fun b o s h0 e => by obtain ⟨o', s', e'⟩ := HA8.out b o s e; exact HP6.out.a b o' s' (by have := HDL.out; omega) e') (by have := HI.out; have := HIN.out; omega)), by omega, X8⟩
          · have e1 : (kd == 1) = false := by simpa using h1
            clear h1
            by_cases h2 : kd = 2
            · have e2 : (kd == 2) = true := by simp [h2]
              clear h2
              have hTk := fun w7 h => Look_any g gb C L ip op nn w7 h
              have hRk := fun w7 h => rlook_any q C A cap L ip op nn w7 h (by omega)
              generalize L.take nn.toNat = T at *
              have HTK := Lib.hid hTk; have HRK := Lib.hid hRk
              clear hTk hRk
              go_wp2_with fail
              go_region_with (first
                  | (go_at_call 15; refine (HTK.out _ (by exact HP6.out.r)).mono ?_; rintro e w7 ⟨⟨v, rfl, v7⟩, b7⟩; obtain ⟨A7, c7, rfl, -⟩ := v7.form; have B7 : Hid (Below w6.heap.size w6 w7) := Lib.hid ⟨b7.os, b7.tape, b7.output, b7.size, b7.block⟩; have P7 := Lib.hid (HP6.out.below B7.out); have X7 := Lib.hid (HX6.out.below B7.out); have y1 := X7.out.cells.2.1; have s7 := v7.str; have V7 := Lib.hid v7; clear b7 v7)
                  | (go_at_call 23; refine (HRK.out _ (by exact P7.out.s)).mono ?_; rintro e w8 ⟨⟨v, rfl, v8⟩, b8⟩; obtain ⟨A8, c8, rfl, -⟩ := v8.form; have P8 := Lib.hid (P7.out.below b8); have X8 := Lib.hid (X7.out.below b8); have v1 := X8.out.cells.2.1; have s8 := v8.str; have s78 := str_run (c := c7) (V7.out.ints.1.below b8) V7.out.ints.2; clear b8 v8))
              all_goals
                go_wp2_with fail
                go_meet
                exact ⟨gb, C, A, cap, L, ip, op, rfl, P8, by omega, X8⟩
            · have e2 : (kd == 2) = false := by simpa using h2
              clear h2
              by_cases h3 : kd = 3
              · have e3 : (kd == 3) = true := by simp [h3]
                clear h3
                by_cases hok : (L.length : Int) ≤ nn ∧ nn ≤ 65536
                · obtain ⟨cc, rfl⟩ := Int.eq_ofNat_of_zero_le (show 0 ≤ nn by omega)
                  have hTk := fun w7 h => Grow_ok g gb C L ip op cc w7 h (by omega) (by omega)
                  have hRk := fun w7 h => rgrow_ok q C A cap L ip op cc w7 h (by omega) (by omega) (fun b o s h0 e => (HP6.out.a b o s h0 e).2.2)
                  have HTK := Lib.hid hTk; have HRK := Lib.hid hRk
                  clear hTk hRk hok
                  go_wp2_with fail
                  go_region_held3 (fun w' => w'.cell? ⟨wr.heap.size, 1, none⟩ = some (.int .i64 cc)) (first | exact x1 | exact y1 | exact v1)
                    (first
                      | (go_at_call 19; refine (HTK.out _ (by exact HP6.out.r)).mono ?_; rintro e w7 ⟨rfl, r7, g7⟩; have F7 : Hid (Fr2 g gb w6 w7) := Lib.hid (Fr2.of_grown (gb := gb) (grown_undrew g7)); have R7 : Hid (Rg w7 g w6.heap.size cc L ip op) := Lib.hid r7; have X7 := Lib.hid (HX6.out.fr2 HA6.out F7.out); have y1 := X7.out.cells.2.1; clear r7 g7)
                      | (go_at_call 24; refine (HRK.out _ (by exact HP6.out.sfr F7.out)).mono ?_; rintro e w8 ⟨rfl, r8, g8⟩; have G8 := Lib.hid g8; have R8 := Lib.hid r8; have X8 := Lib.hid (X7.out.grown HA6.out g8); have v1 := X8.out.cells.2.1; clear r8 g8))
                  go_wp2_with fail
                  go_meet
                  exact ⟨w6.heap.size, cc, A, cap, L, ip, op, rfl, Lib.hid (HP6.out.step F7.out G8.out w6.heap.size (.inr (Nat.le_refl _)) R7.out R8.out (fun b o s h0 e => by have h1 := HP6.out.a b o s h0 e; obtain ⟨b', o', e', hlt', _⟩ := HP6.out.s.i h0; rw [e] at e'; injection e' with e'; injection e' with e'' _ _; omega) HIN.out), by omega, X8⟩
                · have hTk := fun w7 h => Grow_bad g gb C L ip op nn w7 h (by omega)
                  have hRk := fun w7 h => rgrow_bad q C A cap L ip op nn w7 h (by omega) (by omega)
                  have HTK := Lib.hid hTk; have HRK := Lib.hid hRk
                  clear hTk hRk hok
                  go_wp2_with fail
                  go_region_held3 (fun w' => w'.cell? ⟨wr.heap.size, 1, none⟩ = some (.int .i64 nn)) (first | exact x1)
                    (first
                      | (go_at_call 19; refine (HTK.out _ (by exact HP6.out.r)).mono ?_; rintro e w7 ⟨rfl, rfl⟩)
                      | (go_at_call 24; refine (HRK.out _ (by exact HP6.out.s.drew)).mono ?_; rintro e w8 ⟨rfl, rfl⟩))
                  go_wp2_with fail
                  go_meet
                  exact ⟨gb, C, A, cap, L, ip, op, rfl, Lib.hid (by exact HP6.out.below (Below.refl _ w6).drew), by omega, Lib.hid (by exact HX6.out.below (Below.refl _ w6).drew)⟩
              · have e3 : (kd == 3) = false := by simpa using h3
                clear h3
                by_cases h4 : kd = 4
                · have e4 : (kd == 4) = true := by simp [h4]
                  clear h4 x1
                  have hTk := fun w7 h => Clear_any g gb C L ip op w7 h (by omega)
                  have hRk := fun w7 h => rtake_any q C A cap L ip op (L.length : Int) w7 h (by omega) (by omega) (fun b o s h0 e => (HP6.out.a b o s h0 e).2.2)
                  rw [Int.toNat_natCast, List.take_length, List.drop_length] at hRk
                  have hc6 := HP6.out.s.cells.2.1
                  have HTK := Lib.hid hTk; have HRK := Lib.hid hRk
                  clear hTk hRk
                  generalize hln : L.length = ln at *
                  have HLN := Lib.hid hln
                  clear hln
                  go_wp2_with fail
                  go_region_with (first
                      | (go_at_call 17; refine (HTK.out _ (by exact HP6.out.r)).mono ?_; rintro e w7 ⟨rfl, r7, g7⟩; have F7 : Hid (Fr2 g gb w6 w7) := Lib.hid (Fr2.of_grown (gb := gb) (grown_undrew g7)); have R7 := Lib.hid r7; have X7 := Lib.hid (HX6.out.fr2 HA6.out F7.out); have hc7 := (HP6.out.sfr F7.out).cells.2.1; (try rw [HLN.out] at hc7); clear r7 g7)
                      | (go_at_call 22; refine (HRK.out _ (by exact HP6.out.sfr F7.out)).mono ?_; rintro e w8 ⟨⟨v, rfl, v8⟩, ⟨A', cap', r8, ha8⟩, g8⟩; obtain ⟨A8, c8, rfl, -⟩ := v8.form; have G8 := Lib.hid g8; have R8 := Lib.hid r8; have X8 := Lib.hid (X7.out.grown HA6.out g8); (try rw [HLN.out]); clear r8 ha8 g8 v8))
                  all_goals
                    go_wp2_with fail
                    go_meet
                    exact ⟨gb, C, A', cap', [], ip, op + ln, rfl, Lib.hid (HP6.out.step F7.out G8.out gb (.inl rfl) R7.out R8.out (fun b o s h0 e => absurd h0 (Nat.lt_irrefl _)) (by have := HIN.out; simp; omega)), by omega, X8⟩
                · have e4 : (kd == 4) = false := by simpa using h4
                  clear h4
                  go_wp2_with fail
                  go_meet
                  exact ⟨gb, C, A, cap, L, ip, op, rfl, HP6, by omega, HX6⟩
      case rest =>
        obtain ⟨gb', C', A', cap', L', ip', op', rfl, HP8, hip', HX8⟩ := hcut
        clear HP6 HX6 HA6 FIN HW5 HB5 HX5 HOW HSR HOW2 HSR2 HB52 HMP HON HS5 x1 x2 hapl hin hop hq6 hg6 z6
        go_wp2_with fail
        refine (Counts_any g gb' C' L' ip' op' wc HP8.out.r).mono ?_
        rintro e w9 ⟨rfl, b9⟩
        have P9 := Lib.hid (HP8.out.below b9); have X9 := Lib.hid (HX8.out.below b9)
        clear b9 HP8 HX8
        have hlc' := P9.out.r.len
        have hLEN := fun w' (h : Below w9.heap.size w9 w') => Len_any g gb' C' L' ip' op' w' (P9.out.r.below h P9.out.r.lt.1 P9.out.r.lt.2)
        have hROOM := fun w' (h : Below w9.heap.size w9 w') => Room_any g gb' C' L' ip' op' w' (P9.out.r.below h P9.out.r.lt.1 P9.out.r.lt.2)
        have hLOOK := fun w' (h : Below w9.heap.size w9 w') => Look_allR g gb' C' L' ip' op' L'.length w' (P9.out.r.below h P9.out.r.lt.1 P9.out.r.lt.2) rfl
        have hCV : ∀ w', Below w9.heap.size w9 w' → (convert 22 9 (.slice A' L'.length cap')).run Try.prog w' = .ok (.string (strOfNums L')) w' := fun w' h => str_run (P9.out.s.below h).i rfl
        have hCO : ∀ w', Below w9.heap.size w9 w' → (convert 22 9 (.slice Ao bl co)).run Try.prog w' = .ok (.string (strOfNums bs)) w' := fun w' h => str_run (X9.out.below h).o BL.out
        have hCX : ∀ w', Below w9.heap.size w9 w' → (convert 22 9 (.slice X bl bcap)).run Try.prog w' = .ok (.string (strOfNums bs)) w' := fun w' h => str_run (X9.out.below h).x BL.out
        have hX2 : ∀ w', Below w9.heap.size w9 w' → w'.cell? ⟨wr.heap.size, 2, none⟩ = some (.slice X bl bcap) := fun w' h => (X9.out.below h).cells.2.2
        have hQ : ∀ w', Below w9.heap.size w9 w' → w'.cell? ⟨q, 0, none⟩ = some (.int .i64 C') ∧ w'.cell? ⟨q, 1, none⟩ = some (.slice A' L'.length cap') ∧ w'.cell? ⟨q, 2, none⟩ = some (.int .u64 ip') ∧ w'.cell? ⟨q, 3, none⟩ = some (.int .u64 op') := fun w' h => by
          have := (P9.out.s.below h).cells
          exact ⟨this.1, this.2.1, this.2.2.1, this.2.2.2.1⟩
        have hrm : ((C' - L'.length : Nat) : Int) = (C' : Int) - (L'.length : Int) := by omega
        have hS1 := Lib.hid (rfl : strOfNums L' = strOfNums L')
        generalize hsl : strOfNums L' = SL at *
        generalize hsb : strOfNums bs = SB at *
        have HSL := Lib.hid hsl
        generalize hln : L'.length = ln' at *
        have HLN := Lib.hid hln
        have hrm2 : ((C' - ln' : Nat) : Int) ≤ 65536 ∧ (ln' : Int) ≤ (C' : Int) ∧ (C' : Int) ≤ 65536 := by omega
        obtain ⟨hr1, hr2, hr3⟩ := hrm2
        have hne : (((C' - ln' : Nat) : Int) != (C' : Int) - (ln' : Int)) = false := by rw [hrm]; simp
        have hwr : IntKind.i64.wrap ((C' : Int) - (ln' : Int)) = (C' : Int) - (ln' : Int) := IntWalk.i64_in _ (by omega)
        generalize C' - ln' = rm at *
        have HRM := Lib.hid hrm
        have HLEN := Lib.hid hLEN; have HROOM := Lib.hid hROOM; have HLOOK := Lib.hid hLOOK
        have hq0 := fun w' h => (hQ w' h).1
        have hq1 := fun w' h => (hQ w' h).2.1
        have hq2 := fun w' h => (hQ w' h).2.2.1
        have hq3 := fun w' h => (hQ w' h).2.2.2
        clear hLEN hROOM hLOOK hsl hsb hln hrm hQ hS1 hlc'
        go_wp2_with fail
        go_region_held (fun w' => Below w9.heap.size w9 w') (first | assumption | exact Below.refl _ _ | exact (Below.refl _ _).drew)
          (first
            | (go_at_call 13; refine (HLEN.out _ (by assumption)).mono ?_; rintro e w10 ⟨rfl, rfl⟩)
            | (go_at_call 14; refine (HROOM.out _ (by assumption)).mono ?_; rintro e w10 ⟨rfl, b10⟩; have B10 : Below w9.heap.size w9 w10 := Below.trans (by assumption) (b10.mono (Below.size (by assumption))); clear b10)
            | (go_at_call 15; refine (HLOOK.out _ (by assumption)).mono ?_; rintro e w11 ⟨⟨v, rfl, v11⟩, b11⟩; have B11 : Below w9.heap.size w9 w11 := Below.trans (by assumption) (b11.mono (Below.size (by assumption))); obtain ⟨A11, c11, rfl, -⟩ := v11.form; have s11 := v11.str; rw [HLN.out, HSL.out] at s11; (try rw [HLN.out]); clear b11 v11))
        all_goals
          go_wp2_with fail
          go_roundw
          case rel => exact ⟨k + 1, gb', C', A', cap', L', ip', op', by omega, by go_num, Lib.hid (by exact P9.out.below (by assumption)), by omega⟩
          case measure => simp [intOf]; omega
    · obtain rfl : k = len := by omega
      go_wp2_with fail
      go_ret
      exact ⟨rfl, HS.out.b⟩
end Go.Proofs.Ytebnfcpikhehkaa
