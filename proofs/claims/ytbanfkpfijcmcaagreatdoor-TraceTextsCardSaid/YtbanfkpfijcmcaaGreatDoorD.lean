/- Clones of bytes and of entries. -/
import Derived.Test.YtbanfkpfijcmcaaGreatDoorC
namespace Go.Proofs.YtbanfkpfijcmcaaGreatDoor
open Go.RowKit
set_option linter.unusedSimpArgs false
set_option linter.unusedVariables false
set_option maxRecDepth 100000

theorem info5 : (Tryz.prog.info? 5).map (fun i => (i.zero, i.size, i.bytes)) = some (some (.int .u8 0), 1, 1) := by kernel_rfl
theorem info29 : (Tryz.prog.info? 28).map (fun i => (i.zero, i.size, i.bytes)) = some (some (.agg #[.int .i64 0, .int .u64 0, .int .i64 0, .int .i64 0, .int .i64 0, .int .i64 0, .slice none 0 0]), 7, 72) := by kernel_rfl
/-- append onto a row of the call's own, the source nil or not. -/
theorem wpList_append_any {P : Program} {w : World} {ops : Array Oper} {rest : List Oper} {o : Oper} {a : Act} {Q : Exit → Act → World → Prop} (hgd : o.guard = none) (s x : Operand) (t : TypeId)
    (ho : o.op = .call { callee := .builtin .append, args := #[s, x], argTypes := #[t, t] }) (base : Nat) (e : TypeId) (i : TypeInfo) (z : Value) (size bytes : Nat) (h1 : P.underlying t = some (.slice e)) (h2 : P.info? e = some i) (h3 : i.zero = some z) (h4 : i.size = size) (h5 : i.bytes = bytes) (h6 : z.cells.size = size) (h7 : 0 < size)
    (v : Value) (k : Nat) (xs : List Value) (hs : a.eval s = v) (hown : w.ownsRow base e size v k xs) (A : Option Addr) (m c : Nat) (news : List Value) (hx : a.eval x = .slice A m c) (hn : news.length = m * size) (hz : A = none → m = 0 ∧ c = 0)
    (hc : ∀ ad, A = some ad → ∀ j u, news[j]? = some u → w.cell? (ad.add j) = some u) (h1c : ∀ u ∈ news, u.oneCell' = true) (b1 : k + m ≤ maxLen) (b2 : (k + m) * bytes ≤ 140737488355328) (b3 : base ≤ w.heap.size)
    (hK : ∀ v' w', w'.ownsRow base e size v' (k + m) (xs ++ news) → w.grownBy w' v.ownBlock → wpList P ops Q rest (a.put o.dst v') w') : wpList P ops Q (o :: rest) a w := by
  cases A with
  | none =>
    obtain ⟨rfl, rfl⟩ := hz rfl
    have hnil : news = [] := List.eq_nil_of_length_eq_zero (by rw [hn]; omega)
    subst hnil
    exact wpList_append_own_none hgd s x t ho base e i size h1 h2 v k xs hs hown hx (hK v w (by simpa using hown) (World.grownBy.refl w _))
  | some ad => exact wpList_append_own w hgd s x t ho base e i z size bytes h1 h2 h3 h4 h5 h6 h7 v k xs hs hown ad m c news hx hn (hc ad rfl) h1c b1 b2 b3 (fun v' w' r1 r2 _ => hK v' w' r1 r2)

/-- Bytes as values. -/
def byt (d : List UInt8) : List Value := d.map fun u => Value.int .u8 (u.toNat : Int)
theorem byt_len (d : List UInt8) : (byt d).length = d.length := by simp [byt]
theorem byt_append (d e : List UInt8) : byt (d ++ e) = byt d ++ byt e := by simp [byt]
theorem byt_one (d : List UInt8) : ∀ u ∈ byt d, u.oneCell' = true := by
  intro u hu
  simp only [byt, List.mem_map] at hu
  obtain ⟨x, _, rfl⟩ := hu
  rfl
theorem data_own {w : World} {base : Nat} {v : Value} {d : List UInt8} (h : w.ownsRow base 5 1 v d.length (byt d)) : DataAt w v d := by
  rcases h.2 with ⟨rfl, hn⟩ | ⟨g, cap, cur, rfl, hb, hh, hc, hm, hs, ht⟩
  · exact ⟨none, 0, by rw [hn], by omega, Nat.zero_le _, fun _ => ⟨hn, rfl⟩, fun h => by omega⟩
  · refine ⟨_, cap, rfl, hc, hm, (fun e => by cases e), fun _ => ⟨g, 0, rfl, lt_of_block hh, fun j u hj => ?_⟩⟩
    have hjl : j < d.length := (List.getElem?_eq_some_iff.1 hj).1
    have hg : (byt d)[j]? = some (.int .u8 (u.toNat : Int)) := by simp [byt, hj]
    rw [← ht, List.getElem?_take_of_lt (by omega)] at hg
    rw [Nat.zero_add, (cell_of hh _).1]
    simpa using hg
/-- Where the bytes to be appended lie. -/
theorem DataAt.src {w : World} {A : Option Addr} {n c : Nat} {d : List UInt8} (h : DataAt w (.slice A n c) d) : n = d.length ∧ (A = none → n = 0 ∧ c = 0) ∧ ∀ W : World, Below w.heap.size w W → ∀ ad, A = some ad → ∀ j u, (byt d)[j]? = some u → W.cell? (ad.add j) = some u := by
  obtain ⟨A', c', e, h1, h2, hn, h3⟩ := h
  injection e with e1 e2 e3
  subst e1 e2 e3
  refine ⟨rfl, hn, fun W hW ad e j u hj => ?_⟩
  have hjl : j < d.length := by have := (List.getElem?_eq_some_iff.1 hj).1; rw [byt_len] at this; exact this
  obtain ⟨b, off, hA, hlt, hc⟩ := h3 (by omega)
  rw [hA] at e
  cases e
  rw [add_plain]
  refine (hW.cell (p := ⟨b, off + j, none⟩) hlt).trans ?_
  rw [hc j _ (List.getElem?_eq_getElem hjl)]
  simp [byt, List.getElem?_eq_getElem hjl] at hj
  rw [← hj]

end Go.Proofs.YtbanfkpfijcmcaaGreatDoor
