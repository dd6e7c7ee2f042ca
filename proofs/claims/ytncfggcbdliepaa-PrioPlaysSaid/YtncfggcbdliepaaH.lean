/- slices.Delete at items. -/
import Derived.Test.YtncfggcbdliepaaG
import Derived.Deep.RegionLaw
import Derived.Lib.SliceRun
import Derived.Deep.Upon
namespace Go.Proofs.Ytncfggcbdliepaa
open Go.RowKit
set_option linter.unusedSimpArgs false
set_option linter.unusedVariables false
set_option maxRecDepth 100000

/-- Cells written one behind another, in a block. -/
theorem setCells_block {b : Nat} {T : TypeId} {fr : Nat × Nat} : ∀ (vs : List Value) (o : Nat) (w : World) (cur : Array Value), w.heap[b]? = some (.cells cur T fr) →
    ∃ cur' : Array Value, (w.setCells b o vs).heap[b]? = some (.cells cur' T fr) ∧ cur'.size = cur.size ∧ ∀ k, cur'[k]? = if o ≤ k ∧ k < o + vs.length ∧ k < cur.size then vs[k - o]? else cur[k]?
  | [], o, w, cur, h => ⟨cur, h, rfl, fun k => by rw [if_neg (by simp; omega)]⟩
  | v :: r, o, w, cur, h => by
    obtain ⟨cur', h1, h2, h3⟩ := setCells_block r (o + 1) (w.setCell ⟨b, o, none⟩ v) _ (set_block h o v)
    refine ⟨cur', h1, by simpa using h2, fun k => ?_⟩
    rw [h3 k]
    simp only [Array.size_setIfInBounds, List.length_cons]
    by_cases e1 : o + 1 ≤ k ∧ k < o + 1 + r.length ∧ k < cur.size
    · rw [if_pos e1, if_pos (by omega)]
      obtain ⟨j, hj⟩ : ∃ j, k - o = j + 1 := ⟨k - (o + 1), by omega⟩
      rw [hj, List.getElem?_cons_succ]
      congr 1; omega
    · rw [if_neg e1]
      by_cases e2 : o = k
      · subst e2
        by_cases e3 : o < cur.size
        · rw [if_pos (by omega)]; simp [e3]
        · rw [if_neg (by omega)]; simp [e3]
      · rw [if_neg (by omega), Array.getElem?_setIfInBounds_ne e2]
theorem grown_set (w : World) (q j : Nat) (v : Value) : w.grownBy (w.setCell ⟨q, j, none⟩ v) (some q) :=
  ⟨rfl, rfl, rfl, by simp [World.setCell], fun i hi hne => set_other w (fun e => hne (by rw [e])) j v⟩
theorem setCells_grown (b : Nat) : ∀ (vs : List Value) (o : Nat) (w : World), w.grownBy (w.setCells b o vs) (some b)
  | [], _, w => grown_refl w _
  | v :: r, o, w => grown_trans (grown_set w b o v) (setCells_grown b r (o + 1) _)
theorem run_clear3 (w : World) (ty : TypeId) (b o c : Nat) (hc : ∀ j, j < 3 → (w.cell? ⟨b, o + j, none⟩).isSome = true) (hf : ∀ j, j < 3 → w.frozen? ⟨b, o + j, none⟩ = false) :
    (Builtin.clear_ #[32] ty #[.slice (some ⟨b, o, none⟩) 1 c]).run Try.prog w = .ok (.tuple #[]) (w.setCells b o [.int .i64 0, .int .i64 0, .int .i64 0]) := by
  have hst := run_storeCells_cells (P := Try.prog) b o [.int .i64 0, .int .i64 0, .int .i64 0] 0 w (by simpa using hc) (by simpa using hf) (by simp [Value.oneCell'])
  simp only [Nat.add_zero] at hst
  have hv : (zeroValue 35).run Try.prog w = .ok (.agg #[.int .i64 0, .int .i64 0, .int .i64 0]) w := by kernel_rfl
  have hzc : (Builtin.zeroCells (Value.agg #[.int .i64 0, .int .i64 0, .int .i64 0]).cells 1).toList = [.int .i64 0, .int .i64 0, .int .i64 0] := by simp [Builtin.zeroCells, Value.cells, List.range_succ]
  simp [Builtin.clear_, run_underlying Try.underlying32, hv, hzc, hst]

set_option maxHeartbeats 4000000 in
theorem delete_walk (b n cap i : Nat) (cur : Array Value) (w : World) (hb : w.heap[b]? = some (.cells cur 35 (0, 0))) (hs : cur.size = cap * 3) (hn : n ≤ cap) (hm : cap ≤ 9223372036854775807) (hi : i < n) (news : List Value) (hnl : news.length = (n - (i + 1)) * 3)
    (hnews : ∀ j u, news[j]? = some u → cur[(i + 1) * 3 + j]? = some u) (hone : ∀ u ∈ news, u.oneCell' = true) :
    Calls Try.prog 32 #[.slice (some ⟨b, 0, none⟩) n cap, .int .i64 i, .int .i64 ((i : Int) + 1)] w fun e w' => e = .returned (.slice (some ⟨b, 0, none⟩) (n - 1) cap) ∧
      w' = (w.drew.setCells b (i * 3) news).setCells b ((n - 1) * 3) [.int .i64 0, .int .i64 0, .int .i64 0] := by
  obtain ⟨i35, hi0, hz0, hz1, hz2⟩ := info_parts info35
  obtain ⟨A, hA, hsrc⟩ : ∃ A : Addr, (if cap = i + 1 then some (⟨b, 0, none⟩ : Addr) else some ⟨b, (i + 1) * 3, none⟩) = some A ∧ Hid (∀ t u, news[t]? = some u → w.drew.cell? (A.add t) = some u) := by
    by_cases h : cap = i + 1
    · refine ⟨⟨b, 0, none⟩, by simp [h], fun t u hu => ?_⟩
      have h0 : news.length = 0 := by rw [hnl]; omega
      rw [List.length_eq_zero_iff.1 h0] at hu
      simp at hu
    · refine ⟨⟨b, (i + 1) * 3, none⟩, by simp [h], fun t u hu => ?_⟩
      rw [Addr.add_lit]
      exact ((cell_of (w := w.drew) hb _).1).trans (hnews t u hu)
  have s1 : Hid (news.length = (n - (i + 1)) * 3) := hnl
  have s2 : Hid (∀ u ∈ news, u.oneCell' = true) := hone
  have cs : ∀ j, j < cap * 3 → (w.drew.cell? ⟨b, j, none⟩).isSome = true ∧ w.drew.frozen? ⟨b, j, none⟩ = false := fun j hj => by
    obtain ⟨c1, c2⟩ := cell_of (w := w.drew) hb j
    rw [c1]
    exact ⟨by rw [Array.getElem?_eq_getElem (by omega)]; rfl, c2⟩
  have s3 : Hid (∀ t, t < news.length → (w.drew.cell? ⟨b, 0 + i * 3 + t, none⟩).isSome = true ∧ w.drew.frozen? ⟨b, 0 + i * 3 + t, none⟩ = false) := by
    intro t ht
    rw [hnl] at ht
    exact cs _ (by omega)
  obtain ⟨W1, hW1⟩ : ∃ W1, W1 = w.drew.setCells b (0 + i * 3) news := ⟨_, rfl⟩
  have hcl : ∀ ty, (Builtin.clear_ #[32] ty #[.slice (some ⟨b, (i + (n - (i + 1))) * 3, none⟩) (n - (i + (n - (i + 1)))) (cap - (i + (n - (i + 1))))]).run Try.prog W1 = .ok (.tuple #[]) (W1.setCells b ((i + (n - (i + 1))) * 3) [.int .i64 0, .int .i64 0, .int .i64 0]) := by
    intro ty
    rw [show n - (i + (n - (i + 1))) = 1 by omega]
    obtain ⟨cur', h1, h2, -⟩ := setCells_block news (0 + i * 3) w.drew cur hb
    rw [← hW1] at h1
    refine run_clear3 W1 ty b _ _ (fun j hj => ?_) (fun j hj => (cell_of h1 _).2)
    rw [(cell_of h1 _).1, Array.getElem?_eq_getElem (by omega)]; rfl
  have hW : Hid (W1 = w.drew.setCells b (0 + i * 3) news) := hW1
  have hne : ((i : Int) == (i : Int) + 1) = false := by rw [beq_eq_false_iff_ne]; omega
  have hp0 : (0 : Int) ≤ (i : Int) + 1 := by omega
  have hic : i ≤ cap := by omega
  have hq : (i : Int) + 1 ≤ (n : Int) := by omega
  have hp2 : ((i : Int) + 1).toNat = i + 1 := by omega
  have HN := Lib.hid (show i + (n - (i + 1)) = n - 1 by omega)
  clear hb hnews hnl hone cs hW1
  go_enter Try.func32, Try.ntmps32
  go_wp2_with fail
  go_region_law (refine step_append_room rfl (.tmp 22) (.tmp 25) 32 rfl 35 i35 3 Try.underlying32 hi0 hz1 b 0 i cap (by simp [Act.eval, Act.put]) A (n - (i + 1)) (cap - (i + 1)) news (by simp [Act.eval, Act.put]) s1.out hsrc.out s2.out (by omega) s3.out ?_; rw [← hW.out])
  go_wp2
  go_ret
  exact ⟨by rw [← HN.out]; rfl, by rw [HN.out, hW.out, Nat.zero_add]⟩

theorem Delete_any (v : Value) (l : List It) (i : Nat) (w : World) (h : w.ownsRow 0 35 3 v l.length (flat l)) (hi : i < l.length) :
    Calls Try.prog 32 #[v, .int .i64 i, .int .i64 ((i : Int) + 1)] w fun e w' => ∃ v' b, e = .returned v' ∧ v.ownBlock = some b ∧ v'.ownBlock = some b ∧
      w'.ownsRow 0 35 3 v' (l.take i ++ l.drop (i + 1)).length (flat (l.take i ++ l.drop (i + 1))) ∧ w.grownBy w' (some b) := by
  rcases h.2 with ⟨rfl, hn⟩ | ⟨b, cap, cur, rfl, hb, hh, hc, hm, hs, ht⟩
  · omega
  · unfold maxLen at hm
    have hget : ∀ k, k < l.length * 3 → cur[k]? = (flat l)[k]? := fun k hk => by
      rw [← ht, List.getElem?_take_of_lt hk, Array.getElem?_toList]
    have e1 : flat l = flat (l.take (i + 1)) ++ flat (l.drop (i + 1)) := by rw [← flat_append, List.take_append_drop]
    have e2 : flat l = flat (l.take i) ++ flat (l.drop i) := by rw [← flat_append, List.take_append_drop]
    have f1 : (flat (l.take (i + 1))).length = (i + 1) * 3 := by rw [flat_len, List.length_take]; omega
    have f2 : (flat (l.take i)).length = i * 3 := by rw [flat_len, List.length_take]; omega
    have f3 : (flat (l.drop (i + 1))).length = (l.length - (i + 1)) * 3 := by rw [flat_len, List.length_drop]
    refine (delete_walk b l.length cap i cur w hh hs hc hm hi (flat (l.drop (i + 1))) f3 (fun j u hu => ?_) (flat_one _)).mono ?_
    · have hj : j < (l.length - (i + 1)) * 3 := by rw [← f3]; exact (List.getElem?_eq_some_iff.1 hu).1
      rw [hget _ (by omega), e1, List.getElem?_append_right (by omega), f1, Nat.add_sub_cancel_left]
      exact hu
    · rintro e w' ⟨rfl, rfl⟩
      obtain ⟨c1, g1, z1, k1⟩ := setCells_block (flat (l.drop (i + 1))) (i * 3) w.drew cur hh
      obtain ⟨c2, g2, z2, k2⟩ := setCells_block [.int .i64 0, .int .i64 0, .int .i64 0] ((l.length - 1) * 3) _ c1 g1
      have hlen : (l.take i ++ l.drop (i + 1)).length = l.length - 1 := by rw [List.length_append, List.length_take, List.length_drop]; omega
      refine ⟨_, b, rfl, rfl, rfl, ⟨flat_len _, .inr ⟨b, cap, c2, by rw [hlen], Nat.zero_le _, g2, by omega, hm, by omega, ?_⟩⟩, ?_⟩
      · rw [hlen, flat_append]
        refine List.ext_getElem? fun k => ?_
        rcases Nat.lt_or_ge k ((l.length - 1) * 3) with hk | hk
        · rw [List.getElem?_take_of_lt hk, Array.getElem?_toList, k2 k, if_neg (by omega), k1 k]
          rcases Nat.lt_or_ge k (i * 3) with hk2 | hk2
          · rw [if_neg (by omega), hget k (by omega), e2, List.getElem?_append_left (by omega), List.getElem?_append_left (by omega)]
          · rw [if_pos (by omega), List.getElem?_append_right (by omega), f2]
        · rw [List.getElem?_eq_none (by simp; omega), List.getElem?_eq_none (by rw [List.length_append, f2, f3]; omega)]
      · exact grown_undrew (grown_trans (setCells_grown b _ _ _) (setCells_grown b _ _ _))
end Go.Proofs.Ytncfggcbdliepaa
