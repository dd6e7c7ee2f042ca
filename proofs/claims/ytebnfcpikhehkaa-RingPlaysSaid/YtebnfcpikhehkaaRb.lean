/- The reference's ring: Put, Take, Grow. -/
import Derived.Test.YtebnfcpikhehkaaRa
import Derived.Laws.AppendOwnNone
namespace Go.Proofs.Ytebnfcpikhehkaa
open Go.RowKit
set_option linter.unusedSimpArgs false
set_option linter.unusedVariables false
set_option maxRecDepth 100000

theorem cut_lo_none (A : Option Addr) (len cap n : Nat) (hn : n ≤ len) (hlc : len ≤ cap) (A' : Option Addr) (h : ∀ w, (Instr.sliceAt 22 (.slice A len cap) (some (.int .i64 (n : Int))) none none).run Try.prog w = .ok (.slice A' (len - n) (cap - n)) w) (w0 : World) (e : A' = none) : A = none := by
  have h1 := h w0
  rw [run_sliceAt_slice _ _ _ _ _ _ elem22, run_slice_l (w := w0) 22 A len cap elem22 .i64 n (by omega) (by omega), size22] at h1
  simp [Result.andThen, sliced] at h1
  subst e
  split at h1
  · exact h1
  · simpa using h1
theorem rr_set {w : World} {q M : Nat} {A : Option Addr} {cap : Nat} {L : List Int} {ip op : Nat} (h : w.heap[q]? = some (.cells #[.int .i64 M, .slice A L.length cap, .int .u64 ip, .int .u64 op] 43 (0, 0))) (A' : Option Addr) (l' c' j k : Nat) (v : Int) :
    ((w.setCell ⟨q, 1, none⟩ (.slice A' l' c')).setCell ⟨q, 2, none⟩ (.int .u64 v)).heap[q]? = some (.cells #[.int .i64 M, .slice A' l' c', .int .u64 v, .int .u64 op] 43 (0, 0)) ∧
    ((w.setCell ⟨q, 1, none⟩ (.slice A' l' c')).setCell ⟨q, 3, none⟩ (.int .u64 v)).heap[q]? = some (.cells #[.int .i64 M, .slice A' l' c', .int .u64 ip, .int .u64 v] 43 (0, 0)) ∧
    (w.setCell ⟨q, 0, none⟩ (.int .i64 v)).heap[q]? = some (.cells #[.int .i64 v, .slice A L.length cap, .int .u64 ip, .int .u64 op] 43 (0, 0)) := by
  refine ⟨?_, ?_, ?_⟩ <;> simp [World.setCell, Array.getElem?_modify, h]
theorem grown_set (w : World) (q j : Nat) (v : Value) : w.grownBy (w.setCell ⟨q, j, none⟩ v) (some q) :=
  ⟨rfl, rfl, rfl, by simp [World.setCell], fun i hi hne => by
    have hne' : ¬ q = i := fun e => hne (by rw [e])
    simp [World.setCell, Array.getElem?_modify, hne']⟩
theorem Ints.grown {kd : IntKind} {w w' : World} {a : Option Addr} {zs : List Int} {r : Nat} (h : Ints kd w a zs) (hg : w.grownBy w' (some r)) (hne : ∀ b o s, 0 < zs.length → a = some ⟨b, o, s⟩ → b ≠ r) : Ints kd w' a zs := by
  intro h0
  obtain ⟨b, off, e, hlt, hc⟩ := h h0
  refine ⟨b, off, e, Nat.lt_of_lt_of_le hlt hg.size, fun i hi => ?_⟩
  rw [← hc i hi]
  unfold World.cell?
  simp only
  rw [hg.block b hlt (fun e2 => hne b off none h0 e (by injection e2))]

set_option maxHeartbeats 2000000 in
theorem rgrow_bad (q M : Nat) (A : Option Addr) (cap : Nat) (L : List Int) (ip op : Nat) (c : Int) (w : World) (h : Rr w q M A cap L ip op) (hL : L.length ≤ 65536) (hc : c < (L.length : Int) ∨ 65536 < c) :
    Calls Try.prog 24 #[.pointer (some ⟨q, 0, none⟩), .int .i64 c] w fun e w' => e = .returned (.int .i64 2) ∧ w = w' := by
  obtain ⟨c0, c1, c2, c3, z0, z1, z2, z3⟩ := h.cells
  clear h c2 c3 z2 z3 hL
  generalize hln : L.length = ln at *
  clear hln
  by_cases h1 : c < (ln : Int)
  case' neg =>
    have h1 : (ln : Int) ≤ c := by omega
    have h2 : 65536 < c := by omega
  all_goals
    clear hc
    go_enter Try.func24, Try.ntmps24
    go_wp2_with fail
    go_ret
    exact ⟨rfl, rfl⟩
set_option maxHeartbeats 2000000 in
theorem rgrow_ok (q M : Nat) (A : Option Addr) (cap : Nat) (L : List Int) (ip op : Nat) (c : Nat) (w : World) (h : Rr w q M A cap L ip op) (hc : L.length ≤ c) (hc2 : c ≤ 65536) (hA : ∀ b o s, 0 < L.length → A = some ⟨b, o, s⟩ → b ≠ q) :
    Calls Try.prog 24 #[.pointer (some ⟨q, 0, none⟩), .int .i64 c] w fun e w' => e = .returned (.int .i64 0) ∧ Rr w' q c A cap L ip op ∧ w.grownBy w' (some q) := by
  obtain ⟨c0, c1, c2, c3, z0, z1, z2, z3⟩ := h.cells
  have H := Lib.hid h
  have HA := Lib.hid hA
  clear h c2 c3 z2 z3 hA
  generalize hln : L.length = ln at *
  have HL := Lib.hid hln
  clear hln
  have h1 : (ln : Int) ≤ (c : Int) := by omega
  have h2 : (c : Int) ≤ 65536 := by omega
  go_enter Try.func24, Try.ntmps24
  go_wp2_with fail
  go_ret
  have hg := grown_set w q 0 (.int .i64 (c : Int))
  exact ⟨rfl, ⟨(rr_set H.out.k none 0 0 0 0 (c : Int)).2.2, H.out.i.grown hg (fun b o s h0 e => HA.out b o s (by have := HL.out; omega) e), H.out.c, H.out.m, H.out.z⟩, hg⟩

set_option maxHeartbeats 2000000 in
theorem rtake_any (q M : Nat) (A : Option Addr) (cap : Nat) (L : List Int) (ip op : Nat) (m : Int) (w : World) (h : Rr w q M A cap L ip op) (hL : L.length ≤ 65536) (hop : op ≤ 1000000000000) (hA : ∀ b o s, 0 < L.length → A = some ⟨b, o, s⟩ → b ≠ q) :
    Calls Try.prog 22 #[.pointer (some ⟨q, 0, none⟩), .int .i64 m] w fun e w' => (∃ v, e = .returned v ∧ Got w' w.heap.size v (L.take m.toNat)) ∧ (∃ A' cap', Rr w' q M A' cap' (L.drop m.toNat) ip (op + (L.take m.toNat).length) ∧ (∀ b o s, A' = some ⟨b, o, s⟩ → ∃ o s, A = some ⟨b, o, s⟩)) ∧ w.grownBy w' (some q) := by
  have HK := Lib.hid (rlook_any q M A cap L ip op m w h hL)
  have hq := h.lt
  have H := Lib.hid h
  have HA := Lib.hid hA
  have htl : (L.take m.toNat).length ≤ L.length := by rw [List.length_take]; omega
  have hdl : (L.drop m.toNat).length = L.length - (L.take m.toNat).length := by rw [List.length_drop, List.length_take]; omega
  have hde : L.drop m.toNat = L.drop (L.take m.toNat).length := by
    rw [List.length_take]
    by_cases hh : m.toNat ≤ L.length
    · rw [Nat.min_eq_left hh]
    · rw [Nat.min_eq_right (by omega), List.drop_of_length_le (by omega), List.drop_of_length_le (by omega)]
  obtain ⟨A2, s2, j2, e2⟩ := cut_lo A L.length cap (L.take m.toNat).length htl h.c
  have NN := Lib.hid (cut_lo_none A L.length cap (L.take m.toNat).length htl h.c A2 s2 w)
  have J2 := Lib.hid j2; have E2 := Lib.hid e2; have HD := Lib.hid hdl; have HDE := Lib.hid hde
  have hcl := h.c
  have hcm := h.m
  clear h hA j2 e2 hdl hde
  generalize L.take m.toNat = T at *
  generalize L.drop m.toNat = D at *
  generalize hln : L.length = ln at *
  have HL := Lib.hid hln
  clear hln
  have S2 := Lib.hid s2
  clear s2
  generalize htn : T.length = tn at *
  have HT := Lib.hid htn
  clear htn
  have HM : Hid (cap ≤ maxLen) := Lib.hid hcm
  clear hcm
  go_enter Try.func22, Try.ntmps22
  go_wp2_with fail
  refine HK.out.mono ?_
  rintro e w1 ⟨⟨v, rfl, hv⟩, hb⟩
  have h1 := H.out.below hb
  obtain ⟨c0, c1, c2, c3, z0, z1, z2, z3⟩ := h1.cells
  obtain ⟨A1, cc, rfl, -⟩ := hv.form
  rw [HL.out] at c1
  rw [HT.out] at hv ⊢
  have HV := Lib.hid hv; have H1 := Lib.hid h1; have HB := Lib.hid hb
  clear hv h1 hb c0 c2 z0 z2
  go_wp2_with (refine wpList_slice (by rfl) 22 (.tmp 13) (some (.tmp 15)) none (by rfl) _ (S2.out _) ?_)
  go_ret
  have hst := rr_set H1.out.k A2 (ln - tn) (cap - tn) 0 0 ((op : Int) + (tn : Int))
  have hg1 := grown_trans (grown_set w1 q 1 (.slice A2 (ln - tn) (cap - tn))) (grown_set _ q 3 (.int .u64 ((op : Int) + (tn : Int))))
  have hi := J2.out w1 L H1.out.i HL.out
  refine ⟨⟨_, rfl, HV.out.kept hg1 hq⟩, ⟨A2, cap - tn, ⟨?_, ?_, ?_, ?_, fun e => by have := H.out.z (NN.out e); omega⟩, E2.out⟩, grown_trans (grown_of_below HB.out _) hg1⟩
  · have e1 : ((op + tn : Nat) : Int) = (op : Int) + (tn : Int) := by omega
    rw [HD.out, e1]
    exact hst.2.1
  · rw [HDE.out]
    refine hi.grown hg1 (fun b o s h0 e => ?_)
    obtain ⟨o', s', e'⟩ := E2.out b o s e
    exact HA.out b o' s' (by have := HL.out; simp only [List.length_drop] at h0; omega) e'
  · rw [HD.out]; omega
  · have := HM.out; omega

set_option maxHeartbeats 4000000 in
theorem rput_any (q M : Nat) (A : Option Addr) (cap : Nat) (L : List Int) (ip op : Nat) (B : Option Addr) (bl bcap : Nat) (bs : List Int) (w : World) (h : Rr w q M A cap L ip op) (hL : L.length ≤ M) (hM : M ≤ 65536) (hb : Ints .u8 w B bs) (hbs : bs.length = bl) (hbm : bl ≤ maxLen) (hip : ip ≤ 1000000000000) :
    Calls Try.prog 21 #[.pointer (some ⟨q, 0, none⟩), .slice B bl bcap] w fun e w' => e = .returned (.int .i64 (min bl (M - L.length) : Nat)) ∧ (∃ A' cap', Rr w' q M A' cap' (L ++ bs.take (M - L.length)) (ip + min bl (M - L.length)) op ∧ (∀ b o s, A' = some ⟨b, o, s⟩ → w.heap.size ≤ b)) ∧ w.grownBy w' (some q) := by
  unfold maxLen at hbm
  obtain ⟨i5, hi5, hz5, hs5, hy5⟩ := info_parts info5
  have I9 := Lib.hid hi5; have Z9 := Lib.hid hz5; have S9 := Lib.hid hs5; have Y9 := Lib.hid hy5
  clear hi5 hz5 hs5 hy5
  have hq := h.lt
  obtain ⟨c0, c1, c2, c3, z0, z1, z2, z3⟩ := h.cells
  have H := Lib.hid h; have HB := Lib.hid hb; have HS := Lib.hid hbs
  have CC : Hid (∀ W, Below w.heap.size w W → W.cell? ⟨q, 0, none⟩ = some (.int .i64 M) ∧ W.cell? ⟨q, 2, none⟩ = some (.int .u64 ip) ∧ W.frozen? ⟨q, 1, none⟩ = false ∧ W.frozen? ⟨q, 2, none⟩ = false ∧ (W.cell? ⟨q, 1, none⟩ = some (.slice A L.length cap))) :=
    Lib.hid (fun W hb => ⟨(hb.cell (p := ⟨q, 0, none⟩) hq).trans c0, (hb.cell (p := ⟨q, 2, none⟩) hq).trans c2, (hb.frozen (p := ⟨q, 1, none⟩) hq).trans z1, (hb.frozen (p := ⟨q, 2, none⟩) hq).trans z2, (hb.cell (p := ⟨q, 1, none⟩) hq).trans c1⟩)
  clear hb hbs c0 c2 c3 z0 z1 z2 z3
  have hz := h.z
  have hin := h.i
  have hcl := h.c
  clear h
  generalize hln : L.length = ln at *
  have HL := Lib.hid hln; clear hln
  have tail : ∀ (v : Value) (W : World), W.ownsRow w.heap.size 5 1 v ln (L.map (Value.int .u8)) → Below w.heap.size w W → True := fun _ _ _ _ => trivial
  clear tail
  have hnone : A = none → cap = 0 ∧ ln = 0 := fun e => ⟨hz e, by
    rcases Nat.eq_zero_or_pos ln with h | h
    · exact h
    · obtain ⟨b, off, e2, _⟩ := hin (by rw [HL.out]; exact h)
      rw [e] at e2; cases e2⟩
  have hsrc : ∀ ad, A = some ad → ∀ j u, (L.map (Value.int .u8))[j]? = some u → w.cell? (ad.add j) = some u := by
    intro ad e j u hj
    rw [List.getElem?_map] at hj
    have hjl : j < L.length := by
      rcases Nat.lt_or_ge j L.length with h | h
      · exact h
      · rw [List.getElem?_eq_none h] at hj; cases hj
    obtain ⟨b, off, e2, hlt, hc⟩ := hin (by omega)
    rw [e] at e2; injection e2 with e2; subst e2
    rw [add_plain, hc j hjl]
    rw [List.getElem?_eq_getElem hjl] at hj
    simp [List.getD, hjl] at hj ⊢
    exact hj
  have HSRC := Lib.hid hsrc
  have HNO := Lib.hid hnone
  have hmaps : (L.map (Value.int .u8)).length = ln * 1 := by rw [List.length_map, HL.out, Nat.mul_one]
  have hone : ∀ u ∈ L.map (Value.int .u8), u.oneCell' = true := fun u hu => by obtain ⟨y, _, rfl⟩ := List.mem_map.1 hu; rfl
  have HMP := Lib.hid hmaps
  have HON := Lib.hid hone
  clear hsrc hnone hmaps hone hz hin
  have hLM : Hid ((L ++ bs.take 0).map (Value.int .u8) = L.map (Value.int .u8)) := Lib.hid (by rw [List.take_zero, List.append_nil])
  rcases A with _ | ad
  case' none =>
    have h00 := HNO.out rfl
    have c1' : w.cell? ⟨q, 1, none⟩ = some (.slice none 0 0) := by rw [c1, h00.1, h00.2]
    have hL0 : L = [] := List.eq_nil_of_length_eq_zero (by rw [HL.out]; exact h00.2)
    have hown1 : Hid (w.ownsRow w.heap.size 5 1 (.slice none 0 0) ln (L.map (Value.int .u8))) := Lib.hid (by rw [hL0, h00.2]; exact World.ownsRow_nil _ _ _ _)
    clear c1 h00 hL0
    go_enter Try.func21, Try.ntmps21
    go_wp2_with (refine wpList_append_own_none (by rfl) (.tmp 7) (.tmp 11) 22 (by rfl) w.heap.size 5 i5 1 Try.underlying22 I9.out _ 0 [] (by rfl) (World.ownsRow_nil w _ _ _) (by rfl) ?_)
    have hb1 : Below w.heap.size w w := Below.refl _ _
    clear c1'
  case' some =>
    have hsr := HSRC.out ad rfl
    generalize hmp : L.map (Value.int .u8) = Lm at *
    have HMM := Lib.hid hmp
    clear hmp
    go_enter Try.func21, Try.ntmps21
    go_wp2_with (at_builtin; refine wpList_append_own _ rfl (.tmp 7) (.tmp 11) 22 rfl w.heap.size 5 i5 (.int .u8 0) 1 1 Try.underlying22 I9.out Z9.out S9.out Y9.out rfl (by decide) _ 0 [] rfl (World.ownsRow_nil w _ _ _) ad ln cap Lm rfl HMP.out hsr HON.out (by unfold maxLen; omega) (by omega) (Nat.le_refl _) ?_; intro v' w5 hown' hgrow _; have hb1 := (Below.refl w.heap.size w).grown hgrow (Nat.le_refl _) (fun k e => by cases e); simp only [Nat.zero_add, List.nil_append] at hown'; obtain ⟨A1, cc1, rfl, _⟩ := row_form hown'; have hown1 := Lib.hid hown'; clear hown' hgrow)
    rw [← HMM.out] at hown1
    clear c1 hsr
  all_goals
    go_loopw [5, 6] (fun n v wr => ∃ k : Nat, k ≤ bl ∧ ln + k ≤ M ∧ n = .int .i64 k ∧ Hid (wr.ownsRow w.heap.size 5 1 v (ln + k) ((L ++ bs.take k).map (Value.int .u8))) ∧ Below w.heap.size w wr) (fun n _ _ => bl - (intOf n).toNat)
    case atStart => exact ⟨0, by omega, by omega, rfl, by rw [List.take_zero, List.append_nil]; exact hown1, hb1⟩
    case round =>
      obtain ⟨k, hk, hkM, rfl, HOWN, hb⟩ := hrel
      obtain ⟨m0, m2, z1, z2, m1⟩ := CC.out wr hb
      have hsz := hb.size
      obtain ⟨A', c', rfl, hc'⟩ := row_form HOWN.out
      have hkm1 : ((ln + k : Nat) : Int) = (ln : Int) + (k : Int) := by omega
      by_cases h1 : k < bl
      · by_cases h2 : ln + k < M
        · have hst := row_step bs k (by have := HS.out; omega)
          obtain ⟨b, off, rfl, hbl, hc⟩ := HB.out (by have := HS.out; omega)
          have hck := (hb.cell (p := ⟨b, off + k, none⟩) hbl).trans (hc k (by have := HS.out; omega))
          generalize bs.getD k 0 = x at *
          have HST := Lib.hid hst
          clear hst hc hkm1 m1 m2 z1 z2
          go_wp2_with (at_builtin; refine wpList_append_own _ rfl (.tmp 26) (.tmp 31) 22 rfl w.heap.size 5 i5 (.int .u8 0) 1 1 Try.underlying22 I9.out Z9.out S9.out Y9.out rfl (by decide) _ _ _ rfl (HOWN.out.alloc _) ⟨wr.heap.size, 0, none⟩ 1 1 [.int .u8 x] rfl rfl (cell_one_new _ _ _) (by simp [Value.oneCell']) (by unfold maxLen; omega) (by omega) (by simp; omega) ?_; intro v' w5 hown' hgrow _; have hb5 := below_append hb HOWN.out hgrow (Nat.le_refl _) hsz; have HO2 := Lib.hid hown'; clear hgrow hown')
          go_roundw
          case rel => exact ⟨k + 1, by omega, by omega, by go_num, by rw [HST.out, ← List.append_assoc, List.map_append]; exact HO2, hb5⟩
          case measure => simp [intOf]; omega
        · have h2' : (M : Int) ≤ (ln : Int) + (k : Int) := by omega
          clear hkm1
          have hkk : min bl (M - ln) = k := by omega
          have HKK := Lib.hid hkk
          clear hkk
          have hipk : ((ip + k : Nat) : Int) = (ip : Int) + (k : Int) := by omega
          have HIPK := Lib.hid hipk
          clear hipk
          have hki : (k : Int) ≤ 65536 := by omega
          go_wp2_with fail
          go_ret
          have hle : (L ++ bs.take k).length = ln + k := by have := HS.out; have := HL.out; rw [List.length_append, List.length_take]; omega
          have htk : bs.take (M - ln) = bs.take k := by
            have := HKK.out; have := HS.out
            by_cases hh : bl ≤ M - ln
            · rw [List.take_of_length_le (by omega), List.take_of_length_le (by omega)]
            · congr 1; omega
          have hwr := (hb.block q hq).trans H.out.k
          have hst := rr_set hwr A' (ln + k) c' 0 0 ((ip : Int) + (k : Int))
          have hg1 := grown_trans (grown_set wr q 1 (.slice A' (ln + k) c')) (grown_set _ q 2 (.int .u64 ((ip : Int) + (k : Int))))
          rw [HKK.out, htk]
          have hlow : ∀ b o s, A' = some ⟨b, o, s⟩ → w.heap.size ≤ b := fun b o s e => (World.ownsRow.lt HOWN.out b (by rw [e]; rfl)).1
          refine ⟨rfl, ⟨A', c', ⟨?_, ?_, by rw [hle]; exact hc', ?_, ?_⟩, hlow⟩, grown_trans (grown_of_below hb _) hg1⟩
          · rw [hle, HIPK.out]; exact hst.1
          · have hG : Got wr w.heap.size (.slice A' (ln + k) c') (L ++ bs.take k) := by unfold Got; rw [hle]; exact HOWN.out
            exact hG.ints.1.grown hg1 (fun b o s h0 e => by have := hlow b o s e; omega)
          · rcases HOWN.out.2 with ⟨e, _⟩ | ⟨g', cap', cur, e, _, _, _, hcm, _⟩
            · injection e with _ _ e3; rw [e3]; exact Nat.zero_le _
            · injection e with _ _ e3; rw [e3]; exact hcm
          · intro e
            rcases HOWN.out.2 with ⟨e1, _⟩ | ⟨g', cap', cur, e1, _⟩
            · injection e1 with _ _ e3
            · injection e1 with e2 _ _; rw [e] at e2; cases e2
      · have h1' : (bl : Int) ≤ (k : Int) := by omega
        clear hkm1
        have hkk : min bl (M - ln) = k := by omega
        have HKK := Lib.hid hkk
        clear hkk
        have hipk : ((ip + k : Nat) : Int) = (ip : Int) + (k : Int) := by omega
        have HIPK := Lib.hid hipk
        clear hipk
        have hki : (k : Int) ≤ 65536 := by omega
        go_wp2_with fail
        go_ret
        have hle : (L ++ bs.take k).length = ln + k := by have := HS.out; have := HL.out; rw [List.length_append, List.length_take]; omega
        have htk : bs.take (M - ln) = bs.take k := by
          have := HKK.out; have := HS.out
          by_cases hh : bl ≤ M - ln
          · rw [List.take_of_length_le (by omega), List.take_of_length_le (by omega)]
          · congr 1; omega
        have hwr := (hb.block q hq).trans H.out.k
        have hst := rr_set hwr A' (ln + k) c' 0 0 ((ip : Int) + (k : Int))
        have hg1 := grown_trans (grown_set wr q 1 (.slice A' (ln + k) c')) (grown_set _ q 2 (.int .u64 ((ip : Int) + (k : Int))))
        rw [HKK.out, htk]
        have hlow : ∀ b o s, A' = some ⟨b, o, s⟩ → w.heap.size ≤ b := fun b o s e => (World.ownsRow.lt HOWN.out b (by rw [e]; rfl)).1
        refine ⟨rfl, ⟨A', c', ⟨?_, ?_, by rw [hle]; exact hc', ?_, ?_⟩, hlow⟩, grown_trans (grown_of_below hb _) hg1⟩
        · rw [hle, HIPK.out]; exact hst.1
        · have hG : Got wr w.heap.size (.slice A' (ln + k) c') (L ++ bs.take k) := by unfold Got; rw [hle]; exact HOWN.out
          exact hG.ints.1.grown hg1 (fun b o s h0 e => by have := hlow b o s e; omega)
        · rcases HOWN.out.2 with ⟨e, _⟩ | ⟨g', cap', cur, e, _, _, _, hcm, _⟩
          · injection e with _ _ e3; rw [e3]; exact Nat.zero_le _
          · injection e with _ _ e3; rw [e3]; exact hcm
        · intro e
          rcases HOWN.out.2 with ⟨e1, _⟩ | ⟨g', cap', cur, e1, _⟩
          · injection e1 with _ _ e3
          · injection e1 with e2 _ _; rw [e] at e2; cases e2
end Go.Proofs.Ytebnfcpikhehkaa
