/- Put: bytes go in. -/
import Derived.Test.YtebnfcpikhehkaaD
import Derived.IntWalk
namespace Go.Proofs.Ytebnfcpikhehkaa
open Go.RowKit Go.Shelf
attribute [local go_sem] Oper.semAt_some
set_option linter.unusedSimpArgs false
set_option linter.unusedVariables false
set_option maxRecDepth 100000

theorem step_copy_in {F : Fence} {n : Nat} {P : Program} {w : World} {ops : Array Oper} {o : Oper} {a : Act} {K : Act → World → Prop} {Q : Exit → Act → World → Prop} {E : Prop} (hgd : o.guard = none) (d s : Operand) (dT sT : TypeId)
    (ho : o.op = .call { callee := .builtin .copy, args := #[d, s], argTypes := #[dT, sT] }) (elem : TypeId) (hu : P.underlying dT = some (.slice elem)) (hsz : (P.info? elem).map (·.size) = some 1)
    (g off dLen dCap : Nat) (ad : Addr) (sLen sCap : Nat) (hd : a.eval d = .slice (some ⟨g, off, none⟩) dLen dCap) (hs : a.eval s = .slice (some ad) sLen sCap)
    (cur : List Value) (t : TypeId) (hg : w.heap[g]? = some (.cells cur.toArray t (0, 0))) (cs : List Value) (hn : cs.length = Nat.min sLen dLen)
    (hsrc : ∀ j v, cs[j]? = some v → w.cell? (ad.add j) = some v) (hfit : off + cs.length ≤ cur.length) (h1 : ∀ v ∈ cs, v.oneCell' = true)
    (h : ∀ w', w'.heap[g]? = some (.cells (splice cur off cs).toArray t (0, 0)) → w.grownBy w' (some g) → K (a.put o.dst (goInt cs.length)) w') : if Region.wanted o (yielded ops a.tmps) = true then Oper.wpIn F n P o a w K Q else E := by
  have hw : Region.wanted o (yielded ops a.tmps) = true := by simp [Region.wanted, hgd]
  rw [if_pos hw]
  have hrun := run_copy_row (P := P) w dT sT o.type elem g off dLen dCap ad sLen sCap cur.toArray t cs hu hsz hg hn hsrc (by simpa using hfit) h1
  unfold Oper.wpIn
  refine ⟨?_, ?_⟩
  · simp [Oper.about, ho, resolve, Target.leads, Sem.run_pure]
  · rw [Oper.semAt_plain F _ _ (by rw [ho]; intro c hc'; cases hc')]
    simp [execOp, ho, resolve, invoke, builtin, hd, hs, hrun, Result.andThen]
    refine h _ ?_ ?_
    · show _ = _
      simpa [splice] using setRow_heap w g _ _ t _ hg
    · exact ⟨rfl, rfl, rfl, by simp [World.setRow], fun k hk hne => setRow_other w g k _ (fun e => hne (by rw [e]))⟩

theorem Rk.put {w : World} {g gb C fr n : Nat} {ip op : Int} (k : Rk w g gb C fr n ip op) (n' : Nat) (ip' : Int) (y z : Int) (hy : y = n') (hz : z = ip') :
    Rk ((w.setCell ⟨g, 2, none⟩ (.int .i64 y)).setCell ⟨g, 3, none⟩ (.int .u64 z)) g gb C fr n' ip' op ∧ w.grownBy ((w.setCell ⟨g, 2, none⟩ (.int .i64 y)).setCell ⟨g, 3, none⟩ (.int .u64 z)) (some g) := by
  subst hy hz
  unfold Rk at *
  constructor
  · simp [World.setCell, Array.getElem?_modify, k]
  · refine ⟨rfl, rfl, rfl, by simp [World.setCell], fun i hi hne => ?_⟩
    have hne' : ¬ g = i := fun e => hne (by rw [e])
    simp [World.setCell, Array.getElem?_modify, hne']

/-- What Put holds between two rounds: w is the world when 'left' was laid. -/
structure PtI (w : World) (g gb C fr n0 k bb bo cap : Nat) (ip op : Int) (cs bs : List Int) (s : List (Nat × Nat)) (W : World) : Prop where
  left : ∃ v, Boxed W w.heap.size 22 v ∧ (∃ A l c, v = .slice A l c) ∧ (sm s < k → v = .slice (some ⟨bb, bo + sm s, none⟩) (k - sm s) (cap - sm s))
  bx : By W gb (wrt cs (fr + n0) (bs.take (sm s)))
  oth : ∀ j, j < w.heap.size → j ≠ gb → W.heap[j]? = w.heap[j]?
  sz : w.heap.size + 4 ≤ W.heap.size
  io : W.os = w.os ∧ W.tape = w.tape ∧ W.output = w.output
theorem PtI.own {w A B : World} {g gb C fr n0 k bb bo cap n₀ : Nat} {ip op : Int} {cs bs : List Int} {s : List (Nat × Nat)} {row : Option Nat} (h : PtI w g gb C fr n0 k bb bo cap ip op cs bs s A) (hgb : gb < w.heap.size) (hgr : A.grownBy B row)
    (hn₀ : w.heap.size + 4 ≤ n₀) (hr : ∀ r, row = some r → (r = w.heap.size + 3 ∨ r = w.heap.size + 2) ∨ (n₀ ≤ r ∧ ∃ o : Obj, A.heap[r]? = some o ∧ o.isCells = false)) : PtI w g gb C fr n0 k bb bo cap ip op cs bs s B := by
  obtain ⟨v, hv, hv2⟩ := h.left
  have hsz := h.sz
  have key : ∀ k, k < w.heap.size + 1 → B.heap[k]? = A.heap[k]? := fun k hk => hgr.block k (by omega) (fun e => by have := hr k e.symm; omega)
  exact ⟨⟨v, (key _ (by omega)).trans hv, hv2⟩, (key _ (by omega)).trans h.bx, fun j hj hne => (key _ (by omega)).trans (h.oth j hj hne), Nat.le_trans hsz hgr.size, ⟨hgr.os.trans h.io.1, hgr.tape.trans h.io.2.1, hgr.output.trans h.io.2.2⟩⟩
/-- Behind a round. -/
theorem PtI.app {w W w1 : World} {g gb C fr n0 k bb bo cap : Nat} {ip op : Int} {cs bs : List Int} {s : List (Nat × Nat)} {x : Nat × Nat} {A : Option Addr} {l c : Nat} (h : PtI w g gb C fr n0 k bb bo cap ip op cs bs s W) (hgb : gb < w.heap.size) (hg : g < w.heap.size) (hne : g ≠ gb)
    (hr : By w1 gb (wrt cs (fr + n0) (bs.take (sm s + x.2)))) (hgr : W.grownBy w1 (some gb)) (hA : sm s + x.2 < k → Value.slice A l c = .slice (some ⟨bb, bo + (sm s + x.2), none⟩) (k - (sm s + x.2)) (cap - (sm s + x.2))) :
    PtI w g gb C fr n0 k bb bo cap ip op cs bs (s ++ [x]) (w1.setCell ⟨w.heap.size, 0, none⟩ (.slice A l c)) ∧ KeepsOthers W (w1.setCell ⟨w.heap.size, 0, none⟩ (.slice A l c)) ∧ KR (w.heap.size + 3) (w.heap.size + 2) (w.heap.size + 1) g W (w1.setCell ⟨w.heap.size, 0, none⟩ (.slice A l c)) := by
  have hsz := h.sz
  obtain ⟨v, hv, hv2⟩ := h.left
  have hb : ∀ j, j < W.heap.size → j ≠ gb → w1.heap[j]? = W.heap[j]? := fun j hj hne => hgr.block j hj (fun e => hne (by injection e))
  have hv1 : Boxed w1 w.heap.size 22 v := (hb _ (by omega) (by omega)).trans hv
  have oth : ∀ j, j < W.heap.size → j ≠ gb → j ≠ w.heap.size → (w1.setCell ⟨w.heap.size, 0, none⟩ (.slice A l c)).heap[j]? = W.heap[j]? := fun j hj h1 h2 => (Below.heap_setCell _ _ _ _ (by simpa using h2)).trans (hb j hj h1)
  refine ⟨⟨⟨_, hv1.set _, ⟨_, _, _, rfl⟩, ?_⟩, ?_, fun j hj h1 => (oth j (by omega) h1 (by omega)).trans (h.oth j hj h1), ?_, ?_⟩, ?_, ⟨oth _ (by omega) (by omega) (by omega), oth _ (by omega) (by omega) (by omega), oth _ (by omega) (by omega) (by omega), oth _ (by omega) hne (by omega)⟩⟩
  · rw [sm_snoc]; exact hA
  · rw [sm_snoc]; exact (Below.heap_setCell _ _ _ _ (by simp; omega)).trans hr
  · exact Nat.le_trans (Nat.le_trans hsz hgr.size) (KeepsOthers.setCell w1 _ _).size
  · exact ⟨hgr.os.trans h.io.1, hgr.tape.trans h.io.2.1, hgr.output.trans h.io.2.2⟩
  · refine (KeepsOthers.of_grownBy hgr fun j o' ej hj => ?_).trans (KeepsOthers.setCell _ _ _)
    obtain rfl : gb = j := by injection ej
    have := h.bx
    unfold By at this
    rw [this] at hj; cases hj; rfl

set_option maxHeartbeats 4000000 in
theorem put_in (n : Nat) (hn : 3 ≤ n) (g gb C fr n0 k bb bo len cap : Nat) (ip op : Nat) (cs bs : List Int) (w : World) (rk : Rk w g gb C fr n0 ip op) (hb : By w gb cs) (hcs : cs.length = C) (hC : C ≤ 65536) (hn0 : n0 ≤ C) (hfr : fr ≤ C)
    (hlc : len ≤ cap) (hcap : cap ≤ maxLen) (hbs : bs.length = len) (hbb : bb < w.heap.size) (hbc : ∀ i, i < len → w.cell? ⟨bb, bo + i, none⟩ = some (.int .u8 (bs.getD i 0))) (hne : bb ≠ gb) (hne2 : g ≠ gb) (hne3 : bb ≠ g) (hip : ip ≤ 1000000000000)
    (hk : k = min len (C - n0)) (h0 : 0 < k) :
    CallsIn Fence.wide n Try.prog 11 #[.pointer (some ⟨g, 0, none⟩), .slice (some ⟨bb, bo, none⟩) len cap] w fun e W' => e = .returned (.int .i64 k) ∧ Rk W' g gb C fr (n0 + k) ((ip + k : Nat) : Int) op ∧ By W' gb (wrt cs (fr + n0) (bs.take k)) ∧
      (∀ j, j < w.heap.size → j ≠ g → j ≠ gb → W'.heap[j]? = w.heap[j]?) ∧ w.heap.size ≤ W'.heap.size ∧ W'.os = w.os ∧ W'.tape = w.tape ∧ W'.output = w.output := by
  have h1 : 1 ≤ n := by omega
  have h2 : 1 ≤ n - 1 - 1 := by omega
  have hgl := rk.lt
  have hgbl := hb.lt
  unfold maxLen at hcap
  have hkl : k ≤ len := by omega
  have hkC : n0 + k ≤ C := by omega
  have HK := Lib.hid hk
  have HB := Lib.hid hb
  have HC := Lib.hid hbc
  have RK := Lib.hid rk
  have HS := Lib.hid hbs
  have HR := Lib.hid (room_any g gb C fr n0 ip op w rk hC hn0)
  clear hb hk hbc rk hbs
  refine callsIn_of_wp_marks Try.func11 rfl trivial ?_ rfl
  simp only [Try.ntmps11, List.size_toArray, List.length_cons, List.length_nil, Nat.reduceAdd, Nat.reduceSub, Array.replicate_succ, Array.replicate_zero, List.push_toArray, List.append_toArray, List.nil_append, List.cons_append]
  gi_wp2_with fail
  refine ⟨trivial, (callsIn_wide.2 HR.out).mono ?_⟩
  rintro e w1 ⟨rfl, b1⟩
  have hcase : (((C - n0 : Nat) : Int) < (len : Int) ∧ C - n0 = k) ∨ ((len : Int) ≤ ((C - n0 : Nat) : Int) ∧ len = k) := by have := HK.out; omega
  have RK1 : Hid (Rk w1 g gb C fr n0 ip op) := Lib.hid ((b1.block _ hgl).trans RK.out)
  have HB1 : Hid (By w1 gb cs) := Lib.hid ((b1.block _ hgbl).trans HB.out)
  have HC1 : Hid (∀ i, i < len → w1.cell? ⟨bb, bo + i, none⟩ = some (.int .u8 (bs.getD i 0))) := Lib.hid (fun i hi => (b1.cell (p := ⟨bb, bo + i, none⟩) hbb).trans (HC.out i hi))
  obtain ⟨k0, k1, k2, k3, k4, k5, z0, z1, z2, z3, z4⟩ := RK1.out.cells
  clear k0 k3 k4 k5 z0 z1 z2 z3 z4
  have hs1 := b1.size
  have B1 := Lib.hid b1
  clear b1
  have i1 : (fr : Int) + (n0 : Int) ≤ 131072 := by omega
  have hkc : (k : Int) ≤ (cap : Int) := by omega
  have hgl1 : g < w1.heap.size := by omega
  have fin : ∀ W2, W2 = w1.alloc (.cells #[.slice (some ⟨bb, bo, none⟩) k cap] 22) → W2.cell? ⟨g, 1, none⟩ = some (.int .i64 fr) ∧ W2.cell? ⟨g, 2, none⟩ = some (.int .i64 n0) := by
    rintro _ rfl
    have hb := (Below.refl w1.heap.size w1).alloc (Nat.le_refl _) (.cells #[.slice (some ⟨bb, bo, none⟩) k cap] 22)
    exact ⟨(hb.cell (p := ⟨g, 1, none⟩) hgl1).trans k1, (hb.cell (p := ⟨g, 2, none⟩) hgl1).trans k2⟩
  rcases hcase with ⟨hc, e⟩ | ⟨hc, e⟩
  case' inl =>
    rw [e] at hc ⊢
    clear e
  case' inr =>
    have e2 := e.symm
    subst e2
    generalize C - n0 = rm at *
    clear e
  all_goals
    clear k1 k2
    gi_wp2_with fail
    refine wpIn_wide.2 ?_
    obtain ⟨W2, hW2⟩ : ∃ W2, W2 = w1.alloc (.cells #[.slice (some ⟨bb, bo, none⟩) k cap] 22) := ⟨_, rfl⟩
    obtain ⟨k1, k2⟩ := fin W2 hW2
    rw [← hW2]
    have HW2 := Lib.hid hW2
    have hgl2 : g < W2.heap.size := by rw [hW2]; simp; omega
    clear hW2 fin
    have hwr : IntKind.i64.wrap ((fr : Int) + (n0 : Int)) = (fr : Int) + (n0 : Int) := IntWalk.i64_in _ (by omega)
    have keep3 : ∀ o1 o2 o3, (((W2.alloc o1).alloc o2).alloc o3).drew.cell? ⟨g, 1, none⟩ = some (.int .i64 fr) ∧ (((W2.alloc o1).alloc o2).alloc o3).drew.cell? ⟨g, 2, none⟩ = some (.int .i64 n0) := by
      intro o1 o2 o3
      have hb := ((((Below.refl W2.heap.size W2).alloc (Nat.le_refl _) o1).alloc (by simp) o2).alloc (by simp; omega) o3).drew
      exact ⟨(hb.cell (p := ⟨g, 1, none⟩) hgl2).trans k1, (hb.cell (p := ⟨g, 2, none⟩) hgl2).trans k2⟩
    have KEEP := Lib.hid keep3
    clear keep3
    go_region_held3 (fun w' => w'.cell? ⟨g, 1, none⟩ = some (.int .i64 fr) ∧ w'.cell? ⟨g, 2, none⟩ = some (.int .i64 n0)) (first | exact KEEP.out _ _ _ | go_keep) ((go_at_call 25; refine (pieces_any _ _ _ _).mono ?_; rintro e w' ⟨rfl, rfl⟩))
    gi_wp2_with fail
    obtain ⟨W0, hW0⟩ : ∃ W0, W0 = (((W2.alloc (.cells #[.pointer (some ⟨g, 0, none⟩)] 24)).alloc (.cells #[.int .i64 ((fr : Int) + (n0 : Int))] 3)).alloc (.cells #[.int .i64 k] 3)).drew := ⟨_, rfl⟩
    have hs2 : W2.heap.size = w1.heap.size + 1 := by rw [HW2.out]; simp
    have hsz : W0.heap.size = w1.heap.size + 4 := by rw [hW0]; simp [hs2]
    have hb0 : Below w1.heap.size w1 W0 := by rw [hW0, HW2.out]; exact (((((Below.refl _ w1).alloc (Nat.le_refl _) _).alloc (by simp) _).alloc (by simp; omega) _).alloc (by simp; omega) _).drew
    have hq0 : Boxed W0 w1.heap.size 22 (.slice (some ⟨bb, bo, none⟩) k cap) ∧ Boxed W0 (w1.heap.size + 1) 24 (.pointer (some ⟨g, 0, none⟩)) ∧ Boxed W0 (w1.heap.size + 2) 3 (.int .i64 ((fr + n0 : Nat) : Int)) ∧ Boxed W0 (w1.heap.size + 3) 3 (.int .i64 k) := by
      have q1 := Boxed.new w1 22 (.slice (some ⟨bb, bo, none⟩) k cap)
      rw [← HW2.out] at q1
      have q2 := Boxed.new W2 24 (.pointer (some ⟨g, 0, none⟩))
      have q3 := Boxed.new (W2.alloc (.cells #[.pointer (some ⟨g, 0, none⟩)] 24)) 3 (.int .i64 ((fr : Int) + (n0 : Int)))
      have q4 := Boxed.new ((W2.alloc (.cells #[.pointer (some ⟨g, 0, none⟩)] 24)).alloc (.cells #[.int .i64 ((fr : Int) + (n0 : Int))] 3)) 3 (.int .i64 k)
      simp only [World.size_alloc, hs2] at q2 q3 q4
      rw [hW0]
      exact ⟨((q1.alloc _).alloc _).alloc _, (q2.alloc _).alloc _, q3.alloc _, q4⟩
    rw [hs2]
    rw [show w1.heap.size + 1 + 2 = w1.heap.size + 3 from rfl, show w1.heap.size + 1 + 1 = w1.heap.size + 2 from rfl]
    obtain ⟨b0, b1, b2, b3⟩ := hq0
    have rk0 : Rk W0 g gb C fr n0 ip op := (hb0.block _ hgl1).trans RK1.out
    have by0 : By W0 gb cs := (hb0.block _ (by omega)).trans HB1.out
    rw [← hW0]
    clear hW0 hs2 hgl2 KEEP k1 k2 HW2 hwr
    refine wpIn_range_st' (encP gb C) (fun r => r = w1.heap.size + 3 ∨ r = w1.heap.size + 2) (KR (w1.heap.size + 3) (w1.heap.size + 2) (w1.heap.size + 1) g) (pcsL C (fr + n0) k) (fun pre W => PtI w1 g gb C fr n0 k bb bo cap ip op cs bs pre W)
      (gf := 27) (lb := #[.pointer (some ⟨w1.heap.size + 3, 0, none⟩), .pointer (some ⟨w1.heap.size + 2, 0, none⟩), .pointer (some ⟨w1.heap.size + 1, 0, none⟩)]) rfl h1 rfl trivial (enters_of Try.func27 (by kernel_rfl) rfl)
      (fun r hr => by omega) (pieces_seq (n - 1) (by omega) (w1.heap.size + 3) (w1.heap.size + 2) (w1.heap.size + 1) g gb C fr n0 (fr + n0) k ip op (by omega) hC (by omega) (by omega) W0 b3 b2 b1 rk0) KR.t
      (fun W l o o' hl ho hc => ⟨World.putObj_heap_other (by omega), World.putObj_heap_other (by omega), World.putObj_heap_other (by omega), World.putObj_heap_other (by omega)⟩) (fun _ => rfl)
      (fun s A B row hs hg hr => hs.own (by omega) hg (by omega) hr)
      ⟨⟨_, b0, ⟨_, _, _, rfl⟩, fun _ => by simp [sm]⟩, by show By _ _ (wrt cs (fr + n0) (bs.take 0)); rw [List.take_zero, wrt_nil]; exact by0, fun j hj _ => hb0.block _ hj, by omega, hb0.os, hb0.tape, hb0.output⟩ ⟨?_, ?assign, ?body, ?done⟩
    case assign =>
      intro l x W K hK
      simp only [encP]
      gi_wp2_with fail
      exact hK
    case body =>
      intro l pre x W T1 hpx
      obtain ⟨p1, p2, p3, p4⟩ := pcsL_pre C pre (fr + n0) k x (by omega) hpx
      obtain ⟨v, hv9, hv2, hv3⟩ := T1.left
      obtain rfl := hv3 p1
      clear hv2 hv3
      have hH := hv9.lt
      have hWs := T1.sz
      have hbyW := T1.bx
      have hwl : (wrt cs (fr + n0) (bs.take (sm pre))).length = C := by rw [wrt_len]; exact hcs
      have hql : x.2 ≤ k - sm pre ∧ 0 < x.2 := by omega
      have hfit : x.1 + x.2 ≤ C := by omega
      have hnl : (((bs.drop (sm pre)).take x.2).map (Value.int .u8)).length = x.2 := by have := HS.out; simp; omega
      have hsrc : ∀ j v, (((bs.drop (sm pre)).take x.2).map (Value.int .u8))[j]? = some v → W.cell? ((⟨bb, bo + sm pre, none⟩ : Addr).add j) = some v := by
        intro j v hj
        have e : (⟨bb, bo + sm pre, none⟩ : Addr).add j = ⟨bb, bo + (sm pre + j), none⟩ := by
          unfold Addr.add; split
          · rename_i h; subst h; rfl
          · rw [Nat.add_assoc]
        rw [e]
        rw [List.getElem?_map, List.getElem?_take] at hj
        by_cases hjl : j < x.2
        · rw [if_pos hjl, List.getElem?_drop] at hj
          have h3 := HC1.out (sm pre + j) (by omega)
          have h4 : W.heap[bb]? = w1.heap[bb]? := T1.oth bb (by omega) hne
          have h5 : W.cell? ⟨bb, bo + (sm pre + j), none⟩ = w1.cell? ⟨bb, bo + (sm pre + j), none⟩ := by unfold World.cell?; simp only; rw [h4]
          rw [h5, h3]
          have hlt : sm pre + j < bs.length := by have := HS.out; omega
          rw [List.getElem?_eq_getElem hlt] at hj
          rw [List.getD_eq_getElem?_getD, List.getElem?_eq_getElem hlt]
          simpa using hj
        · rw [if_neg hjl] at hj; cases hj
      have hone : ∀ u ∈ ((bs.drop (sm pre)).take x.2).map (Value.int .u8), u.oneCell' = true := fun u hu => by obtain ⟨y, _, rfl⟩ := List.mem_map.1 hu; rfl
      have hres : ∀ W', W'.heap[gb]? = some (.cells (splice ((wrt cs (fr + n0) (bs.take (sm pre))).map (Value.int .u8)) x.1 (((bs.drop (sm pre)).take x.2).map (Value.int .u8))).toArray 5 (0, 0)) → By W' gb (wrt cs (fr + n0) (bs.take (sm pre + x.2))) := by
        intro W' h
        have e1 : splice ((wrt cs (fr + n0) (bs.take (sm pre))).map (Value.int .u8)) x.1 (((bs.drop (sm pre)).take x.2).map (Value.int .u8)) = (splice (wrt cs (fr + n0) (bs.take (sm pre))) x.1 ((bs.drop (sm pre)).take x.2)).map (Value.int .u8) := by
          unfold splice; simp
        have hl1 : (bs.take (sm pre)).length = sm pre := by have := HS.out; simp; omega
        have hl2 : ((bs.drop (sm pre)).take x.2).length = x.2 := by have := HS.out; simp; omega
        have e2 : wrt cs (fr + n0) (bs.take (sm pre + x.2)) = splice (wrt cs (fr + n0) (bs.take (sm pre))) x.1 ((bs.drop (sm pre)).take x.2) := by
          have := wrt_step cs (fr + n0) (bs.take (sm pre)) ((bs.drop (sm pre)).take x.2) (by omega) (by rw [hl1, hcs, ← p2]; omega)
          rw [hl1, hcs, ← p2] at this
          rw [this, List.take_add]
        rw [e1, ← e2] at h
        exact h
      have HRES := Lib.hid hres
      have HSRC := Lib.hid hsrc
      have HONE := Lib.hid hone
      have HNL := Lib.hid (show _ = Nat.min (k - sm pre) x.2 from hnl.trans (by show _ = min _ _; omega))
      have HNQ := Lib.hid hnl
      have HFIT := Lib.hid (show x.1 + (((bs.drop (sm pre)).take x.2).map (Value.int .u8)).length ≤ ((wrt cs (fr + n0) (bs.take (sm pre))).map (Value.int .u8)).length by rw [hnl, List.length_map, hwl]; exact hfit)
      unfold By at hbyW
      have HBW := Lib.hid hbyW
      generalize ((bs.drop (sm pre)).take x.2).map (Value.int .u8) = news at *
      generalize (wrt cs (fr + n0) (bs.take (sm pre))).map (Value.int .u8) = curL at *
      clear hres hsrc hone hnl hwl hbyW p2 p4
      have hsz5 : (Try.prog.info? 5).map (·.size) = some 1 := by kernel_rfl
      have HZ := Lib.hid hsz5
      clear hsz5
      have HT := Lib.hid T1
      clear T1 hpx
      have nn0 : (news.length : Int) ≤ ((k - sm pre : Nat) : Int) := by have := HNQ.out; omega
      have c9 := hv9.cell
      have f9 := hv9.frozen
      have HV := Lib.hid hv9
      clear hv9
      have FIN := Lib.hid (fun (w' : World) (hX : w'.heap[gb]? = some (.cells (splice curL x.1 news).toArray 5 (0, 0))) (hG : W.drew.grownBy w' (some gb)) =>
        show endSt W0.heap.size (KR (w1.heap.size + 3) (w1.heap.size + 2) (w1.heap.size + 1) g) (fun pre W => PtI w1 g gb C fr n0 k bb bo cap ip op cs bs pre W) (pre ++ [x]) W .normal { tmps := #[], defers := [] }
          (w'.setCell ⟨w1.heap.size, 0, none⟩ (.slice (if cap - sm pre = news.length then some ⟨bb, bo + sm pre, none⟩ else some ⟨bb, bo + sm pre + news.length, none⟩) (k - sm pre - news.length) (cap - sm pre - news.length))) from by
          obtain ⟨T6, K6, B6⟩ := PtI.app (x := x) (A := if cap - sm pre = news.length then some ⟨bb, bo + sm pre, none⟩ else some ⟨bb, bo + sm pre + news.length, none⟩) (l := k - sm pre - news.length) (c := cap - sm pre - news.length) HT.out (by omega) hgl1 hne2 (HRES.out w' hX) (grown_undrew hG) (fun hlt => by
            rw [HNQ.out, if_neg (by omega)]
            congr 1
            · congr 2; omega
            · omega
            · omega)
          exact ⟨K6.from _, B6, T6⟩)
      gi_wp2_with fail
      refine wpIn_region_any (by kernel_rfl) ?_
      change wpAnyIn _ _ _ _ _ _ _ _ _ (World.drew _)
      refine wpAnyIn_ready (rs := [0, 1, 2]) (by kernel_rfl) (by simp) ?_
      refine AllReadyIn.cons rfl (fun K hK => ?_) (AllReadyIn.cons rfl (fun K hK => ?_) (AllReadyIn.cons rfl (fun K hK => ?_) AllReadyIn.nil))
      · skip
        go_simp
        refine hK _ _ ?_; clear hK K
        refine wpAnyIn_ready (rs := [1, 2]) (by kernel_rfl) (by simp) ?_
        refine AllReadyIn.cons rfl (fun K hK => ?_) (AllReadyIn.cons rfl (fun K hK => ?_) AllReadyIn.nil)
        · skip
          go_simp
          refine hK _ _ ?_; clear hK K
          refine wpAnyIn_ready (rs := [2]) (by kernel_rfl) (by simp) ?_
          refine AllReadyIn.cons rfl (fun K hK => ?_) AllReadyIn.nil
          go_simp
          refine hK _ _ ?_; clear hK K
          refine wpAnyIn_ready (rs := [3]) (by kernel_rfl) (by simp) ?_
          refine AllReadyIn.cons rfl (fun K hK => ?_) AllReadyIn.nil
          refine step_copy_in (by rfl) (.tmp 33) (.tmp 34) 22 22 (by rfl) 5 Try.underlying22 HZ.out gb x.1 x.2 (C - x.1) ⟨bb, bo + sm pre, none⟩ (k - sm pre) (cap - sm pre) (by rfl) (by rfl) curL 5 HBW.out news HNL.out HSRC.out HFIT.out HONE.out ?_
          intro w' hw' hgr; have HX := Lib.hid hw'; have HG := Lib.hid hgr; have hb' := (hgr.block w1.heap.size hH (fun e => by injection e; omega)).trans HV.out; have c8 := Boxed.cell hb'; have f8 := Boxed.frozen hb'; clear hw' hgr hb'; refine hK _ _ ?_; clear hK K
          refine wpAnyIn_ready (rs := [4]) (by kernel_rfl) (by simp) ?_
          refine AllReadyIn.cons rfl (fun K hK => ?_) AllReadyIn.nil
          go_simp
          refine hK _ _ ?_; clear hK K
          refine wpAnyIn_ready (rs := [5]) (by kernel_rfl) (by simp) ?_
          refine AllReadyIn.cons rfl (fun K hK => ?_) AllReadyIn.nil
          go_simp
          refine hK _ _ ?_; clear hK K
          refine wpAnyIn_done (by kernel_rfl) ?_ _
          exact FIN.out _ HX.out HG.out
        · skip
          go_simp
          refine hK _ _ ?_; clear hK K
          refine wpAnyIn_ready (rs := [1]) (by kernel_rfl) (by simp) ?_
          refine AllReadyIn.cons rfl (fun K hK => ?_) AllReadyIn.nil
          go_simp
          refine hK _ _ ?_; clear hK K
          refine wpAnyIn_ready (rs := [3]) (by kernel_rfl) (by simp) ?_
          refine AllReadyIn.cons rfl (fun K hK => ?_) AllReadyIn.nil
          refine step_copy_in (by rfl) (.tmp 33) (.tmp 34) 22 22 (by rfl) 5 Try.underlying22 HZ.out gb x.1 x.2 (C - x.1) ⟨bb, bo + sm pre, none⟩ (k - sm pre) (cap - sm pre) (by rfl) (by rfl) curL 5 HBW.out news HNL.out HSRC.out HFIT.out HONE.out ?_
          intro w' hw' hgr; have HX := Lib.hid hw'; have HG := Lib.hid hgr; have hb' := (hgr.block w1.heap.size hH (fun e => by injection e; omega)).trans HV.out; have c8 := Boxed.cell hb'; have f8 := Boxed.frozen hb'; clear hw' hgr hb'; refine hK _ _ ?_; clear hK K
          refine wpAnyIn_ready (rs := [4]) (by kernel_rfl) (by simp) ?_
          refine AllReadyIn.cons rfl (fun K hK => ?_) AllReadyIn.nil
          go_simp
          refine hK _ _ ?_; clear hK K
          refine wpAnyIn_ready (rs := [5]) (by kernel_rfl) (by simp) ?_
          refine AllReadyIn.cons rfl (fun K hK => ?_) AllReadyIn.nil
          go_simp
          refine hK _ _ ?_; clear hK K
          refine wpAnyIn_done (by kernel_rfl) ?_ _
          exact FIN.out _ HX.out HG.out
      · skip
        go_simp
        refine hK _ _ ?_; clear hK K
        refine wpAnyIn_ready (rs := [0, 2]) (by kernel_rfl) (by simp) ?_
        refine AllReadyIn.cons rfl (fun K hK => ?_) (AllReadyIn.cons rfl (fun K hK => ?_) AllReadyIn.nil)
        · skip
          go_simp
          refine hK _ _ ?_; clear hK K
          refine wpAnyIn_ready (rs := [2]) (by kernel_rfl) (by simp) ?_
          refine AllReadyIn.cons rfl (fun K hK => ?_) AllReadyIn.nil
          go_simp
          refine hK _ _ ?_; clear hK K
          refine wpAnyIn_ready (rs := [3]) (by kernel_rfl) (by simp) ?_
          refine AllReadyIn.cons rfl (fun K hK => ?_) AllReadyIn.nil
          refine step_copy_in (by rfl) (.tmp 33) (.tmp 34) 22 22 (by rfl) 5 Try.underlying22 HZ.out gb x.1 x.2 (C - x.1) ⟨bb, bo + sm pre, none⟩ (k - sm pre) (cap - sm pre) (by rfl) (by rfl) curL 5 HBW.out news HNL.out HSRC.out HFIT.out HONE.out ?_
          intro w' hw' hgr; have HX := Lib.hid hw'; have HG := Lib.hid hgr; have hb' := (hgr.block w1.heap.size hH (fun e => by injection e; omega)).trans HV.out; have c8 := Boxed.cell hb'; have f8 := Boxed.frozen hb'; clear hw' hgr hb'; refine hK _ _ ?_; clear hK K
          refine wpAnyIn_ready (rs := [4]) (by kernel_rfl) (by simp) ?_
          refine AllReadyIn.cons rfl (fun K hK => ?_) AllReadyIn.nil
          go_simp
          refine hK _ _ ?_; clear hK K
          refine wpAnyIn_ready (rs := [5]) (by kernel_rfl) (by simp) ?_
          refine AllReadyIn.cons rfl (fun K hK => ?_) AllReadyIn.nil
          go_simp
          refine hK _ _ ?_; clear hK K
          refine wpAnyIn_done (by kernel_rfl) ?_ _
          exact FIN.out _ HX.out HG.out
        · skip
          go_simp
          refine hK _ _ ?_; clear hK K
          refine wpAnyIn_ready (rs := [0, 3]) (by kernel_rfl) (by simp) ?_
          refine AllReadyIn.cons rfl (fun K hK => ?_) (AllReadyIn.cons rfl (fun K hK => ?_) AllReadyIn.nil)
          · skip
            go_simp
            refine hK _ _ ?_; clear hK K
            refine wpAnyIn_ready (rs := [3]) (by kernel_rfl) (by simp) ?_
            refine AllReadyIn.cons rfl (fun K hK => ?_) AllReadyIn.nil
            refine step_copy_in (by rfl) (.tmp 33) (.tmp 34) 22 22 (by rfl) 5 Try.underlying22 HZ.out gb x.1 x.2 (C - x.1) ⟨bb, bo + sm pre, none⟩ (k - sm pre) (cap - sm pre) (by rfl) (by rfl) curL 5 HBW.out news HNL.out HSRC.out HFIT.out HONE.out ?_
            intro w' hw' hgr; have HX := Lib.hid hw'; have HG := Lib.hid hgr; have hb' := (hgr.block w1.heap.size hH (fun e => by injection e; omega)).trans HV.out; have c8 := Boxed.cell hb'; have f8 := Boxed.frozen hb'; clear hw' hgr hb'; refine hK _ _ ?_; clear hK K
            refine wpAnyIn_ready (rs := [4]) (by kernel_rfl) (by simp) ?_
            refine AllReadyIn.cons rfl (fun K hK => ?_) AllReadyIn.nil
            go_simp
            refine hK _ _ ?_; clear hK K
            refine wpAnyIn_ready (rs := [5]) (by kernel_rfl) (by simp) ?_
            refine AllReadyIn.cons rfl (fun K hK => ?_) AllReadyIn.nil
            go_simp
            refine hK _ _ ?_; clear hK K
            refine wpAnyIn_done (by kernel_rfl) ?_ _
            exact FIN.out _ HX.out HG.out
          · skip
            refine step_copy_in (by rfl) (.tmp 33) (.tmp 34) 22 22 (by rfl) 5 Try.underlying22 HZ.out gb x.1 x.2 (C - x.1) ⟨bb, bo + sm pre, none⟩ (k - sm pre) (cap - sm pre) (by rfl) (by rfl) curL 5 HBW.out news HNL.out HSRC.out HFIT.out HONE.out ?_
            intro w' hw' hgr; have HX := Lib.hid hw'; have HG := Lib.hid hgr; have hb' := (hgr.block w1.heap.size hH (fun e => by injection e; omega)).trans HV.out; have c8 := Boxed.cell hb'; have f8 := Boxed.frozen hb'; clear hw' hgr hb'; refine hK _ _ ?_; clear hK K
            refine wpAnyIn_ready (rs := [0]) (by kernel_rfl) (by simp) ?_
            refine AllReadyIn.cons rfl (fun K hK => ?_) AllReadyIn.nil
            go_simp
            refine hK _ _ ?_; clear hK K
            refine wpAnyIn_ready (rs := [4]) (by kernel_rfl) (by simp) ?_
            refine AllReadyIn.cons rfl (fun K hK => ?_) AllReadyIn.nil
            go_simp
            refine hK _ _ ?_; clear hK K
            refine wpAnyIn_ready (rs := [5]) (by kernel_rfl) (by simp) ?_
            refine AllReadyIn.cons rfl (fun K hK => ?_) AllReadyIn.nil
            go_simp
            refine hK _ _ ?_; clear hK K
            refine wpAnyIn_done (by kernel_rfl) ?_ _
            exact FIN.out _ HX.out HG.out
      · skip
        go_simp
        refine hK _ _ ?_; clear hK K
        refine wpAnyIn_ready (rs := [0, 1]) (by kernel_rfl) (by simp) ?_
        refine AllReadyIn.cons rfl (fun K hK => ?_) (AllReadyIn.cons rfl (fun K hK => ?_) AllReadyIn.nil)
        · skip
          go_simp
          refine hK _ _ ?_; clear hK K
          refine wpAnyIn_ready (rs := [1]) (by kernel_rfl) (by simp) ?_
          refine AllReadyIn.cons rfl (fun K hK => ?_) AllReadyIn.nil
          go_simp
          refine hK _ _ ?_; clear hK K
          refine wpAnyIn_ready (rs := [3]) (by kernel_rfl) (by simp) ?_
          refine AllReadyIn.cons rfl (fun K hK => ?_) AllReadyIn.nil
          refine step_copy_in (by rfl) (.tmp 33) (.tmp 34) 22 22 (by rfl) 5 Try.underlying22 HZ.out gb x.1 x.2 (C - x.1) ⟨bb, bo + sm pre, none⟩ (k - sm pre) (cap - sm pre) (by rfl) (by rfl) curL 5 HBW.out news HNL.out HSRC.out HFIT.out HONE.out ?_
          intro w' hw' hgr; have HX := Lib.hid hw'; have HG := Lib.hid hgr; have hb' := (hgr.block w1.heap.size hH (fun e => by injection e; omega)).trans HV.out; have c8 := Boxed.cell hb'; have f8 := Boxed.frozen hb'; clear hw' hgr hb'; refine hK _ _ ?_; clear hK K
          refine wpAnyIn_ready (rs := [4]) (by kernel_rfl) (by simp) ?_
          refine AllReadyIn.cons rfl (fun K hK => ?_) AllReadyIn.nil
          go_simp
          refine hK _ _ ?_; clear hK K
          refine wpAnyIn_ready (rs := [5]) (by kernel_rfl) (by simp) ?_
          refine AllReadyIn.cons rfl (fun K hK => ?_) AllReadyIn.nil
          go_simp
          refine hK _ _ ?_; clear hK K
          refine wpAnyIn_done (by kernel_rfl) ?_ _
          exact FIN.out _ HX.out HG.out
        · skip
          go_simp
          refine hK _ _ ?_; clear hK K
          refine wpAnyIn_ready (rs := [0, 3]) (by kernel_rfl) (by simp) ?_
          refine AllReadyIn.cons rfl (fun K hK => ?_) (AllReadyIn.cons rfl (fun K hK => ?_) AllReadyIn.nil)
          · skip
            go_simp
            refine hK _ _ ?_; clear hK K
            refine wpAnyIn_ready (rs := [3]) (by kernel_rfl) (by simp) ?_
            refine AllReadyIn.cons rfl (fun K hK => ?_) AllReadyIn.nil
            refine step_copy_in (by rfl) (.tmp 33) (.tmp 34) 22 22 (by rfl) 5 Try.underlying22 HZ.out gb x.1 x.2 (C - x.1) ⟨bb, bo + sm pre, none⟩ (k - sm pre) (cap - sm pre) (by rfl) (by rfl) curL 5 HBW.out news HNL.out HSRC.out HFIT.out HONE.out ?_
            intro w' hw' hgr; have HX := Lib.hid hw'; have HG := Lib.hid hgr; have hb' := (hgr.block w1.heap.size hH (fun e => by injection e; omega)).trans HV.out; have c8 := Boxed.cell hb'; have f8 := Boxed.frozen hb'; clear hw' hgr hb'; refine hK _ _ ?_; clear hK K
            refine wpAnyIn_ready (rs := [4]) (by kernel_rfl) (by simp) ?_
            refine AllReadyIn.cons rfl (fun K hK => ?_) AllReadyIn.nil
            go_simp
            refine hK _ _ ?_; clear hK K
            refine wpAnyIn_ready (rs := [5]) (by kernel_rfl) (by simp) ?_
            refine AllReadyIn.cons rfl (fun K hK => ?_) AllReadyIn.nil
            go_simp
            refine hK _ _ ?_; clear hK K
            refine wpAnyIn_done (by kernel_rfl) ?_ _
            exact FIN.out _ HX.out HG.out
          · skip
            refine step_copy_in (by rfl) (.tmp 33) (.tmp 34) 22 22 (by rfl) 5 Try.underlying22 HZ.out gb x.1 x.2 (C - x.1) ⟨bb, bo + sm pre, none⟩ (k - sm pre) (cap - sm pre) (by rfl) (by rfl) curL 5 HBW.out news HNL.out HSRC.out HFIT.out HONE.out ?_
            intro w' hw' hgr; have HX := Lib.hid hw'; have HG := Lib.hid hgr; have hb' := (hgr.block w1.heap.size hH (fun e => by injection e; omega)).trans HV.out; have c8 := Boxed.cell hb'; have f8 := Boxed.frozen hb'; clear hw' hgr hb'; refine hK _ _ ?_; clear hK K
            refine wpAnyIn_ready (rs := [0]) (by kernel_rfl) (by simp) ?_
            refine AllReadyIn.cons rfl (fun K hK => ?_) AllReadyIn.nil
            go_simp
            refine hK _ _ ?_; clear hK K
            refine wpAnyIn_ready (rs := [4]) (by kernel_rfl) (by simp) ?_
            refine AllReadyIn.cons rfl (fun K hK => ?_) AllReadyIn.nil
            go_simp
            refine hK _ _ ?_; clear hK K
            refine wpAnyIn_ready (rs := [5]) (by kernel_rfl) (by simp) ?_
            refine AllReadyIn.cons rfl (fun K hK => ?_) AllReadyIn.nil
            go_simp
            refine hK _ _ ?_; clear hK K
            refine wpAnyIn_done (by kernel_rfl) ?_ _
            exact FIN.out _ HX.out HG.out
    case done =>
      intro D W hD T1 hK
      have hsW := T1.sz
      have rkW : Rk W g gb C fr n0 ip op := (T1.oth g hgl1 hne2).trans RK1.out
      have hbx := T1.bx
      rw [pcsL_sum C (fr + n0) k (by omega)] at hbx
      obtain ⟨k0, k1, k2, k3, k4, k5, z0, z1, z2, z3, z4⟩ := rkW.cells
      have RKW := Lib.hid rkW
      have HBX := Lib.hid hbx
      have HT := Lib.hid T1
      have HKD := Lib.hid hK
      clear rkW hbx T1 hK k0 k1 k4 k5 z0 z1 z4
      gi_wp2_with fail
      have hgD : g ≠ D := by omega
      obtain ⟨t1, t2⟩ := RKW.out.put (n0 + k) ((ip + k : Nat) : Int) ((n0 : Int) + (k : Int)) ((ip : Int) + (k : Int)) (by omega) (by omega)
      obtain ⟨V, hV⟩ : ∃ V, V = ((W.setCell ⟨g, 2, none⟩ (.int .i64 ((n0 : Int) + (k : Int)))).setCell ⟨g, 3, none⟩ (.int .u64 ((ip : Int) + (k : Int)))) := ⟨_, rfl⟩
      rw [← hV] at t1 t2 ⊢
      clear hV
      have hWD : D < W.heap.size := (Array.getElem?_eq_some_iff.1 HKD.out).1
      have hK2 : V.heap[D]? = some (.deferred (some [])) := (t2.block D hWD (fun e => hgD (by injection e with e; exact e.symm))).trans HKD.out
      refine ⟨by simp, .inl ⟨_, _, rfl, run_takeDeferred hK2, ?_⟩⟩
      have oth : ∀ j, j < w1.heap.size → j ≠ g → j ≠ gb → (V.putObj D (.deferred none)).heap[j]? = w1.heap[j]? := fun j hj h1 h2 =>
        (World.putObj_heap_other (by omega)).trans ((t2.block j (by omega) (fun e => h1 (by injection e))).trans (HT.out.oth j hj h2))
      refine ⟨_, results_tmp rfl _ _ _, rfl, (World.putObj_heap_other (by omega)).trans t1, ?_, fun j hj h1 h2 => (oth j (by omega) h1 h2).trans (B1.out.block j hj), ?_, ?_, ?_, ?_⟩
      · exact (World.putObj_heap_other (by omega)).trans ((t2.block gb (by omega) (fun e => hne2 (by injection e with e; exact e.symm))).trans HBX.out)
      · have := t2.size
        have e : (V.putObj D (.deferred none)).heap.size = V.heap.size := by simp [World.putObj]
        omega
      · exact t2.os.trans (HT.out.io.1.trans B1.out.os)
      · exact t2.tape.trans (HT.out.io.2.1.trans B1.out.tape)
      · exact t2.output.trans (HT.out.io.2.2.trans B1.out.output)

set_option maxHeartbeats 1000000 in
theorem put_none (g gb C fr n0 len cap : Nat) (A : Option Addr) (ip op : Nat) (w : World) (rk : Rk w g gb C fr n0 ip op) (hC : C ≤ 65536) (hn0 : n0 ≤ C) (hlc : len ≤ cap) (hcap : cap ≤ maxLen) (hk : min len (C - n0) = 0) :
    Calls Try.prog 11 #[.pointer (some ⟨g, 0, none⟩), .slice A len cap] w fun e w' => e = .returned (.int .i64 0) ∧ Below w.heap.size w w' := by
  unfold maxLen at hcap
  have HR := Lib.hid (room_any g gb C fr n0 ip op w rk hC hn0)
  have hcase : (((C - n0 : Nat) : Int) < (len : Int) ∧ C - n0 = 0) ∨ ((len : Int) ≤ ((C - n0 : Nat) : Int) ∧ len = 0) := by omega
  clear rk hk
  rcases hcase with ⟨hc, e⟩ | ⟨hc, e⟩
  case' inl =>
    rw [e] at hc HR
    clear e
  case' inr =>
    subst e
    generalize C - n0 = rm at *
  all_goals
    go_enter Try.func11, Try.ntmps11
    go_wp2_with fail
    refine HR.out.mono ?_
    rintro e w1 ⟨rfl, b1⟩
    go_wp2_with fail
    go_ret
    exact ⟨rfl, b1⟩

/-- A world that differs in the ring's two blocks and in new ones alone. -/
def Fr2 (g gb : Nat) (w w' : World) : Prop := w'.os = w.os ∧ w'.tape = w.tape ∧ w'.output = w.output ∧ w.heap.size ≤ w'.heap.size ∧ ∀ j, j < w.heap.size → j ≠ g → j ≠ gb → w'.heap[j]? = w.heap[j]?
theorem Fr2.of_below {g gb : Nat} {w w' : World} (h : Below w.heap.size w w') : Fr2 g gb w w' := ⟨h.os, h.tape, h.output, h.size, fun j hj _ _ => h.block j hj⟩
theorem Fr2.of_grown {g gb : Nat} {w w' : World} (h : w.grownBy w' (some g)) : Fr2 g gb w w' := ⟨h.os, h.tape, h.output, h.size, fun j hj h1 _ => h.block j hj (fun e => h1 (by injection e))⟩
theorem Fr2.below {g gb B : Nat} {a w w' : World} (hb : Below B a w) (h : Fr2 g gb w w') (h1 : B ≤ g) (h2 : B ≤ gb) (hB : B ≤ w.heap.size) : Below B a w' :=
  hb.trans ⟨h.1, h.2.1, h.2.2.1, h.2.2.2.1, fun j hj => h.2.2.2.2 j (by omega) (by omega) (by omega)⟩
theorem Fr2.ints {g gb : Nat} {kd : IntKind} {w w' : World} {a : Option Addr} {zs : List Int} (h : Fr2 g gb w w') (k : Ints kd w a zs) (hne : ∀ b o s, a = some ⟨b, o, s⟩ → b ≠ g ∧ b ≠ gb) : Ints kd w' a zs := by
  intro h0
  obtain ⟨b, off, e, hlt, hc⟩ := k h0
  obtain ⟨n1, n2⟩ := hne _ _ _ e
  refine ⟨b, off, e, Nat.lt_of_lt_of_le hlt h.2.2.2.1, fun i hi => ?_⟩
  rw [← hc i hi]
  unfold World.cell?
  simp only
  rw [h.2.2.2.2 b hlt n1 n2]

theorem Put_any (g gb C : Nat) (L : List Int) (ip op : Nat) (A : Option Addr) (len cap : Nat) (bs : List Int) (w : World) (h : Rg w g gb C L ip op) (hi : Ints .u8 w A bs) (hl : bs.length = len) (hlc : len ≤ cap) (hcap : cap ≤ maxLen)
    (hby : ∀ x ∈ bs, 0 ≤ x ∧ x < 256) (hne : ∀ b o s, 0 < len → A = some ⟨b, o, s⟩ → b ≠ g ∧ b ≠ gb) (hip : ip ≤ 1000000000000) :
    Calls Try.prog 11 #[.pointer (some ⟨g, 0, none⟩), .slice A len cap] w fun e w' => e = .returned (.int .i64 (min len (C - L.length) : Nat)) ∧ Rg w' g gb C (L ++ bs.take (C - L.length)) (ip + min len (C - L.length)) op ∧ Fr2 g gb w w' := by
  have hlt := h.lt
  obtain ⟨fr, cs, rk, b, hcs, hL, hC, hfr, hrd, hcb, hgg⟩ := h
  by_cases h0 : min len (C - L.length) = 0
  · refine (put_none g gb C fr L.length len cap A ip op w rk hC hL hlc hcap h0).mono ?_
    rintro e w' ⟨rfl, hb⟩
    have hz : bs.take (C - L.length) = [] := by rw [List.take_eq_nil_iff]; rw [List.eq_nil_iff_length_eq_zero]; omega
    rw [h0, hz, List.append_nil]
    exact ⟨rfl, ⟨fr, cs, (hb.block _ hlt.1).trans rk, (hb.block _ hlt.2).trans b, hcs, hL, hC, hfr, hrd, hcb, hgg⟩, Fr2.of_below hb⟩
  · obtain ⟨bb, bo, rfl, hbb, hbc⟩ := hi (by omega)
    obtain ⟨n1, n2⟩ := hne _ _ _ (by omega) rfl
    refine ((callsIn_wide (n := 3)).1 (put_in 3 (by omega) g gb C fr L.length (min len (C - L.length)) bb bo len cap ip op cs bs w rk b hcs hC hL hfr hlc hcap hl hbb (fun i hi => hbc i (by omega)) n2 hgg n1 hip rfl (by omega))).mono ?_
    rintro e w' ⟨rfl, k1, k2, k3, k4, k5, k6, k7⟩
    have ht : bs.take (C - L.length) = bs.take (min len (C - L.length)) := by
      by_cases hh : len ≤ C - L.length
      · rw [Nat.min_eq_left hh, List.take_of_length_le (by omega), List.take_of_length_le (by omega)]
      · rw [Nat.min_eq_right (by omega)]
    have hln : (L ++ bs.take (C - L.length)).length = L.length + min len (C - L.length) := by rw [List.length_append, List.length_take]; omega
    refine ⟨rfl, ⟨fr, wrt cs (fr + L.length) (bs.take (min len (C - L.length))), ?_, k2, by rw [wrt_len]; exact hcs, by rw [hln]; omega, hC, hfr, ?_, ?_, hgg⟩, k5, k6, k7, k4, k3⟩
    · rw [hln]; exact k1
    · rw [hln, ht]
      have hq : (bs.take (min len (C - L.length))).length = min len (C - L.length) := by rw [List.length_take]; omega
      have := rd_wrt cs fr L.length (bs.take (min len (C - L.length))) (by omega)
      rw [hq, ← hrd] at this
      exact this.symm
    · exact wrt_mem _ _ _ (fun x => 0 ≤ x ∧ x < 256) ⟨by omega, by omega⟩ hcb (fun x hx => hby x (List.mem_of_mem_take hx))
end Go.Proofs.Ytebnfcpikhehkaa
