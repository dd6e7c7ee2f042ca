/- The document's Parse. -/
/- The document's Parse, walked. -/
import Derived.Test.YtbanfkpfijcmcaaGreatDoorGg
import Derived.Test.YtbanfkpfijcmcaaGreatDoorGc
import Derived.Test.YtbanfkpfijcmcaaGreatDoorPa
import Derived.Test.YtbanfkpfijcmcaaGreatDoorPb

namespace Go.Proofs.YtbanfkpfijcmcaaGreatDoor
open Go.RowKit
set_option linter.unusedSimpArgs false
set_option linter.unusedVariables false
set_option maxRecDepth 100000

/-! The lines of a text, from a place on. -/
def offS (s : ByteArray) (a : Nat) : ByteArray := s.extract a s.size
theorem offS_size (s : ByteArray) (a : Nat) : (offS s a).size = s.size - a := by unfold offS; rw [ByteArray.size_extract]; omega
theorem offS_data (s : ByteArray) (a : Nat) : (offS s a).data.toList = s.data.toList.drop a := by
  unfold offS
  rw [ext_data, show s.size = s.data.toList.length from (sz_data s).symm, List.take_length]
theorem offS_zero (s : ByteArray) : offS s 0 = s := by
  apply ByteArray.ext
  apply Array.ext'
  rw [offS_data, List.drop_zero]
theorem offS_ext (s : ByteArray) (a i : Nat) : (offS s a).extract 0 i = s.extract a (a + i) := by
  apply ByteArray.ext
  apply Array.ext'
  rw [ext_data, ext_data, offS_data, List.drop_zero, List.take_drop]
theorem offS_off (s : ByteArray) (a i : Nat) : (offS s a).extract i (offS s a).size = offS s (a + i) := by
  apply ByteArray.ext
  apply Array.ext'
  rw [ext_data, offS_data, offS_data, offS_size, List.take_of_length_le (by rw [List.length_drop, sz_data]; omega), List.drop_drop]
/-- No line ends between a and k. -/
def NoNl (s : ByteArray) (a k : Nat) : Prop := ∀ j, a ≤ j → j < k → s.data.toList[j]? ≠ some 10
theorem idx_off {s : ByteArray} {a k : Nat} (ha : a ≤ k) (hk : k < s.size) (hno : NoNl s a k) (h : s.data.toList[k]? = some 10) : Lib.indexByte (offS s a).data.toList 10 = ((k - a : Nat) : Int) := by
  have hd : s.data.toList.drop a = (s.data.toList.drop a).take (k - a) ++ 10 :: (s.data.toList.drop a).drop (k - a + 1) := by
    have h2 : (s.data.toList.drop a)[k - a]? = some 10 := by rw [List.getElem?_drop, show a + (k - a) = k by omega]; exact h
    have hlt : k - a < (s.data.toList.drop a).length := (List.getElem?_eq_some_iff.1 h2).1
    have h3 : (s.data.toList.drop a)[k - a] = 10 := (List.getElem?_eq_some_iff.1 h2).2
    conv => lhs; rw [← List.take_append_drop (k - a) (s.data.toList.drop a)]
    rw [List.drop_eq_getElem_cons hlt, h3]
  rw [offS_data, hd, idx_hit]
  · rw [List.length_take, List.length_drop, sz_data]; omega
  · intro hm
    obtain ⟨j, hj⟩ := List.getElem?_of_mem hm
    have hjl := (List.getElem?_eq_some_iff.1 hj).1
    rw [List.length_take, List.length_drop, sz_data] at hjl
    rw [List.getElem?_take_of_lt (by omega), List.getElem?_drop] at hj
    exact hno (a + j) (by omega) (by omega) hj
theorem idx_off_no {s : ByteArray} {a : Nat} (hno : NoNl s a s.size) : Lib.indexByte (offS s a).data.toList 10 < 0 := by
  rw [offS_data, idx_miss]
  · omega
  · intro hm
    obtain ⟨j, hj⟩ := List.getElem?_of_mem hm
    have hjl := (List.getElem?_eq_some_iff.1 hj).1
    rw [List.length_drop, sz_data] at hjl
    rw [List.getElem?_drop] at hj
    exact hno (a + j) (by omega) (by omega) hj
/-- What the document's Parse does with a line. -/
theorem go_stop {s : ByteArray} {a : Nat} {out : List En} (ha : a < s.size) (hno : NoNl s a s.size) : goL out (rawS (offS s a)) = .inr (out.length + 1) := by
  have hi := idx_off_no hno
  have hz : (offS s a).size ≠ 0 := by rw [offS_size]; omega
  have hc := cut_no hi
  have hf : frontS (offS s a) = offS s a := by unfold frontS; rw [if_pos hi]
  rw [rawS_cons hz, hf, goL_cons, hc.1, step_false]
theorem go_line {s : ByteArray} {a k : Nat} {out : List En} (ha : a ≤ k) (hk : k < s.size) (hno : NoNl s a k) (h : s.data.toList[k]? = some 10) :
    goL out (rawS (offS s a)) = match stepF out (s.extract a k) true with
      | none => .inr (out.length + 1)
      | some o => goL o (rawS (offS s (k + 1))) := by
  have hi := idx_off ha hk hno h
  have hz : (offS s a).size ≠ 0 := by rw [offS_size]; omega
  have hn : ¬ Lib.indexByte (offS s a).data.toList 10 < 0 := by rw [hi]; omega
  have hc := cut_yes hn
  have hr : restS (offS s a) = offS s (k + 1) := by
    unfold restS
    rw [if_neg hn, hi, Int.toNat_natCast, offS_off, show a + (k - a + 1) = k + 1 by omega]
  have he : cutS (frontS (offS s a)) = s.extract a k := by
    rw [hc.2, hi, Int.toNat_natCast, offS_ext, show a + (k - a) = k by omega]
  rw [rawS_cons hz, goL_cons, hc.1, he, hr]
  rfl
theorem go_all (s : ByteArray) : goL [] (rawS (offS s 0)) = parseF s := by rw [offS_zero, parse_raw]
theorem go_end {s : ByteArray} {a : Nat} {out : List En} (ha : s.size ≤ a) : goL out (rawS (offS s a)) = .inl out := by
  rw [rawS_nil (by rw [offS_size]; omega)]; rfl

/-- What the document's Parse holds between two lines. -/
structure RI (w : World) (v : Value) (X : List Ex) (A : World) : Prop where
  o : A.ownsRow w.heap.size 28 7 v X.length (flatX X)
  d : ∀ x ∈ X, A.ownsRow w.heap.size 5 1 x.dv x.e.dt.length (byt x.e.dt)
  b : Below w.heap.size w A
theorem RI.below {w : World} {v : Value} {X : List Ex} {A B : World} (h : RI w v X A) (hb : Below A.heap.size A B) : RI w v X B :=
  ⟨row_keep h.o hb, fun x hx => row_keep (h.d x hx) hb, h.b.trans (hb.mono h.b.size)⟩
theorem RI.app {w : World} {v v' : Value} {X : List Ex} {A U B : World} {xe : Ex} (h : RI w v X A) (hb : Below A.heap.size A U) (hx : U.ownsRow w.heap.size 5 1 xe.dv xe.e.dt.length (byt xe.e.dt))
    (hown : B.ownsRow w.heap.size 28 7 v' (X.length + 1) (flatX X ++ encX xe)) (hg : U.grownBy B v.ownBlock) : RI w v' (X ++ [xe]) B := by
  have hU := h.below hb
  refine ⟨?_, fun x hm => ?_, hU.b.grown hg hU.b.size (fun b hb2 => (hU.o.lt b hb2).1)⟩
  · rw [flatX_append, List.length_append]
    have e : flatX [xe] = encX xe := by simp [flatX]
    rw [e]; exact hown
  · have key : ∀ x : Ex, U.ownsRow w.heap.size 5 1 x.dv x.e.dt.length (byt x.e.dt) → B.ownsRow w.heap.size 5 1 x.dv x.e.dt.length (byt x.e.dt) := fun x hr => row_same hr (fun b hb2 => hg.block b (hr.lt b hb2).2 (fun e => by
      obtain ⟨cs, hcs⟩ := own29 hU.o e.symm
      exact row_not hr hcs (by decide) hb2))
    rcases List.mem_append.1 hm with hm | hm
    · exact key x (hU.d x hm)
    · rw [List.mem_singleton.1 hm]; exact key xe hx
theorem RI.rd {w : World} {v : Value} {X : List Ex} {A : World} (h : RI w v X A) : Rd A v (ents X) := rd_own h.o rfl (fun x hx => data_own (h.d x hx))
end Go.Proofs.YtbanfkpfijcmcaaGreatDoor

namespace Go.Proofs.YtbanfkpfijcmcaaGreatDoor
open Go.RowKit
set_option linter.unusedSimpArgs false
set_option linter.unusedVariables false
set_option maxRecDepth 100000

/-- What the document's Parse answers. -/
def RarseP (s : ByteArray) (w : World) (e : Ending) (w' : World) : Prop := (match parseF s with
  | .inl r => ∃ v, e = .returned (.tuple #[v, .int .i64 0, .int .i64 0]) ∧ Rd w' v r
  | .inr m => e = .returned (.tuple #[.slice none 0 0, .int .i64 (m : Int), .int .i64 250])) ∧ Below w.heap.size w w'

set_option maxHeartbeats 16000000 in
theorem rparse_any (s : ByteArray) (w : World) (hs : s.size ≤ 100000) : Calls Tryz.prog 17 #[.string s] w (RarseP s w) := by
  obtain ⟨i28, hi28, hz28, hs28, hy28⟩ := info_parts info29
  have I28 := Lib.hid hi28; have Z28 := Lib.hid hz28; have S28 := Lib.hid hs28; have Y28 := Lib.hid hy28
  clear hi28 hz28 hs28 hy28
  have HGS := Lib.hid (fun p k W (h : k ≤ s.size) => guess_any (s.extract p k) W (by rw [ByteArray.size_extract]; omega))
  have HST := Lib.hid (fun a out (ha : a < s.size) (hno : NoNl s a s.size) => go_stop (out := out) ha hno)
  have HLN := Lib.hid (fun a k out (ha : a ≤ k) (hk : k < s.size) (hno : NoNl s a k) (h : s.data.toList[k]? = some 10) => go_line (out := out) ha hk hno h)
  have HEN := Lib.hid (fun a out (ha : s.size ≤ a) => go_end (s := s) (out := out) ha)
  have HALL := Lib.hid (go_all s)
  go_enter Tryz.func17, Tryz.ntmps17
  go_wp2_with fail
  go_loopw [5, 6, 7] (fun v a m wr => ∃ (p : Nat) (X : List Ex), p ≤ s.size ∧ X.length ≤ p ∧ a = .int .i64 p ∧ m = .int .i64 ((X.length + 1 : Nat) : Int) ∧ Hid (goL (ents X) (rawS (offS s p)) = parseF s) ∧ Hid (RI w v X wr)) (fun _ a _ _ => s.size - (intOf a).toNat)
  case atStart => exact ⟨0, [], Nat.zero_le _, Nat.zero_le _, rfl, rfl, HALL, Lib.hid ⟨World.ownsRow_nil _ _ _ _, (fun x hx => by cases hx), Below.refl _ _⟩⟩
  case round =>
    obtain ⟨p, X, hp, hX, rfl, rfl, HG, HR⟩ := hrel
    by_cases hps : p < s.size
    · have hps' : (p : Int) < s.size := by omega
      go_wp2_with fail
      go_loopw [8] (fun t W => ∃ k : Nat, p ≤ k ∧ k ≤ s.size ∧ t = .int .i64 k ∧ Hid (NoNl s p k) ∧ wr = W) (fun t _ => s.size - (intOf t).toNat)
      case atStart => exact ⟨p, Nat.le_refl _, hp, rfl, Lib.hid (fun j h1 h2 => by omega), rfl⟩
      case round =>
        obtain ⟨k, hpk, hk, rfl, HNO, rfl⟩ := hrel
        by_cases hks : k < s.size
        · have hks' : (k : Int) < s.size := by omega
          by_cases hc : s[k] = 10
          · have hc2 : (s[k].toNat : Int) = 10 := by rw [hc]; rfl
            have hc3 : ((s[k].toNat : Int) == 10) = true := by rw [hc2]; rfl
            have hat : s.data.toList[k]? = some 10 := by rw [byte_at hks, hc]
            have HL := Lib.hid (HLN.out p k (ents X) hpk hks HNO.out hat)
            clear hc hat
            go_wp2_with fail
            refine (HGS.out p k _ (by omega)).mono ?_
            rintro e w2 ⟨A, n, c, rfl, own, b2⟩
            have HSTEP := Lib.hid (step_gs (ents X) (s.extract p k) true)
            rw [ents_len] at HSTEP
            have hok := gs_ok (s.extract p k)
            have B2 := Lib.hid (HR.out.b.trans (b2.mono HR.out.b.size))
            have OWN2 := Lib.hid own
            have b2' := Lib.hid b2
            have HBAD : Hid (stepF (ents X) (s.extract p k) true = none → parseF s = .inr (X.length + 1)) := Lib.hid (fun h => by rw [← HG.out, HL.out, h, ents_len])
            have HGO : Hid (∀ o, stepF (ents X) (s.extract p k) true = some o → goL o (rawS (offS s (k + 1))) = parseF s) := Lib.hid (fun o h => by rw [← HG.out, HL.out, h])
            clear own b2 HG HL
            generalize gsF (s.extract p k) = g at *
            go_upto_region 10 with (fail)
            have sx := new_block w2 (.cells #[.int .i64 g.kd, .int .u64 g.tk, .int .i64 g.id, .int .i64 g.fl, .int .i64 g.nn, .int .i64 g.er, .slice A n c] 28)
            have bA := (Below.refl w2.heap.size w2).alloc (Nat.le_refl _) (.cells #[.int .i64 g.kd, .int .u64 g.tk, .int .i64 g.id, .int .i64 g.fl, .int .i64 g.nn, .int .i64 g.er, .slice A n c] 28)
            generalize w2.alloc (.cells #[.int .i64 g.kd, .int .u64 g.tk, .int .i64 g.id, .int .i64 g.fl, .int .i64 g.nn, .int .i64 g.er, .slice A n c] 28) = W5 at *
            have hxb : w2.heap.size < W5.heap.size := lt_of_block sx
            have B5 := Lib.hid (B2.out.trans (bA.mono B2.out.size))
            have OWN5 := Lib.hid (row_keep OWN2.out bA)
            have D5 := Lib.hid (data_own OWN5.out)
            have R5 := Lib.hid (HR.out.below (b2'.out.trans (bA.mono b2'.out.size)))
            have SX := Lib.hid sx
            generalize w2.heap.size = xb at *
            have HS : Hid (∀ (m : Aft W5) (j : Nat), m.val.cell? ⟨xb, j, none⟩ = #[Value.int .i64 g.kd, .int .u64 g.tk, .int .i64 g.id, .int .i64 g.fl, .int .i64 g.nn, .int .i64 g.er, .slice A n c][j]?) := Lib.hid (fun m j => (cell_of ((m.property.block xb (lt_of_block SX.out)).trans SX.out) j).1)
            have z0 := fun m : Aft W5 => HS.out m 0
            have z1 := fun m : Aft W5 => HS.out m 1
            have z2 := fun m : Aft W5 => HS.out m 2
            have z3 := fun m : Aft W5 => HS.out m 3
            have z4 := fun m : Aft W5 => HS.out m 4
            have z5 := fun m : Aft W5 => HS.out m 5
            have z6 := fun m : Aft W5 => HS.out m 6
            simp only [List.getElem?_toArray, List.getElem?_cons_succ, List.getElem?_cons_zero] at z0 z1 z2 z3 z4 z5 z6
            have hn : n = g.dt.length := by
              rcases OWN5.out.2 with ⟨e1, e2⟩ | ⟨g', cap, cur, e1, _⟩
              · cases e1; exact e2.symm
              · cases e1; rfl
            subst hn
            have HMY := Lib.hid (fun W (hW : Below W5.heap.size W5 W) => rmay_any g A c W)
            have HLI0 := Lib.hid (fun (hm : mayF g = true) W (hW : Below W5.heap.size W5 W) => rline_any g A c W (D5.out.below hW) hok hm)
            have HCMP := Lib.hid (word_cmp (lineL g) (s.extract p k).data.toList)
            rw [mk_data] at HCMP
            clear sx bA hok
            have hpk' : (p : Int) ≤ k := by omega
            have hk' : (k : Int) ≤ s.size := by omega
            have hne : ¬ (k : Int) = s.size := by omega
            have hne2 : ((k : Int) == s.size) = false := beq_eq_false_iff_ne.2 hne
            by_cases h20 : X.length < 20000
            case neg =>
              have hbad := HBAD.out (by rw [HSTEP.out, decide_eq_false h20]; simp)
              have h21 : (20000 : Int) < ((X.length + 1 : Nat) : Int) := by omega
              have h22 : (20000 : Int) < (X.length : Int) + 1 := by omega
              refine wp_region_aft (by kernel_rfl) (by kernel_rfl) (Below.refl _ W5) ?_
              repeat (any_goals (first | go_big_quiet_step (fail) | quiet_step (fail)))
              refine wpQuiet_nil ?_
              intro _ hw'
              obtain ⟨⟨u1, b1⟩, hw''⟩ := hw'
              subst hw''
              have C1 := Lib.hid (B5.out.trans (b1.mono B5.out.size))
              clear b1 z0 z1 z2 z3 z4 z5 z6
              go_wp2_with fail
              go_ret3
              refine ⟨?_, C1.out⟩
              rw [hbad]
              first | rfl | (simp; done)
            have h21 : ¬ (20000 : Int) < ((X.length + 1 : Nat) : Int) := by omega
            have h22 : ¬ (20000 : Int) < (X.length : Int) + 1 := by omega
            cases hm : mayF g
            · have hbad := HBAD.out (by rw [HSTEP.out, hm]; simp)
              rw [hm] at HMY
              refine wp_region_aft (by kernel_rfl) (by kernel_rfl) (Below.refl _ W5) ?_
              repeat (any_goals (first | go_big_quiet_step ((go_at_call 36; exact quiet_call _ (HMY.out _ (Aft.property _)))) | quiet_step ((go_at_call 36; exact quiet_call _ (HMY.out _ (Aft.property _))))))
              refine wpQuiet_nil ?_
              intro _ hw'
              obtain ⟨⟨u1, b1⟩, hw''⟩ := hw'
              subst hw''
              have C1 := Lib.hid (B5.out.trans (b1.mono B5.out.size))
              clear b1 z0 z1 z2 z3 z4 z5 z6
              go_wp2_with fail
              go_ret3
              refine ⟨?_, C1.out⟩
              rw [hbad]
              first | rfl | (simp; done)
            · rw [hm] at HMY
              have HLI := Lib.hid (HLI0.out hm)
              have hbase : w.heap.size ≤ wr.heap.size := HR.out.b.size
              clear HLI0
              by_cases hl : lineL g = (s.extract p k).data.toList
              case neg =>
                have hbad := HBAD.out (by rw [HSTEP.out, hm, beq_eq_false_iff_ne.2 hl]; simp)
                have hcmp : ((⟨(lineL g).toArray⟩ : ByteArray).toList == (s.extract p k).toList) = false := by rw [HCMP.out]; exact decide_eq_false hl
                clear HCMP hl
                generalize (⟨(lineL g).toArray⟩ : ByteArray) = ln at *
                refine wp_region_aft (by kernel_rfl) (by kernel_rfl) (Below.refl _ W5) ?_
                repeat (any_goals (first | go_big_quiet_step (first | (go_at_call 36; exact quiet_call _ (HMY.out _ (Aft.property _))) | (go_at_call 32; exact quiet_call _ (HLI.out _ (Aft.property _)))) | quiet_step (first | (go_at_call 36; exact quiet_call _ (HMY.out _ (Aft.property _))) | (go_at_call 32; exact quiet_call _ (HLI.out _ (Aft.property _))))))
                refine wpQuiet_nil ?_
                intro _ hw'
                obtain ⟨⟨u1, b1⟩, hw''⟩ := hw'
                subst hw''
                have C1 := Lib.hid (B5.out.trans (b1.mono B5.out.size))
                clear b1 z0 z1 z2 z3 z4 z5 z6
                go_wp2_with fail
                go_ret3
                refine ⟨?_, C1.out⟩
                rw [hbad]
                first | rfl | (simp; done)
              have hcmp : ((⟨(lineL g).toArray⟩ : ByteArray).toList == (s.extract p k).toList) = true := by rw [HCMP.out]; exact decide_eq_true hl
              have hl2 : (lineL g == (s.extract p k).data.toList) = true := by rw [hl]; simp
              clear HCMP hl
              generalize (⟨(lineL g).toArray⟩ : ByteArray) = ln at *
              by_cases h0 : X.length = 0
              · have hgo := HGO.out (ents X ++ [g]) (by rw [HSTEP.out, hm, hl2, decide_eq_true h20]; unfold okNext; rw [ents_len, h0]; rfl)
                have h1 : ¬ (1 : Int) < (X.length : Int) + 1 := by omega
                have h1b : ¬ (1 : Int) < ((X.length + 1 : Nat) : Int) := by omega
                clear HGO HBAD HSTEP h0
                refine wp_region_aft (by kernel_rfl) (by kernel_rfl) (Below.refl _ W5) ?_
                repeat (any_goals (first | go_big_quiet_step (first | (go_at_call 36; exact quiet_call _ (HMY.out _ (Aft.property _))) | (go_at_call 32; exact quiet_call _ (HLI.out _ (Aft.property _)))) | quiet_step (first | (go_at_call 36; exact quiet_call _ (HMY.out _ (Aft.property _))) | (go_at_call 32; exact quiet_call _ (HLI.out _ (Aft.property _))))))
                refine wpQuiet_nil ?_
                intro w9 hw'
                obtain ⟨⟨u1, b1⟩, hw''⟩ := hw'
                subst hw''
                have C1 := Lib.hid (B5.out.trans (b1.mono B5.out.size))
                have b1' := Lib.hid b1
                have R6 := Lib.hid (R5.out.below b1)
                have OWN6 := Lib.hid (row_keep OWN5.out b1)
                have x6 := (b1.block xb (lt_of_block SX.out)).trans SX.out
                obtain ⟨c0, f0, c1, f1, c2, f2, c3, f3, c4, f4, c5, f5, c6, f6⟩ := cells7 x6
                have one7 := encX_one ⟨g, .slice A g.dt.length c⟩ A g.dt.length c rfl
                have hws : w.heap.size ≤ w9.heap.size := C1.out.size
                clear b1 z0 z1 z2 z3 z4 z5 z6 x6 f0 f1 f2 f3 f4 f5 f6
                go_wp2_with (at_builtin; refine wpList_append_own _ rfl _ _ 29 rfl w.heap.size 28 i28 _ 7 72 Tryz.underlying29 I28.out Z28.out S28.out Y28.out rfl (by decide) _ X.length (flatX X) rfl (R6.out.o.alloc _) ⟨_, 0, none⟩ 1 1 (encX ⟨g, .slice A g.dt.length c⟩) rfl rfl (cells7_new _ _ _ _ _ _ _ _) one7 (by unfold maxLen; omega) (by omega) (by simp; omega) ?_; intro v' w7 hown' hgrow _)
                have RN := Lib.hid (R6.out.app (xe := ⟨g, .slice A g.dt.length c⟩) ((Below.refl _ w9).alloc (Nat.le_refl _) _) (row_keep (own_dn OWN6.out hbase) ((Below.refl _ w9).alloc (Nat.le_refl _) _)) hown' hgrow)
                clear hown' hgrow
                go_roundw
                case rel =>
                  refine ⟨k + 1, X ++ [⟨g, .slice A g.dt.length c⟩], by omega, by simp; omega, by go_num, ?_, Lib.hid ?_, RN⟩
                  · simp
                  · have e : ents (X ++ [(⟨g, .slice A g.dt.length c⟩ : Ex)]) = ents X ++ [g] := by simp [ents]
                    rw [e]; exact hgo
                case measure => simp [intOf]; omega
              · obtain ⟨j, hj⟩ : ∃ j, X.length = j + 1 := ⟨X.length - 1, by omega⟩
                obtain ⟨A', c', hv, _, _, hA⟩ := R5.out.rd.one
                obtain ⟨q, Aq, cq, b', off', hq, hA', hdq, hcq⟩ := hA j (by rw [ents_len]; omega)
                rw [ents_len] at hv
                subst hA'
                subst hv
                have y1 := fun m : Aft W5 => (hcq m.val m.property).2.1
                have i1 : IntKind.i64.wrap ((X.length : Int) + 1 - 2) = (j : Int) := by rw [show (X.length : Int) + 1 - 2 = (j : Int) by omega]; exact IntWalk.i64_in _ (by omega)
                have i2 : IntKind.i64.wrap ((X.length : Int) - 1) = (j : Int) := by rw [show (X.length : Int) - 1 = (j : Int) by omega]; exact IntWalk.i64_in _ (by omega)
                have i3 : IntKind.i64.wrap (j : Int) = (j : Int) := IntWalk.i64_in _ (by omega)
                have i4 : (j : Int) < (X.length : Int) := by omega
                have h1 : (1 : Int) < (X.length : Int) + 1 := by omega
                have h1b : (1 : Int) < ((X.length + 1 : Nat) : Int) := by omega
                have HOKN : Hid (okNext (ents X) g = decide (q.tk ≤ g.tk)) := Lib.hid (by
                  unfold okNext
                  rw [ents_len, hj, show j + 1 - 1 = j from rfl, hq]
                  rfl)
                clear hA hdq hcq hq hj
                generalize q.tk = qtk at *
                by_cases hle : qtk ≤ g.tk
                · have hlt : ¬ g.tk < qtk := by omega
                  have hgo := HGO.out (ents X ++ [g]) (by rw [HSTEP.out, hm, hl2, decide_eq_true h20, HOKN.out, decide_eq_true hle]; rfl)
                  clear HGO HBAD HSTEP HOKN h0
                  refine wp_region_aft (by kernel_rfl) (by kernel_rfl) (Below.refl _ W5) ?_
                  repeat (any_goals (first | go_big_quiet_step (first | (go_at_call 36; exact quiet_call _ (HMY.out _ (Aft.property _))) | (go_at_call 32; exact quiet_call _ (HLI.out _ (Aft.property _)))) | quiet_step (first | (go_at_call 36; exact quiet_call _ (HMY.out _ (Aft.property _))) | (go_at_call 32; exact quiet_call _ (HLI.out _ (Aft.property _))))))
                  refine wpQuiet_nil ?_
                  intro w9 hw'
                  obtain ⟨⟨u1, b1⟩, hw''⟩ := hw'
                  subst hw''
                  have C1 := Lib.hid (B5.out.trans (b1.mono B5.out.size))
                  have b1' := Lib.hid b1
                  have R6 := Lib.hid (R5.out.below b1)
                  have OWN6 := Lib.hid (row_keep OWN5.out b1)
                  have x6 := (b1.block xb (lt_of_block SX.out)).trans SX.out
                  obtain ⟨c0, f0, c1, f1, c2, f2, c3, f3, c4, f4, c5, f5, c6, f6⟩ := cells7 x6
                  have one7 := encX_one ⟨g, .slice A g.dt.length c⟩ A g.dt.length c rfl
                  have hws : w.heap.size ≤ w9.heap.size := C1.out.size
                  clear b1 z0 z1 z2 z3 z4 z5 z6 y1 x6 f0 f1 f2 f3 f4 f5 f6
                  go_wp2_with (at_builtin; refine wpList_append_own _ rfl _ _ 29 rfl w.heap.size 28 i28 _ 7 72 Tryz.underlying29 I28.out Z28.out S28.out Y28.out rfl (by decide) _ X.length (flatX X) rfl (R6.out.o.alloc _) ⟨_, 0, none⟩ 1 1 (encX ⟨g, .slice A g.dt.length c⟩) rfl rfl (cells7_new _ _ _ _ _ _ _ _) one7 (by unfold maxLen; omega) (by omega) (by simp; omega) ?_; intro v' w7 hown' hgrow _)
                  have RN := Lib.hid (R6.out.app (xe := ⟨g, .slice A g.dt.length c⟩) ((Below.refl _ w9).alloc (Nat.le_refl _) _) (row_keep (own_dn OWN6.out hbase) ((Below.refl _ w9).alloc (Nat.le_refl _) _)) hown' hgrow)
                  clear hown' hgrow
                  go_roundw
                  case rel =>
                    refine ⟨k + 1, X ++ [⟨g, .slice A g.dt.length c⟩], by omega, by simp; omega, by go_num, ?_, Lib.hid ?_, RN⟩
                    · simp
                    · have e : ents (X ++ [(⟨g, .slice A g.dt.length c⟩ : Ex)]) = ents X ++ [g] := by simp [ents]
                      rw [e]; exact hgo
                  case measure => simp [intOf]; omega
                · have hlt : g.tk < qtk := by omega
                  have hbad := HBAD.out (by rw [HSTEP.out, hm, hl2, decide_eq_true h20, HOKN.out, decide_eq_false hle]; rfl)
                  clear HGO HBAD HSTEP HOKN h0
                  refine wp_region_aft (by kernel_rfl) (by kernel_rfl) (Below.refl _ W5) ?_
                  repeat (any_goals (first | go_big_quiet_step (first | (go_at_call 36; exact quiet_call _ (HMY.out _ (Aft.property _))) | (go_at_call 32; exact quiet_call _ (HLI.out _ (Aft.property _)))) | quiet_step (first | (go_at_call 36; exact quiet_call _ (HMY.out _ (Aft.property _))) | (go_at_call 32; exact quiet_call _ (HLI.out _ (Aft.property _))))))
                  refine wpQuiet_nil ?_
                  intro _ hw'
                  obtain ⟨⟨u1, b1⟩, hw''⟩ := hw'
                  subst hw''
                  have C1 := Lib.hid (B5.out.trans (b1.mono B5.out.size))
                  clear b1 z0 z1 z2 z3 z4 z5 z6 y1
                  go_wp2_with fail
                  go_ret3
                  refine ⟨?_, C1.out⟩
                  rw [hbad]
                  first | rfl | (simp; done)
          · have hc2 : ¬ (s[k].toNat : Int) = 10 := fun e => hc (UInt8.toNat_inj.1 (by show s[k].toNat = 10; omega))
            have hc3 : ((s[k].toNat : Int) == 10) = false := beq_eq_false_iff_ne.2 hc2
            have HN2 : Hid (NoNl s p (k + 1)) := Lib.hid (fun j h1 h2 => by
              rcases Nat.lt_or_ge j k with h | h
              · exact HNO.out j h1 h
              · obtain rfl : j = k := by omega
                rw [byte_at hks]
                intro e; exact hc (Option.some.inj e))
            clear hc
            go_wp2_with fail
            go_roundw
            case rel => exact ⟨k + 1, by omega, by omega, by go_num, HN2, by first | rfl | trivial⟩
            case measure => simp [intOf]; omega
        · have hks' : ¬ (k : Int) < s.size := by omega
          obtain rfl : k = s.size := by omega
          have hbad : parseF s = .inr (X.length + 1) := by rw [← HG.out, HST.out p (ents X) hps HNO.out, ents_len]
          clear HG
          go_wp2_with fail
          refine (HGS.out p s.size _ (by omega)).mono ?_
          rintro e w2 ⟨A, n, c, rfl, own, b2⟩
          have B2 := Lib.hid (HR.out.b.trans (b2.mono HR.out.b.size))
          clear own b2
          generalize gsF (s.extract p s.size) = g at *
          have hpk' : (p : Int) ≤ s.size := by omega
          go_upto_region 10 with (fail)
          have B5 := Lib.hid (B2.out.alloc B2.out.size (.cells #[.int .i64 g.kd, .int .u64 g.tk, .int .i64 g.id, .int .i64 g.fl, .int .i64 g.nn, .int .i64 g.er, .slice A n c] 28))
          generalize w2.alloc (.cells #[.int .i64 g.kd, .int .u64 g.tk, .int .i64 g.id, .int .i64 g.fl, .int .i64 g.nn, .int .i64 g.er, .slice A n c] 28) = W5 at *
          refine wp_region_aft (by kernel_rfl) (by kernel_rfl) (Below.refl _ W5) ?_
          repeat (any_goals (first | go_big_quiet_step (fail) | quiet_step (fail)))
          refine wpQuiet_nil ?_
          intro _ hw'
          obtain ⟨⟨u1, b1⟩, hw''⟩ := hw'
          subst hw''
          have C1 := Lib.hid (B5.out.trans (b1.mono B5.out.size))
          clear b1
          go_wp2_with fail
          go_ret3
          refine ⟨?_, C1.out⟩
          rw [hbad]
          first | rfl | (simp; done)
    · have hps' : ¬ (p : Int) < s.size := by omega
      have hend : parseF s = .inl (ents X) := by rw [← HG.out, HEN.out p _ (by omega)]
      clear HG
      go_wp2_with fail
      go_ret3
      refine ⟨?_, HR.out.b⟩
      rw [hend]
      exact ⟨_, rfl, HR.out.rd⟩
end Go.Proofs.YtbanfkpfijcmcaaGreatDoor
