/- Entries that may be, their lines, their text: plainly. What the variables hold. -/
import Derived.Test.YtbanfkpfijcmcaaGreatDoorHx
import Derived.Test.YtbanfkpfijcmcaaGreatDoorFX
import Derived.Lib.SmallJoins
import Derived.WalkLawsBesides
namespace Go.Proofs.YtbanfkpfijcmcaaGreatDoor
open Go.RowKit
set_option linter.unusedSimpArgs false
set_option linter.unusedVariables false
set_option maxRecDepth 100000

def i64ok (x : Int) : Prop := -9223372036854775808 ≤ x ∧ x ≤ 9223372036854775807
structure EnOk (x : En) : Prop where
  kd : i64ok x.kd
  tk : 0 ≤ x.tk ∧ x.tk < 18446744073709551616
  id : i64ok x.id
  fl : i64ok x.fl
  nn : i64ok x.nn
  er : i64ok x.er
/-- May an entry be? -/
def mayF (x : En) : Bool := decide (0 ≤ x.nn ∧ 0 ≤ x.id ∧ 0 ≤ x.er) &&
  (if x.kd = 1 then decide (x.id = 0 ∧ x.fl = 0 ∧ x.er = 0 ∧ x.dt = [])
   else if x.kd = 2 then decide (0 ≤ x.fl ∧ x.fl < 64 ∧ x.er = 0 ∧ x.dt = [])
   else if x.kd = 3 then decide (x.fl = 0 ∧ x.nn < 100 ∧ x.dt.length ≤ 65536)
   else if x.kd = 4 then decide (x.id = 0 ∧ x.fl = 0 ∧ x.dt = []) else false)
def wordL (k : Int) : List UInt8 := if k = 1 then [116, 117, 114, 110] else if k = 2 then [114, 117, 110] else if k = 3 then [100, 105, 100] else if k = 4 then [101, 110, 100] else []
/-- The words of a line. -/
def lineW (x : En) : List (List UInt8) := [wordL x.kd, Lib.decDigits x.tk.toNat] ++
  (if x.kd = 1 then [Lib.itoa x.nn] else if x.kd = 2 then [Lib.itoa x.id, Fl.txL 0 x.fl, Lib.itoa x.nn]
   else if x.kd = 3 then [Lib.itoa x.id, Lib.itoa x.nn, Lib.itoa x.er, hexL x.dt] else [Lib.itoa x.nn, Lib.itoa x.er])
def lineL (x : En) : List UInt8 := Lib.join (lineW x) [32]
def textF (l : List En) : List UInt8 := l.flatMap fun x => lineL x ++ [10]
/-- Is the entry in place j one that may be, and no earlier than the one before? -/
def okAt (l : List En) (j : Nat) : Bool := match l[j]? with
  | none => true
  | some x => mayF x && (j == 0 || (match l[j - 1]? with | none => true | some p => decide (p.tk ≤ x.tk)))
def allOk (l : List En) (k : Nat) : Bool := (List.range k).all (okAt l)
theorem allOk_succ (l : List En) (k : Nat) : allOk l (k + 1) = (allOk l k && okAt l k) := by
  unfold allOk; rw [List.range_succ, List.all_append]; simp
theorem allOk_no (l : List En) (k n : Nat) (hk : k < n) (h : okAt l k = false) : allOk l n = false := by
  unfold allOk
  rw [Bool.eq_false_iff]
  intro e
  have := List.all_eq_true.1 e k (List.mem_range.2 hk)
  rw [h] at this; cases this
def checkF (l : List En) : Bool := decide (l.length ≤ 20000) && allOk l l.length
def twl : List ByteArray := [⟨#[]⟩, ⟨#[116, 117, 114, 110]⟩, ⟨#[114, 117, 110]⟩, ⟨#[100, 105, 100]⟩, ⟨#[101, 110, 100]⟩]
/-- What the variables hold that Text reads. -/
structure Ev (w : World) : Prop where
  f : Fl.Wd w
  tw : ∀ i, i < 5 → w.cell? ⟨0, i, none⟩ = some (.string (twl.getD i ByteArray.empty))
  t : Lib.TabIs Tryz.prog w "internal/strconv.uint64pow10" .u64 Lib.pow10Tab
theorem gPow : Tryz.prog.globalNamed "internal/strconv.uint64pow10" = some 2 := by kernel_rfl
theorem Ev.below {w w' : World} (h : Ev w) (hb : Below w.heap.size w w') : Ev w' :=
  ⟨h.f.same (hb.block 1 h.f.lt), fun i hi => (hb.cell (p := ⟨0, i, none⟩) (cell_lt (h.tw i hi)).1).trans (h.tw i hi), Joins.tab_stays gPow h.t hb (Nat.le_refl _)⟩
end Go.Proofs.YtbanfkpfijcmcaaGreatDoor
