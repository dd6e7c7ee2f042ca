/- wrong, walked; the closed texts. -/
import Derived.Test.YtbanfkpfijcmcaaGreatDoorPb
namespace Go.Proofs.YtbanfkpfijcmcaaGreatDoor
open Go.RowKit
set_option linter.unusedSimpArgs false
set_option linter.unusedVariables false
set_option maxRecDepth 100000

/-- The line in which a text goes wrong; 0: nowhere. -/
def wrongF (s : ByteArray) : Int := match parseF s with
  | .inl _ => 0
  | .inr m => (m : Int)
set_option maxHeartbeats 2000000 in
theorem wrong_any (s : ByteArray) (w : World) (hE : Ep w) (hs : Tok s) : Calls Tryz.prog 5 #[.string s] w fun e w' => e = .returned (.int .i64 (wrongF s)) ∧ Below w.heap.size w w' := by
  have hp := parse_any s w hE hs
  unfold ParseP at hp
  unfold wrongF
  cases hF : parseF s with
  | inl r =>
    rw [hF] at hp
    have HP := Lib.hid hp
    clear hp hF hE hs
    go_enter Tryz.func5, Tryz.ntmps5
    go_wp2_with fail
    refine HP.out.mono ?_
    rintro e w1 ⟨⟨v, rfl, hv⟩, b1⟩
    clear hv
    have B1 := Lib.hid b1
    clear b1
    go_wp2_with fail
    go_ret
    exact ⟨rfl, B1.out⟩
  | inr m =>
    rw [hF] at hp
    have HP := Lib.hid hp
    clear hp hF hE hs
    go_enter Tryz.func5, Tryz.ntmps5
    go_wp2_with fail
    refine HP.out.mono ?_
    rintro e w1 ⟨rfl, b1⟩
    have B1 := Lib.hid b1
    clear b1
    go_wp2_with fail
    go_ret
    exact ⟨rfl, B1.out⟩
/-- The chapter's examples of what is refused. -/
theorem wr1 : wrongF ⟨#[116, 117, 114, 110, 32, 53, 32, 48]⟩ = 1 := by decide +kernel
theorem wr2 : wrongF ⟨#[116, 117, 114, 110, 32, 53, 32, 48, 10, 116, 117, 114, 110, 32, 52, 32, 49, 10]⟩ = 2 := by decide +kernel
theorem wr3 : wrongF ⟨#[114, 117, 110, 32, 53, 32, 51, 32, 112, 101, 114, 115, 105, 115, 116, 43, 114, 101, 97, 100, 32, 48, 10]⟩ = 1 := by decide +kernel
theorem wr4 : wrongF ⟨#[100, 105, 100, 32, 53, 32, 51, 32, 49, 48, 48, 32, 48, 32, 45, 10]⟩ = 1 := by decide +kernel
theorem wr5 : wrongF ⟨#[101, 110, 100, 32, 53, 32, 49, 10]⟩ = 1 := by decide +kernel
theorem wr6 : wrongF ⟨#[116, 117, 114, 110, 32, 48, 53, 32, 48, 10]⟩ = 1 := by decide +kernel
theorem wr7 : wrongF ⟨#[10]⟩ = 1 := by decide +kernel
theorem wr8 : wrongF ⟨#[]⟩ = 0 := by decide +kernel
theorem wr9 : wrongF ⟨#[116, 117, 114, 110, 32, 49, 56, 52, 52, 54, 55, 52, 52, 48, 55, 51, 55, 48, 57, 53, 53, 49, 54, 49, 53, 32, 48, 10]⟩ = 0 := by decide +kernel
theorem wr10 : wrongF ⟨#[116, 117, 114, 110, 32, 49, 56, 52, 52, 54, 55, 52, 52, 48, 55, 51, 55, 48, 57, 53, 53, 49, 54, 49, 54, 32, 48, 10]⟩ = 1 := by decide +kernel
theorem wr11 : wrongF ⟨#[100, 105, 100, 32, 49, 32, 49, 32, 49, 32, 49, 32, 54, 10]⟩ = 1 := by decide +kernel
end Go.Proofs.YtbanfkpfijcmcaaGreatDoor
