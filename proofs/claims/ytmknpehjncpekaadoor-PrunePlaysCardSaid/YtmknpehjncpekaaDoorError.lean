/- witsame.Error at its own number. -/
import Derived.Test.YtmknpehjncpekaaDoorAs
namespace Go.Proofs.YtmknpehjncpekaaDoor
open Go.RowKit
theorem errIs_eq (k : Int) : errIs k k = true := by unfold errIs; simp
theorem Error_is (k : Int) (w : World) (hg : ErrG w) : Calls Tryd.prog 7 #[errR k, .int .i64 k] w fun e w' => e = .returned (.bool true) ∧ Ext w w' :=
  (Error_any k k w hg).mono fun e w' hh => ⟨hh.1.trans (by rw [errIs_eq]), hh.2⟩
end Go.Proofs.YtmknpehjncpekaaDoor
