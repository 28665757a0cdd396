/- CursorNobody: a nil cursor tells nothing, and refuses everything. No condition. -/
import Derived.Test.YtmppaodhihnejaaGreatCNob
set_option linter.unusedVariables false
namespace Go.Proofs.YtmppaodhihnejaaGreat.CNob
open Go Go.RowKit Go.Proofs.YtmppaodhihnejaaGreat Go.Proofs.YtmppaodhihnejaaGreat.M
set_option maxRecDepth 100000
/-- CursorNobody holds. -/
theorem proved : Rows.CursorNobodySaid :=
  OpenClaim.holds_of_wide 3 Tryz.f3 rfl rfl rfl rfl rfl rfl rfl ⟨rfl, rfl, rfl, rfl, rfl⟩ rfl rfl rfl rfl rfl (by kernel_rfl) Tryz.func3 (by kernel_rfl)
    (of_decide_eq_true (by kernel_rfl)) (by unfold Func.isWrapper; first | (rw [if_pos (by decide +kernel)]; kernel_rfl) | (rw [if_neg (by decide +kernel)]; exact ⟨rfl, rfl⟩))
    (fun os started H enc _ => lifted os started H enc)
end Go.Proofs.YtmppaodhihnejaaGreat.CNob
