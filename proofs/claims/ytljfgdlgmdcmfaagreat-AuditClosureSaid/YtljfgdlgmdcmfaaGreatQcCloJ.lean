/- AuditClosure: facts of the row. -/
import Derived.Test.YtljfgdlgmdcmfaaGreatRows
import Derived.Test.YtljfgdlgmdcmfaaGreatChecked
import Derived.JoinedOf
set_option linter.unusedVariables false
namespace Go.Proofs.YtljfgdlgmdcmfaaGreat
section
open Go
theorem auditClosure_f1:(Rows.auditClosureRow.inPlace==Tryz.pinned.checked.prog.inPlace 14)=true:=by kernel_rfl
theorem auditClosure_f2:(Rows.auditClosureRow.unfollowed==Tryz.pinned.checked.prog.unfollowed 14)=true:=by kernel_rfl
theorem auditClosure_f3:(Rows.auditClosureRow.recurses==Tryz.pinned.checked.prog.recurses 14)=true:=by kernel_rfl
theorem auditClosure_f4:(Rows.auditClosureRow.named==Tryz.pinned.checked.prog.varsNamed 14)=true:=by kernel_rfl
theorem auditClosure_closed:joinedFacts Tryz.pinned.checked.prog 14 Tryz.f14 Rows.auditClosureSpec Rows.auditClosureRow=true:=by
 unfold joinedFacts
 rw [auditClosure_f1,auditClosure_f2,auditClosure_f3,auditClosure_f4]
 kernel_rfl
end
end Go.Proofs.YtljfgdlgmdcmfaaGreat
