/- ObjLoads: after Load of the memories of another instance both have the same outputs and memories; Reset is as new; for arguments of bulk at most 1048576. -/
import Derived.Test.YtkgekafdhehleaaGreatObZvM
set_option linter.unusedVariables false
set_option linter.unusedSimpArgs false
set_option maxRecDepth 4000
namespace Go.Proofs.YtkgekafdhehleaaGreat.loads
open Go.ChangeShapes Go.WideShapes Go.RowKit
theorem own:ownKnob Tryz.prog.godebug=none:=by kernel_rfl
set_option maxRecDepth 100000 in
theorem lifted (os:Os) (started:os.Started) (H:Type) (enc:TypeId×Value→H) (F:Stop.Interp):
  ReturnsInHanded {} Tryz.checked os 7 .any ((Rows.OpenSpec.upto Rows.objLoadsSpec).pre6 enc Tryz.prog Tryz.f7 Rows.objLoadsUptoRow.domain false) (((Rows.OpenSpec.upto Rows.objLoadsSpec).at F).post enc Tryz.prog Tryz.f7 false true false false):=by
 refine returnsInHanded_of_cond (C:=Tryz.checked) (s:=Rows.OpenSpec.upto Rows.objLoadsSpec) (k:=Rows.uptoSmall) rfl own started (by kernel_rfl) Tryz.func7
  (OpenSpec.witness (enc:=enc) (C:=Tryz.checked) (s:=Rows.OpenSpec.upto Rows.objLoadsSpec) (k:=Rows.uptoSmall) rfl false ⟨#[],#[.agg #[.slice none 0 0,.slice none 0 0],.string .empty,.slice none 0 0,.slice none 0 0],[]⟩ 7 (by kernel_rfl) (by kernel_rfl) (by kernel_rfl)
   (x:=([.agg [.nil,.nil],.lit (.string []),.nil,.nil],[],[])) (by kernel_rfl) rfl (by kernel_rfl)) ?_
 intro W base args ds gs before vW hW _ hk _
 exact Go.Ac.contractSRM (f:=7) (fn:=Tryz.f7) (spec:=Rows.objLoadsSpec) rfl rfl rfl (fun _ _ _ _ _=>rfl) (fun x s r m hx cC h1 h2 h3=>Go.Ac.loads_den x s r m hx cC h1 h2 h3) H enc W base args ds gs before vW hW hk
theorem proved:Rows.ObjLoadsUptoSaid:=
 OpenClaim.holds_of_cond 7 Tryz.f7 rfl rfl rfl rfl rfl rfl rfl ⟨rfl,rfl,rfl,rfl,rfl⟩ rfl rfl rfl rfl rfl (by kernel_rfl) Tryz.func7 (by kernel_rfl)
  (of_decide_eq_true (by kernel_rfl)) (by unfold Func.isWrapper;first|(rw[if_pos (by decide +kernel)];kernel_rfl)|(rw[if_neg (by decide +kernel)];exact ⟨rfl,rfl⟩))
  (fun os started H enc _ F=>lifted os started H enc F)
#print axioms proved
end Go.Proofs.YtkgekafdhehleaaGreat.loads
