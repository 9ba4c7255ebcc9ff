/- Copied, stripped. No conditions. -/
import Derived.Test.YtkaiffheakalmaaGreatDoorU9Awx
set_option linter.unusedSimpArgs false
set_option linter.unusedVariables false
set_option maxRecDepth 100000
namespace Go.Proofs.YtkaiffheakalmaaGreatDoor
open Go.RowKit
theorem CU {C:Ctx} {P:Program} {fop:Operand} {args:List Operand} {f:FuncId} {xs xs':List V} {r:V} {K:V→ES→Prop} {σ:ES} (id:Nat) {z:Nat} {els:List V} (h:Fn1 P f xs' (fun r'=>r'=r)) (hC:C.P=P) (hb:AD P f=true) (hr:σ.heap[id]?=some (some (.row z els))) (hnr:BN els) (hs:Vn r=true) (e:An id els xs=xs') (hn:Fw xs'=true) (he:B3 σ fop args=some (f,xs)) (hk:K r σ):CallN C fop args f xs K σ:=by
  subst hC
  subst e
  obtain ⟨caps,h1,h2⟩:=CE he
  refine ⟨Bg ?_⟩
  unfold EA
  rw [h1]
  simp only
  rw [h2]
  exact ⟨hb,Hb id (z:=z) (els:=els) (by simp [St.row,ES.st,hr]) hnr h (FB _ hn) hs (Cv hk)⟩
end Go.Proofs.YtkaiffheakalmaaGreatDoor
