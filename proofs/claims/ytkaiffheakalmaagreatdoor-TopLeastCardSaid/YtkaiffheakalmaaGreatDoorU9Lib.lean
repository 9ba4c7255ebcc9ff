/- Copied, stripped. No conditions. -/
import Derived.Test.YtkaiffheakalmaaGreatDoorU9Types
set_option linter.unusedSimpArgs false
set_option linter.unusedVariables false
set_option maxRecDepth 100000
namespace Go.Proofs.YtkaiffheakalmaaGreatDoor
open Go.RowKit
def AY (l:List Int):V:=.lst (l.map (V.int .i64))
def GI {α:Type} (p:α→Bool) (l:List α):Int:=match l.findIdx? p with|some i=>i|none=>-1
theorem EW {α:Type} {p:α→Bool} {l:List α} {k:Nat} {x:α} (hx:l[k]?=some x) (hp:p x=true) (hj:∀j < k,∀x,l[j]?=some x→p x=false):GI p l=k:=by
  have:l.findIdx? p=some k:=by
    rw [List.findIdx?_eq_some_iff_getElem]
    obtain ⟨hlt,rfl⟩:=List.getElem?_eq_some_iff.1 hx
    exact ⟨hlt,hp,fun j hjk=>by simp [hj j hjk _ (List.getElem?_eq_getElem (by omega))]⟩
  unfold GI
  rw [this]
theorem De {α:Type} {p:α→Bool} {l:List α} (h:∀x∈l,p x=false):GI p l= -1:=by
  have:l.findIdx? p=none:=by rw [List.findIdx?_eq_none_iff];exact h
  unfold GI
  rw [this]
theorem EX {α:Type} (p:α→Bool) (l:List α):decide (0≤GI p l)=l.any p:=by
  unfold GI
  cases h:l.findIdx? p with
  | none=>
    have:=List.findIdx?_eq_none_iff.1 h
    have h2:l.any p=false:=by rw [List.any_eq_false];intro x hx;simp [this x hx]
    rw [h2];rfl
  | some i=>
    obtain ⟨hlt,hp,_⟩:=List.findIdx?_eq_some_iff_getElem.1 h
    have h2:l.any p=true:=by rw [List.any_eq_true];exact ⟨_,List.getElem_mem hlt,hp⟩
    rw [h2]
    exact decide_eq_true (by show (0:Int)≤(i:Int);omega)
section
variable (id:Nat) (els:List V)
theorem ZM (s:List UInt8):(V.str s).frz id els= .str s:=by simp [V.frz]
theorem Wv (i off n:Nat):(V.sl i off n).frz id els=if i=id then (if off+n≤els.length then .lst ((els.drop off).take n) else .any) else .sl i off n:=by simp [V.frz]
theorem Ww:An id els []=[]:=by simp [An]
theorem NX (x:V) (l:List V):An id els (x::l)=x.frz id els::An id els l:=by simp [An]
end
theorem BM {C:Ctx} {K:ES→Prop} (id t:Nat) (ks:List Nat) {z m n:Nat} {els:List V} {u:List (Nat×V)} {h:List (Option Ob)} (hr:h[id]?=some (some (.row z els))) (hnr:BN els) (hs:Al u t= .sl id 0 m) (hm:m=els.length)
    (hf:FQ id els (A1 ks u)=A1 ks u) (hk:UpE C K ⟨n,(t,.lst els)::A1 ks u,(B1 id els h).set id none⟩):UpE C K ⟨n,u,h⟩:=by
  refine B8 (t::ks) (AO id hr hnr ?_)
  have e:FQ id els (A1 (t::ks) u)=(t,.lst els)::A1 ks u:=by
    rw [←hf]
    simp only [A1,FQ,List.map_cons,hs,Wv,if_true]
    rw [if_pos (by omega),List.drop_zero,List.take_of_length_le (by omega)]
  rw [e]
  exact hk
end Go.Proofs.YtkaiffheakalmaaGreatDoor
