/- FnLocks: the row; no conditions. -/
import Derived.Test.YtaebhfnbgkbdhaaQf
import Derived.Test.YtaebhfnbgkbdhaaRows
namespace Go.Proofs.Ytaebhfnbgkbdhaa.locks
open Go Go.ChangeShapes Go.WideShapes Go.ChangeAt Go.RowKit
theorem own:ownKnob Try.prog.godebug=none:=by kernel_rfl
theorem laidOut:laidOutB Try.prog=true:=by kernel_rfl
theorem Cz:∀ v,OT.Ee OT.dB.ps v->∃ u,OT.dB.aa v=some (true,u):=λv hv=>⟨(),OT.Df v hv⟩
theorem Ah {H:Type} {enc:TypeId×Value->H} {P:Program} {w:World} {base:Nat} {sp:Nat->Bool} {held:Bool}:∀ (ts:List TypeId) (vs:List Value) (ds:List (DataW H)) (ps:List MemPlace),DataW.TrodAll enc P w base sp held ts vs ds ps->ds.length=ts.length
 | [],[],[],_,_=>rfl
 | _::ts,_::vs,_::ds,_,⟨_,q,_,h,_⟩=>congrArg (·+1) (Ah ts vs ds q h)
 | [],_::_,_,_,h=>h.elim
 | [],[],_::_,_,h=>h.elim
 | _::_,[],_,_,h=>h.elim
 | _::_,_::_,[],_,h=>h.elim
set_option maxRecDepth 100000 in
theorem lifted (os:Os) (started:os.Started) (H:Type) (enc:TypeId×Value->H) :
  ReturnsInHanded {} Try.checked os 3 .any (Rows.fnLocksSpec.pre6 enc Try.prog Try.f3 Rows.fnLocksRow.domain false) (Rows.fnLocksSpec.post enc Try.prog Try.f3 false true false false):=by
 refine returnsInHanded_of_change (C:=Try.checked) own started (by kernel_rfl) Try.func3
  (ChangeSpec.witness6 (enc:=enc) (C:=Try.checked) false ⟨#[],#[.slice none 0 0],[]⟩ 8 (by kernel_rfl) (by kernel_rfl) (by kernel_rfl) (by kernel_rfl)) ?_
 intro W base args ds gs before KP hW OB _
 have yU:∀ (j:Nat) t v,Try.f3.params[j]?=some t->args[j]?=some v->Value.okWide Try.prog W .any base t v:=KP
 have LS:=hW
 obtain ⟨p,q,wY,hV,rfl,Pg,iH⟩:=hW
 have hA:DataW.TrodAll enc Try.prog W 0 (λ_=>true) true Try.f3.params.toList args.toList ds p:=wY
 obtain ⟨rfl,rfl⟩:=trodVars_none hV
 simp only[List.append_nil] at LS
 have hl:OT.pq Try.prog OT.dB.ps Try.f3.params.toList=true:=by kernel_rfl
 have hc:=OT.Ef (enc:=enc) (cap:=false) (ps:=OT.dB.ps) (Fn:=OT.dB.aa) OT.dB.ok.1 Cz hl hA (b0:=base) (λj t v ht hv=>yU j t v (by simpa using ht) (by simpa using hv)) (OT.Kd (by kernel_rfl))
 simp only[Array.toArray_toList] at hc
 refine hc.mono λe W' ⟨he,hb⟩=>?_
 refine ⟨_,he,OT.Fx (C:=Try.checked) laidOut rfl hl (by kernel_rfl) Try.underlying4 rfl LS hA ?_ hb⟩
 have hlen:ds.length=1:=Ah _ _ _ _ hA
 match ds,hlen with
 | [d1],_=>rfl
theorem a2 {a b:Bool} (h:(a&&b)=true):a=true/\b=true:=by simpa using h
theorem a3 {a b c:Bool} (h:(a&&b&&c)=true):a=true/\b=true/\c=true:=by simpa [and_assoc] using h
theorem a4 {a b c d:Bool} (h:(a&&b&&c&&d)=true):a=true/\b=true/\c=true/\d=true:=by simpa [and_assoc] using h
theorem g1:((Rows.fnLocksRow.inPlace == Try.prog.inPlace 3)&&(Rows.fnLocksRow.unfollowed == Try.prog.unfollowed 3)&&(Rows.fnLocksRow.recurses == Try.prog.recurses 3)&&(Rows.fnLocksRow.named == Try.prog.varsNamed 3))=true:=by kernel_rfl
theorem g2:((Rows.fnLocksRow.lifted == Try.prog.liftsFinal)&&(Try.prog.make == some Rows.fnLocksRow.make))=true:=by kernel_rfl
theorem g3:((Rows.fnLocksRow.plainKeys == Try.prog.plainKeys)&&Try.prog.stopsHeard&&(Try.prog.stopKnobs == []))=true:=by kernel_rfl
set_option maxHeartbeats 8000000 in
theorem closed:joinedFacts Try.prog 3 Try.f3 Rows.fnLocksSpec Rows.fnLocksRow=true:=by
 unfold joinedFacts
 simp only[Bool.and_eq_true]
 repeat' apply And.intro
 ·as_aux_lemma=>kernel_rfl
 ·exact laidOut
 ·as_aux_lemma=>kernel_rfl
 ·as_aux_lemma=>kernel_rfl
 ·as_aux_lemma=>kernel_rfl
 ·as_aux_lemma=>kernel_rfl
 ·as_aux_lemma=>kernel_rfl
 ·as_aux_lemma=>kernel_rfl
 ·exact (a3 g3).2.2
 ·exact (a4 g1).1
 ·exact (a4 g1).2.1
 ·exact (a4 g1).2.2.1
 ·exact (a4 g1).2.2.2
 ·as_aux_lemma=>kernel_rfl
 ·as_aux_lemma=>kernel_rfl
 ·as_aux_lemma=>kernel_rfl
 ·as_aux_lemma=>kernel_rfl
 ·as_aux_lemma=>kernel_rfl
 ·as_aux_lemma=>kernel_rfl
 ·as_aux_lemma=>kernel_rfl
 ·as_aux_lemma=>kernel_rfl
 ·as_aux_lemma=>kernel_rfl
 ·exact (a3 g3).1
 ·as_aux_lemma=>kernel_rfl
 ·exact (a3 g3).2.1
 ·as_aux_lemma=>kernel_rfl
 ·exact (a2 g2).1
 ·exact (a2 g2).2
 ·as_aux_lemma=>kernel_rfl
 ·as_aux_lemma=>kernel_rfl
 ·as_aux_lemma=>kernel_rfl
 ·as_aux_lemma=>kernel_rfl
theorem kj:Rows.fnLocksRow.holds Try.pinned (OpenSpec.ofChange Rows.fnLocksSpec):=
 OpenClaim.holds_of_wide 3 Try.f3 rfl rfl rfl rfl rfl rfl rfl ⟨rfl,rfl,rfl,rfl,rfl⟩ rfl rfl rfl rfl rfl (by kernel_rfl) Try.func3 closed
  (of_decide_eq_true (by kernel_rfl)) (by unfold Func.isWrapper;first | (rw[if_pos (by decide +kernel)];kernel_rfl) | (rw[if_neg (by decide +kernel)];exact ⟨rfl,rfl⟩))
  (λos started H enc _=>lifted os started H enc)
theorem proved:Rows.FnLocksSaid:=kj
#print axioms proved
end Go.Proofs.Ytaebhfnbgkbdhaa.locks
