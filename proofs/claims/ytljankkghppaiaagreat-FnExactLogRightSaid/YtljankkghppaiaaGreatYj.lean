/- FnExactLogRight: the row; no conditions. -/
import Derived.Test.YtljankkghppaiaaGreatYi
import Derived.Test.YtljankkghppaiaaGreatRows
namespace Go.Proofs.YtljankkghppaiaaGreat.logRight
open Go Go.ChangeShapes Go.WideShapes Go.ChangeAt Go.RowKit
theorem own:ownKnob Tryz.prog.godebug=none:=by kernel_rfl
theorem laidOut:laidOutB Tryz.prog=true:=by kernel_rfl
theorem O5:∀ v,OT.RF OT.e_.ps v->∃ u,OT.e_.aa v=some (true,u):=fun v hv=>⟨(),OT.Jt v hv⟩
theorem Mo {H:Type} {enc:TypeId×Value->H} {P:Program} {w:World} {base:Nat} {sp:Nat->Bool} {held:Bool}:∀ (ts:List TypeId) (vs:List Value) (ds:List (DataW H)) (ps:List MemPlace),DataW.TrodAll enc P w base sp held ts vs ds ps->ds.length=ts.length
 | [],[],[],_,_=>rfl
 | _::ts,_::vs,_::ds,_,⟨_,q,_,h,_⟩=>congrArg (·+1) (Mo ts vs ds q h)
 | [],_::_,_,_,h=>h.elim
 | [],[],_::_,_,h=>h.elim
 | _::_,[],_,_,h=>h.elim
 | _::_,_::_,[],_,h=>h.elim
set_option maxRecDepth 100000 in
theorem lifted (os:Os) (started:os.Started) (H:Type) (enc:TypeId×Value->H) :
  ReturnsInHanded {} Tryz.checked os 11 .any (Rows.fnExactLogRightSpec.pre6 enc Tryz.prog Tryz.f11 Rows.fnExactLogRightRow.domain false) (Rows.fnExactLogRightSpec.post enc Tryz.prog Tryz.f11 false true false false):=by
 refine returnsInHanded_of_change (C:=Tryz.checked) own started (by kernel_rfl) Tryz.func11
  (ChangeSpec.witness6 (enc:=enc) (C:=Tryz.checked) false ⟨#[],#[.agg #[.bool false,.slice none 0 0,.slice none 0 0,.slice none 0 0,.slice none 0 0,.int .i64 0],.agg #[.slice none 0 0,.slice none 0 0,.int .i64 0]],[]⟩ 8 (by kernel_rfl) (by kernel_rfl) (by kernel_rfl) (by kernel_rfl)) ?_
 intro W base args ds gs before ZR hW abC _;have Kj:∀ (j:Nat) t v,Tryz.f11.params[j]?=some t->args[j]?=some v->Value.okWide Tryz.prog W .any base t v:=ZR;have hW':=hW;obtain ⟨p,q,ID,hV,rfl,IQ,sF⟩:=hW;have hA:DataW.TrodAll enc Tryz.prog W 0 (fun _=>true) true Tryz.f11.params.toList args.toList ds p:=ID;obtain ⟨rfl,rfl⟩:=trodVars_none hV;simp only[List.append_nil] at hW';have hl:OT.z_ Tryz.prog OT.e_.ps Tryz.f11.params.toList=true:=by kernel_rfl
 have hc:=OT.RI (enc:=enc) (cap:=false) (ps:=OT.e_.ps) (Fn:=OT.e_.aa) OT.e_.ok.1 O5 hl hA (b0:=base) (fun j t v ht hv=>Kj j t v (by simpa using ht) (by simpa using hv));simp only[Array.toArray_toList] at hc;refine hc.mono fun e W' ⟨he,hb⟩=>?_;refine ⟨_,he,OT.Tz (C:=Tryz.checked) laidOut rfl hl (by kernel_rfl) Tryz.underlying4 rfl hW' hA ?_ hb⟩
 have hlen:ds.length=2:=Mo _ _ _ _ hA
 match ds,hlen with
 | [d1,d2],_=>rfl
theorem a2 {a b:Bool} (h:(a&&b)=true):a=true/\b=true:=by simpa using h
theorem a3 {a b c:Bool} (h:(a&&b&&c)=true):a=true/\b=true/\c=true:=by simpa [and_assoc] using h
theorem a4 {a b c d:Bool} (h:(a&&b&&c&&d)=true):a=true/\b=true/\c=true/\d=true:=by simpa [and_assoc] using h
theorem g1:((Rows.fnExactLogRightRow.inPlace == Tryz.prog.inPlace 11)&&(Rows.fnExactLogRightRow.unfollowed == Tryz.prog.unfollowed 11)&&(Rows.fnExactLogRightRow.recurses == Tryz.prog.recurses 11)&&(Rows.fnExactLogRightRow.named == Tryz.prog.varsNamed 11))=true:=by kernel_rfl
theorem g2:((Rows.fnExactLogRightRow.lifted == Tryz.prog.liftsFinal)&&(Tryz.prog.make == some Rows.fnExactLogRightRow.make))=true:=by kernel_rfl
theorem g3:((Rows.fnExactLogRightRow.plainKeys == Tryz.prog.plainKeys)&&Tryz.prog.stopsHeard&&(Tryz.prog.stopKnobs == []))=true:=by kernel_rfl
set_option maxHeartbeats 8000000 in
theorem closed:joinedFacts Tryz.prog 11 Tryz.f11 Rows.fnExactLogRightSpec Rows.fnExactLogRightRow=true:=by
 unfold joinedFacts;simp only[Bool.and_eq_true]
 repeat' apply And.intro
 ·as_aux_lemma=>kernel_rfl
 ·exact laidOut
 ·as_aux_lemma=>kernel_rfl
 ·as_aux_lemma=>kernel_rfl
 ·as_aux_lemma=>kernel_rfl
 ·as_aux_lemma=>kernel_rfl
 ·as_aux_lemma=>kernel_rfl
 ·as_aux_lemma=>kernel_rfl
 ·exact (a3 g3).2.2
 ·exact (a4 g1).1
 ·exact (a4 g1).2.1
 ·exact (a4 g1).2.2.1
 ·exact (a4 g1).2.2.2
 ·as_aux_lemma=>kernel_rfl
 ·as_aux_lemma=>kernel_rfl
 ·as_aux_lemma=>kernel_rfl
 ·as_aux_lemma=>kernel_rfl
 ·as_aux_lemma=>kernel_rfl
 ·as_aux_lemma=>kernel_rfl
 ·as_aux_lemma=>kernel_rfl
 ·as_aux_lemma=>kernel_rfl
 ·as_aux_lemma=>kernel_rfl
 ·exact (a3 g3).1
 ·as_aux_lemma=>kernel_rfl
 ·exact (a3 g3).2.1
 ·as_aux_lemma=>kernel_rfl
 ·exact (a2 g2).1
 ·exact (a2 g2).2
 ·as_aux_lemma=>kernel_rfl
 ·as_aux_lemma=>kernel_rfl
 ·as_aux_lemma=>kernel_rfl
 ·as_aux_lemma=>kernel_rfl
theorem rX:Rows.fnExactLogRightRow.holds Tryz.pinned (OpenSpec.ofChange Rows.fnExactLogRightSpec):=
 OpenClaim.holds_of_wide 11 Tryz.f11 rfl rfl rfl rfl rfl rfl rfl ⟨rfl,rfl,rfl,rfl,rfl⟩ rfl rfl rfl rfl rfl (by kernel_rfl) Tryz.func11 closed
  (of_decide_eq_true (by kernel_rfl)) (by unfold Func.isWrapper;first | (rw[if_pos (by decide +kernel)];kernel_rfl) | (rw[if_neg (by decide +kernel)];exact ⟨rfl,rfl⟩))
  (fun os started H enc _=>lifted os started H enc)
theorem proved:Rows.FnExactLogRightSaid:=rX
#print axioms proved
end Go.Proofs.YtljankkghppaiaaGreat.logRight
