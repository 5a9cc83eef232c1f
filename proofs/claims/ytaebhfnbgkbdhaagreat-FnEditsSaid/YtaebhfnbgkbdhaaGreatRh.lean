/- FnEdits: the row; no conditions. -/
import Derived.Test.YtaebhfnbgkbdhaaGreatRg
import Derived.Test.YtaebhfnbgkbdhaaGreatRows
namespace Go.Proofs.YtaebhfnbgkbdhaaGreat.edits
open Go Go.ChangeShapes Go.WideShapes Go.ChangeAt Go.RowKit
theorem own:ownKnob Tryz.prog.godebug=none:=by kernel_rfl
theorem laidOut:laidOutB Tryz.prog=true:=by kernel_rfl
theorem HR:∀ v,OT.JS OT.fB.ps v->∃ u,OT.fB.aa v=some (true,u):=λv hv=>⟨(),OT.IR v hv⟩
theorem Fq {H:Type} {enc:TypeId×Value->H} {P:Program} {w:World} {base:Nat} {sp:Nat->Bool} {held:Bool}:∀ (ts:List TypeId) (vs:List Value) (ds:List (DataW H)) (ps:List MemPlace),DataW.TrodAll enc P w base sp held ts vs ds ps->ds.length=ts.length
 | [],[],[],_,_=>rfl
 | _::ts,_::vs,_::ds,_,⟨_,q,_,h,_⟩=>congrArg (·+1) (Fq ts vs ds q h)
 | [],_::_,_,_,h=>h.elim
 | [],[],_::_,_,h=>h.elim
 | _::_,[],_,_,h=>h.elim
 | _::_,_::_,[],_,h=>h.elim
set_option maxRecDepth 100000 in
theorem lifted (os:Os) (started:os.Started) (H:Type) (enc:TypeId×Value->H) :
  ReturnsInHanded {} Tryz.checked os 5 .any (Rows.fnEditsSpec.pre6 enc Tryz.prog Tryz.f5 Rows.fnEditsRow.domain false) (Rows.fnEditsSpec.post enc Tryz.prog Tryz.f5 false true false false):=by
 refine returnsInHanded_of_change (C:=Tryz.checked) own started (by kernel_rfl) Tryz.func5
  (ChangeSpec.witness6 (enc:=enc) (C:=Tryz.checked) false ⟨#[],#[.slice none 0 0],[]⟩ 8 (by kernel_rfl) (by kernel_rfl) (by kernel_rfl) (by kernel_rfl)) ?_
 intro W base args ds gs before RA hW WI _
 have DG:∀ (j:Nat) t v,Tryz.f5.params[j]?=some t->args[j]?=some v->Value.okWide Tryz.prog W .any base t v:=RA
 have SN:=hW
 obtain ⟨p,q,B8,hV,rfl,XG,og⟩:=hW
 have hA:DataW.TrodAll enc Tryz.prog W 0 (λ_=>true) true Tryz.f5.params.toList args.toList ds p:=B8
 obtain ⟨rfl,rfl⟩:=trodVars_none hV
 simp only[List.append_nil] at SN
 have hl:OT.tI Tryz.prog OT.fB.ps Tryz.f5.params.toList=true:=by kernel_rfl
 have hc:=OT.JT (enc:=enc) (cap:=false) (ps:=OT.fB.ps) (Fn:=OT.fB.aa) OT.fB.ok.1 HR hl hA (b0:=base) (λj t v ht hv=>DG j t v (by simpa using ht) (by simpa using hv)) (OT.Qz (by kernel_rfl))
 simp only[Array.toArray_toList] at hc
 refine hc.mono λe W' ⟨he,hb⟩=>?_
 refine ⟨_,he,OT.Lg (C:=Tryz.checked) laidOut rfl hl (by kernel_rfl) Tryz.underlying4 rfl SN hA ?_ hb⟩
 have hlen:ds.length=1:=Fq _ _ _ _ hA
 match ds,hlen with
 | [d1],_=>rfl
theorem a2 {a b:Bool} (h:(a&&b)=true):a=true/\b=true:=by simpa using h
theorem a3 {a b c:Bool} (h:(a&&b&&c)=true):a=true/\b=true/\c=true:=by simpa [and_assoc] using h
theorem a4 {a b c d:Bool} (h:(a&&b&&c&&d)=true):a=true/\b=true/\c=true/\d=true:=by simpa [and_assoc] using h
theorem g1:((Rows.fnEditsRow.inPlace == Tryz.prog.inPlace 5)&&(Rows.fnEditsRow.unfollowed == Tryz.prog.unfollowed 5)&&(Rows.fnEditsRow.recurses == Tryz.prog.recurses 5)&&(Rows.fnEditsRow.named == Tryz.prog.varsNamed 5))=true:=by kernel_rfl
theorem g2:((Rows.fnEditsRow.lifted == Tryz.prog.liftsFinal)&&(Tryz.prog.make == some Rows.fnEditsRow.make))=true:=by kernel_rfl
theorem g3:((Rows.fnEditsRow.plainKeys == Tryz.prog.plainKeys)&&Tryz.prog.stopsHeard&&(Tryz.prog.stopKnobs == []))=true:=by kernel_rfl
set_option maxHeartbeats 8000000 in
theorem closed:joinedFacts Tryz.prog 5 Tryz.f5 Rows.fnEditsSpec Rows.fnEditsRow=true:=by
 unfold joinedFacts
 simp only[Bool.and_eq_true]
 repeat' apply And.intro
 ·as_aux_lemma=>kernel_rfl
 ·exact laidOut
 ·as_aux_lemma=>kernel_rfl
 ·as_aux_lemma=>kernel_rfl
 ·as_aux_lemma=>kernel_rfl
 ·as_aux_lemma=>kernel_rfl
 ·as_aux_lemma=>kernel_rfl
 ·as_aux_lemma=>kernel_rfl
 ·exact (a3 g3).2.2
 ·exact (a4 g1).1
 ·exact (a4 g1).2.1
 ·exact (a4 g1).2.2.1
 ·exact (a4 g1).2.2.2
 ·as_aux_lemma=>kernel_rfl
 ·as_aux_lemma=>kernel_rfl
 ·as_aux_lemma=>kernel_rfl
 ·as_aux_lemma=>kernel_rfl
 ·as_aux_lemma=>kernel_rfl
 ·as_aux_lemma=>kernel_rfl
 ·as_aux_lemma=>kernel_rfl
 ·as_aux_lemma=>kernel_rfl
 ·as_aux_lemma=>kernel_rfl
 ·exact (a3 g3).1
 ·as_aux_lemma=>kernel_rfl
 ·exact (a3 g3).2.1
 ·as_aux_lemma=>kernel_rfl
 ·exact (a2 g2).1
 ·exact (a2 g2).2
 ·as_aux_lemma=>kernel_rfl
 ·as_aux_lemma=>kernel_rfl
 ·as_aux_lemma=>kernel_rfl
 ·as_aux_lemma=>kernel_rfl
theorem jc:Rows.fnEditsRow.holds Tryz.pinned (OpenSpec.ofChange Rows.fnEditsSpec):=
 OpenClaim.holds_of_wide 5 Tryz.f5 rfl rfl rfl rfl rfl rfl rfl ⟨rfl,rfl,rfl,rfl,rfl⟩ rfl rfl rfl rfl rfl (by kernel_rfl) Tryz.func5 closed
  (of_decide_eq_true (by kernel_rfl)) (by unfold Func.isWrapper;first | (rw[if_pos (by decide +kernel)];kernel_rfl) | (rw[if_neg (by decide +kernel)];exact ⟨rfl,rfl⟩))
  (λos started H enc _=>lifted os started H enc)
theorem proved:Rows.FnEditsSaid:=jc
#print axioms proved
end Go.Proofs.YtaebhfnbgkbdhaaGreat.edits
