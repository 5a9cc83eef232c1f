/- FnExactTakeBack: the row; no conditions. -/
import Derived.Test.YtghckfpmmofmnaaGreatTi
import Derived.Test.YtghckfpmmofmnaaGreatRows
namespace Go.Proofs.YtghckfpmmofmnaaGreat.takeBack
open Go Go.ChangeShapes Go.WideShapes Go.ChangeAt Go.RowKit
theorem own:ownKnob Tryz.prog.godebug=none:=by kernel_rfl
theorem laidOut:laidOutB Tryz.prog=true:=by kernel_rfl
theorem QU:∀ v,OT.Tn OT.f9.ps v->∃ u,OT.f9.ab v=some (true,u):=λv hv=>⟨(),OT.KZ v hv⟩
theorem N3 {H:Type} {enc:TypeId×Value->H} {P:Program} {w:World} {base:Nat} {sp:Nat->Bool} {held:Bool}:∀ (ts:List TypeId) (vs:List Value) (ds:List (DataW H)) (ps:List MemPlace),DataW.TrodAll enc P w base sp held ts vs ds ps->ds.length=ts.length
 | [],[],[],_,_=>rfl
 | _::ts,_::vs,_::ds,_,⟨_,q,_,h,_⟩=>congrArg (·+1) (N3 ts vs ds q h)
 | [],_::_,_,_,h=>h.elim
 | [],[],_::_,_,h=>h.elim
 | _::_,[],_,_,h=>h.elim
 | _::_,_::_,[],_,h=>h.elim
set_option maxRecDepth 100000 in
theorem lifted (os:Os) (started:os.Started) (H:Type) (enc:TypeId×Value->H) :
  ReturnsInHanded {} Tryz.checked os 5 .any (Rows.fnExactTakeBackSpec.pre6 enc Tryz.prog Tryz.f5 Rows.fnExactTakeBackRow.domain false) (Rows.fnExactTakeBackSpec.post enc Tryz.prog Tryz.f5 false true false false):=by
 refine returnsInHanded_of_change (C:=Tryz.checked) own started (by kernel_rfl) Tryz.func5
  (ChangeSpec.witness6 (enc:=enc) (C:=Tryz.checked) false ⟨#[],#[.agg #[.bool false,.slice none 0 0,.slice none 0 0,.slice none 0 0,.slice none 0 0,.int .i64 0],.agg #[.int .i64 0,.slice none 0 0]],[]⟩ 8 (by kernel_rfl) (by kernel_rfl) (by kernel_rfl) (by kernel_rfl)) ?_
 intro W base args ds gs before abf hW acv _;have LR:∀ (j:Nat) t v,Tryz.f5.params[j]?=some t->args[j]?=some v->Value.okWide Tryz.prog W .any base t v:=abf;have hW':=hW;obtain ⟨p,q,J3,hV,rfl,hfz,vQ⟩:=hW;have hA:DataW.TrodAll enc Tryz.prog W 0 (λ_=>true) true Tryz.f5.params.toList args.toList ds p:=J3;obtain ⟨rfl,rfl⟩:=trodVars_none hV;simp only[List.append_nil] at hW';have hl:OT.Bn Tryz.prog OT.f9.ps Tryz.f5.params.toList=true:=by kernel_rfl
 have hc:=OT.To (enc:=enc) (cap:=false) (ps:=OT.f9.ps) (Fn:=OT.f9.ab) OT.f9.ok.1 QU hl hA (b0:=base) (λj t v ht hv=>LR j t v (by simpa using ht) (by simpa using hv)) (OT.aar (by kernel_rfl));simp only[Array.toArray_toList] at hc;refine hc.mono λe W' ⟨he,hb⟩=>?_;refine ⟨_,he,OT.Ve (C:=Tryz.checked) laidOut rfl hl (by kernel_rfl) Tryz.underlying4 rfl hW' hA ?_ hb⟩
 have hlen:ds.length=2:=N3 _ _ _ _ hA
 match ds,hlen with
 | [d1,d2],_=>rfl
theorem a2 {a b:Bool} (h:(a&&b)=true):a=true/\b=true:=by simpa using h
theorem a3 {a b c:Bool} (h:(a&&b&&c)=true):a=true/\b=true/\c=true:=by simpa [and_assoc] using h
theorem a4 {a b c d:Bool} (h:(a&&b&&c&&d)=true):a=true/\b=true/\c=true/\d=true:=by simpa [and_assoc] using h
theorem g1:((Rows.fnExactTakeBackRow.inPlace == Tryz.prog.inPlace 5)&&(Rows.fnExactTakeBackRow.unfollowed == Tryz.prog.unfollowed 5)&&(Rows.fnExactTakeBackRow.recurses == Tryz.prog.recurses 5)&&(Rows.fnExactTakeBackRow.named == Tryz.prog.varsNamed 5))=true:=by kernel_rfl
theorem g2:((Rows.fnExactTakeBackRow.lifted == Tryz.prog.liftsFinal)&&(Tryz.prog.make == some Rows.fnExactTakeBackRow.make))=true:=by kernel_rfl
theorem g3:((Rows.fnExactTakeBackRow.plainKeys == Tryz.prog.plainKeys)&&Tryz.prog.stopsHeard&&(Tryz.prog.stopKnobs == []))=true:=by kernel_rfl
set_option maxHeartbeats 8000000 in
theorem closed:joinedFacts Tryz.prog 5 Tryz.f5 Rows.fnExactTakeBackSpec Rows.fnExactTakeBackRow=true:=by
 unfold joinedFacts;simp only[Bool.and_eq_true]
 repeat' apply And.intro
 ·as_aux_lemma=>kernel_rfl
 ·exact laidOut
 ·as_aux_lemma=>kernel_rfl
 ·as_aux_lemma=>kernel_rfl
 ·as_aux_lemma=>kernel_rfl
 ·as_aux_lemma=>kernel_rfl
 ·as_aux_lemma=>kernel_rfl
 ·as_aux_lemma=>kernel_rfl
 ·exact (a3 g3).2.2
 ·exact (a4 g1).1
 ·exact (a4 g1).2.1
 ·exact (a4 g1).2.2.1
 ·exact (a4 g1).2.2.2
 ·as_aux_lemma=>kernel_rfl
 ·as_aux_lemma=>kernel_rfl
 ·as_aux_lemma=>kernel_rfl
 ·as_aux_lemma=>kernel_rfl
 ·as_aux_lemma=>kernel_rfl
 ·as_aux_lemma=>kernel_rfl
 ·as_aux_lemma=>kernel_rfl
 ·as_aux_lemma=>kernel_rfl
 ·as_aux_lemma=>kernel_rfl
 ·exact (a3 g3).1
 ·as_aux_lemma=>kernel_rfl
 ·exact (a3 g3).2.1
 ·as_aux_lemma=>kernel_rfl
 ·exact (a2 g2).1
 ·exact (a2 g2).2
 ·as_aux_lemma=>kernel_rfl
 ·as_aux_lemma=>kernel_rfl
 ·as_aux_lemma=>kernel_rfl
 ·as_aux_lemma=>kernel_rfl
theorem oo:Rows.fnExactTakeBackRow.holds Tryz.pinned (OpenSpec.ofChange Rows.fnExactTakeBackSpec):=
 OpenClaim.holds_of_wide 5 Tryz.f5 rfl rfl rfl rfl rfl rfl rfl ⟨rfl,rfl,rfl,rfl,rfl⟩ rfl rfl rfl rfl rfl (by kernel_rfl) Tryz.func5 closed
  (of_decide_eq_true (by kernel_rfl)) (by unfold Func.isWrapper;first | (rw[if_pos (by decide +kernel)];kernel_rfl) | (rw[if_neg (by decide +kernel)];exact ⟨rfl,rfl⟩))
  (λos started H enc _=>lifted os started H enc)
theorem proved:Rows.FnExactTakeBackSaid:=oo
#print axioms proved
end Go.Proofs.YtghckfpmmofmnaaGreat.takeBack
