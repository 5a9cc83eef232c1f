/- FnExactRunStore: the row; no conditions. -/
import Derived.Test.YtghckfpmmofmnaaGreatUi
import Derived.Test.YtghckfpmmofmnaaGreatRows
namespace Go.Proofs.YtghckfpmmofmnaaGreat.runStore
open Go Go.ChangeShapes Go.WideShapes Go.ChangeAt Go.RowKit
theorem own:ownKnob Tryz.prog.godebug=none:=by kernel_rfl
theorem laidOut:laidOutB Tryz.prog=true:=by kernel_rfl
theorem U6:∀ v,OT.XB OT.f_.ps v->∃ u,OT.f_.ab v=some (true,u):=λv hv=>⟨(),OT.Ov v hv⟩
theorem RN {H:Type} {enc:TypeId×Value->H} {P:Program} {w:World} {base:Nat} {sp:Nat->Bool} {held:Bool}:∀ (ts:List TypeId) (vs:List Value) (ds:List (DataW H)) (ps:List MemPlace),DataW.TrodAll enc P w base sp held ts vs ds ps->ds.length=ts.length
 | [],[],[],_,_=>rfl
 | _::ts,_::vs,_::ds,_,⟨_,q,_,h,_⟩=>congrArg (·+1) (RN ts vs ds q h)
 | [],_::_,_,_,h=>h.elim
 | [],[],_::_,_,h=>h.elim
 | _::_,[],_,_,h=>h.elim
 | _::_,_::_,[],_,h=>h.elim
set_option maxRecDepth 100000 in
theorem lifted (os:Os) (started:os.Started) (H:Type) (enc:TypeId×Value->H) :
  ReturnsInHanded {} Tryz.checked os 4 .any (Rows.fnExactRunStoreSpec.pre6 enc Tryz.prog Tryz.f4 Rows.fnExactRunStoreRow.domain false) (Rows.fnExactRunStoreSpec.post enc Tryz.prog Tryz.f4 false true false false):=by
 refine returnsInHanded_of_change (C:=Tryz.checked) own started (by kernel_rfl) Tryz.func4
  (ChangeSpec.witness6 (enc:=enc) (C:=Tryz.checked) false ⟨#[],#[.slice none 0 0],[]⟩ 8 (by kernel_rfl) (by kernel_rfl) (by kernel_rfl) (by kernel_rfl)) ?_
 intro W base args ds gs before aeb hW afx _;have Po:∀ (j:Nat) t v,Tryz.f4.params[j]?=some t->args[j]?=some v->Value.okWide Tryz.prog W .any base t v:=aeb;have hW':=hW;obtain ⟨p,q,Ni,hV,rfl,hfz,ut⟩:=hW;have hA:DataW.TrodAll enc Tryz.prog W 0 (λ_=>true) true Tryz.f4.params.toList args.toList ds p:=Ni;obtain ⟨rfl,rfl⟩:=trodVars_none hV;simp only[List.append_nil] at hW';have hl:OT.Dj Tryz.prog OT.f_.ps Tryz.f4.params.toList=true:=by kernel_rfl
 have hc:=OT.XC (enc:=enc) (cap:=false) (ps:=OT.f_.ps) (Fn:=OT.f_.ab) OT.f_.ok.1 U6 hl hA (b0:=base) (λj t v ht hv=>Po j t v (by simpa using ht) (by simpa using hv)) (OT.adm (by kernel_rfl));simp only[Array.toArray_toList] at hc;refine hc.mono λe W' ⟨he,hb⟩=>?_;refine ⟨_,he,OT.Zv (C:=Tryz.checked) laidOut rfl hl (by kernel_rfl) Tryz.underlying4 rfl hW' hA ?_ hb⟩
 have hlen:ds.length=1:=RN _ _ _ _ hA
 match ds,hlen with
 | [d1],_=>rfl
theorem a2 {a b:Bool} (h:(a&&b)=true):a=true/\b=true:=by simpa using h
theorem a3 {a b c:Bool} (h:(a&&b&&c)=true):a=true/\b=true/\c=true:=by simpa [and_assoc] using h
theorem a4 {a b c d:Bool} (h:(a&&b&&c&&d)=true):a=true/\b=true/\c=true/\d=true:=by simpa [and_assoc] using h
theorem g1:((Rows.fnExactRunStoreRow.inPlace == Tryz.prog.inPlace 4)&&(Rows.fnExactRunStoreRow.unfollowed == Tryz.prog.unfollowed 4)&&(Rows.fnExactRunStoreRow.recurses == Tryz.prog.recurses 4)&&(Rows.fnExactRunStoreRow.named == Tryz.prog.varsNamed 4))=true:=by kernel_rfl
theorem g2:((Rows.fnExactRunStoreRow.lifted == Tryz.prog.liftsFinal)&&(Tryz.prog.make == some Rows.fnExactRunStoreRow.make))=true:=by kernel_rfl
theorem g3:((Rows.fnExactRunStoreRow.plainKeys == Tryz.prog.plainKeys)&&Tryz.prog.stopsHeard&&(Tryz.prog.stopKnobs == []))=true:=by kernel_rfl
set_option maxHeartbeats 8000000 in
theorem closed:joinedFacts Tryz.prog 4 Tryz.f4 Rows.fnExactRunStoreSpec Rows.fnExactRunStoreRow=true:=by
 unfold joinedFacts;simp only[Bool.and_eq_true]
 repeat' apply And.intro
 ·as_aux_lemma=>kernel_rfl
 ·exact laidOut
 ·as_aux_lemma=>kernel_rfl
 ·as_aux_lemma=>kernel_rfl
 ·as_aux_lemma=>kernel_rfl
 ·as_aux_lemma=>kernel_rfl
 ·as_aux_lemma=>kernel_rfl
 ·as_aux_lemma=>kernel_rfl
 ·exact (a3 g3).2.2
 ·exact (a4 g1).1
 ·exact (a4 g1).2.1
 ·exact (a4 g1).2.2.1
 ·exact (a4 g1).2.2.2
 ·as_aux_lemma=>kernel_rfl
 ·as_aux_lemma=>kernel_rfl
 ·as_aux_lemma=>kernel_rfl
 ·as_aux_lemma=>kernel_rfl
 ·as_aux_lemma=>kernel_rfl
 ·as_aux_lemma=>kernel_rfl
 ·as_aux_lemma=>kernel_rfl
 ·as_aux_lemma=>kernel_rfl
 ·as_aux_lemma=>kernel_rfl
 ·exact (a3 g3).1
 ·as_aux_lemma=>kernel_rfl
 ·exact (a3 g3).2.1
 ·as_aux_lemma=>kernel_rfl
 ·exact (a2 g2).1
 ·exact (a2 g2).2
 ·as_aux_lemma=>kernel_rfl
 ·as_aux_lemma=>kernel_rfl
 ·as_aux_lemma=>kernel_rfl
 ·as_aux_lemma=>kernel_rfl
theorem oM:Rows.fnExactRunStoreRow.holds Tryz.pinned (OpenSpec.ofChange Rows.fnExactRunStoreSpec):=
 OpenClaim.holds_of_wide 4 Tryz.f4 rfl rfl rfl rfl rfl rfl rfl ⟨rfl,rfl,rfl,rfl,rfl⟩ rfl rfl rfl rfl rfl (by kernel_rfl) Tryz.func4 closed
  (of_decide_eq_true (by kernel_rfl)) (by unfold Func.isWrapper;first | (rw[if_pos (by decide +kernel)];kernel_rfl) | (rw[if_neg (by decide +kernel)];exact ⟨rfl,rfl⟩))
  (λos started H enc _=>lifted os started H enc)
theorem proved:Rows.FnExactRunStoreSaid:=oM
#print axioms proved
end Go.Proofs.YtghckfpmmofmnaaGreat.runStore
