/- FnRuns: the row; no conditions. -/
import Derived.Test.YtgnicpenjinbiaaGreatUi
import Derived.Test.YtgnicpenjinbiaaGreatRows
namespace Go.Proofs.YtgnicpenjinbiaaGreat.runs
open Go Go.ChangeShapes Go.WideShapes Go.ChangeAt Go.RowKit
theorem own:ownKnob Tryz.prog.godebug=none:=by kernel_rfl
theorem laidOut:laidOutB Tryz.prog=true:=by kernel_rfl
theorem WO:∀ v,OT.Zj OT.jb.ps v->∃ u,OT.jb.ab v=some (true,u):=λv hv=>⟨(),OT.aaB v hv⟩
theorem TH {H:Type} {enc:TypeId×Value->H} {P:Program} {w:World} {base:Nat} {sp:Nat->Bool} {held:Bool}:∀ (ts:List TypeId) (vs:List Value) (ds:List (DataW H)) (ps:List MemPlace),DataW.TrodAll enc P w base sp held ts vs ds ps->ds.length=ts.length
 | [],[],[],_,_=>rfl
 | _::ts,_::vs,_::ds,_,⟨_,q,_,h,_⟩=>congrArg (·+1) (TH ts vs ds q h)
 | [],_::_,_,_,h=>h.elim
 | [],[],_::_,_,h=>h.elim
 | _::_,[],_,_,h=>h.elim
 | _::_,_::_,[],_,h=>h.elim
set_option maxRecDepth 100000 in
theorem lifted (os:Os) (started:os.Started) (H:Type) (enc:TypeId×Value->H) :
  ReturnsInHanded {} Tryz.checked os 3 .any (Rows.fnRunsSpec.pre6 enc Tryz.prog Tryz.f3 Rows.fnRunsRow.domain false) (Rows.fnRunsSpec.post enc Tryz.prog Tryz.f3 false true false false):=by
 refine returnsInHanded_of_change (C:=Tryz.checked) own started (by kernel_rfl) Tryz.func3
  (ChangeSpec.witness6 (enc:=enc) (C:=Tryz.checked) false ⟨#[],#[.slice none 0 0],[]⟩ 8 (by kernel_rfl) (by kernel_rfl) (by kernel_rfl) (by kernel_rfl)) ?_
 intro W base args ds gs before agB hW ai3 _;have Rf:∀ (j:Nat) t v,Tryz.f3.params[j]?=some t->args[j]?=some v->Value.okWide Tryz.prog W .any base t v:=agB;have hW':=hW;obtain ⟨p,q,O2,hV,rfl,hfz,vD⟩:=hW;have hA:DataW.TrodAll enc Tryz.prog W 0 (λ_=>true) true Tryz.f3.params.toList args.toList ds p:=O2;obtain ⟨rfl,rfl⟩:=trodVars_none hV;simp only[List.append_nil] at hW';have hl:OT.Ee Tryz.prog OT.jb.ps Tryz.f3.params.toList=true:=by kernel_rfl
 have hc:=OT.Zk (enc:=enc) (cap:=false) (ps:=OT.jb.ps) (Fn:=OT.jb.ab) OT.jb.ok.1 WO hl hA (b0:=base) (λj t v ht hv=>Rf j t v (by simpa using ht) (by simpa using hv)) (OT.afT (by kernel_rfl));simp only[Array.toArray_toList] at hc;refine hc.mono λe W' ⟨he,hb⟩=>?_;refine ⟨_,he,OT.aa5 (C:=Tryz.checked) laidOut rfl hl (by kernel_rfl) Tryz.underlying4 rfl hW' hA ?_ hb⟩
 have hlen:ds.length=1:=TH _ _ _ _ hA
 match ds,hlen with
 | [d1],_=>rfl
theorem a2 {a b:Bool} (h:(a&&b)=true):a=true/\b=true:=by simpa using h
theorem a3 {a b c:Bool} (h:(a&&b&&c)=true):a=true/\b=true/\c=true:=by simpa [and_assoc] using h
theorem a4 {a b c d:Bool} (h:(a&&b&&c&&d)=true):a=true/\b=true/\c=true/\d=true:=by simpa [and_assoc] using h
theorem g1:((Rows.fnRunsRow.inPlace == Tryz.prog.inPlace 3)&&(Rows.fnRunsRow.unfollowed == Tryz.prog.unfollowed 3)&&(Rows.fnRunsRow.recurses == Tryz.prog.recurses 3)&&(Rows.fnRunsRow.named == Tryz.prog.varsNamed 3))=true:=by kernel_rfl
theorem g2:((Rows.fnRunsRow.lifted == Tryz.prog.liftsFinal)&&(Tryz.prog.make == some Rows.fnRunsRow.make))=true:=by kernel_rfl
theorem g3:((Rows.fnRunsRow.plainKeys == Tryz.prog.plainKeys)&&Tryz.prog.stopsHeard&&(Tryz.prog.stopKnobs == []))=true:=by kernel_rfl
set_option maxHeartbeats 8000000 in
theorem closed:joinedFacts Tryz.prog 3 Tryz.f3 Rows.fnRunsSpec Rows.fnRunsRow=true:=by
 unfold joinedFacts;simp only[Bool.and_eq_true]
 repeat' apply And.intro
 ·as_aux_lemma=>kernel_rfl
 ·exact laidOut
 ·as_aux_lemma=>kernel_rfl
 ·as_aux_lemma=>kernel_rfl
 ·as_aux_lemma=>kernel_rfl
 ·as_aux_lemma=>kernel_rfl
 ·as_aux_lemma=>kernel_rfl
 ·as_aux_lemma=>kernel_rfl
 ·exact (a3 g3).2.2
 ·exact (a4 g1).1
 ·exact (a4 g1).2.1
 ·exact (a4 g1).2.2.1
 ·exact (a4 g1).2.2.2
 ·as_aux_lemma=>kernel_rfl
 ·as_aux_lemma=>kernel_rfl
 ·as_aux_lemma=>kernel_rfl
 ·as_aux_lemma=>kernel_rfl
 ·as_aux_lemma=>kernel_rfl
 ·as_aux_lemma=>kernel_rfl
 ·as_aux_lemma=>kernel_rfl
 ·as_aux_lemma=>kernel_rfl
 ·as_aux_lemma=>kernel_rfl
 ·exact (a3 g3).1
 ·as_aux_lemma=>kernel_rfl
 ·exact (a3 g3).2.1
 ·as_aux_lemma=>kernel_rfl
 ·exact (a2 g2).1
 ·exact (a2 g2).2
 ·as_aux_lemma=>kernel_rfl
 ·as_aux_lemma=>kernel_rfl
 ·as_aux_lemma=>kernel_rfl
 ·as_aux_lemma=>kernel_rfl
theorem pO:Rows.fnRunsRow.holds Tryz.pinned (OpenSpec.ofChange Rows.fnRunsSpec):=
 OpenClaim.holds_of_wide 3 Tryz.f3 rfl rfl rfl rfl rfl rfl rfl ⟨rfl,rfl,rfl,rfl,rfl⟩ rfl rfl rfl rfl rfl (by kernel_rfl) Tryz.func3 closed
  (of_decide_eq_true (by kernel_rfl)) (by unfold Func.isWrapper;first | (rw[if_pos (by decide +kernel)];kernel_rfl) | (rw[if_neg (by decide +kernel)];exact ⟨rfl,rfl⟩))
  (λos started H enc _=>lifted os started H enc)
theorem proved:Rows.FnRunsSaid:=pO
#print axioms proved
end Go.Proofs.YtgnicpenjinbiaaGreat.runs
