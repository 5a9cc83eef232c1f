/- FnExactDrainLog: the row; no conditions. -/
import Derived.Test.YtljankkghppaiaaGreatQh
import Derived.Test.YtljankkghppaiaaGreatRows
namespace Go.Proofs.YtljankkghppaiaaGreat.drainLog
open Go Go.ChangeShapes Go.WideShapes Go.ChangeAt Go.RowKit
theorem own:ownKnob Tryz.prog.godebug=none:=by kernel_rfl
theorem laidOut:laidOutB Tryz.prog=true:=by kernel_rfl
theorem htrue:∀ v,OT.okA OT.laws_FnExactDrainLog.ps v->∃ u,OT.laws_FnExactDrainLog.sem v=some (true,u):=fun v hv=>⟨(),OT.drainLog_true v hv⟩
theorem trod_len {H:Type} {enc:TypeId×Value->H} {P:Program} {w:World} {base:Nat} {sp:Nat->Bool} {held:Bool}:∀ (ts:List TypeId) (vs:List Value) (ds:List (DataW H)) (ps:List MemPlace),DataW.TrodAll enc P w base sp held ts vs ds ps->ds.length=ts.length
 | [],[],[],_,_=>rfl
 | _::ts,_::vs,_::ds,_,⟨_,q,_,h,_⟩=>congrArg (·+1) (trod_len ts vs ds q h)
 | [],_::_,_,_,h=>h.elim
 | [],[],_::_,_,h=>h.elim
 | _::_,[],_,_,h=>h.elim
 | _::_,_::_,[],_,h=>h.elim
set_option maxRecDepth 100000 in
theorem lifted (os:Os) (started:os.Started) (H:Type) (enc:TypeId×Value->H) :
  ReturnsInHanded {} Tryz.checked os 9 .any (Rows.fnExactDrainLogSpec.pre6 enc Tryz.prog Tryz.f9 Rows.fnExactDrainLogRow.domain false) (Rows.fnExactDrainLogSpec.post enc Tryz.prog Tryz.f9 false true false false):=by
 refine returnsInHanded_of_change (C:=Tryz.checked) own started (by kernel_rfl) Tryz.func9
  (ChangeSpec.witness6 (enc:=enc) (C:=Tryz.checked) false ⟨#[],#[.agg #[.slice none 0 0,.slice none 0 0,.int .i64 0,.slice none 0 0,.slice none 0 0,.int .i64 0],.slice none 0 0],[]⟩ 8 (by kernel_rfl) (by kernel_rfl) (by kernel_rfl) (by kernel_rfl)) ?_
 intro W base args ds gs before hval0 hW hcnd _;have hval:∀ (j:Nat) t v,Tryz.f9.params[j]?=some t->args[j]?=some v->Value.okWide Tryz.prog W .any base t v:=hval0;have hW':=hW;obtain ⟨p,q,hA0,hV,rfl,hfz,hnd⟩:=hW;have hA:DataW.TrodAll enc Tryz.prog W 0 (fun _=>true) true Tryz.f9.params.toList args.toList ds p:=hA0;obtain ⟨rfl,rfl⟩:=trodVars_none hV;simp only[List.append_nil] at hW';have hl:OT.roLay Tryz.prog OT.laws_FnExactDrainLog.ps Tryz.f9.params.toList=true:=by kernel_rfl
 have hc:=OT.law_calls (enc:=enc) (cap:=false) (ps:=OT.laws_FnExactDrainLog.ps) (Fn:=OT.laws_FnExactDrainLog.sem) OT.laws_FnExactDrainLog.ok.1 htrue hl hA (b0:=base) (fun j t v ht hv=>hval j t v (by simpa using ht) (by simpa using hv));simp only[Array.toArray_toList] at hc;refine hc.mono fun e W' ⟨he,hb⟩=>?_;refine ⟨_,he,OT.law_post (C:=Tryz.checked) laidOut rfl hl (by kernel_rfl) Tryz.underlying4 rfl hW' hA ?_ hb⟩
 have hlen:ds.length=2:=trod_len _ _ _ _ hA
 match ds,hlen with
 | [d1,d2],_=>rfl
theorem a2 {a b:Bool} (h:(a&&b)=true):a=true/\b=true:=by simpa using h
theorem a3 {a b c:Bool} (h:(a&&b&&c)=true):a=true/\b=true/\c=true:=by simpa [and_assoc] using h
theorem a4 {a b c d:Bool} (h:(a&&b&&c&&d)=true):a=true/\b=true/\c=true/\d=true:=by simpa [and_assoc] using h
theorem g1:((Rows.fnExactDrainLogRow.inPlace == Tryz.prog.inPlace 9)&&(Rows.fnExactDrainLogRow.unfollowed == Tryz.prog.unfollowed 9)&&(Rows.fnExactDrainLogRow.recurses == Tryz.prog.recurses 9)&&(Rows.fnExactDrainLogRow.named == Tryz.prog.varsNamed 9))=true:=by kernel_rfl
theorem g2:((Rows.fnExactDrainLogRow.lifted == Tryz.prog.liftsFinal)&&(Tryz.prog.make == some Rows.fnExactDrainLogRow.make))=true:=by kernel_rfl
theorem g3:((Rows.fnExactDrainLogRow.plainKeys == Tryz.prog.plainKeys)&&Tryz.prog.stopsHeard&&(Tryz.prog.stopKnobs == []))=true:=by kernel_rfl
set_option maxHeartbeats 8000000 in
theorem closed:joinedFacts Tryz.prog 9 Tryz.f9 Rows.fnExactDrainLogSpec Rows.fnExactDrainLogRow=true:=by
 unfold joinedFacts;simp only[Bool.and_eq_true]
 repeat' apply And.intro
 ·as_aux_lemma=>kernel_rfl
 ·exact laidOut
 ·as_aux_lemma=>kernel_rfl
 ·as_aux_lemma=>kernel_rfl
 ·as_aux_lemma=>kernel_rfl
 ·as_aux_lemma=>kernel_rfl
 ·as_aux_lemma=>kernel_rfl
 ·as_aux_lemma=>kernel_rfl
 ·exact (a3 g3).2.2
 ·exact (a4 g1).1
 ·exact (a4 g1).2.1
 ·exact (a4 g1).2.2.1
 ·exact (a4 g1).2.2.2
 ·as_aux_lemma=>kernel_rfl
 ·as_aux_lemma=>kernel_rfl
 ·as_aux_lemma=>kernel_rfl
 ·as_aux_lemma=>kernel_rfl
 ·as_aux_lemma=>kernel_rfl
 ·as_aux_lemma=>kernel_rfl
 ·as_aux_lemma=>kernel_rfl
 ·as_aux_lemma=>kernel_rfl
 ·as_aux_lemma=>kernel_rfl
 ·exact (a3 g3).1
 ·as_aux_lemma=>kernel_rfl
 ·exact (a3 g3).2.1
 ·as_aux_lemma=>kernel_rfl
 ·exact (a2 g2).1
 ·exact (a2 g2).2
 ·as_aux_lemma=>kernel_rfl
 ·as_aux_lemma=>kernel_rfl
 ·as_aux_lemma=>kernel_rfl
 ·as_aux_lemma=>kernel_rfl
theorem over:Rows.fnExactDrainLogRow.holds Tryz.pinned (OpenSpec.ofChange Rows.fnExactDrainLogSpec):=
 OpenClaim.holds_of_wide 9 Tryz.f9 rfl rfl rfl rfl rfl rfl rfl ⟨rfl,rfl,rfl,rfl,rfl⟩ rfl rfl rfl rfl rfl (by kernel_rfl) Tryz.func9 closed
  (of_decide_eq_true (by kernel_rfl)) (by unfold Func.isWrapper;first | (rw[if_pos (by decide +kernel)];kernel_rfl) | (rw[if_neg (by decide +kernel)];exact ⟨rfl,rfl⟩))
  (fun os started H enc _=>lifted os started H enc)
theorem proved:Rows.FnExactDrainLogSaid:=over
#print axioms proved
end Go.Proofs.YtljankkghppaiaaGreat.drainLog
