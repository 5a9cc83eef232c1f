/- FnBacks: the row; no conditions. -/
import Derived.Test.YtaebhfnbgkbdhaaGreatQf
import Derived.Test.YtaebhfnbgkbdhaaGreatRows
namespace Go.Proofs.YtaebhfnbgkbdhaaGreat.backs
open Go Go.ChangeShapes Go.WideShapes Go.ChangeAt Go.RowKit
theorem own:ownKnob Tryz.prog.godebug=none:=by kernel_rfl
theorem laidOut:laidOutB Tryz.prog=true:=by kernel_rfl
theorem EJ:∀ v,OT.GX OT.aY.ps v->∃ u,OT.aY.ab v=some (true,u):=λv hv=>⟨(),OT.FH v hv⟩
theorem Ct {H:Type} {enc:TypeId×Value->H} {P:Program} {w:World} {base:Nat} {sp:Nat->Bool} {held:Bool}:∀ (ts:List TypeId) (vs:List Value) (ds:List (DataW H)) (ps:List MemPlace),DataW.TrodAll enc P w base sp held ts vs ds ps->ds.length=ts.length
 | [],[],[],_,_=>rfl
 | _::ts,_::vs,_::ds,_,⟨_,q,_,h,_⟩=>congrArg (·+1) (Ct ts vs ds q h)
 | [],_::_,_,_,h=>h.elim
 | [],[],_::_,_,h=>h.elim
 | _::_,[],_,_,h=>h.elim
 | _::_,_::_,[],_,h=>h.elim
set_option maxRecDepth 100000 in
theorem lifted (os:Os) (started:os.Started) (H:Type) (enc:TypeId×Value->H) :
  ReturnsInHanded {} Tryz.checked os 4 .any (Rows.fnBacksSpec.pre6 enc Tryz.prog Tryz.f4 Rows.fnBacksRow.domain false) (Rows.fnBacksSpec.post enc Tryz.prog Tryz.f4 false true false false):=by
 refine returnsInHanded_of_change (C:=Tryz.checked) own started (by kernel_rfl) Tryz.func4
  (ChangeSpec.witness6 (enc:=enc) (C:=Tryz.checked) false ⟨#[],#[.slice none 0 0],[]⟩ 8 (by kernel_rfl) (by kernel_rfl) (by kernel_rfl) (by kernel_rfl)) ?_
 intro W base args ds gs before Om hW S7 _
 have AZ:∀ (j:Nat) t v,Tryz.f4.params[j]?=some t->args[j]?=some v->Value.okWide Tryz.prog W .any base t v:=Om
 have PB:=hW
 obtain ⟨p,q,zn,hV,rfl,J4,kS⟩:=hW
 have hA:DataW.TrodAll enc Tryz.prog W 0 (λ_=>true) true Tryz.f4.params.toList args.toList ds p:=zn
 obtain ⟨rfl,rfl⟩:=trodVars_none hV
 simp only[List.append_nil] at PB
 have hl:OT.qG Tryz.prog OT.aY.ps Tryz.f4.params.toList=true:=by kernel_rfl
 have hc:=OT.GY (enc:=enc) (cap:=false) (ps:=OT.aY.ps) (Fn:=OT.aY.ab) OT.aY.ok.1 EJ hl hA (b0:=base) (λj t v ht hv=>AZ j t v (by simpa using ht) (by simpa using hv)) (OT.NH (by kernel_rfl))
 simp only[Array.toArray_toList] at hc
 refine hc.mono λe W' ⟨he,hb⟩=>?_
 refine ⟨_,he,OT.Iw (C:=Tryz.checked) laidOut rfl hl (by kernel_rfl) Tryz.underlying4 rfl PB hA ?_ hb⟩
 have hlen:ds.length=1:=Ct _ _ _ _ hA
 match ds,hlen with
 | [d1],_=>rfl
theorem a2 {a b:Bool} (h:(a&&b)=true):a=true/\b=true:=by simpa using h
theorem a3 {a b c:Bool} (h:(a&&b&&c)=true):a=true/\b=true/\c=true:=by simpa [and_assoc] using h
theorem a4 {a b c d:Bool} (h:(a&&b&&c&&d)=true):a=true/\b=true/\c=true/\d=true:=by simpa [and_assoc] using h
theorem g1:((Rows.fnBacksRow.inPlace == Tryz.prog.inPlace 4)&&(Rows.fnBacksRow.unfollowed == Tryz.prog.unfollowed 4)&&(Rows.fnBacksRow.recurses == Tryz.prog.recurses 4)&&(Rows.fnBacksRow.named == Tryz.prog.varsNamed 4))=true:=by kernel_rfl
theorem g2:((Rows.fnBacksRow.lifted == Tryz.prog.liftsFinal)&&(Tryz.prog.make == some Rows.fnBacksRow.make))=true:=by kernel_rfl
theorem g3:((Rows.fnBacksRow.plainKeys == Tryz.prog.plainKeys)&&Tryz.prog.stopsHeard&&(Tryz.prog.stopKnobs == []))=true:=by kernel_rfl
set_option maxHeartbeats 8000000 in
theorem closed:joinedFacts Tryz.prog 4 Tryz.f4 Rows.fnBacksSpec Rows.fnBacksRow=true:=by
 unfold joinedFacts
 simp only[Bool.and_eq_true]
 repeat' apply And.intro
 ·as_aux_lemma=>kernel_rfl
 ·exact laidOut
 ·as_aux_lemma=>kernel_rfl
 ·as_aux_lemma=>kernel_rfl
 ·as_aux_lemma=>kernel_rfl
 ·as_aux_lemma=>kernel_rfl
 ·as_aux_lemma=>kernel_rfl
 ·as_aux_lemma=>kernel_rfl
 ·exact (a3 g3).2.2
 ·exact (a4 g1).1
 ·exact (a4 g1).2.1
 ·exact (a4 g1).2.2.1
 ·exact (a4 g1).2.2.2
 ·as_aux_lemma=>kernel_rfl
 ·as_aux_lemma=>kernel_rfl
 ·as_aux_lemma=>kernel_rfl
 ·as_aux_lemma=>kernel_rfl
 ·as_aux_lemma=>kernel_rfl
 ·as_aux_lemma=>kernel_rfl
 ·as_aux_lemma=>kernel_rfl
 ·as_aux_lemma=>kernel_rfl
 ·as_aux_lemma=>kernel_rfl
 ·exact (a3 g3).1
 ·as_aux_lemma=>kernel_rfl
 ·exact (a3 g3).2.1
 ·as_aux_lemma=>kernel_rfl
 ·exact (a2 g2).1
 ·exact (a2 g2).2
 ·as_aux_lemma=>kernel_rfl
 ·as_aux_lemma=>kernel_rfl
 ·as_aux_lemma=>kernel_rfl
 ·as_aux_lemma=>kernel_rfl
theorem lB:Rows.fnBacksRow.holds Tryz.pinned (OpenSpec.ofChange Rows.fnBacksSpec):=
 OpenClaim.holds_of_wide 4 Tryz.f4 rfl rfl rfl rfl rfl rfl rfl ⟨rfl,rfl,rfl,rfl,rfl⟩ rfl rfl rfl rfl rfl (by kernel_rfl) Tryz.func4 closed
  (of_decide_eq_true (by kernel_rfl)) (by unfold Func.isWrapper;first | (rw[if_pos (by decide +kernel)];kernel_rfl) | (rw[if_neg (by decide +kernel)];exact ⟨rfl,rfl⟩))
  (λos started H enc _=>lifted os started H enc)
theorem proved:Rows.FnBacksSaid:=lB
#print axioms proved
end Go.Proofs.YtaebhfnbgkbdhaaGreat.backs
