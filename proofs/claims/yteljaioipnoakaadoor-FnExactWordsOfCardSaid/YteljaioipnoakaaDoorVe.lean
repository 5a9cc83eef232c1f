/- FnExactWordsOf: the row's tied card; no conditions but that the listed variables hold what the program's text lays, which the given tie shows. -/
import Derived.Test.YteljaioipnoakaaDoorVd
import Derived.Test.YteljaioipnoakaaDoorRows
import Derived.Test.YteljaioipnoakaaDoorCards
import Derived.Test.YteljaioipnoakaaDoorTie
import Derived.LaidMore
import Derived.Lay
import Derived.SevenTiedAt
namespace Go.Proofs.YteljaioipnoakaaDoor.wordsOf
open Go Go.ChangeShapes Go.WideShapes Go.ChangeAt Go.RowKit
theorem own:ownKnob Tryd.prog.godebug=none:=by kernel_rfl
theorem laidOut:laidOutB Tryd.prog=true:=by kernel_rfl
theorem htrue:∀ v,OT.okA OT.laws_FnExactWordsOf.ps v->∃ u,OT.laws_FnExactWordsOf.sem v=some (true,u):=fun v hv=>⟨(),OT.wordsOf_true v hv⟩
theorem trod_len {H:Type} {enc:TypeId×Value->H} {P:Program} {w:World} {base:Nat} {sp:Nat->Bool} {held:Bool}:∀ (ts:List TypeId) (vs:List Value) (ds:List (DataW H)) (ps:List MemPlace),DataW.TrodAll enc P w base sp held ts vs ds ps->ds.length=ts.length
 | [],[],[],_,_=>rfl
 | _::ts,_::vs,_::ds,_,⟨_,q,_,h,_⟩=>congrArg (·+1) (trod_len ts vs ds q h)
 | [],_::_,_,_,h=>h.elim
 | [],[],_::_,_,h=>h.elim
 | _::_,[],_,_,h=>h.elim
 | _::_,_::_,[],_,h=>h.elim
theorem wrap {H:Type} {enc:TypeId×Value->H} {a:Assume} {C:Checked} {os:Os} {f:FuncId} {fn:Func} {s:ChangeSpec} {conds:List PathCond} {apart fresh handsOn again:Bool} {X:World->Array Value->Prop}
  (hX:∀ (w w':World) (args:Array Value),w.heap=w'.heap->X w args->X w' args)
  (own:ownKnob C.prog.godebug=none) (started:os.Started) (noInit:C.prog.inits.idxOf? f=none) (hfn:C.prog.funcs[f]?=some fn)
  (witness:∃ (w:World) (tape:Tape) (i:Input),w.os=os/\(w.forCall tape i).Shaped C.prog/\i.vars=[]/\Input.okWide C.prog (w.forCall tape i) .any w.heap.size f i /\
   ((s.pre enc C.prog fn conds apart (w.forCall tape i).memory i.args/\X (w.forCall tape i).memory i.args)/\sizedMet enc C.prog fn (OpenSpec.ofChange s) apart (w.forCall tape i).memory i.args)/\a.holds C.prog (lone (Frame.enter C.prog f i.args .normal) [] (w.forCall tape i)))
  (contract:∀ (W:World) (base:Nat) (args:Array Value) (ds gs:List (DataW H)) (before:List MemPlace),
   (∀ (j:Nat) t v,fn.params[j]?=some t->args[j]?=some v->Value.okWide C.prog W .any base t v) ->
   DataW.Whole enc C.prog fn.params.toList s.vars apart W args.toList ds gs before->X W args->W.ShapedOpen C.prog ->
   Calls C.prog f args W fun e W'=>∃ v,e=.returned v/\s.post enc C.prog fn apart fresh handsOn again W args v W') :
  ReturnsInHanded a C os f .any (fun w args=>(s.pre enc C.prog fn conds apart w args/\X w args)/\sizedMet enc C.prog fn (OpenSpec.ofChange s) apart w args) (s.post enc C.prog fn apart fresh handsOn again):=by
 refine returnsInHanded_of_calls own started noInit witness ?_
 intro w tape i _ hsh _ hok hpre hholds
 obtain ⟨_,_,_,fn',hfn',_,_,_,_,hval⟩:=hok
 have e:fn'=fn:=Option.some.inj (hfn'.symm.trans hfn)
 subst e
 obtain ⟨⟨⟨ds,gs,before,hw,hc⟩,hx⟩,hz⟩:=hpre
 have hw':=DataW.Whole.of_heap (w':=w.forCall tape i) (by rfl) hw
 refine (contract (w.forCall tape i) w.heap.size i.args ds gs before hval hw' (hX _ _ _ (by rfl) hx) hsh).mono fun e W' ⟨v,he,hp⟩=>?_
 subst he
 exact ChangeSpec.post_blind hp
theorem gsize:Tryd.prog.globals.size=3:=by kernel_rfl
theorem glast:(((begin Tryd.prog (fun _ _=>0) default).world.heap[2]?).bind Obj.row?).isSome=true:=by kernel_rfl
theorem low {W:World} (h:W.ShapedOpen Tryd.prog):Tryd.prog.globals.size<=W.heap.size:=by
 obtain ⟨⟨zero,t⟩,hz⟩:=Option.isSome_iff_exists.1 glast
 obtain ⟨cs,h1,_⟩:=h.1 2 zero t (by rw[gsize];decide) hz
 have:=(Array.getElem?_eq_some_iff.1 h1).1
 rw[gsize]
 omega
set_option maxRecDepth 100000 in
theorem lifted (os:Os) (started:os.Started) (H:Type) (enc:TypeId×Value->H) :
  ReturnsInHanded {} Tryd.checked os 3 .any (fun w args=>(Rows.fnExactWordsOfSpec.pre enc Tryd.prog Tryd.f3 Rows.fnExactWordsOfRow.domain false w args/\laidMetH Tryd.prog Rows.fnExactWordsOfRow.laid w)/\sizedMet enc Tryd.prog Tryd.f3 (OpenSpec.ofChange Rows.fnExactWordsOfSpec) false w args) (Rows.fnExactWordsOfSpec.post enc Tryd.prog Tryd.f3 false true false false):=by
 refine wrap (C:=Tryd.checked) (X:=fun w _=>laidMetH Tryd.prog Rows.fnExactWordsOfRow.laid w) (fun _ _ _ hh h=>h.of_heap hh) own started (by kernel_rfl) Tryd.func3
  (ChangeSpec.witness_shaped (enc:=enc) (C:=Tryd.checked) (os:=os) (X:=fun w _=>laidMetH Tryd.prog Rows.fnExactWordsOfRow.laid w) false (World.laidAll Tryd.prog os Rows.fnExactWordsOfRow.laid) #[.string ⟨#[]⟩] 8 (World.laidAll_os _ _ _)
   (World.shaped_of_ZipB (by kernel_rfl) (by kernel_rfl)) (by kernel_rfl) (by kernel_rfl) (by kernel_rfl)
   (by rw[MakeChecks.laidMetH_plain _ _ _ (by kernel_rfl)];exact laidMet_laidAll _ (by kernel_rfl) (by kernel_rfl))) ?_
 intro W base args ds gs before hval0 hW hL hsh
 have hval:∀ (j:Nat) t v,Tryd.f3.params[j]?=some t->args[j]?=some v->Value.okWide Tryd.prog W .any base t v:=hval0
 have hW':=hW
 obtain ⟨p,q,hA0,hV,rfl,hfz,hnd⟩:=hW
 have hA:DataW.TrodAll enc Tryd.prog W 0 (fun _=>true) true Tryd.f3.params.toList args.toList ds p:=hA0
 obtain ⟨rfl,rfl⟩:=trodVars_none hV
 simp only[List.append_nil] at hW'
 have hl:OT.roLay Tryd.prog OT.laws_FnExactWordsOf.ps Tryd.f3.params.toList=true:=by kernel_rfl
 have htab:OT.TabAt Tryd.prog W (fun _ _=>0):=fun _=>⟨⟨W,⟨hsh,fun h=>Bool.noConfusion ((show (Tryd.prog.globalNamed "internal/strconv.uint64pow10").isSome=false by kernel_rfl).symm.trans h)⟩,fun _ _=>rfl⟩,low hsh,fun _ _ _=>rfl⟩
 have hc:=OT.law_calls (enc:=enc) (cap:=false) (ps:=OT.laws_FnExactWordsOf.ps) (Fn:=OT.laws_FnExactWordsOf.sem) OT.laws_FnExactWordsOf.ok.1 htrue hl hA (b0:=base) (fun j t v ht hv=>hval j t v (by simpa using ht) (by simpa using hv)) htab
 simp only[Array.toArray_toList] at hc
 refine hc.mono fun e W' ⟨he,hb⟩=>?_
 refine ⟨_,he,OT.law_post (C:=Tryd.checked) laidOut rfl hl (by kernel_rfl) Tryd.underlying4 rfl hW' hA ?_ hb⟩
 have hlen:ds.length=1:=trod_len _ _ _ _ hA
 match ds,hlen with
 | [d1],_=>rfl
theorem a2 {a b:Bool} (h:(a&&b)=true):a=true/\b=true:=by simpa using h
theorem a3 {a b c:Bool} (h:(a&&b&&c)=true):a=true/\b=true/\c=true:=by simpa [and_assoc] using h
theorem a4 {a b c d:Bool} (h:(a&&b&&c&&d)=true):a=true/\b=true/\c=true/\d=true:=by simpa [and_assoc] using h
theorem g1:((Rows.fnExactWordsOfRow.inPlace == Tryd.prog.inPlace 3)&&(Rows.fnExactWordsOfRow.unfollowed == Tryd.prog.unfollowed 3)&&(Rows.fnExactWordsOfRow.recurses == Tryd.prog.recurses 3)&&(Rows.fnExactWordsOfRow.named == Tryd.prog.varsNamed 3))=true:=by kernel_rfl
theorem g2:((Rows.fnExactWordsOfRow.lifted == Tryd.prog.liftsFinal)&&(Tryd.prog.make == some Rows.fnExactWordsOfRow.make))=true:=by kernel_rfl
theorem g3:((Rows.fnExactWordsOfRow.plainKeys == Tryd.prog.plainKeys)&&Tryd.prog.stopsHeard&&(Tryd.prog.stopKnobs == []))=true:=by kernel_rfl
set_option maxHeartbeats 8000000 in
theorem closed:joinedFacts Tryd.prog 3 Tryd.f3 Rows.fnExactWordsOfSpec Rows.fnExactWordsOfRow=true:=by
 unfold joinedFacts
 simp only[Bool.and_eq_true]
 repeat' apply And.intro
 ·as_aux_lemma=>kernel_rfl
 ·exact laidOut
 ·as_aux_lemma=>kernel_rfl
 ·as_aux_lemma=>kernel_rfl
 ·as_aux_lemma=>kernel_rfl
 ·as_aux_lemma=>kernel_rfl
 ·as_aux_lemma=>kernel_rfl
 ·as_aux_lemma=>kernel_rfl
 ·exact (a3 g3).2.2
 ·exact (a4 g1).1
 ·exact (a4 g1).2.1
 ·exact (a4 g1).2.2.1
 ·exact (a4 g1).2.2.2
 ·as_aux_lemma=>kernel_rfl
 ·as_aux_lemma=>kernel_rfl
 ·as_aux_lemma=>kernel_rfl
 ·as_aux_lemma=>kernel_rfl
 ·as_aux_lemma=>kernel_rfl
 ·as_aux_lemma=>kernel_rfl
 ·as_aux_lemma=>kernel_rfl
 ·as_aux_lemma=>kernel_rfl
 ·as_aux_lemma=>kernel_rfl
 ·exact (a3 g3).1
 ·as_aux_lemma=>kernel_rfl
 ·exact (a3 g3).2.1
 ·as_aux_lemma=>kernel_rfl
 ·exact (a2 g2).1
 ·exact (a2 g2).2
 ·as_aux_lemma=>kernel_rfl
 ·as_aux_lemma=>kernel_rfl
 ·as_aux_lemma=>kernel_rfl
 ·as_aux_lemma=>kernel_rfl
theorem over:Rows.fnExactWordsOfRow.holds Tryd.pinned (OpenSpec.ofChange Rows.fnExactWordsOfSpec):=
 OpenClaim.holds_of_wide 3 Tryd.f3 rfl rfl rfl rfl rfl rfl rfl ⟨rfl,rfl,rfl,rfl,rfl⟩ rfl rfl rfl rfl rfl (by kernel_rfl) Tryd.func3 closed
  (of_decide_eq_true (by kernel_rfl)) (by unfold Func.isWrapper;first | (rw[if_pos (by decide +kernel)];kernel_rfl) | (rw[if_neg (by decide +kernel)];exact ⟨rfl,rfl⟩))
  (fun os started H enc _=>lifted os started H enc)
theorem proved:Rows.FnExactWordsOfCardSaid:=
 Claim7.holds_tied_plain_at .later [] [.data,.pinned] true (true, "4ea1722d20891f6d96ca3bb81fd325ad2fc208ed3419bcf5c09088d069567aa5") false
  over (fun _ h=>by cases h) (by kernel_rfl) (fun _ h=>by cases h) fnExactWordsOf_row_tie rfl ⟨rfl,rfl⟩ (by kernel_rfl) rfl
  (fun f fn hf hfn=>by
   obtain rfl:f=3:=Option.some.inj ((show Tryd.prog.funcNamed "loop.example/g00408/laws.FnExactWordsOf" = some 3 by kernel_rfl).symm.trans hf) |>.symm
   obtain rfl:fn=Tryd.f3:=(Option.some.inj (Tryd.func3.symm.trans hfn)).symm
   exact ⟨by kernel_rfl,fun j t ht=>by
    rw[Tryd.params3] at ht
    have hm:t ∈ [9]:=by simpa using Array.mem_of_getElem? ht
    have hall:([9].all fun u=>!Tryd.prog.wantsStandIn u)=true:=by kernel_rfl
    exact (show Tryd.prog.wantsStandIn t=false by simpa using List.all_eq_true.1 hall t hm)⟩)
  (by kernel_rfl)
#print axioms proved
end Go.Proofs.YteljaioipnoakaaDoor.wordsOf
