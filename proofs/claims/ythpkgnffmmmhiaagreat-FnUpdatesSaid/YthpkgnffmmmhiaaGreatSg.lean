/- FnUpdates: the row; no conditions. -/
import Derived.Test.YthpkgnffmmmhiaaGreatSf
import Derived.Test.YthpkgnffmmmhiaaGreatRows
set_option linter.unusedVariables false
set_option linter.unusedSimpArgs false
set_option linter.unusedSectionVars false
namespace OT
open Go
theorem row_dec (x y:Row):Ty.eq tRow x y=decide (x=y):=by
 cases h:Ty.eq tRow x y with
 | true=>rw[row_eq h];simp
 | false=>
  have:¬ x=y:=fun he=>by
   subst he
   have e:Ty.eq tRow x x=(decide (x.1=x.1)&&(decide (x.2.1=x.2.1)&&(decide (x.2.2.1=x.2.2.1)&&(decide (x.2.2.2.1=x.2.2.2.1)&&true)))):=rfl
   rw[e] at h
   simp at h
  rw[decide_eq_false this]
def sameAt {α:Type} [DecidableEq α] (ys:List α) (i:Nat) (x:α):Bool:=match ys[i]? with | some y=>decide (x=y) | none=>true
theorem sameAt_get {α:Type} [DecidableEq α] {ys:List α} {i:Nat} (h:i < ys.length) (x:α):sameAt ys i x=decide (x=ys[i]):=by unfold sameAt;rw[List.getElem?_eq_getElem h]
theorem forI_same {α:Type} [DecidableEq α] (ys:List α):∀ (l:List α) (j:Nat),j+l.length=ys.length->forI (fun i (_:Unit) x=>if sameAt ys i x then .inr () else .inl (false,())) (fun _=>(true,())) j l ()=(decide (l=ys.drop j),())
 | [],j,h=>by
  have:ys.drop j=[]:=List.drop_eq_nil_of_le (by simpa using Nat.le_of_eq h.symm)
  simp[forI,this]
 | x::l,j,h=>by
  have hj:j < ys.length:=by simp only[List.length_cons] at h;omega
  have hd:ys.drop j=ys[j]::ys.drop (j+1):=(List.drop_eq_getElem_cons hj)
  simp only[forI,sameAt_get hj]
  by_cases hx:x=ys[j]
  ·rw[if_pos (by simpa using hx)]
   have:=forI_same ys l (j+1) (by simp only[List.length_cons] at h;omega)
   refine this.trans ?_
   rw[hd,hx]
   congr 1
   exact decide_eq_decide.2 ⟨fun h=>by rw[h],fun h=>by injection h⟩
  ·rw[if_neg (by simpa using hx),hd]
   have hne:¬ x::l=ys[j]::ys.drop (j+1):=fun h=>hx (by injection h)
   rw[decide_eq_false hne]
theorem lwRows_eq (xs ys:List Row) (h:xs.length<=1000):laws_lwRows.sem (xs,ys,())=some (decide (xs=ys),()):=by
 refine lift_eq (k:=1100) fun k hk=>(laws_lwRows.raw_eq k _).trans ?_
 unfold laws_lwRows.p
 by_cases hl:xs.length=ys.length
 rotate_left
 ·have hl':¬ ((xs.length:Int)=(ys.length:Int)):=by omega
  have hne:¬ xs=ys:=fun he=>hl (by rw[he])
  rw[decide_eq_false hl',Bool.not_false,cond_true,decide_eq_false hne]
 have hl':(xs.length:Int)=(ys.length:Int):=by omega
 rw[decide_eq_true hl',Bool.not_true,cond_false]
 have:=for_loop (B:=fun self v=>laws_lwRows.B0 k self (fun z=>laws_lwRows.Q0 k (xs,ys,()) z) (xs,ys,()) v) xs (fun (_:Unit) (i:Int)=>i) (fun i _ x=>if sameAt ys i x then .inr () else .inl (false,())) (fun _=>(true,())) (fun _ _=>True) (by rw[maxLen_val];omega)
  (fun i hi s self _=>by
   show laws_lwRows.b0 _ _ _ _=_
   unfold laws_lwRows.b0
   have hlt:(i:Int) < (xs.length:Int):=by omega
   rw[decide_eq_true hlt,cond_true,if_pos (Int.natCast_nonneg i)]
   simp only[Int.toNat_natCast,List.getElem?_eq_getElem hi,List.getElem?_eq_getElem (show i < ys.length by omega),Option.bind_some,row_dec]
   rw[if_pos (Int.natCast_nonneg i)]
   rw[sameAt_get (show i < ys.length by omega)]
   by_cases hx:xs[i]=ys[i]'(by omega)
   ·rw[decide_eq_true hx];rfl
   ·rw[decide_eq_false hx];rfl)
  (fun _ _ _ _ _ _=>trivial) (fun s self _=>by
   show laws_lwRows.b0 _ _ _ _=_
   unfold laws_lwRows.b0
   rw[decide_eq_false (Int.lt_irrefl _),cond_false]
   rfl) () trivial k (by omega)
 rw[forI_same ys xs 0 (by omega)] at this
 exact this
theorem lwPages_eq (xs ys:Pgs) (h:xs.length<=1000):laws_lwPages.sem (xs,ys,())=some (decide (xs=ys),()):=by
 have hs:∀ a b:List UInt8,laws_lwSame.sem (a,b,())=some (decide (a=b),()):=fun a b=>lift_eq (k:=0) fun k _=>(laws_lwSame.raw_eq k _).trans rfl
 refine lift_eq (k:=1100) fun k hk=>(laws_lwPages.raw_eq k _).trans ?_
 unfold laws_lwPages.p
 by_cases hl:xs.length=ys.length
 rotate_left
 ·have hl':¬ ((xs.length:Int)=(ys.length:Int)):=by omega
  have hne:¬ xs=ys:=fun he=>hl (by rw[he])
  rw[decide_eq_false hl',Bool.not_false,cond_true,decide_eq_false hne]
 have hl':(xs.length:Int)=(ys.length:Int):=by omega
 rw[decide_eq_true hl',Bool.not_true,cond_false]
 have:=for_loop (B:=fun self v=>laws_lwPages.B0 k self (fun z=>laws_lwPages.Q0 k (xs,ys,()) z) (xs,ys,()) v) xs (fun (_:Unit) (i:Int)=>i) (fun i _ x=>if sameAt ys i x then .inr () else .inl (false,())) (fun _=>(true,())) (fun _ _=>True) (by rw[maxLen_val];omega)
  (fun i hi s self _=>by
   show laws_lwPages.b0 _ _ _ _=_
   unfold laws_lwPages.b0
   have hlt:(i:Int) < (xs.length:Int):=by omega
   rw[decide_eq_true hlt,cond_true,if_pos (Int.natCast_nonneg i)]
   simp only[Int.toNat_natCast,List.getElem?_eq_getElem hi,List.getElem?_eq_getElem (show i < ys.length by omega),Option.bind_some,hs]
   rw[if_pos (Int.natCast_nonneg i)]
   rw[sameAt_get (show i < ys.length by omega)]
   by_cases hx:xs[i]=ys[i]'(by omega)
   ·rw[decide_eq_true hx];rfl
   ·rw[decide_eq_false hx];rfl)
  (fun _ _ _ _ _ _=>trivial) (fun s self _=>by
   show laws_lwPages.b0 _ _ _ _=_
   unfold laws_lwPages.b0
   rw[decide_eq_false (Int.lt_irrefl _),cond_false]
   rfl) () trivial k (by omega)
 rw[forI_same ys xs 0 (by omega)] at this
 exact this
theorem lwBut_eq (xs:List Row) (t k:Int) (h:xs.length<=1000):laws_lwBut.sem (xs,t,k,())=some (xs.filter (fun r=>!decide (rk r=(t,k))),()):=by
 refine lift_eq (k:=1100) fun q hq=>(laws_lwBut.raw_eq q _).trans ?_
 have:=for_loop (B:=fun self v=>laws_lwBut.B0 q self (fun z=>laws_lwBut.Q0 q (xs,t,k,()) z) (xs,t,k,()) v) xs (fun (s:List Row) (i:Int)=>(s,i)) (fun _ s x=>.inr (if !decide (rk x=(t,k)) then s++[x] else s)) (fun s=>(s,())) (fun i s=>s.length<=i) (by rw[maxLen_val];omega)
  (fun i hi s self hs=>by
   show laws_lwBut.b0 _ _ _ _=_
   unfold laws_lwBut.b0
   have hlt:(i:Int) < (xs.length:Int):=by omega
   have hc:s.length+[xs[i]].length<=CAP:=cap_ok (by simp only[List.length_cons,List.length_nil];omega)
   rw[decide_eq_true hlt,cond_true,if_pos (Int.natCast_nonneg i),rk_dec]
   simp only[Int.toNat_natCast,List.getElem?_eq_getElem hi,Option.bind_some,if_pos (Int.natCast_nonneg i),if_pos hc]
   cases decide (xs[i].1=t) <;> cases decide (xs[i].2.1=k) <;> rfl)
  (fun i hi s s' hs hf=>by
   injection hf with hf;subst hf
   split
   ·rw[List.length_append];simp only[List.length_cons,List.length_nil];omega
   ·omega) (fun s self _=>by
   show laws_lwBut.b0 _ _ _ _=_
   unfold laws_lwBut.b0
   rw[decide_eq_false (Int.lt_irrefl _),cond_false]
   rfl) [] (by simp) q (by omega)
 rw[forI_fold (g:=fun (s:List Row) (x:Row)=>if !decide (rk x=(t,k)) then s++[x] else s)] at this
 refine this.trans ?_
 have hm:∀ (l s:List Row),l.foldl (fun s x=>if !decide (rk x=(t,k)) then s++[x] else s) s=s++l.filter (fun r=>!decide (rk r=(t,k))):=by
  intro l
  induction l with
  | nil=>intro s;simp
  | cons x l ih=>
   intro s
   rw[List.foldl_cons,ih,List.filter_cons]
   split <;> simp
 rw[hm,List.nil_append]
end OT
set_option linter.unusedVariables false
set_option linter.unusedSimpArgs false
set_option linter.unusedSectionVars false
namespace OT
open Go
theorem lwWay_true {ps:Pgs} {w:L7Work} {n:Nat} {B1:List Row} (T:Turned2 ps w (rowsV ps) B1) (ok:okW w n) (hn:n<=1000):laws_lwWay.sem (ps,((0:Int),w.2.1,w.1,()),rowsV ps,B1,())=some (true,()):=by
 obtain ⟨m,hm,W⟩:=T.way
 have hel:=ok.el
 have hlen:∀ j,j<=List.length w.2.1->rightP (atE ps (w.2.1.take j))/\(rowsV (atE ps (w.2.1.take j))).length<=1000:=fun j hj=>by
  obtain ⟨v,_⟩:=W j hj
  refine ⟨(view_iff.1 v).1,?_⟩
  have:=viewL_len (view_ok v)
  unfold rowsV
  rw[List.length_map];omega
 refine lift_eq (k:=1100) fun k hk=>(laws_lwWay.raw_eq k _).trans ?_
 have:=range_loop (B:=fun self v=>laws_lwWay.B0 k self (fun z=>laws_lwWay.Q0 k (ps,((0:Int),w.2.1,w.1,()),rowsV ps,B1,()) z) (ps,((0:Int),w.2.1,w.1,()),rowsV ps,B1,()) v) (List.length w.2.1) (fun (s:Pgs×Bool) (i:Int)=>(s.1,s.2,i)) (fun x _=>.inr (atE ps (w.2.1.take (x+1)),decide (rowsV (atE ps (w.2.1.take (x+1)))=B1))) (fun _=>some (true,())) (fun i s=>s=(atE ps (w.2.1.take i),decide (0 < i)&&decide (rowsV (atE ps (w.2.1.take i))=B1))) (by omega)
  (fun i hi s self hs=>by
   subst hs
   show laws_lwWay.b0 _ _ _ _=_
   unfold laws_lwWay.b0
   have hlt:(i:Int) < (List.length w.2.1:Int):=by omega
   have hw:w64 ((i:Int)+1)=((i+1:Nat):Int):=by rw[w64_in (by omega)];omega
   have g:(0:Int)<=(i:Int)/\(i:Int)<=((i+1:Nat):Int)/\((i+1:Nat):Int)<=(List.length w.2.1:Int):=by omega
   have hpiece:(w.2.1.take (i+1)).drop i=[w.2.1[i]]:=by
    rw[List.take_succ_eq_append_getElem hi,List.drop_append_of_le_length (by rw[List.length_take];omega),List.drop_take]
    simp
   obtain ⟨r1,r2⟩:=hlen i (by omega)
   obtain ⟨r3,r4⟩:=hlen (i+1) (by omega)
   have hstep:atE (atE ps (w.2.1.take i)) [w.2.1[i]]=atE ps (w.2.1.take (i+1)):=by
    rw[List.take_succ_eq_append_getElem hi,atE_app];rfl
   have hed:okEds (atE ps (w.2.1.take i)) [w.2.1[i]]:=⟨okEds_at T.ed i hi,trivial⟩
   obtain ⟨v,b⟩:=W (i+1) (by omega)
   have hpl:∀ p ∈ atE ps (w.2.1.take (i+1)),p.length<=maxLen:=fun p hp=>by rw[(r3.2 p hp).len,maxLen_val];omega
   rw[decide_eq_true hlt,cond_true,hw,if_pos g]
   simp only[Int.toNat_natCast,hpiece]
   rw[implApplyE_eq (gp_of r1) (by simp) hed,hstep]
   simp only[Option.bind_some,decide_true,Bool.not_true,cond_false]
   rw[implRowsIn_eq _ hpl,if_pos v]
   simp only[Option.bind_some,decide_true,Bool.not_true,cond_false]
   rw[lwRows_eq _ _ r4,Option.bind_some]
   by_cases hnow:rowsV (atE ps (w.2.1.take (i+1)))=B1
   ·rw[decide_eq_true hnow]
    rfl
   ·have hlt2:i+1 < m:=by
     rcases Nat.lt_or_ge (i+1) m with h | h
     ·exact h
     ·exfalso
      have b':rowsV (atE ps (w.2.1.take (i+1)))=if i+1 < m then rowsV ps else B1:=b
      rw[if_neg (by omega)] at b'
      exact hnow b'
    have hb:rowsV (atE ps (w.2.1.take (i+1)))=rowsV ps:=by
     have b':rowsV (atE ps (w.2.1.take (i+1)))=if i+1 < m then rowsV ps else B1:=b
     rw[if_pos hlt2] at b'
     exact b'
    have hprev:¬ rowsV (atE ps (w.2.1.take i))=B1:=fun he=>by
     have b0:rowsV (atE ps (w.2.1.take i))=if i < m then rowsV ps else B1:=(W i (by omega)).2
     rw[if_pos (by omega)] at b0
     exact hnow (hb.trans (b0.symm.trans he))
    rw[decide_eq_false hnow,decide_eq_false hprev,Bool.and_false]
    simp only[Bool.not_false,cond_true,cond_false]
    rw[lwRows_eq _ _ r4,hb]
    simp only[Option.bind_some,decide_true,Bool.not_true,cond_false])
  (fun i hi s s' hs hf=>by
   injection hf with hf
   subst hf
   rw[decide_eq_true (show 0 < i+1 by omega),Bool.true_and])
  (fun s self hs=>by
   subst hs
   show laws_lwWay.b0 _ _ _ _=_
   unfold laws_lwWay.b0
   show (bif decide ((List.length w.2.1:Int) < (List.length w.2.1:Int)) then _ else _)=_
   rw[decide_eq_false (Int.lt_irrefl _),cond_false]
   show laws_lwWay.q0 _ _=_
   unfold laws_lwWay.q0
   have hat:atE ps (w.2.1.take (List.length w.2.1))=w.1:=by rw[List.take_length,T.at_]
   obtain ⟨r1,r2⟩:=hlen _ (Nat.le_refl (List.length w.2.1))
   have b:rowsV (atE ps (w.2.1.take (List.length w.2.1)))=if List.length w.2.1 < m then rowsV ps else B1:=(W _ (Nat.le_refl _)).2
   rw[if_neg (by omega)] at b
   dsimp only
   rw[lwPages_eq (atE ps (w.2.1.take (List.length w.2.1))) w.1 (by have:=r1.1;omega)]
   simp only[hat,decide_true,Option.bind_some,cond_true]
   rw[hat] at b
   rw[decide_eq_true b,Bool.and_true]
   by_cases h0:0 < List.length w.2.1
   ·rw[decide_eq_true h0];rfl
   ·rw[decide_eq_false h0,cond_false]
    have hz:=W 0 (Nat.zero_le _)
    have b0:rowsV (atE ps (w.2.1.take 0))=if 0 < m then rowsV ps else B1:=hz.2
    rw[if_neg (by omega)] at b0
    have b1:rowsV ps=B1:=b0
    have:=(hlen 0 (Nat.zero_le _)).2
    have hl:(rowsV ps).length<=1000:=this
    rw[lwRows_eq _ _ hl,decide_eq_true b1]
    rfl) (ps,false) rfl k (by omega)
 refine this.trans ?_
 have hf:∀ (l:List Nat) (i:Nat) (s:Pgs×Bool),forI (fun _ (_:Pgs×Bool) x=>.inr (atE ps (w.2.1.take (x+1)),decide (rowsV (atE ps (w.2.1.take (x+1)))=B1))) (fun _=>(some (true,()):Option laws_lwWay.Out)) i l s=some (true,()):=by
  intro l
  induction l with
  | nil=>intro i s;rfl
  | cons x l ih=>intro i s;exact ih (i+1) _
 exact hf _ _ _
end OT
set_option linter.unusedVariables false
set_option linter.unusedSimpArgs false
set_option linter.unusedSectionVars false
namespace OT
open Go
theorem up_filter {xs:List Row} (h:up xs) (p:Row->Bool):up (xs.filter p):=List.Pairwise.filter p h
theorem upd_facts {ps:Pgs} {r:Row} (h0:(updE ps r).1=0):viewC ps=0/\rowF r=0/\∃ w:L7Work,updE ps r=((0:Int),w.2.1,w.1,())/\okW w 40/\Turned2 ps w (rowsV ps) (rowsV w.1)/\viewC w.1=0/\r ∈ rowsV w.1/\(rowsV w.1).filter (fun x=>!decide (rk x=(r.1,r.2.1)))=(rowsV ps).filter (fun x=>!decide (rk x=(r.1,r.2.1))):=by
 unfold updE at h0 ⊢
 by_cases hv:viewC ps=0
 rotate_left
 ·rw[if_neg hv] at h0;exact absurd h0 hv
 rw[if_pos hv] at h0 ⊢
 by_cases hr:rowF r=0
 rotate_left
 ·rw[if_neg hr] at h0;exact absurd h0 hr
 rw[if_pos hr] at h0 ⊢
 refine ⟨hv,hr,?_⟩
 have V:=view_ok hv
 have hfr:=find_rows V r.1 r.2.1
 cases hx:findS ps r.1 r.2.1 with
 | none=>rw[hx] at h0;exact absurd h0 (show ¬ (4:Int)=0 by decide)
 | some x=>
  rw[hx] at h0 hfr
  obtain ⟨_,_,hm,hkx⟩:=hfr
  simp only at h0 ⊢
  have hk:rk (sRow x)=rk r:=hkx
  have fin:∀ w:L7Work,updX ps x r=((0:Int),w.2.1,w.1,())->okW w 40->Turned2 ps w (rowsV ps) (rowsV w.1)->viewC w.1=0->(∀ r',r' ∈ rowsV w.1↔(r' ∈ rowsV ps/\rk r'≠rk r)\/r'=r)->∃ w:L7Work,updX ps x r=((0:Int),w.2.1,w.1,())/\okW w 40/\Turned2 ps w (rowsV ps) (rowsV w.1)/\viewC w.1=0/\r ∈ rowsV w.1/\(rowsV w.1).filter (fun x=>!decide (rk x=(r.1,r.2.1)))=(rowsV ps).filter (fun x=>!decide (rk x=(r.1,r.2.1))):=fun w e ok T v1 v2=>by
   refine ⟨w,e,ok,T,v1,(v2 r).2 (.inr rfl),up_same (up_filter (rowsV_up (view_ok v1)) _) (up_filter (rowsV_up V) _) fun r'=>?_⟩
   rw[List.mem_filter,List.mem_filter,v2]
   constructor
   ·rintro ⟨h | h,hn⟩
    ·exact ⟨h.1,hn⟩
    ·rw[h] at hn
     simp[rk] at hn
   ·rintro ⟨h,hn⟩
    refine ⟨.inl ⟨h,?_⟩,hn⟩
    simp only[Bool.not_eq_true',decide_eq_false_iff_not] at hn
    exact hn
  obtain ⟨P,s,c1,c2,x1,x2,x3,x4,x5,x6⟩:=seen_at hv hm
  have S:=(view_iff.1 hv).2
  have ho:=start_ok V.right
  unfold updX at h0 fin ⊢
  by_cases he:Ty.eq tRow (sRow x) r=true
  ·rw[if_pos he] at h0 fin ⊢
   have her:sRow x=r:=row_eq he
   have hin:r ∈ rowsV ps:=by
    rw[rowsV_eq V,(sortR_perm _).mem_iff]
    exact List.mem_map.2 ⟨x,hm,her⟩
   have N:=notyet_start hv
   refine fin (startW ps) rfl (ho.mono (by omega)) ⟨N.at_,N.ed,0,Nat.zero_le _,fun j hj=>?_⟩ hv fun r'=>?_
   ·have:=N.way j hj
    exact ⟨this.1,this.2⟩
   ·constructor
    ·intro h
     by_cases hk2:rk r'=rk r
     ·exact .inr (nodup_inj (up_nodup (rowsV_up V)) h hin hk2)
     ·exact .inl ⟨h,hk2⟩
    ·rintro (h | rfl)
     ·exact h.1
     ·exact hin
  ·rw[if_neg he] at h0 fin ⊢
   by_cases hf:flagC (cAt ps P s)=1
   ·obtain ⟨a1,a2⟩:=S.stub P s c1 hf
    have hmm:if (true:Bool) then flagC (cAt ps P s)=1/\tpC (cAt ps P s)=tpC (cAt ps P s)/\tsC (cAt ps P s)=tsC (cAt ps P s) else flagC (cAt ps P s)≠1/\tpC (cAt ps P s)=P/\tsC (cAt ps P s)=s:=⟨hf,rfl,rfl⟩
    rw[x3,if_pos hf,if_pos hf,x1,x2,x4,x5,decide_eq_true hf,Int.toNat_natCast,Int.toNat_natCast,Int.toNat_natCast,Int.toNat_natCast] at h0 fin ⊢
    have hok:=updW_ok ho (by omega) c1 a1 true hr
    obtain ⟨hy,e⟩:=doneE_zero h0
    obtain ⟨v1,v2⟩:=upd_view hv c1 c2 hr (by rw[<-x6];exact hk) true hmm hok.pages hy
    exact fin _ e (hok.mono (by omega)) (upd_way hv c1 c2 hr (by rw[<-x6];exact hk) true hmm hok.pages hy) v1 v2
   ·have hmm:if (false:Bool) then flagC (cAt ps P s)=1/\P=tpC (cAt ps P s)/\s=tsC (cAt ps P s) else flagC (cAt ps P s)≠1/\P=P/\s=s:=⟨hf,rfl,rfl⟩
    rw[x3,if_neg hf,if_neg hf,x1,x2,decide_eq_false hf,Int.toNat_natCast,Int.toNat_natCast] at h0 fin ⊢
    have hok:=updW_ok ho (by omega) c1 c1 false hr
    obtain ⟨hy,e⟩:=doneE_zero h0
    obtain ⟨v1,v2⟩:=upd_view hv c1 c2 hr (by rw[<-x6];exact hk) false hmm hok.pages hy
    exact fin _ e (hok.mono (by omega)) (upd_way hv c1 c2 hr (by rw[<-x6];exact hk) false hmm hok.pages hy) v1 v2
end OT
set_option linter.unusedVariables false
set_option linter.unusedSimpArgs false
set_option linter.unusedSectionVars false
namespace OT
open Go
def srcOk (s:L1Src) (b:Int):Prop:=List.length s.1<=1048576/\0<=s.2.1/\s.2.1<=b
theorem srcOk.mono {s:L1Src} {a b:Int} (h:srcOk s a) (hb:a<=b):srcOk s b:=⟨h.1,h.2.1,Int.le_trans h.2.2 hb⟩
theorem tmod_in {v n:Int} (hv:0<=v) (hn:1<=n):0<=v.tmod n/\v.tmod n < n:=by
 rw[Int.tmod_eq_emod_of_nonneg hv]
 exact ⟨Int.emod_nonneg _ (by omega),Int.emod_lt_of_pos _ (by omega)⟩
theorem next_ok {s:L1Src} {b n:Int} (h:srcOk s b) (hb:b<=1000000) (hn:1<=n) (hn2:n<=1000000):∃ v t,spec_l1Next.sem (s,n,())=some (v,t,())/\0<=v/\v < n/\srcOk t (b+1):=by
 obtain ⟨c,a,⟨⟩⟩:=s
 obtain ⟨hc,ha,hab⟩:=h
 replace hc:c.length<=1048576:=hc
 replace ha:0<=a:=ha
 replace hab:a<=b:=hab
 have h1:w64 (a+1)=a+1:=w64_in (by omega)
 have h2:w64 (a+1 - 1)=a:=by rw[w64_in (by omega)];omega
 suffices hs:∃ v,(0<=v/\v < n)/\spec_l1Next.p ((c,a,()),n,())=some (v,(c,a+1,()),()) by
  obtain ⟨v,hv,hp⟩:=hs
  exact ⟨v,(c,a+1,()),lift_eq (k:=0) fun k _=>(spec_l1Next.raw_eq k _).trans hp,hv.1,hv.2,hc,by show 0<=a+1;omega,by show a+1<=b+1;omega⟩
 unfold spec_l1Next.p
 have n1:¬ n < 1:=by omega
 have n0:¬ n=0:=by omega
 simp only[n1,n0,h1,h2,decide_false,cond_false,if_false]
 by_cases hl:c.length=0
 ·have e:(c.length:Int)=0:=by omega
  simp only[e,decide_true,cond_true]
  exact ⟨_,tmod_in (by rw[w64_in (by omega)];omega) hn,rfl⟩
 have e:¬ (c.length:Int)=0:=by omega
 have q0:=tmod_in (v:=a) (n:=(c.length:Int)) ha (by omega)
 have q1:=tmod_in (v:=a+1) (n:=(c.length:Int)) (by omega) (by omega)
 have i0:(a.tmod (c.length:Int)).toNat < c.length:=by omega
 have i1:((a+1).tmod (c.length:Int)).toNat < c.length:=by omega
 simp only[e,decide_false,cond_false,if_false,q0.1,q1.1,if_true,List.getElem?_eq_getElem i0,List.getElem?_eq_getElem i1,Option.bind_some]
 have hd:0<=a.tdiv (c.length:Int)/\a.tdiv (c.length:Int)<=a:=by
  rw[Int.tdiv_eq_ediv_of_nonneg ha]
  exact ⟨Int.ediv_nonneg ha (by omega),Int.ediv_le_self _ ha⟩
 have b0:(c[(a.tmod (c.length:Int)).toNat]).toNat < 256:=UInt8.toNat_lt _
 have b1:(c[((a+1).tmod (c.length:Int)).toNat]).toNat < 256:=UInt8.toNat_lt _
 generalize (c[(a.tmod (c.length:Int)).toNat]).toNat=x at b0 ⊢
 generalize (c[((a+1).tmod (c.length:Int)).toNat]).toNat=y at b1 ⊢
 generalize a.tdiv (c.length:Int)=d at hd ⊢
 have w1:w64 (x:Int)=(x:Int):=w64_in (by omega)
 have w0:w64 d=d:=w64_in (by omega)
 have w2:w64 (d*37)=d*37:=w64_in (by omega)
 have w3:w64 ((x:Int)+d*37)=(x:Int)+d*37:=w64_in (by omega)
 by_cases h200:200 < n
 ·simp only[h200,decide_true,cond_true,w0,w1,w2,w3]
  have w4:w64 (((x:Int)+d*37)*251)=((x:Int)+d*37)*251:=w64_in (by omega)
  have w5:w64 (y:Int)=(y:Int):=w64_in (by omega)
  have w6:w64 ((y:Int)*13)=(y:Int)*13:=w64_in (by omega)
  have w7:w64 (((x:Int)+d*37)*251+(y:Int)*13)=((x:Int)+d*37)*251+(y:Int)*13:=w64_in (by omega)
  have w8:w64 (((x:Int)+d*37)*251+(y:Int)*13+a)=((x:Int)+d*37)*251+(y:Int)*13+a:=w64_in (by omega)
  simp only[w4,w5,w6,w7,w8]
  exact ⟨_,tmod_in (by omega) hn,rfl⟩
 ·simp only[h200,decide_false,cond_false,w0,w1,w2,w3]
  exact ⟨_,tmod_in (by omega) hn,rfl⟩
theorem chance_ok {s:L1Src} {b n:Int} (h:srcOk s b) (hb:b<=1000000) (hn:1<=n) (hn2:n<=1000000):∃ v t,spec_l1Chance.sem (s,n,())=some (v,t,())/\srcOk t (b+1):=by
 obtain ⟨v,t,h1,_,_,h2⟩:=next_ok h hb hn hn2
 refine ⟨decide (v=0),t,lift_eq (k:=0) fun k _=>(spec_l1Chance.raw_eq k _).trans ?_,h2⟩
 unfold spec_l1Chance.p
 rw[h1]
 rfl
theorem pick_ok {s:L1Src} {b:Int} (h:srcOk s b) (hb:b<=1000000) (l:List Int) (hn:1<=l.length) (hn2:l.length<=1000000):∃ v t,spec_l1Pick.sem (s,l,())=some (v,t,())/\v ∈ l/\srcOk t (b+1):=by
 obtain ⟨v,t,h1,h2,h3,h4⟩:=next_ok (n:=(l.length:Int)) h hb (by omega) (by omega)
 have hi:v.toNat < l.length:=by omega
 refine ⟨l[v.toNat],t,lift_eq (k:=0) fun k _=>(spec_l1Pick.raw_eq k _).trans ?_,List.getElem_mem hi,h4⟩
 unfold spec_l1Pick.p
 rw[h1]
 simp only[Option.bind_some,h2,if_true,List.getElem?_eq_getElem hi]
theorem in_list {α:Type} (l:List α) {v:Int} (h:0<=v/\v < (l.length:Int)):∃ x,l[v.toNat]?=some x/\x ∈ l:=by
 have hi:v.toNat < l.length:=by omega
 exact ⟨l[v.toNat],List.getElem?_eq_getElem hi,List.getElem_mem hi⟩
theorem down_w {m:Nat} (h:m<=1000):w64 (((m+1:Nat):Int) - 1)=(m:Int):=by rw[w64_in (by omega)];omega
theorem down_exG {X O V:Type} (M:Int) {B:(V->Option O)->V->Option O} (enc:L1Src->X->Int->V) (I:Int->X->Prop) (d:Int) (hd:0<=d) (G:L1Src->X->Option O)
  (hin:∀ (n:Nat) (s:L1Src) (x:X) (b:Int),n<=1000->srcOk s b->b<=M->I b x->∃ s' x',srcOk s' (b+d)/\I (b+d) x'/\∀ self,B self (enc s x ((n+1:Nat):Int))=self (enc s' x' (n:Int)))
  (hout:∀ (s:L1Src) (x:X) (b:Int),srcOk s b->I b x->∀ self,B self (enc s x 0)=G s x) :
  ∀ (n:Nat) (s:L1Src) (x:X) (b:Int),n<=1000->srcOk s b->I b x->b+d*n<=M->∃ s' x',srcOk s' (b+d*n)/\I (b+d*n) x'/\∀ k,n < k->rawIter B k (enc s x (n:Int))=G s' x'
 | 0,s,x,b,_,hs,hI,_=>⟨s,x,by simpa using hs,by simpa using hI,fun k hk=>by
   obtain ⟨j,rfl⟩:∃ j,k=j+1:=⟨k - 1,by omega⟩
   rw[rawIter_succ]
   exact hout s x b hs hI _⟩
 | n+1,s,x,b,hn,hs,hI,hb=>by
  have hm:d*((n+1:Nat):Int)=d+d*(n:Int):=by rw[Int.natCast_succ,Int.mul_add,Int.mul_one,Int.add_comm]
  have hp:0<=d*(n:Int):=Int.mul_nonneg hd (by omega)
  obtain ⟨s1,x1,a1,a2,a3⟩:=hin n s x b (by omega) hs (by omega) hI
  obtain ⟨s2,x2,c1,c2,c3⟩:=down_exG M enc I d hd G hin hout n s1 x1 (b+d) (by omega) a1 a2 (by omega)
  have e:b+d*((n+1:Nat):Int)=b+d+d*(n:Int):=by omega
  refine ⟨s2,x2,e ▸ c1,e ▸ c2,fun k hk=>?_⟩
  obtain ⟨j,rfl⟩:∃ j,k=j+1:=⟨k - 1,by omega⟩
  rw[rawIter_succ,a3]
  exact c3 j (by omega)
theorem down_ex {X O V:Type} (M:Int) {B:(V->Option O)->V->Option O} (enc:L1Src->X->Int->V) (I:Int->X->Prop) (d:Int) (hd:0<=d) (fin:L1Src->X->O)
  (hin:∀ (n:Nat) (s:L1Src) (x:X) (b:Int),n<=1000->srcOk s b->b<=M->I b x->∃ s' x',srcOk s' (b+d)/\I (b+d) x'/\∀ self,B self (enc s x ((n+1:Nat):Int))=self (enc s' x' (n:Int)))
  (hout:∀ (s:L1Src) (x:X) (b:Int),srcOk s b->I b x->∀ self,B self (enc s x 0)=some (fin s x)) (n:Nat) (s:L1Src) (x:X) (b:Int) (hn:n<=1000) (hs:srcOk s b) (hI:I b x) (hb:b+d*n<=M) :
  ∃ s' x',srcOk s' (b+d*n)/\I (b+d*n) x'/\∀ k,n < k->rawIter B k (enc s x (n:Int))=some (fin s' x'):=
 down_exG M enc I d hd (fun s x=>some (fin s x)) hin hout n s x b hn hs hI hb
theorem some_ok {s:L1Src} {b:Int} (h:srcOk s b) (hb:b<=799000) (n:Nat) (hn:n<=100):∃ l t,spec_l1Some.sem (s,(n:Int),())=some (l,t,())/\l.length=n/\srcOk t (b+n):=by
 have:=down_ex 800000 (B:=fun w v=>spec_l1Some.b0 w (spec_l1Some.q0 (s,(n:Int),())) (s,(n:Int),()) v) (fun s (l:List UInt8) i=>(s,i,l)) (fun c l=>0<=b/\(l.length:Int)=c - b) 1 (by omega) (fun s l=>(l,s,()))
  (fun m s x c hm hs hc hI=>by
   obtain ⟨v,t,e1,a1,c1,s1⟩:=next_ok (n:=256) hs (by omega) (by omega) (by omega)
   refine ⟨t,x++[UInt8.ofInt v],s1,⟨hI.1,by have:=hI.2;rw[List.length_append];simp only[List.length_cons,List.length_nil];omega⟩,fun self=>?_⟩
   unfold spec_l1Some.b0
   have hlt:(0:Int) < ((m+1:Nat):Int):=by omega
   have hw:w64 (((m+1:Nat):Int) - 1)=(m:Int):=down_w hm
   simp only[hlt,decide_true,cond_true,e1,Option.bind_some,hw]
   rw[if_pos (cap_ok (by have:=hI.1;have:=hI.2;simp only[List.length_cons,List.length_nil];omega))])
  (fun s x c _ _ self=>by
   unfold spec_l1Some.b0
   rw[decide_eq_false (Int.lt_irrefl _),cond_false]
   rfl) n s [] b (by omega) h ⟨by have:=h.2;omega,by simp⟩ (by omega)
 obtain ⟨t,l,a1,a2,a3⟩:=this
 have a2:=a2.2
 refine ⟨l,t,lift_eq (k:=n+1) fun k hk=>(spec_l1Some.raw_eq k _).trans ?_,by omega,a1.mono (by omega)⟩
 exact a3 k (by omega)
theorem up_ex {X O V:Type} {B:(V->Option O)->V->Option O} (enc:L1Src->X->Int->V) (I:X->Prop) (d:Int) (hd:0<=d) (fin:L1Src->X->O) (N:Nat) (hN:N<=1000)
  (hin:∀ (i:Nat) (s:L1Src) (x:X) (b:Int),i < N->srcOk s b->b<=700000->I x->∃ s' x',srcOk s' (b+d)/\I x'/\∀ self,B self (enc s x (i:Int))=self (enc s' x' ((i+1:Nat):Int)))
  (hout:∀ (s:L1Src) (x:X) (b:Int),srcOk s b->I x->∀ self,B self (enc s x (N:Int))=some (fin s x)) :
  ∀ (m i:Nat) (s:L1Src) (x:X) (b:Int),i+m=N->srcOk s b->I x->b+d*m<=700000->∃ s' x',srcOk s' (b+d*m)/\I x'/\∀ k,m < k->rawIter B k (enc s x (i:Int))=some (fin s' x')
 | 0,i,s,x,b,hi,hs,hI,_=>⟨s,x,by simpa using hs,hI,fun k hk=>by
   obtain ⟨j,rfl⟩:∃ j,k=j+1:=⟨k - 1,by omega⟩
   rw[rawIter_succ,show i=N by omega]
   exact hout s x b hs hI _⟩
 | m+1,i,s,x,b,hi,hs,hI,hb=>by
  have hm:d*((m+1:Nat):Int)=d+d*(m:Int):=by rw[Int.natCast_succ,Int.mul_add,Int.mul_one,Int.add_comm]
  have hp:0<=d*(m:Int):=Int.mul_nonneg hd (by omega)
  obtain ⟨s1,x1,a1,a2,a3⟩:=hin i s x b (by omega) hs (by omega) hI
  obtain ⟨s2,x2,c1,c2,c3⟩:=up_ex enc I d hd fin N hN hin hout m (i+1) s1 x1 (b+d) (by omega) a1 a2 (by omega)
  have e:b+d*((m+1:Nat):Int)=b+d+d*(m:Int):=by omega
  refine ⟨s2,x2,e ▸ c1,c2,fun k hk=>?_⟩
  obtain ⟨j,rfl⟩:∃ j,k=j+1:=⟨k - 1,by omega⟩
  rw[rawIter_succ,a3]
  exact c3 j (by omega)
theorem up_w {m:Nat} (h:m<=1000):w64 ((m:Int)+1)=((m+1:Nat):Int):=by rw[w64_in (by omega)];omega
end OT
set_option linter.unusedVariables false
set_option linter.unusedSimpArgs false
set_option linter.unusedSectionVars false
namespace OT
open Go
def newB (b:UInt8):List UInt8:=((List.replicate 64 b).set 0 0).set 1 64
theorem newB_eq (v:Int) (h:v=0\/v=7):∃ p,spec_l2New.sem (UInt8.ofInt v,())=some (p,())/\PageOk p:=by
 rcases h with rfl | rfl
 ·refine ⟨newF,?_,newPg_ok.1⟩
  exact specNew_eq
 ·refine ⟨newB 7,lift_eq (k:=66) fun k hk=>?_,pageF_iff.1 (by decide +kernel)⟩
  obtain ⟨j,rfl⟩:∃ j,k=j+66:=⟨k - 66,by omega⟩
  exact (spec_l2New.raw_eq _ _).trans (by kernel_rfl)
theorem drawRight_ok {s:L1Src} {b:Int} (h:srcOk s b) (hb:b<=400000):∃ p t,spec_l2Right.sem (s,())=some (p,t,())/\PageOk p/\srcOk t (b+500):=by
 obtain ⟨v0,t0,e0,m0,s0⟩:=pick_ok h (by omega) [(0:Int),(0:Int),(7:Int)] (by simp) (by simp)
 obtain ⟨p0,e1,hp0⟩:=newB_eq v0 (by simp only[List.mem_cons,List.not_mem_nil,or_false] at m0;omega)
 obtain ⟨v,t1,e2,a2,c2,s1⟩:=next_ok (n:=14) s0 (by omega) (by omega) (by omega)
 have:=down_ex 700000 (B:=fun w v=>spec_l2Right.b0 w (spec_l2Right.q0 (s,())) (s,()) v) (fun s (l:List UInt8) i=>(s,l,i)) (fun _ l=>PageOk l) 20 (by omega) (fun s l=>(l,s,()))
  (fun m s x c hm hs hc hI=>by
   have hlt:(0:Int) < ((m+1:Nat):Int):=by omega
   obtain ⟨v1,t1,e1,a1,c1,s1⟩:=next_ok (n:=14) hs (by omega) (by omega) (by omega)
   have hw:w64 (1+v1)=((v1.toNat+1:Nat):Int):=by rw[w64_in (by omega)];omega
   obtain ⟨l,t2,e2,hl,s2⟩:=some_ok s1 (by omega) (v1.toNat+1) (by omega)
   obtain ⟨v3,t3,e3,a3,c3,s3⟩:=next_ok (n:=5) s2 (by omega) (by omega) (by omega)
   by_cases h0:v3=0
   ·obtain ⟨v4,t4,e4,a4,c4,s4⟩:=next_ok (n:=6) s3 (by omega) (by omega) (by omega)
    have e5:=specHas_eq hI v4.toNat
    rw[show ((v4.toNat:Nat):Int)=v4 by omega] at e5
    by_cases hh:v4.toNat < pn x/\psz x v4.toNat≠0
    ·have e6:=specDrop_eq hI hh.1
     rw[show ((v4.toNat:Nat):Int)=v4 by omega] at e6
     refine ⟨t4,dropQ x v4.toNat,s4.mono (by omega),(dropQ_ok hI hh.1).1,fun self=>?_⟩
     unfold spec_l2Right.b0
     simp only[hlt,decide_true,cond_true,e1,e2,e3,e4,e5,e6,Option.bind_some,down_w hm,hw,h0,hh.1,hh.2,decide_false,Bool.not_false,Bool.and_self]
    ·refine ⟨t4,x,s4.mono (by omega),hI,fun self=>?_⟩
     have e7:(decide (v4.toNat < pn x)&&!decide (psz x v4.toNat=0))=false:=by
      by_cases q1:v4.toNat < pn x
      ·have q2:psz x v4.toNat=0:=Decidable.byContradiction fun q=>hh ⟨q1,q⟩
       simp[q2]
      ·simp[q1]
     unfold spec_l2Right.b0
     simp only[hlt,decide_true,cond_true,e1,e2,e3,e4,e5,e7,Option.bind_some,down_w hm,hw,h0,cond_false]
   by_cases h1:v3=1
   ·obtain ⟨v4,t4,e4,a4,c4,s4⟩:=next_ok (n:=6) s3 (by omega) (by omega) (by omega)
    have e5:=specHas_eq hI v4.toNat
    rw[show ((v4.toNat:Nat):Int)=v4 by omega] at e5
    have n10:¬ (1:Int)=0:=by omega
    by_cases hh:v4.toNat < pn x/\psz x v4.toNat≠0
    ·have e6:=specSet_eq hI l (by omega) (by omega) hh.1 hh.2
     rw[show ((v4.toNat:Nat):Int)=v4 by omega] at e6
     by_cases hz:setF x v4.toNat l=0
     ·refine ⟨t4,setQ x v4.toNat l,s4.mono (by omega),(setQ_ok hI hh.1 hh.2 (by omega) hz).1,fun self=>?_⟩
      unfold spec_l2Right.b0
      simp only[hlt,decide_true,cond_true,e1,e2,e3,e4,e5,e6,Option.bind_some,down_w hm,hw,h1,n10,hh.1,hh.2,decide_false,Bool.not_false,Bool.and_self,cond_false,hz,if_true]
     ·refine ⟨t4,x,s4.mono (by omega),hI,fun self=>?_⟩
      unfold spec_l2Right.b0
      simp only[hlt,decide_true,cond_true,e1,e2,e3,e4,e5,e6,Option.bind_some,down_w hm,hw,h1,n10,hh.1,hh.2,decide_false,Bool.not_false,Bool.and_self,cond_false,hz,if_false]
    ·refine ⟨t4,x,s4.mono (by omega),hI,fun self=>?_⟩
     have e7:(decide (v4.toNat < pn x)&&!decide (psz x v4.toNat=0))=false:=by
      by_cases q1:v4.toNat < pn x
      ·have q2:psz x v4.toNat=0:=Decidable.byContradiction fun q=>hh ⟨q1,q⟩
       simp[q2]
      ·simp[q1]
     unfold spec_l2Right.b0
     simp only[hlt,decide_true,cond_true,e1,e2,e3,e4,e5,e7,Option.bind_some,down_w hm,hw,h1,n10,decide_false,cond_false]
   by_cases h2:v3=2
   ·obtain ⟨v4,t4,e4,s4⟩:=chance_ok (n:=3) s3 (by omega) (by omega) (by omega)
    have n20:¬ (2:Int)=0:=by omega
    have n21:¬ (2:Int)=1:=by omega
    cases v4 with
    | true=>
     refine ⟨t4,compQ x,s4.mono (by omega),(compQ_ok hI).1,fun self=>?_⟩
     unfold spec_l2Right.b0
     simp only[hlt,decide_true,cond_true,e1,e2,e3,e4,specComp_eq hI,Option.bind_some,down_w hm,hw,h2,n20,n21,decide_false,cond_false]
    | false=>
     refine ⟨t4,x,s4.mono (by omega),hI,fun self=>?_⟩
     unfold spec_l2Right.b0
     simp only[hlt,decide_true,cond_true,e1,e2,e3,e4,Option.bind_some,down_w hm,hw,h2,n20,n21,decide_false,cond_false]
   have e6:=gPut_eq hI l (by omega) (by omega)
   by_cases hz:putF x l=0
   ·refine ⟨t3,putQ x l,s3.mono (by omega),(putQ_ok hI (by omega) hz).1,fun self=>?_⟩
    unfold spec_l2Right.b0
    simp only[hlt,decide_true,cond_true,e1,e2,e3,e6,Option.bind_some,down_w hm,hw,h0,h1,h2,decide_false,cond_false,hz,if_true]
   ·refine ⟨t3,x,s3.mono (by omega),hI,fun self=>?_⟩
    unfold spec_l2Right.b0
    simp only[hlt,decide_true,cond_true,e1,e2,e3,e6,Option.bind_some,down_w hm,hw,h0,h1,h2,decide_false,cond_false,hz,if_false])
  (fun s x c _ _ self=>by
   unfold spec_l2Right.b0
   rw[decide_eq_false (Int.lt_irrefl _),cond_false]
   rfl) v.toNat t1 p0 (b+2) (by omega) (s1.mono (by omega)) hp0 (by omega)
 obtain ⟨t,l,a1',a2',a3'⟩:=this
 have hv:((v.toNat:Nat):Int)=v:=by omega
 rw[hv] at a3' a1'
 refine ⟨l,t,lift_eq (k:=16) fun k hk=>(spec_l2Right.raw_eq k _).trans ?_,a2',a1'.mono (by omega)⟩
 unfold spec_l2Right.p
 rw[e0]
 simp only[Option.bind_some,e1,e2]
 exact a3' k (by omega)
end OT
set_option linter.unusedVariables false
set_option linter.unusedSimpArgs false
set_option linter.unusedSectionVars false
namespace OT
open Go
theorem drawRow_ok {s:L1Src} {b:Int} (h:srcOk s b) (hb:b<=900000):∃ r t,spec_l1Draw.sem (s,())=some (r,t,())/\rowF r=0/\srcOk t (b+5):=by
 obtain ⟨v1,t1,e1,a1,c1,s1⟩:=next_ok (n:=3) h (by omega) (by omega) (by omega)
 obtain ⟨v2,t2,e2,a2,c2,s2⟩:=next_ok (n:=6) s1 (by omega) (by omega) (by omega)
 obtain ⟨v3,t3,e3,a3,c3,s3⟩:=next_ok (n:=9) s2 (by omega) (by omega) (by omega)
 obtain ⟨v4,t4,e4,m4,s4⟩:=pick_ok s3 (by omega) [v3,(300:Int),(999:Int)] (by simp) (by simp)
 obtain ⟨v5,t5,e5,a5,c5,s5⟩:=next_ok (n:=4) s4 (by omega) (by omega) (by omega)
 obtain ⟨x,hx,mx⟩:=in_list [([]:List UInt8),([97]:List UInt8),([97,98,99]:List UInt8),([97,98,99,100,101,102,103,104]:List UInt8)] (v:=v5) ⟨a5,by simpa using c5⟩
 have w1:w64 (1+v2)=1+v2:=w64_in (by omega)
 refine ⟨(v1,1+v2,v4,x,()),t5,lift_eq (k:=0) fun k _=>(spec_l1Draw.raw_eq k _).trans ?_,?_,s5.mono (by omega)⟩
 ·unfold spec_l1Draw.p
  rw[e1]
  simp only[Option.bind_some,e2,e3,e4,e5,w1,hx]
  rw[if_pos ⟨a5,by simpa using c5⟩]
 ·have hv4:0<=v4/\v4<=999:=by
   simp only[List.mem_cons,List.not_mem_nil,or_false] at m4
   omega
  have hx2:textB x=true:=by
   simp only[List.mem_cons,List.not_mem_nil,or_false] at mx
   rcases mx with rfl | rfl | rfl | rfl <;> decide
  unfold rowF inB
  have i1:v1<=3:=by omega
  have i2:(1:Int)<=1+v2:=by omega
  have i3:1+v2<=99:=by omega
  simp only[a1,i1,i2,i3,hv4.1,hv4.2,hx2,decide_true,Bool.and_self,if_true]
theorem row_small {r:Row} (h:rowF r=0):List.length r.2.2.2.1<=8:=textB_len (rowF_ok h).2.2.2
theorem bentRow_ok {s:L1Src} {b:Int} (h:srcOk s b) (hb:b<=800000):∃ r t,spec_l1Bent.sem (s,())=some (r,t,())/\List.length r.2.2.2.1<=9/\srcOk t (b+7):=by
 obtain ⟨r,t1,e1,hr,s1⟩:=drawRow_ok h (by omega)
 have hs:=row_small hr
 obtain ⟨v,t2,e2,a2,c2,s2⟩:=next_ok (n:=12) s1 (by omega) (by omega) (by omega)
 suffices hp:∃ r' t',spec_l1Bent.p (s,())=some (r',t',())/\List.length r'.2.2.2.1<=9/\srcOk t' (b+7) by
  obtain ⟨r',t',p1,p2,p3⟩:=hp
  exact ⟨r',t',lift_eq (k:=0) fun k _=>(spec_l1Bent.raw_eq k _).trans p1,p2,p3⟩
 unfold spec_l1Bent.p
 rw[e1]
 simp only[Option.bind_some,e2]
 by_cases h0:v=0
 ·obtain ⟨u,t3,e3,_,s3⟩:=pick_ok s2 (by omega) [(-1:Int),(3:Int),(4:Int)] (by simp) (by simp)
  simp only[h0,decide_true,cond_true,e3,Option.bind_some]
  exact ⟨_,_,rfl,by show List.length r.2.2.2.1<=9;omega,s3.mono (by omega)⟩
 by_cases h1:v=1
 ·obtain ⟨u,t3,e3,_,s3⟩:=pick_ok s2 (by omega) [(0:Int),(99:Int),(100:Int)] (by simp) (by simp)
  simp only[h1,show ¬ (1:Int)=0 by omega,decide_true,decide_false,cond_true,cond_false,e3,Option.bind_some]
  exact ⟨_,_,rfl,by show List.length r.2.2.2.1<=9;omega,s3.mono (by omega)⟩
 by_cases h2:v=2
 ·obtain ⟨u,t3,e3,_,s3⟩:=pick_ok s2 (by omega) [(-1:Int),(1000:Int)] (by simp) (by simp)
  simp only[h2,show ¬ (2:Int)=0 by omega,show ¬ (2:Int)=1 by omega,decide_true,decide_false,cond_true,cond_false,e3,Option.bind_some]
  exact ⟨_,_,rfl,by show List.length r.2.2.2.1<=9;omega,s3.mono (by omega)⟩
 by_cases h3:v=3
 ·obtain ⟨u,t3,e3,a3,c3,s3⟩:=next_ok (n:=3) s2 (by omega) (by omega) (by omega)
  obtain ⟨x,hx,mx⟩:=in_list [([65]:List UInt8),([97,98,99,100,101,102,103,104,105]:List UInt8),([97,32,98]:List UInt8)] (v:=u) ⟨a3,by simpa using c3⟩
  simp only[h3,show ¬ (3:Int)=0 by omega,show ¬ (3:Int)=1 by omega,show ¬ (3:Int)=2 by omega,decide_true,decide_false,cond_true,cond_false,e3,Option.bind_some]
  rw[if_pos ⟨a3,by simpa using c3⟩,hx]
  refine ⟨_,_,rfl,?_,s3.mono (by omega)⟩
  show List.length x<=9
  simp only[List.mem_cons,List.not_mem_nil,or_false] at mx
  rcases mx with rfl | rfl | rfl <;> decide
 simp only[h0,h1,h2,h3,decide_false,cond_false]
 exact ⟨_,_,rfl,by omega,s2.mono (by omega)⟩
theorem put1_len (xs:List Row) (r:Row):(put1 xs r).length=xs.length+1:=by
 unfold put1
 simp only[List.length_append,List.length_take,List.length_drop,List.length_cons,List.length_nil]
 omega
theorem at_neg {x:List Row} {r:Row} (hu:up x) (hf:atI x (r.1,r.2.1) < 0):∀ y ∈ x,rk y≠rk r:=fun y hy he=>by
 obtain ⟨i,hi,hx⟩:=List.getElem_of_mem hy
 have:=(fnd_at hu hi (k:=(r.1,r.2.1)) (by rw[hx];exact he)).1
 unfold atI at hf
 rw[this] at hf
 simp only[if_true] at hf
 omega
theorem drawRows_ok {s:L1Src} {b:Int} (h:srcOk s b) (hb:b<=500000):∃ xs t,spec_l6DrawRows.sem (s,())=some (xs,t,())/\xs.length<=6/\(∀ r ∈ xs,rowF r=0)/\srcOk t (b+100):=by
 have hb0:0<=b:=Int.le_trans h.2.1 h.2.2
 obtain ⟨v,t1,e1,a1,c1,s1⟩:=next_ok (n:=7) h (by omega) (by omega) (by omega)
 have:=down_ex 700000 (B:=fun w v=>spec_l6DrawRows.b0 w (spec_l6DrawRows.q0 (s,())) (s,()) v) (fun s (l:List Row) i=>(s,l,i)) (fun c l=>up l/\(∀ r ∈ l,rowF r=0)/\5*(l.length:Int)<=c - b - 1) 5 (by omega) (fun s l=>(l,s,()))
  (fun m s x c hm hs hc hI=>by
   obtain ⟨r,t,e1,hr,s1⟩:=drawRow_ok hs (by omega)
   have hlt:(0:Int) < ((m+1:Nat):Int):=by omega
   have hs2:=hs.2
   have hA:=specAt_eq x r.1 r.2.1 hI.1 (by omega)
   have hP:=specPut_eq x r (by omega)
   by_cases hf:atI x (r.1,r.2.1) < 0
   ·refine ⟨t,put1 x r,s1,⟨up_put1 hI.1 (at_neg hI.1 hf),?_,by rw[put1_len];omega⟩,fun self=>?_⟩
    ·intro y hy
     rcases List.mem_cons.1 ((put1_perm x r).mem_iff.1 hy) with h1 | h1
     ·rw[h1];exact hr
     ·exact hI.2.1 y h1
    ·unfold spec_l6DrawRows.b0
     simp only[hlt,decide_true,cond_true,e1,Option.bind_some,down_w hm,hA,hP,hf]
   ·refine ⟨t,x,s1,⟨hI.1,hI.2.1,by omega⟩,fun self=>?_⟩
    unfold spec_l6DrawRows.b0
    simp only[hlt,decide_true,cond_true,e1,Option.bind_some,down_w hm,hA,hf,decide_false,cond_false])
  (fun s x c _ _ self=>by
   unfold spec_l6DrawRows.b0
   rw[decide_eq_false (Int.lt_irrefl _),cond_false]
   rfl) v.toNat t1 [] (b+1) (by omega) s1 ⟨List.Pairwise.nil,fun _ h=>(by cases h),by simp only[List.length_nil];omega⟩ (by omega)
 obtain ⟨t,l,a1',a2,a3⟩:=this
 have hv:((v.toNat:Nat):Int)=v:=by omega
 rw[hv] at a3 a1' a2
 refine ⟨l,t,lift_eq (k:=8) fun k hk=>(spec_l6DrawRows.raw_eq k _).trans ?_,by have:=a2.2.2;omega,a2.2.1,a1'.mono (by omega)⟩
 unfold spec_l6DrawRows.p
 rw[e1]
 exact a3 k (by omega)
theorem bentPage_ok {s:L1Src} {b:Int} (h:srcOk s b) (hb:b<=400000):∃ p t,spec_l2Bent.sem (s,())=some (p,t,())/\p.length<=64/\srcOk t (b+600):=by
 obtain ⟨p,t1,e1,hp,s1⟩:=drawRight_ok h hb
 obtain ⟨v,t2,e2,a2,c2,s2⟩:=next_ok (n:=12) s1 (by omega) (by omega) (by omega)
 have hl:=hp.len
 suffices hq:∃ r' t',spec_l2Bent.p (s,())=some (r',t',())/\r'.length<=64/\srcOk t' (b+600) by
  obtain ⟨r',t',p1,p2,p3⟩:=hq
  exact ⟨r',t',lift_eq (k:=0) fun k _=>(spec_l2Bent.raw_eq k _).trans p1,p2,p3⟩
 unfold spec_l2Bent.p
 rw[e1]
 simp only[Option.bind_some,e2]
 by_cases h0:v=0
 ·simp only[h0,decide_true,cond_true]
  rw[if_pos ⟨by omega,by omega⟩]
  exact ⟨_,_,rfl,by rw[List.length_drop,List.length_take];omega,s2.mono (by omega)⟩
 by_cases h1:v=1
 ·obtain ⟨v3,t3,e3,a3,c3,s3⟩:=next_ok (n:=12) s2 (by omega) (by omega) (by omega)
  obtain ⟨v4,t4,e4,a4,c4,s4⟩:=next_ok (n:=70) s3 (by omega) (by omega) (by omega)
  simp only[h1,show ¬ (1:Int)=0 by omega,decide_true,decide_false,cond_true,cond_false,e3,e4,Option.bind_some]
  rw[if_pos ⟨a3,by omega⟩,List.getElem?_eq_getElem (show v3.toNat < p.length by omega)]
  exact ⟨_,_,rfl,by rw[List.length_set];omega,s4.mono (by omega)⟩
 simp only[h0,h1,decide_false,cond_false]
 exact ⟨_,_,rfl,by omega,s2.mono (by omega)⟩
theorem put_ok2 {p c:List UInt8} (hp:PageOk p) (h1:1<=c.length) (h2:c.length<=20):∃ q n k,spec_l2Put.sem (p,c,())=some (q,n,k,())/\(k=0->PageOk q/\∃ m:Nat,n=(m:Int)):=by
 refine ⟨_,_,_,gPut_eq hp c h1 h2,fun h=>?_⟩
 rw[if_pos h,if_pos h]
 exact ⟨(putQ_ok hp h1 h).1,_,rfl⟩
def twoP (x:Pgs):Prop:=∃ p q:List UInt8,x=[p,q]/\PageOk p/\PageOk q
theorem pages6_ok {s:L1Src} {b:Int} (h:srcOk s b) (hb:b<=300000):∃ x t,spec_l6Pages.sem (s,())=some (x,t,())/\twoP x/\srcOk t (b+200):=by
 obtain ⟨rs,t1,e1,hl,hr,s1⟩:=drawRows_ok h (by omega)
 have:=up_ex (B:=fun w v=>spec_l6Pages.b0 w (spec_l6Pages.q0 (s,()) rs) (s,()) rs v) (fun s (l:Pgs) i=>(s,l,i)) twoP 10 (by omega) (fun s l=>(l,s,())) rs.length (by omega)
  (fun i s x c hi hs hc hI=>by
   obtain ⟨p,q,rfl,hp,hq⟩:=hI
   have c0:(0:Int)<=0/\(0:Int) < ((0+1+1:Nat):Int):=by omega
   have c1:(0:Int)<=1/\(1:Int) < ((0+1+1:Nat):Int):=by omega
   have hlt:(i:Int) < (rs.length:Int):=by omega
   have hin:(0:Int)<=(i:Int)/\(i:Int) < (rs.length:Int):=⟨by omega,hlt⟩
   have hri:=hr _ (List.getElem_mem hi)
   obtain ⟨v1,t1,e1,s1⟩:=chance_ok (n:=3) hs (by omega) (by omega) (by omega)
   cases v1 with
   | true=>
    have e2:spec_l1Cell.sem ((2:Int),rs[i],())=some (cellB 2 rs[i],()):=specCell_eq (f:=2) hri
    have hcl:=cellB_len (f:=2) hri
    obtain ⟨Q,n,k,e3,k3⟩:=put_ok2 hq hcl.1 (by omega:(cellB 2 rs[i]).length<=20)
    by_cases hk:k=0
    ·obtain ⟨hQ,m,rfl⟩:=k3 hk
     have e4:spec_l1Stub.sem ((1:Int),(m:Int),())=some (stubB 1 m,()):=specStub_eq 1 m
     obtain ⟨P,n2,k2,e5,k5⟩:=put_ok2 hp (show 1<=(stubB 1 m).length by unfold stubB;simp) (show (stubB 1 m).length<=20 by unfold stubB;simp)
     by_cases hk2:k2=0
     ·refine ⟨t1,[P,Q],s1.mono (by omega),⟨P,Q,rfl,(k5 hk2).1,hQ⟩,fun self=>?_⟩
      unfold spec_l6Pages.b0
      simp only[hlt,hin,and_self,decide_true,cond_true,e1,e2,e3,e4,e5,hk,hk2,Option.bind_some,up_w (show i<=1000 by omega),Int.toNat_natCast,List.getElem?_eq_getElem hi,List.length_cons,List.length_nil,List.set_cons_succ,List.set_cons_zero,List.getElem?_cons_succ,List.getElem?_cons_zero,if_true]
      simp only[c0,c1,and_self,if_true]
     ·refine ⟨t1,[p,q],s1.mono (by omega),⟨p,q,rfl,hp,hq⟩,fun self=>?_⟩
      unfold spec_l6Pages.b0
      simp only[hlt,hin,and_self,decide_true,cond_true,e1,e2,e3,e4,e5,hk,hk2,Option.bind_some,up_w (show i<=1000 by omega),Int.toNat_natCast,List.getElem?_eq_getElem hi,List.length_cons,List.length_nil,List.set_cons_succ,List.set_cons_zero,List.getElem?_cons_succ,List.getElem?_cons_zero,if_true,decide_false,cond_false]
      simp only[c0,c1,and_self,if_true]
    ·refine ⟨t1,[p,q],s1.mono (by omega),⟨p,q,rfl,hp,hq⟩,fun self=>?_⟩
     unfold spec_l6Pages.b0
     simp only[hlt,hin,and_self,decide_true,cond_true,e1,e2,e3,hk,Option.bind_some,up_w (show i<=1000 by omega),Int.toNat_natCast,List.getElem?_eq_getElem hi,List.length_cons,List.length_nil,List.getElem?_cons_succ,List.getElem?_cons_zero,if_true,decide_false,cond_false]
     simp only[c0,c1,and_self,if_true]
   | false=>
    obtain ⟨v2,t2,e6,a2,c2,s2⟩:=next_ok (n:=2) s1 (by omega) (by omega) (by omega)
    have e2:spec_l1Cell.sem ((0:Int),rs[i],())=some (cellB 0 rs[i],()):=specCell_eq (f:=0) hri
    have hcl:=cellB_len (f:=0) hri
    obtain ⟨z,w,hz,hzp,hset⟩:∃ z:List UInt8,∃ w:List UInt8->Pgs,([p,q]:Pgs)[v2.toNat]?=some z/\PageOk z/\∀ Q,([p,q]:Pgs).set v2.toNat Q=w Q/\(PageOk Q->twoP (w Q)):=by
     have hv:v2.toNat=0\/v2.toNat=1:=by omega
     rcases hv with h0 | h0
     ·rw[h0]
      exact ⟨p,fun Q=>[Q,q],rfl,hp,fun Q=>⟨rfl,fun h=>⟨Q,q,rfl,h,hq⟩⟩⟩
     ·rw[h0]
      exact ⟨q,fun Q=>[p,Q],rfl,hq,fun Q=>⟨rfl,fun h=>⟨p,Q,rfl,hp,h⟩⟩⟩
    have c2':(0:Int)<=v2/\v2 < (List.length ([p,q]:Pgs):Int):=⟨a2,c2⟩
    obtain ⟨Q,n,k,e3,k3⟩:=put_ok2 hzp hcl.1 (by omega:(cellB 0 rs[i]).length<=20)
    by_cases hk:k=0
    ·refine ⟨t2,w Q,s2.mono (by omega),(hset Q).2 (k3 hk).1,fun self=>?_⟩
     have hd:decide (k=0)=true:=decide_eq_true hk
     unfold spec_l6Pages.b0
     rw[decide_eq_true hlt,cond_true,e1]
     simp only[Option.bind_some,cond_false]
     rw[e6]
     simp only[Option.bind_some]
     rw[if_pos c2',hz]
     simp only[Option.bind_some]
     rw[if_pos hin,Int.toNat_natCast,List.getElem?_eq_getElem hi]
     simp only[Option.bind_some]
     rw[e2]
     simp only[Option.bind_some]
     rw[e3]
     simp only[Option.bind_some]
     rw[hd,cond_true,(hset Q).1,up_w (show i<=1000 by omega),if_pos c2']
    ·refine ⟨t2,[p,q],s2.mono (by omega),⟨p,q,rfl,hp,hq⟩,fun self=>?_⟩
     have hd:decide (k=0)=false:=decide_eq_false hk
     unfold spec_l6Pages.b0
     rw[decide_eq_true hlt,cond_true,e1]
     simp only[Option.bind_some,cond_false]
     rw[e6]
     simp only[Option.bind_some]
     rw[if_pos c2',hz]
     simp only[Option.bind_some]
     rw[if_pos hin,Int.toNat_natCast,List.getElem?_eq_getElem hi]
     simp only[Option.bind_some]
     rw[e2]
     simp only[Option.bind_some]
     rw[e3]
     simp only[Option.bind_some]
     rw[hd,cond_false,up_w (show i<=1000 by omega)])
  (fun s x c _ _ self=>by
   unfold spec_l6Pages.b0
   rw[decide_eq_false (Int.lt_irrefl _),cond_false]
   rfl) rs.length 0 t1 [newF,newF] (b+100) (by omega) s1 ⟨_,_,rfl,by rw[new_same];exact newPg_ok.1,by rw[new_same];exact newPg_ok.1⟩ (by omega)
 obtain ⟨t,x,a1,a2,a3⟩:=this
 refine ⟨x,t,lift_eq (k:=rs.length+1) fun k hk=>(spec_l6Pages.raw_eq k _).trans ?_,a2,a1.mono (by omega)⟩
 unfold spec_l6Pages.p
 rw[specNew_eq]
 simp only[Option.bind_some,e1]
 exact a3 k (by omega)
def smallP (x:Pgs):Prop:=∀ p ∈ x,List.length p<=64
theorem two_small {x:Pgs} (h:twoP x):smallP x:=by
 obtain ⟨p,q,rfl,hp,hq⟩:=h
 intro y hy
 simp only[List.mem_cons,List.not_mem_nil,or_false] at hy
 rcases hy with rfl | rfl
 ·exact Nat.le_of_eq hp.len
 ·exact Nat.le_of_eq hq.len
theorem two_of {p q:List UInt8} (hp:p.length<=64) (hq:q.length<=64):smallP [p,q]:=by
 intro y hy
 simp only[List.mem_cons,List.not_mem_nil,or_false] at hy
 rcases hy with rfl | rfl <;> assumption
theorem bent6_ok {s:L1Src} {b:Int} (h:srcOk s b) (hb:b<=200000):∃ x t,spec_l6Bent.sem (s,())=some (x,t,())/\smallP x/\srcOk t (b+1000):=by
 obtain ⟨x,t1,e1,hx,s1⟩:=pages6_ok h (by omega)
 have hsm:=two_small hx
 obtain ⟨p,q,rfl,hp,hq⟩:=hx
 obtain ⟨v,t2,e2,a2,c2,s2⟩:=next_ok (n:=14) s1 (by omega) (by omega) (by omega)
 have lp:=hp.len
 have lq:=hq.len
 suffices hQ:∃ r' t',spec_l6Bent.p (s,())=some (r',t',())/\smallP r'/\srcOk t' (b+1000) by
  obtain ⟨r',t',p1,p2,p3⟩:=hQ
  exact ⟨r',t',lift_eq (k:=0) fun k _=>(spec_l6Bent.raw_eq k _).trans p1,p2,p3⟩
 unfold spec_l6Bent.p
 rw[e1]
 simp only[Option.bind_some,e2]
 by_cases h0:v=0
 ·obtain ⟨w,t3,e3,hw,s3⟩:=bentPage_ok s2 (by omega)
  simp only[h0,decide_true,cond_true,e3,Option.bind_some]
  exact ⟨[w,q],_,rfl,two_of hw (by omega),s3.mono (by omega)⟩
 by_cases h1:v=1
 ·simp only[h1,show ¬ (1:Int)=0 by omega,decide_true,decide_false,cond_true,cond_false]
  rw[if_pos ⟨by omega,by omega,by simp only[CAP];omega⟩]
  refine ⟨_,_,rfl,fun y hy=>?_,s2.mono (by omega)⟩
  rw[(List.mem_replicate.1 hy).2]
  exact Nat.zero_le _
 by_cases h2:v=2
 ·obtain ⟨v3,t3,e3,a3,c3,s3⟩:=next_ok (n:=2) s2 (by omega) (by omega) (by omega)
  obtain ⟨v4,t4,e4,a4,c4,s4⟩:=next_ok (n:=3) s3 (by omega) (by omega) (by omega)
  have e5:spec_l1Stub.sem (v3,v4,())=some (stubB v3.toNat v4.toNat,()):=by
   have:=specStub_eq v3.toNat v4.toNat
   rw[show ((v3.toNat:Nat):Int)=v3 by omega,show ((v4.toNat:Nat):Int)=v4 by omega] at this
   exact this
  obtain ⟨Q,n,k,e6,k6⟩:=put_ok2 hp (show 1<=(stubB v3.toNat v4.toNat).length by unfold stubB;simp) (show (stubB v3.toNat v4.toNat).length<=20 by unfold stubB;simp)
  simp only[h2,show ¬ (2:Int)=0 by omega,show ¬ (2:Int)=1 by omega,decide_true,decide_false,cond_true,cond_false,e3,e4,e5,e6,Option.bind_some,List.getElem?_cons_zero,List.length_cons,List.length_nil]
  by_cases hk:k=0
  ·simp only[hk,decide_true,cond_true]
   exact ⟨[Q,q],_,rfl,two_of (Nat.le_of_eq (k6 hk).1.len) (by omega),s4.mono (by omega)⟩
  ·simp only[hk,decide_false,cond_false]
   exact ⟨[p,q],_,rfl,hsm,s4.mono (by omega)⟩
 by_cases h3:v=3
 ·obtain ⟨r,t3,e3,hr,s3⟩:=drawRow_ok s2 (by omega)
  have e5:spec_l1Cell.sem ((0:Int),r,())=some (cellB 0 r,()):=specCell_eq (f:=0) hr
  have hcl:=cellB_len (f:=0) hr
  obtain ⟨Q,n,k,e6,k6⟩:=put_ok2 hq hcl.1 (by omega:(cellB 0 r).length<=20)
  simp only[h3,show ¬ (3:Int)=0 by omega,show ¬ (3:Int)=1 by omega,show ¬ (3:Int)=2 by omega,decide_true,decide_false,cond_true,cond_false,e3,e5,e6,Option.bind_some,List.getElem?_cons_zero,List.getElem?_cons_succ,List.length_cons,List.length_nil]
  by_cases hk:k=0
  ·simp only[hk,decide_true,cond_true]
   exact ⟨[p,Q],_,rfl,two_of (by omega) (Nat.le_of_eq (k6 hk).1.len),s3.mono (by omega)⟩
  ·simp only[hk,decide_false,cond_false]
   exact ⟨[p,q],_,rfl,hsm,s3.mono (by omega)⟩
 simp only[h0,h1,h2,h3,decide_false,cond_false]
 exact ⟨_,_,rfl,hsm,s2.mono (by omega)⟩
theorem find_in {ps:Pgs} {t k:Int} {x:L6Spot} (h:findS ps t k=some x):x ∈ seenF ps/\rk (sRow x)=(t,k):=by
 unfold findS at h
 exact ⟨List.mem_of_find?_eq_some h,of_decide_eq_true (List.find?_some (p:=fun x=>decide (rk (sRow x)=(t,k))) h)⟩
theorem view_nil:viewC []=0:=by decide +kernel
theorem pages7_ok {s:L1Src} {b:Int} (h:srcOk s b) (hb:b<=300000):∃ x t,spec_l7Pages.sem (s,())=some (x,t,())/\viewC x=0/\srcOk t (b+200):=by
 obtain ⟨v,t1,e1,a1,c1,s1⟩:=next_ok (n:=16) h (by omega) (by omega) (by omega)
 have:=down_ex 700000 (B:=fun w v=>spec_l7Pages.b0 w (spec_l7Pages.q0 (s,())) (s,()) v) (fun s (l:Pgs) i=>(s,l,i)) (fun _ l=>viewC l=0) 7 (by omega) (fun s l=>(l,s,()))
  (fun m s x c hm hs hc hI=>by
   have hlt:(0:Int) < ((m+1:Nat):Int):=by omega
   have V:=view_ok hI
   obtain ⟨r,t1,e1,hr,s1⟩:=drawRow_ok hs (by omega)
   have e2:=specFind_eq x V.right r.1 r.2.1
   cases hf:findS x r.1 r.2.1 with
   | none=>
    rw[hf] at e2
    have e3:=specIns_eq V.right hr
    by_cases h0:(doneE (insW (startW x) r).1.isSome (insW (startW x) r).2).1=0
    ·have hv:=insE_view hI hr hf h0
     have hd:=(doneE_zero h0).2
     refine ⟨t1,(insW (startW x) r).2.1,s1.mono (by omega),hv.1,fun self=>?_⟩
     unfold spec_l7Pages.b0
     rw[hd] at e3
     simp only[hlt,decide_true,cond_true,e1,e2,e3,Option.bind_some,down_w hm,Bool.not_false]
    ·refine ⟨t1,x,s1.mono (by omega),hI,fun self=>?_⟩
     unfold spec_l7Pages.b0
     simp only[hlt,decide_true,cond_true,e1,e2,e3,Option.bind_some,down_w hm,Bool.not_false,h0,decide_false,cond_false]
   | some y=>
    rw[hf] at e2
    obtain ⟨hy,hk⟩:=find_in hf
    obtain ⟨v4,t4,e4,s4⟩:=chance_ok (n:=4) s1 (by omega) (by omega) (by omega)
    cases v4 with
    | true=>
     obtain ⟨w,d1,_,d2,_⟩:=del_view hI hy
     have e5:=specDel_eq V hy
     rw[d1] at e5
     refine ⟨t4,w.1,s4.mono (by omega),d2,fun self=>?_⟩
     unfold spec_l7Pages.b0
     simp only[hlt,decide_true,cond_true,e1,e2,e4,e5,Option.bind_some,down_w hm,Bool.not_true,cond_false,doneE,if_true]
    | false=>
     have e5:=specUpd_eq V hy hr
     rcases updX_view hI hy hr hk with d1 | ⟨w,d1,_,d2,_⟩
     ·rw[d1] at e5
      refine ⟨t4,x,s4.mono (by omega),hI,fun self=>?_⟩
      unfold spec_l7Pages.b0
      simp only[hlt,decide_true,cond_true,e1,e2,e4,e5,Option.bind_some,down_w hm,Bool.not_true,cond_false,badE]
      rfl
     ·rw[d1] at e5
      refine ⟨t4,w.1,s4.mono (by omega),d2,fun self=>?_⟩
      unfold spec_l7Pages.b0
      simp only[hlt,decide_true,cond_true,e1,e2,e4,e5,Option.bind_some,down_w hm,Bool.not_true,cond_false,doneE,if_true])
  (fun s x c _ _ self=>by
   unfold spec_l7Pages.b0
   rw[decide_eq_false (Int.lt_irrefl _),cond_false]
   rfl) v.toNat t1 [] (b+1) (by omega) s1 view_nil (by omega)
 obtain ⟨t,l,a1',a2',a3'⟩:=this
 have hv:((v.toNat:Nat):Int)=v:=by omega
 rw[hv] at a3' a1'
 refine ⟨l,t,lift_eq (k:=18) fun k hk=>(spec_l7Pages.raw_eq k _).trans ?_,a2',a1'.mono (by omega)⟩
 unfold spec_l7Pages.p
 rw[e1]
 exact a3' k (by omega)
theorem bent7_ok {s:L1Src} {b:Int} (h:srcOk s b) (hb:b<=100000):∃ x t,spec_l7Bent.sem (s,())=some (x,t,())/\smallP x/\srcOk t (b+2000):=by
 obtain ⟨v,t1,e1,s1⟩:=chance_ok (n:=6) h (by omega) (by omega) (by omega)
 cases v with
 | true=>
  obtain ⟨x,t2,e2,hx,s2⟩:=bent6_ok s1 (by omega)
  refine ⟨x,t2,lift_eq (k:=0) fun k _=>(spec_l7Bent.raw_eq k _).trans ?_,hx,s2.mono (by omega)⟩
  unfold spec_l7Bent.p
  rw[e1]
  simp only[Option.bind_some,cond_true,e2]
 | false=>
  obtain ⟨x,t2,e2,hx,s2⟩:=pages7_ok s1 (by omega)
  refine ⟨x,t2,lift_eq (k:=0) fun k _=>(spec_l7Bent.raw_eq k _).trans ?_,fun p hp=>Nat.le_of_eq ((view_right hx).1.2 p hp).len,s2.mono (by omega)⟩
  unfold spec_l7Bent.p
  rw[e1]
  simp only[Option.bind_some,cond_false,e2]
end OT
set_option linter.unusedVariables false
set_option linter.unusedSimpArgs false
set_option linter.unusedSectionVars false
namespace OT
open Go
theorem lwBig_eq (c:List UInt8):laws_lwBig.sem (c,())=some (decide ((1048576:Int) < (c.length:Int)),()):=lift_eq (k:=0) fun k _=>(laws_lwBig.raw_eq k _).trans rfl
theorem small_max {x:Pgs} (h:smallP x):∀ p ∈ x,List.length p<=maxLen:=fun p hp=>by
 have:=h p hp
 rw[maxLen_val]
 omega
theorem right_max {x:Pgs} (h:viewC x=0):∀ p ∈ x,List.length p<=maxLen:=fun p hp=>by
 rw[((view_right h).1.2 p hp).len,maxLen_val]
 omega
theorem rowsV_len {ps:Pgs} (h:viewC ps=0):(rowsV ps).length<=1000:=by
 have:=viewL_len (view_ok h)
 unfold rowsV
 rw[List.length_map]
 omega
theorem rowE_self (x:Row):Ty.eq tRow x x=true:=by rw[row_dec,decide_eq_true rfl]
end OT
set_option linter.unusedVariables false
set_option linter.unusedSimpArgs false
set_option linter.unusedSectionVars false
namespace OT
open Go
theorem drawUpd_ok (c:List UInt8) (h:c.length<=1048576):∃ x r,spec_DrawUpdateEdits.sem (c,())=some (x,r,())/\smallP x/\List.length r.2.2.2.1<=9:=by
 have h0:srcOk (c,(0:Int),()) 0:=⟨h,Int.le_refl 0,Int.le_refl 0⟩
 have e0:spec_l1Source.sem (c,())=some ((c,(0:Int),()),()):=lift_eq (k:=0) fun k _=>(spec_l1Source.raw_eq k _).trans rfl
 obtain ⟨x,t,e1,hx,s1⟩:=bent7_ok h0 (by omega)
 obtain ⟨r,t2,e2,hr,s2⟩:=bentRow_ok s1 (by omega)
 suffices hq:∃ y r',spec_DrawUpdateEdits.p (c,())=some (y,r',())/\smallP y/\List.length r'.2.2.2.1<=9 by
  obtain ⟨y,r',p1,p2,p3⟩:=hq
  exact ⟨y,r',lift_eq (k:=0) fun k _=>(spec_DrawUpdateEdits.raw_eq k _).trans p1,p2,p3⟩
 unfold spec_DrawUpdateEdits.p
 rw[e0]
 simp only[Option.bind_some]
 rw[e1]
 simp only[Option.bind_some]
 rw[e2]
 simp only[Option.bind_some]
 rw[specView_eq x (small_max hx)]
 simp only[Option.bind_some]
 by_cases hv:viewC x=0
 rotate_left
 ·rw[decide_eq_false hv,cond_false]
  exact ⟨x,r,rfl,hx,hr⟩
 rw[decide_eq_true hv,cond_true]
 obtain ⟨b,t3,e3,s3⟩:=chance_ok (n:=4) s2 (by omega) (by omega) (by omega)
 rw[e3]
 simp only[Option.bind_some]
 cases b with
 | true=>exact ⟨x,r,rfl,hx,hr⟩
 | false=>
  rw[Bool.not_false,cond_true,specRowsIn_eq hv]
  simp only[Option.bind_some]
  by_cases hl:(0:Int) < ((rowsV x).length:Int)
  rotate_left
  ·rw[decide_eq_false hl,cond_false]
   exact ⟨x,r,rfl,hx,hr⟩
  rw[decide_eq_true hl,cond_true]
  have hlen:=rowsV_len hv
  obtain ⟨v,t4,e4,a4,c4,s4⟩:=next_ok (n:=((rowsV x).length:Int)) s3 (by omega) (by omega) (by omega)
  rw[e4]
  simp only[Option.bind_some]
  have hi:v.toNat < (rowsV x).length:=by omega
  rw[if_pos ⟨a4,c4⟩,List.getElem?_eq_getElem hi]
  simp only[Option.bind_some]
  obtain ⟨u,t5,e5,a5,c5,s5⟩:=next_ok (n:=3) s4 (by omega) (by omega) (by omega)
  rw[e5]
  simp only[Option.bind_some]
  obtain ⟨y,hy,my⟩:=in_list [([]:List UInt8),([97,98]:List UInt8),([97,98,99,100,101,102,103,104]:List UInt8)] (v:=u) ⟨a5,by simpa using c5⟩
  rw[if_pos ⟨a5,by simpa using c5⟩,hy]
  refine ⟨x,_,rfl,hx,?_⟩
  show List.length y<=9
  simp only[List.mem_cons,List.not_mem_nil,or_false] at my
  rcases my with rfl | rfl | rfl <;> decide
theorem updates_true (v:laws_FnUpdates.Arg) (hv:okA laws_FnUpdates.ps v):laws_FnUpdates.sem v=some (true,()):=by
 obtain ⟨c,⟨⟩⟩:=v
 refine lift_eq (k:=0) fun k _=>(laws_FnUpdates.raw_eq k _).trans ?_
 show laws_FnUpdates.p _=_
 unfold laws_FnUpdates.p
 rw[lwBig_eq]
 simp only[Option.bind_some]
 by_cases hl:(1048576:Int) < (c.length:Int)
 ·rw[decide_eq_true hl,cond_true]
 rw[decide_eq_false hl,cond_false]
 obtain ⟨ps,r,e1,hs,hr9⟩:=drawUpd_ok c (by omega)
 have hP:=small_max hs
 have hrl:List.length r.2.2.2.1<=maxLen:=by rw[maxLen_val];omega
 have hI:=implUpdE_eq hP hrl
 have hS:=specUpdE_eq hP hrl
 rw[e1]
 simp only[Option.bind_some]
 rw[hI,hS]
 simp only[Option.bind_some]
 by_cases h0:(updE ps r).1=0
 rotate_left
 ·rw[decide_eq_false h0,Bool.not_false,cond_true,decide_true]
 rw[decide_eq_true h0,Bool.not_true,cond_false]
 obtain ⟨hv0,hr,w,hw,ok,T,v1,hm,hf⟩:=upd_facts h0
 have hP1:=right_max v1
 have hB:=implRowsIn_eq ps hP
 rw[if_pos hv0] at hB
 have hA:=implRowsIn_eq w.1 hP1
 rw[if_pos v1] at hA
 obtain ⟨P,s,hF⟩:=implFindRow_eq hP1 v1 hr hm
 rw[hB,hw]
 simp only[Option.bind_some]
 rw[hA,hF]
 simp only[Option.bind_some]
 rw[decide_true,cond_true,cond_true,rowE_self,cond_true,lwBut_eq _ _ _ (rowsV_len v1)]
 simp only[Option.bind_some]
 rw[lwBut_eq _ _ _ (rowsV_len hv0)]
 simp only[Option.bind_some]
 rw[hf,lwRows_eq _ _ (Nat.le_trans (List.length_filter_le _ _) (rowsV_len hv0))]
 simp only[Option.bind_some]
 rw[decide_true,cond_true,lwWay_true T ok (by omega)]
 simp only[Option.bind_some]
 rw[cond_true,lwPages_eq _ _ (by have:=(view_right v1).1.1;omega)]
 simp only[Option.bind_some]
 rw[decide_true]
end OT
namespace Go.Proofs.YthpkgnffmmmhiaaGreat.updates
open Go Go.ChangeShapes Go.WideShapes Go.ChangeAt Go.RowKit
theorem own:ownKnob Tryz.prog.godebug=none:=by kernel_rfl
theorem laidOut:laidOutB Tryz.prog=true:=by kernel_rfl
theorem htrue:∀ v,OT.okA OT.laws_FnUpdates.ps v->∃ u,OT.laws_FnUpdates.sem v=some (true,u):=fun v hv=>⟨(),OT.updates_true v hv⟩
theorem trod_len {H:Type} {enc:TypeId×Value->H} {P:Program} {w:World} {base:Nat} {sp:Nat->Bool} {held:Bool}:∀ (ts:List TypeId) (vs:List Value) (ds:List (DataW H)) (ps:List MemPlace),DataW.TrodAll enc P w base sp held ts vs ds ps->ds.length=ts.length
 | [],[],[],_,_=>rfl
 | _::ts,_::vs,_::ds,_,⟨_,q,_,h,_⟩=>congrArg (·+1) (trod_len ts vs ds q h)
 | [],_::_,_,_,h=>h.elim
 | [],[],_::_,_,h=>h.elim
 | _::_,[],_,_,h=>h.elim
 | _::_,_::_,[],_,h=>h.elim
set_option maxRecDepth 100000 in
theorem lifted (os:Os) (started:os.Started) (H:Type) (enc:TypeId×Value->H) :
  ReturnsInHanded {} Tryz.checked os 4 .any (Rows.fnUpdatesSpec.pre6 enc Tryz.prog Tryz.f4 Rows.fnUpdatesRow.domain false) (Rows.fnUpdatesSpec.post enc Tryz.prog Tryz.f4 false true false false):=by
 refine returnsInHanded_of_change (C:=Tryz.checked) own started (by kernel_rfl) Tryz.func4
  (ChangeSpec.witness6 (enc:=enc) (C:=Tryz.checked) false ⟨#[],#[.slice none 0 0],[]⟩ 8 (by kernel_rfl) (by kernel_rfl) (by kernel_rfl) (by kernel_rfl)) ?_
 intro W base args ds gs before hval0 hW hcnd _
 have hval:∀ (j:Nat) t v,Tryz.f4.params[j]?=some t->args[j]?=some v->Value.okWide Tryz.prog W .any base t v:=hval0
 have hW':=hW
 obtain ⟨p,q,hA0,hV,rfl,hfz,hnd⟩:=hW
 have hA:DataW.TrodAll enc Tryz.prog W 0 (fun _=>true) true Tryz.f4.params.toList args.toList ds p:=hA0
 obtain ⟨rfl,rfl⟩:=trodVars_none hV
 simp only[List.append_nil] at hW'
 have hl:OT.roLay Tryz.prog OT.laws_FnUpdates.ps Tryz.f4.params.toList=true:=by kernel_rfl
 have hc:=OT.law_calls (enc:=enc) (cap:=false) (ps:=OT.laws_FnUpdates.ps) (Fn:=OT.laws_FnUpdates.sem) OT.laws_FnUpdates.ok.1 htrue hl hA (b0:=base) (fun j t v ht hv=>hval j t v (by simpa using ht) (by simpa using hv))
 simp only[Array.toArray_toList] at hc
 refine hc.mono fun e W' ⟨he,hb⟩=>?_
 refine ⟨_,he,OT.law_post (C:=Tryz.checked) laidOut rfl hl (by kernel_rfl) Tryz.underlying4 rfl hW' hA ?_ hb⟩
 have hlen:ds.length=1:=trod_len _ _ _ _ hA
 match ds,hlen with
 | [d1],_=>rfl
set_option maxHeartbeats 8000000 in
theorem closed:joinedFacts Tryz.prog 4 Tryz.f4 Rows.fnUpdatesSpec Rows.fnUpdatesRow=true:=by
 unfold joinedFacts
 simp only[Bool.and_eq_true]
 repeat' apply And.intro
 all_goals (as_aux_lemma=>kernel_rfl)
theorem over:Rows.fnUpdatesRow.holds Tryz.pinned (OpenSpec.ofChange Rows.fnUpdatesSpec):=
 OpenClaim.holds_of_wide 4 Tryz.f4 rfl rfl rfl rfl rfl rfl rfl ⟨rfl,rfl,rfl,rfl,rfl⟩ rfl rfl rfl rfl rfl (by kernel_rfl) Tryz.func4 closed
  (of_decide_eq_true (by kernel_rfl)) (by unfold Func.isWrapper;first | (rw[if_pos (by decide +kernel)];kernel_rfl) | (rw[if_neg (by decide +kernel)];exact ⟨rfl,rfl⟩))
  (fun os started H enc _=>lifted os started H enc)
theorem proved:Rows.FnUpdatesSaid:=over
#print axioms proved
end Go.Proofs.YthpkgnffmmmhiaaGreat.updates
