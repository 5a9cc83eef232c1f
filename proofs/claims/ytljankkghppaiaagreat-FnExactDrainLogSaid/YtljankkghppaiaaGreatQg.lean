/- The proof's parts, merged: What ApplyChanges of the program and of the reference compute  no conditions but the lengths.. No conditions but those that each states. -/
import Derived.Test.YtljankkghppaiaaGreatQf
set_option linter.unusedVariables false
set_option linter.unusedSimpArgs false
namespace OT
open Go
def rk (x:Row):Int×Int:=(x.1,x.2.1)
theorem befB_iff (a b:Int×Int):befB a b=true↔a.1 < b.1\/(a.1=b.1/\a.2 < b.2):=by unfold befB;simp
theorem befB_trans {a b c:Int×Int} (h1:befB a b=true) (h2:befB b c=true):befB a c=true:=by
 rw[befB_iff] at *;omega
theorem befB_irr (a:Int×Int):befB a a=false:=by
 cases h:befB a a with
 | false=>rfl
 | true=>rw[befB_iff] at h;omega
theorem befB_asym {a b:Int×Int} (h:befB a b=true):befB b a=false:=by
 cases h2:befB b a with
 | false=>rfl
 | true=>rw[befB_iff] at h h2;omega
theorem befB_tri {a b:Int×Int} (h1:befB a b=false) (h2:befB b a=false):a=b:=by
 have n1:¬ (a.1 < b.1\/(a.1=b.1/\a.2 < b.2)):=fun h=>by rw[(befB_iff a b).2 h] at h1;cases h1
 have n2:¬ (b.1 < a.1\/(b.1=a.1/\b.2 < a.2)):=fun h=>by rw[(befB_iff b a).2 h] at h2;cases h2
 have e1:a.1=b.1:=by omega
 have e2:a.2=b.2:=by omega
 obtain ⟨a1,a2⟩:=a;obtain ⟨b1,b2⟩:=b;simp only at e1 e2;rw[e1,e2]
def up (xs:List Row):Prop:=xs.Pairwise (fun a b=>befB (rk a) (rk b)=true)
theorem up_cons {x:Row} {xs:List Row}:up (x::xs)↔(∀ y ∈ xs,befB (rk x) (rk y)=true)/\up xs:=eI
def pos:List Row->Int×Int->Nat
 | [],_=>0
 | x::xs,k=>if befB (rk x) k then pos xs k+1 else 0
theorem pos_le:∀ (xs:List Row) (k:Int×Int),pos xs k<=xs.length
 | [],_=>aK _
 | x::xs,k=>by simp only[pos];split <;> simp[pos_le xs k]
theorem pos_lt:∀ (xs:List Row) (k:Int×Int) (i:Nat) (h:i < xs.length),i < pos xs k->befB (rk xs[i]) k=true
 | x::xs,k,i,h,hp=>by
  simp only[pos] at hp;split at hp
  ·rename_i hx
   cases i with
   | zero=>exact hx
   | succ i=>exact pos_lt xs k i (by simpa using h) (by omega)
  ·omega
theorem up_not:∀ (xs:List Row) (k:Int×Int) (i:Nat) (h:i < xs.length),up xs->pos xs k<=i->befB (rk xs[i]) k=false
 | x::xs,k,i,h,hu,hp=>by
  simp only[pos] at hp;split at hp
  ·cases i with
   | zero=>omega
   | succ i=>exact up_not xs k i (by simpa using h) (up_cons.1 hu).2 (by omega)
  ·rename_i hx;have hx:befB (rk x) k=false:=by simpa using hx
   cases i with
   | zero=>exact hx
   | succ i=>
    have hi':i < xs.length:=by simpa using h
    have hm:befB (rk x) (rk xs[i])=true:=(up_cons.1 hu).1 _ (bC _);show befB (rk xs[i]) k=false
    cases hb:befB (rk xs[i]) k with
    | false=>rfl
    | true=>rw[befB_trans hm hb] at hx;cases hx
def fnd (xs:List Row) (k:Int×Int):Bool:=match xs[pos xs k]? with
 | some x=>decide (rk x=k)
 | none=>false
theorem fnd_lt {xs:List Row} {k:Int×Int} (h:fnd xs k=true):∃ hp:pos xs k < xs.length,rk xs[pos xs k]=k:=by
 unfold fnd at h;split at h
 ·rename_i x hx;obtain ⟨hp,e⟩:=aJ.1 hx;subst e;exact ⟨hp,by simpa using h⟩
 ·cases h
theorem ord_lt (a b:Row):decide ((if befB (a.1,a.2.1) (b.1,b.2.1) then (-1:Int) else if befB (b.1,b.2.1) (a.1,a.2.1) then 1 else 0) < 0)=befB (rk a) (rk b):=by
 unfold rk;cases befB (a.1,a.2.1) (b.1,b.2.1) <;> cases befB (b.1,b.2.1) (a.1,a.2.1) <;> rfl
theorem half (lo hi:Nat) (h:lo+hi<=4611686018427387904):w64 ((IntKind.wrap .u64 (w64 ((lo:Int)+(hi:Int)))).fdiv (2 ^ 1))=(((lo+hi) / 2:Nat):Int):=by
 have e1:w64 ((lo:Int)+(hi:Int))=((lo+hi:Nat):Int):=by rw[w64_in (by omega)];omega
 rw[e1]
 have e2:IntKind.wrap .u64 ((lo+hi:Nat):Int)=((lo+hi:Nat):Int):=by
  simp only[IntKind.wrap]
  first | rfl | (simp[IntKind.bits,IntKind.signed];omega) | omega
 rw[e2]
 have e3:(((lo+hi:Nat):Int)).fdiv (2 ^ 1)=(((lo+hi) / 2:Nat):Int):=by
  rw[gJ _ (by omega)];omega
 rw[e3,w64_in (by omega)]
theorem rk_key (c:Change):rk (keyRow c)=ck c:=keyRow_ck c
theorem specBefore_eq (a b:Row):spec_l1Before.sem (a,b,())=some (befB (rk a) (rk b),()):=by
 refine lift_eq (k:=0) fun k _=>(spec_l1Before.raw_eq k _).trans ?_;show spec_l1Before.p _=_;unfold spec_l1Before.p befB rk;by_cases h1:a.1 < b.1 <;> by_cases h2:a.1=b.1 <;> simp[h1,h2]
theorem fnd_cons_lt {x:Row} {xs:List Row} {k:Int×Int} (h:befB (rk x) k=true):fnd (x::xs) k=fnd xs k:=by
 unfold fnd;simp only[pos,h,aH,fE]
theorem fnd_mem {xs:List Row} {k:Int×Int} (h:fnd xs k=true):∃ y ∈ xs,rk y=k:=by
 obtain ⟨hp,hk⟩:=fnd_lt h;exact ⟨_,bC hp,hk⟩
theorem at_forI (k:Int×Int):∀ (xs:List Row) (j:Nat),up xs->forI (fun i (_:Unit) x=>if rk x=k then .inl ((i:Int),()) else .inr ()) (fun _=>((-1:Int),())) j xs ()=if fnd xs k then (((j+pos xs k:Nat):Int),()) else (-1,())
 | [],j,_=>by simp[forI,fnd]
 | x::xs,j,hu=>by
  have hu:=up_cons.1 hu;simp only[forI];by_cases hx:rk x=k
  ·have hb:befB (rk x) k=false:=by rw[hx];exact befB_irr k
   have hf:fnd (x::xs) k=true:=by
    have hp0:pos (x::xs) k=0:=by simp only[pos,hb,aD,aM]
    unfold fnd;rw[hp0];simp[hx]
   simp[hx,hf,pos,befB_irr]
  ·simp only[hx,aM];rw[at_forI k xs (j+1) hu.2]
   cases hb:befB (rk x) k with
   | true=>
    rw[fnd_cons_lt hb];simp only[pos,hb,aH];have:j+1+pos xs k=j+(pos xs k+1):=by omega
    rw[this]
   | false=>
    have h1:fnd (x::xs) k=false:=by simp[fnd,pos,hb,hx]
    have h2:fnd xs k=false:=by
     cases h:fnd xs k with
     | false=>rfl
     | true=>
      obtain ⟨y,hy,e⟩:=fnd_mem h;have:=hu.1 y hy;rw[e,hb] at this;cases this
    simp[h1,h2]
def atI (xs:List Row) (k:Int×Int):Int:=if fnd xs k then (pos xs k:Int) else -1
theorem specAt_eq (xs:List Row) (t k:Int) (hu:up xs) (hl:xs.length<=2000000):spec_l6At.sem (xs,t,k,())=some (atI xs (t,k),()):=by
 refine lift_eq (k:=xs.length+1) fun f hf=>(spec_l6At.raw_eq f _).trans ?_
 have:=for_loop (B:=fun self v=>spec_l6At.b0 self (fun z=>spec_l6At.q0 (xs,t,k,()) z) (xs,t,k,()) v) xs (fun (_:Unit) (i:Int)=>i) (fun i _ x=>if rk x=(t,k) then .inl ((i:Int),()) else .inr ()) (fun _=>((-1:Int),())) (fun _ _=>True) (by rw[maxLen_val];omega)
  (fun i hi _ self _=>by
   show spec_l6At.b0 _ _ _ _=_;unfold spec_l6At.b0 rk;have hlt:(i:Int) < (xs.length:Int):=by omega
   simp only[hlt,aE,aL,aN,aH,aI,aA hi,aB]
   by_cases h1:xs[i].1=t <;> by_cases h2:xs[i].2.1=k <;> simp[h1,h2]) (fun _ _ _ _ _ _=>trivial) (fun _ self _=>by
   show spec_l6At.b0 _ _ _ _=_;unfold spec_l6At.b0
   simp[spec_l6At.q0,spec_l6At.q0]) () trivial f (by omega)
 rw[at_forI (t,k) xs 0 hu] at this;have this:spec_l6At.r0 f (xs,t,k,()) 0=_:=this;unfold spec_l6At.p;rw[this];unfold atI;cases fnd xs (t,k) <;> simp <;> rfl
theorem pos_forI {O:Type} (k:Int×Int) (g:Nat->O) (n:Nat):∀ (xs:List Row) (j:Nat),j+xs.length=n->forI (fun i (_:Unit) x=>if befB (rk x) k then .inr () else .inl (g i)) (fun _=>g n) j xs ()=g (j+pos xs k)
 | [],j,h=>by simp[forI,pos] at *;rw[h]
 | x::xs,j,h=>by
  simp only[forI,pos]
  cases hb:befB (rk x) k with
  | true=>
   simp only[aH];rw[pos_forI k g n xs (j+1) (by simp at h;omega)];congr 1;omega
  | false=>simp
def put1 (xs:List Row) (r:Row):List Row:=xs.take (pos xs (rk r))++[r]++xs.drop (pos xs (rk r))
theorem specPut_eq (xs:List Row) (r:Row) (hl:xs.length<=2000000):spec_l6Put.sem (xs,r,())=some (put1 xs r,()):=by
 refine lift_eq (k:=xs.length+1) fun f hf=>(spec_l6Put.raw_eq f _).trans ?_
 have hq:∀ i:Nat,i<=xs.length->spec_l6Put.q0 (xs,r,()) (i:Int)=some (xs.take i++[r]++xs.drop i,()):=fun i hi=>by
  show spec_l6Put.q0 _ _=_;unfold spec_l6Put.q0;have hpi:0<=(i:Int)/\(i:Int)<=(xs.length:Int):=by omega
  have c1:([]:List Row).length+(List.take i xs).length<=CAP:=cap_ok (by simp;omega);have c2:(List.take i xs).length+[r].length<=CAP:=cap_ok (by simp;omega);have c3:(List.take i xs++[r]).length+(List.drop i xs).length<=CAP:=cap_ok (by simp;omega);simp only[hpi,cU,aH,aI,c1,eZ,cH,eQ,c2,c3]
 have:=for_loop (B:=fun self v=>spec_l6Put.b0 self (fun z=>spec_l6Put.q0 (xs,r,()) z) (xs,r,()) v) xs (fun (_:Unit) (i:Int)=>i) (fun i _ x=>if befB (rk x) (rk r) then .inr () else .inl (xs.take i++[r]++xs.drop i,())) (fun _=>(xs.take xs.length++[r]++xs.drop xs.length,())) (fun _ _=>True) (by rw[maxLen_val];omega)
  (fun i hi _ self _=>by
   show spec_l6Put.b0 _ _ _ _=_;unfold spec_l6Put.b0;have hlt:(i:Int) < (xs.length:Int):=by omega
   simp only[hlt,aE,aL,aN,aH,aI,aA hi,aB,specBefore_eq]
   cases befB (rk xs[i]) (rk r) with
   | true=>rfl
   | false=>exact hq i (by omega)) (fun _ _ _ _ _ _=>trivial) (fun _ self _=>by
   show spec_l6Put.b0 _ _ _ _=_;unfold spec_l6Put.b0;have hlt:¬ (xs.length:Int) < (xs.length:Int):=by omega
   simp only[hlt,aF,aG]
   exact hq _ (aK _)) () trivial f (by omega)
 rw[pos_forI (rk r) (fun i=>(xs.take i++[r]++xs.drop i,())) xs.length xs 0 (by omega)] at this;refine this.trans ?_;simp[put1]
theorem take_bef {xs:List Row} {k:Int×Int} {x:Row} (h:x ∈ xs.take (pos xs k)):befB (rk x) k=true:=by
 obtain ⟨i,hi,e⟩:=dH.1 h;have hp:=pos_le xs k;rw[bS] at hi;rw[jE] at e;rw[<-e];exact pos_lt xs k i (by omega) (by omega)
end OT
set_option linter.unusedSectionVars false
namespace OT
open Go
theorem filterMap_congr' {α β:Type} {f g:α->Option β}:∀ {l:List α},(∀ x ∈ l,f x=g x)->l.filterMap f=l.filterMap g
 | [],_=>rfl
 | x::l,h=>by
  rw[cX,cX,h x bB,filterMap_congr' fun y hy=>h y (aR _ hy)]
abbrev row9:Row:=((0:Int),(0:Int),(0:Int),([]:List UInt8),())
def look (xs:List Row) (k:Int×Int):Option Row:=if fnd xs k then xs[pos xs k]? else none
theorem look_lt {x:Row} {xs:List Row} {k:Int×Int} (h:befB (rk x) k=true):look (x::xs) k=look xs k:=by
 unfold look;rw[fnd_cons_lt h];simp only[pos,h,aH,fE]
theorem look_self {x:Row} {xs:List Row}:look (x::xs) (rk x)=some x:=by
 have h:pos (x::xs) (rk x)=0:=by simp[pos,befB_irr]
 have h2:fnd (x::xs) (rk x)=true:=by simp[fnd,h]
 rw[look,h2,h];rfl
theorem look_none {xs:List Row} {k:Int×Int} (h:∀ y ∈ xs,rk y≠k):look xs k=none:=by
 unfold look
 cases hf:fnd xs k with
 | false=>rfl
 | true=>obtain ⟨y,h1,h2⟩:=fnd_mem hf;exact absurd h2 (h y h1)
theorem look_gt {x:Row} {xs:List Row} {k:Int×Int} (hu:up (x::xs)) (h:befB k (rk x)=true):look (x::xs) k=none:=by
 refine look_none fun y hy e=>?_;subst e;rcases aS.1 hy with rfl | hy
 ·rw[befB_irr] at h;cases h
 ·have:=(up_cons.1 hu).1 y hy;rw[befB_asym this] at h;cases h
def chg:Option Row->Option Row->Option Change
 | some a,some b=>if Ty.eq tRow a b then none else some (true,a,true,b,())
 | some a,none=>some (true,a,false,row9,())
 | none,some b=>some (false,row9,true,b,())
 | none,none=>none
theorem chg_l (a:Row):chg (some a) none=some (true,a,false,row9,()):=rfl
theorem chg_r (b:Row):chg none (some b)=some (false,row9,true,b,()):=rfl
theorem chg_b (a b:Row):chg (some a) (some b)=if Ty.eq tRow a b then none else some (true,a,true,b,()):=rfl
def mrg:Nat->List Row->List Row->List Change
 | 0,_,_=>[]
 | n+1,[],[]=>[]
 | n+1,[],b::bs=>(false,row9,true,b,())::mrg n [] bs
 | n+1,a::al,[]=>(true,a,false,row9,())::mrg n al []
 | n+1,a::al,b::bs=>if befB (rk a) (rk b) then (true,a,false,row9,())::mrg n al (b::bs) else
  if befB (rk b) (rk a) then (false,row9,true,b,())::mrg n (a::al) bs else
  if Ty.eq tRow a b then mrg n al bs else (true,a,true,b,())::mrg n al bs
def upK (ks:List (Int×Int)):Prop:=ks.Pairwise (fun a b=>befB a b=true)
def keysOf2 (B A:List Row) (k:Int×Int):Prop:=(∃ x ∈ B,rk x=k)\/∃ y ∈ A,rk y=k
theorem head_key {ks:List (Int×Int)} {m:Int×Int} (hu:upK ks) (hm:m ∈ ks) (hmin:∀ k ∈ ks,k=m\/befB m k=true):∃ ks',ks=m::ks'/\upK ks'/\∀ k,k ∈ ks'↔k ∈ ks/\k≠m:=by
 cases ks with
 | nil=>cases hm
 | cons k ks'=>
  have hp:=eI.1 hu
  have e:k=m:=by
   rcases hmin k bB with e | h
   ·exact e
   ·rcases aS.1 hm with e | hm
    ·exact e.symm
    ·have:=hp.1 m hm;rw[befB_asym h] at this;cases this
  subst e;refine ⟨ks',rfl,hp.2,fun q=>⟨fun hq=>⟨aR _ hq,fun e=>?_⟩,fun ⟨hq,hne⟩=>?_⟩⟩
  ·subst e;have:=hp.1 q hq;rw[befB_irr] at this;cases this
  ·rcases aS.1 hq with e | hq
   ·exact absurd e hne
   ·exact hq
theorem mrg_eq:∀ (n:Nat) (B A:List Row) (ks:List (Int×Int)),up B->up A->upK ks->(∀ k,k ∈ ks↔keysOf2 B A k)->B.length+A.length<=n->mrg n B A=ks.filterMap fun k=>chg (look B k) (look A k):=by
 intro n
 induction n with
 | zero=>
  intro B A ks _ _ _ hk hl;obtain rfl:B=[]:=bE (by omega);obtain rfl:A=[]:=bE (by omega)
  cases ks with
  | nil=>rfl
  | cons k ks=>rcases (hk k).1 bB with ⟨_,h,_⟩ | ⟨_,h,_⟩ <;> cases h
 | succ n ih=>
  intro B A ks hB hA hks hk hl
  cases B with
  | nil=>
   cases A with
   | nil=>
    cases ks with
    | nil=>rfl
    | cons k ks=>rcases (hk k).1 bB with ⟨_,h,_⟩ | ⟨_,h,_⟩ <;> cases h
   | cons b bs=>
    have hA2:=up_cons.1 hA
    obtain ⟨ks',rfl,g1,g2⟩:=head_key (m:=rk b) hks ((hk _).2 (.inr ⟨b,bB,rfl⟩)) (fun k hk'=>by
     rcases (hk k).1 hk' with ⟨_,h,_⟩ | ⟨y,h,rfl⟩
     ·cases h
     ·rcases aS.1 h with rfl | h
      ·exact .inl rfl
      ·exact .inr (hA2.1 y h))
    have hk':∀ k,k ∈ ks'↔keysOf2 [] bs k:=fun k=>by
     rw[g2,hk];constructor
     ·rintro ⟨⟨_,h,_⟩ | ⟨y,h,rfl⟩,hne⟩
      ·cases h
      ·rcases aS.1 h with rfl | h
       ·exact absurd rfl hne
       ·exact .inr ⟨y,h,rfl⟩
     ·rintro (⟨_,h,_⟩ | ⟨y,h,rfl⟩)
      ·cases h
      ·exact ⟨.inr ⟨y,aR _ h,rfl⟩,fun e=>by have:=hA2.1 y h;rw[e,befB_irr] at this;cases this⟩
    have hlt:∀ k ∈ ks',befB (rk b) k=true:=fun k hm=>by
     rcases (hk' k).1 hm with ⟨_,h,_⟩ | ⟨y,h,rfl⟩
     ·cases h
     ·exact hA2.1 y h
    simp only[mrg,cX,look_self];rw[show look ([]:List Row) (rk b)=none from rfl];simp only[chg_l,chg_r];rw[ih [] bs ks' hB hA2.2 g1 hk' (by simp at hl ⊢;omega)];congr 1;refine filterMap_congr' fun k h=>?_;rw[look_lt (hlt k h)]
  | cons a al=>
   have hB2:=up_cons.1 hB
   cases A with
   | nil=>
    obtain ⟨ks',rfl,g1,g2⟩:=head_key (m:=rk a) hks ((hk _).2 (.inl ⟨a,bB,rfl⟩)) (fun k hk'=>by
     rcases (hk k).1 hk' with ⟨y,h,rfl⟩ | ⟨_,h,_⟩
     ·rcases aS.1 h with rfl | h
      ·exact .inl rfl
      ·exact .inr (hB2.1 y h)
     ·cases h)
    have hk':∀ k,k ∈ ks'↔keysOf2 al [] k:=fun k=>by
     rw[g2,hk];constructor
     ·rintro ⟨⟨y,h,rfl⟩ | ⟨_,h,_⟩,hne⟩
      ·rcases aS.1 h with rfl | h
       ·exact absurd rfl hne
       ·exact .inl ⟨y,h,rfl⟩
      ·cases h
     ·rintro (⟨y,h,rfl⟩ | ⟨_,h,_⟩)
      ·exact ⟨.inl ⟨y,aR _ h,rfl⟩,fun e=>by have:=hB2.1 y h;rw[e,befB_irr] at this;cases this⟩
      ·cases h
    have hlt:∀ k ∈ ks',befB (rk a) k=true:=fun k hm=>by
     rcases (hk' k).1 hm with ⟨y,h,rfl⟩ | ⟨_,h,_⟩
     ·exact hB2.1 y h
     ·cases h
    simp only[mrg,cX,look_self];rw[show look ([]:List Row) (rk a)=none from rfl];simp only[chg_l,chg_r];rw[ih al [] ks' hB2.2 hA g1 hk' (by simp at hl ⊢;omega)];congr 1;refine filterMap_congr' fun k h=>?_;rw[look_lt (hlt k h)]
   | cons b bs=>
    have hA2:=up_cons.1 hA;by_cases h1:befB (rk a) (rk b)=true
    ·have hbl:∀ y ∈ b::bs,befB (rk a) (rk y)=true:=fun y h=>by
      rcases aS.1 h with rfl | h
      ·exact h1
      ·exact befB_trans h1 (hA2.1 y h)
     obtain ⟨ks',rfl,g1,g2⟩:=head_key (m:=rk a) hks ((hk _).2 (.inl ⟨a,bB,rfl⟩)) (fun k hk'=>by
      rcases (hk k).1 hk' with ⟨y,h,rfl⟩ | ⟨y,h,rfl⟩
      ·rcases aS.1 h with rfl | h
       ·exact .inl rfl
       ·exact .inr (hB2.1 y h)
      ·exact .inr (hbl y h))
     have hk':∀ k,k ∈ ks'↔keysOf2 al (b::bs) k:=fun k=>by
      rw[g2,hk];constructor
      ·rintro ⟨⟨y,h,rfl⟩ | ⟨y,h,rfl⟩,hne⟩
       ·rcases aS.1 h with rfl | h
        ·exact absurd rfl hne
        ·exact .inl ⟨y,h,rfl⟩
       ·exact .inr ⟨y,h,rfl⟩
      ·rintro (⟨y,h,rfl⟩ | ⟨y,h,rfl⟩)
       ·exact ⟨.inl ⟨y,aR _ h,rfl⟩,fun e=>by have:=hB2.1 y h;rw[e,befB_irr] at this;cases this⟩
       ·exact ⟨.inr ⟨y,h,rfl⟩,fun e=>by have:=hbl y h;rw[e,befB_irr] at this;cases this⟩
     have hlt:∀ k ∈ ks',befB (rk a) k=true:=fun k hm=>by
      rcases (hk' k).1 hm with ⟨y,h,rfl⟩ | ⟨y,h,rfl⟩
      ·exact hB2.1 y h
      ·exact hbl y h
     simp only[mrg,h1,aH,cX,look_self,look_gt hA h1,chg_l];rw[ih al (b::bs) ks' hB2.2 hA g1 hk' (by simp at hl ⊢;omega)];congr 1;refine filterMap_congr' fun k h=>?_;rw[look_lt (hlt k h)]
    ·have h1':befB (rk a) (rk b)=false:=by simpa using h1
     by_cases h2:befB (rk b) (rk a)=true
     ·have hbl:∀ y ∈ a::al,befB (rk b) (rk y)=true:=fun y h=>by
       rcases aS.1 h with rfl | h
       ·exact h2
       ·exact befB_trans h2 (hB2.1 y h)
      obtain ⟨ks',rfl,g1,g2⟩:=head_key (m:=rk b) hks ((hk _).2 (.inr ⟨b,bB,rfl⟩)) (fun k hk'=>by
       rcases (hk k).1 hk' with ⟨y,h,rfl⟩ | ⟨y,h,rfl⟩
       ·exact .inr (hbl y h)
       ·rcases aS.1 h with rfl | h
        ·exact .inl rfl
        ·exact .inr (hA2.1 y h))
      have hk':∀ k,k ∈ ks'↔keysOf2 (a::al) bs k:=fun k=>by
       rw[g2,hk];constructor
       ·rintro ⟨⟨y,h,rfl⟩ | ⟨y,h,rfl⟩,hne⟩
        ·exact .inl ⟨y,h,rfl⟩
        ·rcases aS.1 h with rfl | h
         ·exact absurd rfl hne
         ·exact .inr ⟨y,h,rfl⟩
       ·rintro (⟨y,h,rfl⟩ | ⟨y,h,rfl⟩)
        ·exact ⟨.inl ⟨y,h,rfl⟩,fun e=>by have:=hbl y h;rw[e,befB_irr] at this;cases this⟩
        ·exact ⟨.inr ⟨y,aR _ h,rfl⟩,fun e=>by have:=hA2.1 y h;rw[e,befB_irr] at this;cases this⟩
      have hlt:∀ k ∈ ks',befB (rk b) k=true:=fun k hm=>by
       rcases (hk' k).1 hm with ⟨y,h,rfl⟩ | ⟨y,h,rfl⟩
       ·exact hbl y h
       ·exact hA2.1 y h
      simp only[mrg,h1',h2,aH,aD,aM,cX,look_self,look_gt hB h2,chg_r];rw[ih (a::al) bs ks' hB hA2.2 g1 hk' (by simp at hl ⊢;omega)];congr 1;refine filterMap_congr' fun k h=>?_;rw[look_lt (x:=b) (hlt k h)]
     ·have h2':befB (rk b) (rk a)=false:=by simpa using h2
      have hab:rk a=rk b:=befB_tri h1' h2';have hbl:∀ y ∈ bs,befB (rk a) (rk y)=true:=fun y h=>by rw[hab];exact hA2.1 y h
      obtain ⟨ks',rfl,g1,g2⟩:=head_key (m:=rk a) hks ((hk _).2 (.inl ⟨a,bB,rfl⟩)) (fun k hk'=>by
       rcases (hk k).1 hk' with ⟨y,h,rfl⟩ | ⟨y,h,rfl⟩
       ·rcases aS.1 h with rfl | h
        ·exact .inl rfl
        ·exact .inr (hB2.1 y h)
       ·rcases aS.1 h with rfl | h
        ·exact .inl hab.symm
        ·exact .inr (hbl y h))
      have hk':∀ k,k ∈ ks'↔keysOf2 al bs k:=fun k=>by
       rw[g2,hk];constructor
       ·rintro ⟨⟨y,h,rfl⟩ | ⟨y,h,rfl⟩,hne⟩
        ·rcases aS.1 h with rfl | h
         ·exact absurd rfl hne
         ·exact .inl ⟨y,h,rfl⟩
        ·rcases aS.1 h with rfl | h
         ·exact absurd hab.symm hne
         ·exact .inr ⟨y,h,rfl⟩
       ·rintro (⟨y,h,rfl⟩ | ⟨y,h,rfl⟩)
        ·exact ⟨.inl ⟨y,aR _ h,rfl⟩,fun e=>by have:=hB2.1 y h;rw[e,befB_irr] at this;cases this⟩
        ·exact ⟨.inr ⟨y,aR _ h,rfl⟩,fun e=>by have:=hbl y h;rw[e,befB_irr] at this;cases this⟩
      have hlt:∀ k ∈ ks',befB (rk a) k=true:=fun k hm=>by
       rcases (hk' k).1 hm with ⟨y,h,rfl⟩ | ⟨y,h,rfl⟩
       ·exact hB2.1 y h
       ·exact hbl y h
      have hih:=ih al bs ks' hB2.2 hA2.2 g1 hk' (by simp at hl ⊢;omega)
      have htail:(ks'.filterMap fun k=>chg (look (a::al) k) (look (b::bs) k))=ks'.filterMap fun k=>chg (look al k) (look bs k):=filterMap_congr' fun k h=>by
       rw[look_lt (hlt k h),look_lt (by rw[<-hab];exact hlt k h)]
      have hlb:look (b::bs) (rk a)=some b:=by rw[hab];exact look_self
      simp only[mrg,h1',h2',aD,aM,cX,look_self,hlb,chg_b];rw[htail,<- hih];by_cases h3:Ty.eq tRow a b=true
      ·simp[h3]
      ·simp[h3]
theorem mrg_fuel:∀ (n m:Nat) (B A:List Row),B.length+A.length<=n->B.length+A.length<=m->mrg n B A=mrg m B A:=by
 intro n
 induction n with
 | zero=>
  intro m B A h _;obtain rfl:B=[]:=bE (by omega);obtain rfl:A=[]:=bE (by omega);cases m <;> rfl
 | succ n ih=>
  intro m B A h1 h2
  cases m with
  | zero=>
   obtain rfl:B=[]:=bE (by omega);obtain rfl:A=[]:=bE (by omega);rfl
  | succ m=>
   cases B with
   | nil=>
    cases A with
    | nil=>rfl
    | cons b bs=>simp only[mrg];rw[ih m [] bs (by simp at h1 ⊢;omega) (by simp at h2 ⊢;omega)]
   | cons a al=>
    cases A with
    | nil=>simp only[mrg];rw[ih m al [] (by simp at h1 ⊢;omega) (by simp at h2 ⊢;omega)]
    | cons b bs=>
     simp only[mrg];rw[ih m al (b::bs) (by simp at h1 ⊢;omega) (by simp at h2 ⊢;omega),ih m (a::al) bs (by simp at h1 ⊢;omega) (by simp at h2 ⊢;omega),ih m al bs (by simp at h1 ⊢;omega) (by simp at h2 ⊢;omega)]
def mrgF (B A:List Row):List Change:=mrg (B.length+A.length) B A
theorem mrgF_nil:mrgF [] []=[]:=rfl
theorem mrgF_r (b:Row) (bs:List Row):mrgF [] (b::bs)=(false,row9,true,b,())::mrgF [] bs:=by
 unfold mrgF;rw[mrg_fuel _ (([]:List Row).length+bs.length+1) [] (b::bs) (aK _) (by simp)];rfl
theorem mrgF_l (a:Row) (al:List Row):mrgF (a::al) []=(true,a,false,row9,())::mrgF al []:=by
 unfold mrgF;rw[mrg_fuel _ (al.length+([]:List Row).length+1) (a::al) [] (aK _) (by simp)];rfl
theorem mrgF_c (a b:Row) (al bs:List Row):mrgF (a::al) (b::bs)=if befB (rk a) (rk b) then (true,a,false,row9,())::mrgF al (b::bs) else
  if befB (rk b) (rk a) then (false,row9,true,b,())::mrgF (a::al) bs else if Ty.eq tRow a b then mrgF al bs else (true,a,true,b,())::mrgF al bs:=by
 unfold mrgF;rw[mrg_fuel _ (al.length+bs.length+1+1) (a::al) (b::bs) (aK _) (by simp;omega)];simp only[mrg];rw[mrg_fuel (al.length+bs.length+1) (al.length+(b::bs).length) al (b::bs) (by simp;omega) (aK _),mrg_fuel (al.length+bs.length+1) ((a::al).length+bs.length) (a::al) bs (by simp;omega) (aK _),mrg_fuel (al.length+bs.length+1) (al.length+bs.length) al bs (by omega) (aK _)]
theorem mrgF_len:∀ (n:Nat) (B A:List Row),(mrg n B A).length<=n
 | 0,_,_=>aK _
 | n+1,[],[]=>aW _
 | n+1,[],b::bs=>by simp only[mrg,aP];have:=mrgF_len n [] bs;omega
 | n+1,a::al,[]=>by simp only[mrg,aP];have:=mrgF_len n al [];omega
 | n+1,a::al,b::bs=>by
  simp only[mrg];have h1:=mrgF_len n al (b::bs);have h2:=mrgF_len n (a::al) bs;have h3:=mrgF_len n al bs
  split
  ·simp only[aP];omega
  ·split
   ·simp only[aP];omega
   ·split
    ·omega
    ·simp only[aP];omega
theorem mrg_rows {q:Row->Prop} (h0:q row9):∀ (n:Nat) (B A:List Row),(∀ x ∈ B,q x)->(∀ x ∈ A,q x)->∀ c ∈ mrg n B A,q c.2.1/\q c.2.2.2.1
 | 0,_,_,_,_=>fun _ h=>by cases h
 | n+1,[],[],_,_=>fun _ h=>by cases h
 | n+1,[],b::bs,hB,hA=>fun c h=>by
  rcases aS.1 h with rfl | h
  ·exact ⟨h0,hA b bB⟩
  ·exact mrg_rows h0 n [] bs hB (fun x hx=>hA x (aR _ hx)) c h
 | n+1,a::al,[],hB,hA=>fun c h=>by
  rcases aS.1 h with rfl | h
  ·exact ⟨hB a bB,h0⟩
  ·exact mrg_rows h0 n al [] (fun x hx=>hB x (aR _ hx)) hA c h
 | n+1,a::al,b::bs,hB,hA=>fun c h=>by
  have ha:=hB a bB;have hb:=hA b bB
  have hB':∀ x ∈ al,q x:=fun x hx=>hB x (aR _ hx);have hA':∀ x ∈ bs,q x:=fun x hx=>hA x (aR _ hx);simp only[mrg] at h;split at h
  ·rcases aS.1 h with rfl | h
   ·exact ⟨ha,h0⟩
   ·exact mrg_rows h0 n al (b::bs) hB' hA c h
  ·split at h
   ·rcases aS.1 h with rfl | h
    ·exact ⟨h0,hb⟩
    ·exact mrg_rows h0 n (a::al) bs hB hA' c h
   ·split at h
    ·exact mrg_rows h0 n al bs hB' hA' c h
    ·rcases aS.1 h with rfl | h
     ·exact ⟨ha,hb⟩
     ·exact mrg_rows h0 n al bs hB' hA' c h
theorem implBetween_eq (B A:List Row) (hB:B.length<=1000) (hA:A.length<=1000):impl_between.sem (B,A,())=some (mrgF B A,()):=by
 refine lift_eq (k:=2001) fun k hk=>(impl_between.raw_eq k _).trans ?_
 have:=rawIter_eq (B:=fun self v=>impl_between.b0 self (fun z=>impl_between.q0 (B,A,()) z) (B,A,()) v) (fun v=>(v.2.2++mrgF v.1 v.2.1,()))
  (fun v=>v.2.2.length+(v.1.length+v.2.1.length)<=2000) (fun v=>v.1.length+v.2.1.length) (fun v hv self=>?_) k (B,A,[]) (by simp;omega) (by simp;omega)
 ·exact this
 obtain ⟨al,bs,out⟩:=v;simp only at hv;have hcap:out.length+1<=CAP:=cap_ok (by omega)
 cases al with
 | nil=>
  cases bs with
  | nil=>left;show impl_between.b0 _ _ _ _=_;simp[impl_between.b0,impl_between.q0,impl_between.q0,mrgF_nil]
  | cons b bs=>
   right;refine ⟨([],bs,out++[(false,row9,true,b,())]),?_,?_,?_,by simp⟩
   ·show impl_between.b0 _ _ _ _=_;have h1:(0:Int) < (bs.length:Int)+1:=by omega
    have h2:(1:Int)<=(bs.length:Int)+1:=by omega
    simp[impl_between.b0,hcap,h1,h2]
   ·simp[mrgF_r]
   ·simp at hv ⊢;omega
 | cons a al=>
  have h1:(0:Int) < (al.length:Int)+1:=by omega
  have h2:(1:Int)<=(al.length:Int)+1:=by omega
  have h3:¬ ((al.length:Int)+1=0):=by omega
  cases bs with
  | nil=>
   right;refine ⟨(al,[],out++[(true,a,false,row9,())]),?_,?_,?_,by simp⟩
   ·show impl_between.b0 _ _ _ _=_;simp[impl_between.b0,hcap,h1,h2,h3]
   ·simp[mrgF_l]
   ·simp at hv ⊢;omega
  | cons b bs=>
   have h4:(0:Int) < (bs.length:Int)+1:=by omega
   have h5:(1:Int)<=(bs.length:Int)+1:=by omega
   have h6:¬ ((bs.length:Int)+1=0):=by omega
   right;have hk1:befB (a.1,a.2.1) (b.1,b.2.1)=befB (rk a) (rk b):=rfl;have hk2:befB (b.1,b.2.1) (a.1,a.2.1)=befB (rk b) (rk a):=rfl
   cases hc1:befB (rk a) (rk b) with
   | true=>
    refine ⟨(al,b::bs,out++[(true,a,false,row9,())]),?_,?_,?_,by simp⟩
    ·show impl_between.b0 _ _ _ _=_;simp[impl_between.b0,order_eq,hk1,hk2,hc1,hcap,h1,h2,h3,h4,h5,h6]
    ·simp[mrgF_c,hc1]
    ·simp at hv ⊢;omega
   | false=>
    cases hc2:befB (rk b) (rk a) with
    | true=>
     refine ⟨(a::al,bs,out++[(false,row9,true,b,())]),?_,?_,?_,by simp⟩
     ·show impl_between.b0 _ _ _ _=_;simp[impl_between.b0,order_eq,hk1,hk2,hc1,hc2,hcap,h1,h2,h3,h4,h5,h6]
     ·simp[mrgF_c,hc1,hc2]
     ·simp at hv ⊢;omega
    | false=>
     cases hc3:Ty.eq tRow a b with
     | true=>
      refine ⟨(al,bs,out),?_,?_,?_,by simp;omega⟩
      ·show impl_between.b0 _ _ _ _=_;simp[impl_between.b0,order_eq,hk1,hk2,hc1,hc2,hc3,hcap,h1,h2,h3,h4,h5,h6]
      ·simp[mrgF_c,hc1,hc2,hc3]
      ·simp at hv ⊢;omega
     | false=>
      refine ⟨(al,bs,out++[(true,a,true,b,())]),?_,?_,?_,by simp;omega⟩
      ·show impl_between.b0 _ _ _ _=_;simp[impl_between.b0,order_eq,hk1,hk2,hc1,hc2,hc3,hcap,h1,h2,h3,h4,h5,h6]
      ·simp[mrgF_c,hc1,hc2,hc3]
      ·simp at hv ⊢;omega
def keyS (B A:List Row):List Row:=A.foldl (fun ks x=>if fnd B (rk x) then ks else put1 ks x) B
theorem put1_mem (ks:List Row) (r y:Row):y ∈ put1 ks r↔y=r\/y ∈ ks:=by
 unfold put1;simp only[cM,bV];have h:y ∈ ks↔y ∈ ks.take (pos ks (rk r))\/y ∈ ks.drop (pos ks (rk r)):=by rw[<-cM,cO]
 rw[h];constructor
 ·rintro ((h | h) | h)
  ·exact .inr (.inl h)
  ·exact .inl h
  ·exact .inr (.inr h)
 ·rintro (h | h | h)
  ·exact .inl (.inr h)
  ·exact .inl (.inl h)
  ·exact .inr h
theorem put1_up {ks:List Row} {r:Row} (hu:up ks) (hn:∀ y ∈ ks,rk y≠rk r):up (put1 ks r):=by
 have hp:=pos_le ks (rk r);have h1:∀ y ∈ ks.take (pos ks (rk r)),befB (rk y) (rk r)=true:=fun y hy=>take_bef hy
 have h2:∀ y ∈ ks.drop (pos ks (rk r)),befB (rk r) (rk y)=true:=fun y hy=>by
  obtain ⟨i,hi,rfl⟩:=dH.1 hy;rw[bM] at hi;have h3:=up_not ks (rk r) (pos ks (rk r)+i) (by omega) hu (by omega);rw[jF]
  cases hb:befB (rk r) (rk ks[pos ks (rk r)+i]) with
  | true=>rfl
  | false=>exact absurd (befB_tri h3 hb) (hn _ (bC _))
 unfold put1 up;have hu':(ks.take (pos ks (rk r))++ks.drop (pos ks (rk r))).Pairwise (fun a b=>befB (rk a) (rk b)=true):=by rw[cO];exact hu
 obtain ⟨p1,p2,p3⟩:=gL.1 hu';refine gL.2 ⟨gL.2 ⟨p1,gX _ _,fun a ha b hb=>?_⟩,p2,fun a ha b hb=>?_⟩
 ·rw[bV] at hb;subst hb;exact h1 a ha
 ·rcases cM.1 ha with ha | ha
  ·exact p3 a ha b hb
  ·rw[bV] at ha;subst ha;exact h2 b hb
theorem fnd_iff {xs:List Row} {k:Int×Int} (hu:up xs):fnd xs k=true↔∃ y ∈ xs,rk y=k:=by
 constructor
 ·exact fnd_mem
 ·rintro ⟨y,hy,hk⟩
  cases hf:fnd xs k with
  | true=>rfl
  | false=>
   exfalso;obtain ⟨i,hi,rfl⟩:=dH.1 hy;have hle:=pos_le xs k;rcases cB i (pos xs k) with h | h
   ·have:=pos_lt xs k i hi h;rw[hk,befB_irr] at this;cases this
   ·have h1:pos xs k < xs.length:=by omega
    have h2:=up_not xs k (pos xs k) h1 hu (aK _);rcases cB (pos xs k) i with h3 | h3
    ·have:=jD.1 hu _ _ h1 hi h3;rw[hk] at this;rw[this] at h2;cases h2
    ·have e:i=pos xs k:=by omega
     subst e;unfold fnd at hf;rw[aA h1] at hf;simp[hk] at hf
theorem keyS_facts (B:List Row) (hB:up B):∀ (A:List Row) (ks:List Row),up ks->A.Pairwise (fun a b=>befB (rk a) (rk b)=true)->(∀ x ∈ B,x ∈ ks)->(∀ y ∈ A,∀ x ∈ ks,rk x=rk y->∃ z ∈ B,rk z=rk y) ->
  up (A.foldl (fun ks x=>if fnd B (rk x) then ks else put1 ks x) ks)/\(A.foldl (fun ks x=>if fnd B (rk x) then ks else put1 ks x) ks).length<=ks.length+A.length /\
  ∀ k,(∃ x ∈ A.foldl (fun ks x=>if fnd B (rk x) then ks else put1 ks x) ks,rk x=k)↔((∃ x ∈ ks,rk x=k)\/∃ y ∈ A,rk y=k)
 | [],ks,hu,_,_,_=>⟨hu,by simp,fun k=>by simp⟩
 | y::A,ks,hu,hA,hsub,hne=>by
  have hA2:=eI.1 hA;rw[fL];by_cases hf:fnd B (rk y)=true
  ·rw[aV hf];obtain ⟨h1,h2,h3⟩:=keyS_facts B hB A ks hu hA2.2 hsub (fun z hz=>hne z (aR _ hz));refine ⟨h1,by rw[aP];omega,fun k=>?_⟩
   rw[h3];constructor
   ·rintro (h | ⟨z,h,e⟩)
    ·exact .inl h
    ·exact .inr ⟨z,aR _ h,e⟩
   ·rintro (h | ⟨z,h,e⟩)
    ·exact .inl h
    ·rcases aS.1 h with rfl | h
     ·obtain ⟨x,hx,hxk⟩:=fnd_mem hf;exact .inl ⟨x,hsub x hx,by rw[hxk,e]⟩
     ·exact .inr ⟨z,h,e⟩
  ·rw[aY hf];have hnew:∀ x ∈ ks,rk x≠rk y:=fun x hx e=>hf ((fnd_iff hB).2 (hne y bB x hx e))
   obtain ⟨h1,h2,h3⟩:=keyS_facts B hB A (put1 ks y) (put1_up hu hnew) hA2.2 (fun x hx=>(put1_mem ks y x).2 (.inr (hsub x hx))) (fun z hz x hx e=>by
    rcases (put1_mem ks y x).1 hx with rfl | hx
    ·have:=hA2.1 z hz;rw[e,befB_irr] at this;cases this
    ·exact hne z (aR _ hz) x hx e)
   refine ⟨h1,?_,fun k=>?_⟩
   ·have:(put1 ks y).length=ks.length+1:=by unfold put1;simp;have:=pos_le ks (rk y);omega
    rw[aP];omega
   ·rw[h3];constructor
    ·rintro (⟨x,h,e⟩ | ⟨z,h,e⟩)
     ·rcases (put1_mem ks y x).1 h with rfl | h
      ·exact .inr ⟨x,bB,e⟩
      ·exact .inl ⟨x,h,e⟩
     ·exact .inr ⟨z,aR _ h,e⟩
    ·rintro (⟨x,h,e⟩ | ⟨z,h,e⟩)
     ·exact .inl ⟨x,(put1_mem ks y x).2 (.inr h),e⟩
     ·rcases aS.1 h with rfl | h
      ·exact .inl ⟨z,(put1_mem ks z z).2 (.inl rfl),e⟩
      ·exact .inr ⟨z,h,e⟩
theorem keyS_mrg {B A:List Row} (hB:up B) (hA:up A):up (keyS B A)/\(keyS B A).length<=B.length+A.length/\(keyS B A).filterMap (fun x=>chg (look B (rk x)) (look A (rk x)))=mrgF B A:=by
 obtain ⟨h1,h2,h3⟩:=keyS_facts B hB A B hB hA (fun _ h=>h) (fun y _ x hx e=>⟨x,hx,e⟩);refine ⟨h1,h2,?_⟩
 have hp:upK ((keyS B A).map rk):=hJ.2 h1;unfold mrgF;rw[mrg_eq _ B A ((keyS B A).map rk) hB hA hp (fun k=>?_) (aK _),List.filterMap_map]
 ·rfl
 ·rw[gO];exact h3 k
theorem take_foldl2 {α β:Type} (g:β->α->β) (xs:List α) (i:Nat) (hi:i < xs.length) (s:β):(xs.take (i+1)).foldl g s=g ((xs.take i).foldl g s) xs[i]:=by
 rw[eU hi,List.foldl_append];rfl
def addO {β:Type} (s:List β):Option β->List β
 | some y=>s++[y]
 | none=>s
theorem fold_opt {α β:Type} (f:α->Option β):∀ (xs:List α) (s:List β),xs.foldl (fun s x=>addO s (f x)) s=s++xs.filterMap f
 | [],s=>by simp
 | x::xs,s=>by
  rw[fL,fold_opt f xs,cX];cases f x <;> simp[addO]
theorem look_some {xs:List Row} {k:Int×Int} (h:fnd xs k=true):∃ hp:pos xs k < xs.length,look xs k=some xs[pos xs k]:=by
 obtain ⟨hp,_⟩:=fnd_lt h;exact ⟨hp,by rw[look,h,aV rfl,aA hp]⟩
theorem specChanges_eq (B A:List Row) (hB:up B) (hA:up A) (hBl:B.length<=1000) (hAl:A.length<=1000):spec_l6Changes.sem (B,A,())=some (mrgF B A,()):=by
 obtain ⟨hu,hlen,hmrg⟩:=keyS_mrg hB hA;refine lift_eq (k:=2001) fun k hk=>(spec_l6Changes.raw_eq k _).trans ?_;unfold spec_l6Changes.p;rw[aV (cap_ok (by simp only[aZ];omega)),cH]
 have h1:=for_loop (B:=fun self v=>spec_l6Changes.b0 self (fun z=>spec_l6Changes.Q0 k (B,A,()) z) (B,A,()) v) A (fun (s:List Row) (i:Int)=>(s,i)) (fun _ s x=>.inr (if fnd B (rk x) then s else put1 s x)) (fun s=>(s.filterMap (fun x=>chg (look B (rk x)) (look A (rk x))),()))
  (fun i s=>s=(A.take i).foldl (fun ks x=>if fnd B (rk x) then ks else put1 ks x) B/\s.length<=B.length+i) (by rw[maxLen_val];omega)
  (fun i hi s self hI=>by
   show spec_l6Changes.b0 _ _ _ _=_;unfold spec_l6Changes.b0;have hlt:(i:Int) < (A.length:Int):=by omega
   simp only[hlt,aE,aL,aN,aH,aI,aA hi,aB,specAt_eq B _ _ hB (by omega)];have hr:((A[i]).1,(A[i]).2.1)=rk A[i]:=rfl;rw[hr];unfold atI
   cases hf:fnd B (rk A[i]) with
   | true=>
    have:¬ ((pos B (rk A[i]):Nat):Int) < 0:=by omega
    simp only[aH,this,aF,aG]
   | false=>
    simp only[aD,aM,show ((-1:Int) < 0) from by decide,aE,aL,specPut_eq s _ (by omega),aB])
  (fun i hi s s' hI hf=>by
   injection hf with hf;subst hf;obtain ⟨e,hl⟩:=hI;refine ⟨?_,?_⟩
   ·rw[take_foldl2 _ A i hi,<- e]
   ·split
    ·omega
    ·unfold put1;simp;have:=pos_le s (rk A[i]);omega) (fun s self hI=>by
   show spec_l6Changes.b0 _ _ _ _=_;unfold spec_l6Changes.b0;simp only[bP,aF,aG];obtain ⟨e,hl⟩:=hI;rw[eQ] at e;have hs:s=keyS B A:=e;show spec_l6Changes.r1 k (B,A,()) s ([],0)=_
   have h2:=for_loop (B:=fun self v=>spec_l6Changes.b1 self (fun z=>spec_l6Changes.q1 (B,A,()) s z) (B,A,()) s v) s (fun (s:List Change) (i:Int)=>(s,i)) (fun _ s x=>.inr (addO s (chg (look B (rk x)) (look A (rk x))))) (fun s=>(s,()))
    (fun i s=>s.length<=i) (by rw[maxLen_val];omega)
    (fun i hi t self hI=>by
     show spec_l6Changes.b1 _ _ _ _ _=_;unfold spec_l6Changes.b1;have hlt:(i:Int) < (s.length:Int):=by omega
     have hcap:∀ y:Change,t.length+[y].length<=CAP:=fun y=>cap_ok (by simp only[aP,aZ];omega);have hat:∀ xs:List Row,up xs->xs.length<=1000->spec_l6At.sem (xs,(s[i]).1,(s[i]).2.1,())=some (atI xs (rk s[i]),()):=fun xs h1 h2=>specAt_eq xs _ _ h1 (by omega);simp only[hlt,aE,aL,aN,dZ,aH,aI,aA hi,aB,hat B hB hBl,hat A hA hAl];unfold atI
     cases hf1:fnd B (rk s[i]) with
     | true=>
      obtain ⟨hp1,e1⟩:=look_some hf1
      cases hf2:fnd A (rk s[i]) with
      | true=>
       obtain ⟨hp2,e2⟩:=look_some hf2;simp only[aH,aN,aE,aL,aI,aA hp1,aA hp2,aB,e1,e2,chg,hcap,addO];cases Ty.eq tRow B[pos B (rk s[i])] A[pos A (rk s[i])] <;> rfl
      | false=>
       have e2:look A (rk s[i])=none:=by rw[look,hf2];rfl
       simp only[aH,aD,aM,aN,aE,aL,show ¬ ((0:Int)<=-1) from by decide,aF,aG,aI,aA hp1,aB,e1,e2,chg,hcap,addO]
     | false=>
      have e1:look B (rk s[i])=none:=by rw[look,hf1];rfl
      have hf2:fnd A (rk s[i])=true:=by
       have hm:=(keyS_facts B hB A B hB hA (fun _ h=>h) (fun y _ x hx e=>⟨x,hx,e⟩)).2.2 (rk s[i]);rcases hm.1 ⟨s[i],by show s[i] ∈ keyS B A;rw[<-hs];exact bC _,rfl⟩ with h | h
       ·rw[(fnd_iff hB).2 h] at hf1;cases hf1
       ·exact (fnd_iff hA).2 h
      obtain ⟨hp2,e2⟩:=look_some hf2
      simp only[hf2,aH,aD,aM,aN,aE,aL,show ¬ ((0:Int)<=-1) from by decide,aF,aG,aI,aA hp2,aB,e1,e2,chg,hcap,addO])
    (fun i hi t t' hI hf=>by
     injection hf with hf;subst hf
     cases chg (look B (rk s[i])) (look A (rk s[i])) with
     | none=>show t.length<=_;omega
     | some y=>show (t++[y]).length<=_;rw[aU,aP,aZ];omega) (fun t self _=>by
     show spec_l6Changes.b1 _ _ _ _ _=_;unfold spec_l6Changes.b1;simp only[bP,aF,aG]
     rfl) [] (by simp) k (by rw[hs];omega)
   rw[forI_fold,fold_opt,cH] at h2
   exact h2) B ⟨rfl,by omega⟩ k (by omega)
 rw[forI_fold] at h1;have h1:spec_l6Changes.r0 k (B,A,()) (B,0)=some ((keyS B A).filterMap (fun x=>chg (look B (rk x)) (look A (rk x))),()):=h1;rw[h1,hmrg]
end OT
namespace OT
open Go
theorem forI_none {α:Type} {f:Nat->Unit->α->Sum (Int×Unit) Unit} (hf:∀ i s x o,f i s x=.inl o->o.1≠0):∀ (xs:List α) (j:Nat),(forI f (fun _=>((0:Int),())) j xs ()).1=0->∀ i (hi:i < xs.length),f (j+i) () xs[i]=.inr ()
 | x::xs,j,h,i,hi=>by
  simp only[forI] at h
  cases hx:f j () x with
  | inl o=>rw[hx] at h;exact absurd h (hf _ _ _ _ hx)
  | inr u=>
   rw[hx] at h
   cases i with
   | zero=>exact hx
   | succ i=>
    have:=forI_none hf xs (j+1) h i (by simpa using hi);rw[show j+(i+1)=j+1+i by omega];exact this
theorem up_adj:∀ (xs:List Row),(∀ i (hi:i < xs.length),0 < i->befB (rk (xs[i - 1]'(by omega))) (rk xs[i])=true)->up xs
 | [],_=>List.Pairwise.nil
 | [x],_=>gX _ _
 | x::y::xs,h=>by
  have hu:up (y::xs):=up_adj (y::xs) fun i hi h0=>by
   have:=h (i+1) (by simp at hi ⊢;omega) (by omega);simp only[Nat.add_sub_cancel] at this
   have e:(x::y::xs)[i]'(by simp at hi ⊢;omega)=(y::xs)[i - 1]'(by simp at hi ⊢;omega):=by
    cases i with
    | zero=>omega
    | succ i=>rfl
   rw[e] at this;exact this
  have hxy:befB (rk x) (rk y)=true:=h 1 (by simp) (by omega);refine up_cons.2 ⟨fun z hz=>?_,hu⟩;rcases aS.1 hz with rfl | hz
  ·exact hxy
  ·exact befB_trans hxy ((up_cons.1 hu).1 z hz)
structure Good (xs:List Row):Prop where
 up:up xs
 ok:∀ x ∈ xs,rowF x=0
end OT
namespace OT
open Go
theorem ahead_eq (c d:Change):spec_l9Ahead.sem (c,d,())=some (befB (ck c) (ck d),()):=by
 refine lift_eq (k:=0) fun k _=>(spec_l9Ahead.raw_eq k _).trans ?_;show spec_l9Ahead.p _=_;unfold spec_l9Ahead.p befB;simp only[specKey_eq,aB];by_cases h1:(ck c).1 < (ck d).1 <;> by_cases h2:(ck c).1=(ck d).1 <;> simp[h1,h2]
def foldStep (xs:List Change) (i:Nat) (x:Change):Sum (Int×Unit) Unit:=
 if chS x=0 then (if 0 < i then (match xs[i - 1]? with | some y=>if befB (ck y) (ck x) then .inr () else .inl (1,()) | none=>.inl (1,())) else .inr ()) else .inl (chS x,())
def foldF (xs:List Change):Int:=if 60 < xs.length then 2 else (forI (fun i (_:Unit) x=>foldStep xs i x) (fun _=>((0:Int),())) 0 xs ()).1
theorem specList_eq (xs:List Change) (hl:xs.length<=maxLen) (h:∀ c ∈ xs,cl c):spec_l9List.sem (xs,())=some (foldF xs,()):=by
 refine lift_eq (k:=xs.length+1) fun k hk=>(spec_l9List.raw_eq k _).trans ?_
 have:=for_loop (B:=fun self v=>spec_l9List.b0 self (fun z=>spec_l9List.q0 (xs,()) z) (xs,()) v) xs (fun (_:Unit) (i:Int)=>i) (fun i _ x=>foldStep xs i x) (fun _=>(0,())) (fun _ _=>True) hl
  (fun i hi _ self _=>by
   show spec_l9List.b0 _ _ _ _=_;unfold spec_l9List.b0 foldStep;have hlt:(i:Int) < (xs.length:Int):=by omega
   simp only[hlt,aE,aL,aN,aH,aI,aA hi,aB,specChangeS_eq _ (h _ (bC hi))];by_cases h1:chS xs[i]=0
   ·simp only[h1,aE,aQ,aG,aH];by_cases h0:0 < i
    ·have h0':(0:Int) < (i:Int):=by omega
     have hi':i - 1 < xs.length:=by omega
     simp only[h0,h0',aE,aL,aH,wprev h0 (by omega),aN,aI,aA hi',aB,ahead_eq];cases befB (ck xs[i - 1]) (ck xs[i]) <;> rfl
    ·have h0':¬ (0:Int) < (i:Int):=by omega
     simp[h0,h0']
   ·simp[h1]) (fun _ _ _ _ _ _=>trivial) (fun _ self _=>by
   show spec_l9List.b0 _ _ _ _=_;unfold spec_l9List.b0
   simp[spec_l9List.q0,spec_l9List.q0]) () trivial k (by omega)
 have this:spec_l9List.r0 k (xs,()) 0=_:=this;unfold spec_l9List.p foldF;rw[this,show (60:Int)=((60:Nat):Int) from rfl];simp only[len60];by_cases h1:60 < xs.length <;> simp[h1] <;> rfl
theorem folded_eq (xs:List Change) (hl:xs.length<=maxLen) (h:∀ c ∈ xs,cl c):impl_foldedFault.sem (xs,())=some (foldF xs,()):=by
 refine lift_eq (k:=xs.length+1) fun k hk=>(impl_foldedFault.raw_eq k _).trans ?_
 have:=for_loop (B:=fun self v=>impl_foldedFault.b0 self (fun z=>impl_foldedFault.q0 (xs,()) z) (xs,()) v) xs (fun (_:Unit) (i:Int)=>i) (fun i _ x=>foldStep xs i x) (fun _=>(0,())) (fun _ _=>True) hl
  (fun i hi _ self _=>by
   show impl_foldedFault.b0 _ _ _ _=_;unfold impl_foldedFault.b0 foldStep;have hlt:(i:Int) < (xs.length:Int):=by omega
   simp only[hlt,aE,aL,aN,aH,aI,aA hi,aB,single_eq _ (h _ (bC hi))];by_cases h1:chS xs[i]=0
   ·simp only[h1,aE,aQ,aG,aH];by_cases h0:0 < i
    ·have h0':(0:Int) < (i:Int):=by omega
     have hi':i - 1 < xs.length:=by omega
     simp only[h0,h0',aE,aL,aH,wprev h0 (by omega),aN,aI,aA hi',aB,implKey_eq,isBefore_eq,keyRow_ck];cases befB (ck xs[i - 1]) (ck xs[i]) <;> rfl
    ·have h0':¬ (0:Int) < (i:Int):=by omega
     simp[h0,h0']
   ·simp[h1]) (fun _ _ _ _ _ _=>trivial) (fun _ self _=>by
   show impl_foldedFault.b0 _ _ _ _=_;unfold impl_foldedFault.b0
   simp[impl_foldedFault.q0,impl_foldedFault.q0]) () trivial k (by omega)
 have this:impl_foldedFault.r0 k (xs,()) 0=_:=this;unfold impl_foldedFault.p foldF;rw[this,show (60:Int)=((60:Nat):Int) from rfl];simp only[len60];by_cases h1:60 < xs.length <;> simp[h1] <;> rfl
theorem cloneChange_eq (xs:List Change) (h:xs.length<=1048576):slices_Clone_Change.sem (xs,())=some (xs,()):=by
 refine lift_eq (k:=0) fun k _=>(slices_Clone_Change.raw_eq k _).trans ?_;show slices_Clone_Change.p _=_;unfold slices_Clone_Change.p;have c1:([]:List Change).length+xs.length<=CAP:=cap_ok (by simp only[aZ];omega);exact nilB_eq (fun e=>by have e:xs=[]:=e;subst e;rfl) (by rw[aV c1];rfl)
end OT
namespace OT
open Go
theorem row_eq {a b:Row} (h:Ty.eq tRow a b=true):a=b:=by
 have e:Ty.eq tRow a b=(decide (a.1=b.1)&&(decide (a.2.1=b.2.1)&&(decide (a.2.2.1=b.2.2.1)&&(decide (a.2.2.2.1=b.2.2.2.1)&&true)))):=rfl;rw[e] at h;simp only[aC,bU,eC] at h;obtain ⟨a1,a2,a3,a4,⟨⟩⟩:=a;obtain ⟨b1,b2,b3,b4,⟨⟩⟩:=b;obtain ⟨h1,h2,h3,h4⟩:=h;simp only at h1 h2 h3 h4;rw[h1,h2,h3,h4]
end OT
namespace OT
open Go
def pC (cs:List Change) (k:Int×Int):Nat:=pos (cs.map keyRow) k
def fC (cs:List Change) (k:Int×Int):Bool:=fnd (cs.map keyRow) k
def upC (cs:List Change):Prop:=up (cs.map keyRow)
theorem upC_cons {x:Change} {cs:List Change}:upC (x::cs)↔(∀ y ∈ cs,befB (ck x) (ck y)=true)/\upC cs:=by
 unfold upC;rw[cS,up_cons];simp only[gO,forall_exists_index,and_imp,forall_apply_eq_imp_iff₂,rk_key]
theorem pC_le (cs:List Change) (k:Int×Int):pC cs k<=cs.length:=by
 have:=pos_le (cs.map keyRow) k
 rwa [eX] at this
theorem foldF_good {xs:List Change} (h:foldF xs=0):upC xs/\(∀ c ∈ xs,chS c=0)/\xs.length<=60:=by
 unfold foldF at h;split at h
 ·cases h
 ·rename_i hl
  have hn:=forI_none (f:=fun i (_:Unit) x=>foldStep xs i x) (fun i s x o ho=>by
   unfold foldStep at ho;split at ho
   ·split at ho
    ·split at ho
     ·split at ho
      ·cases ho
      ·injection ho with ho;rw[<-ho];decide
     ·injection ho with ho;rw[<-ho];decide
    ·cases ho
   ·rename_i hx
    injection ho with ho;rw[<-ho];exact hx) xs 0 h
  have h1:∀ i (hi:i < xs.length),chS xs[i]=0:=fun i hi=>by
   have:=hn i hi;unfold foldStep at this;split at this
   ·assumption
   ·cases this
  refine ⟨up_adj _ fun i hi h0=>?_,fun x hx=>?_,by omega⟩
  ·rw[eX] at hi;have:=hn i hi;unfold foldStep at this;rw[aV (h1 i hi),bD,aV h0,aA (show i - 1 < xs.length by omega)] at this;simp only at this;simp only[List.getElem_map,rk_key];split at this
   ·assumption
   ·cases this
  ·obtain ⟨i,hi,rfl⟩:=dH.1 hx;exact h1 i hi
def turnC (x c:Change):Change:=(x.1,x.2.1,c.2.2.1,c.2.2.2.1,())
def goneC (x:Change):Bool:=(!x.1&&!x.2.2.1)||(x.1&&(x.2.2.1&&Ty.eq tRow x.2.1 x.2.2.2.1))
def badC (x c:Change):Bool:=!(c.1 == x.2.2.1)||(c.1&&!Ty.eq tRow c.2.1 x.2.2.2.1)
def fold1 (cs:List Change) (c:Change):Option (List Change):=
 match (if fC cs (ck c) then cs[pC cs (ck c)]? else none) with
 | none=>some (cs.take (pC cs (ck c))++[c]++cs.drop (pC cs (ck c)))
 | some x=>if badC x c then none else if goneC (turnC x c) then some (cs.take (pC cs (ck c))++cs.drop (pC cs (ck c)+1)) else some (cs.set (pC cs (ck c)) (turnC x c))
theorem pC_lt {x:Change} {cs:List Change} {k:Int×Int} (h:befB (ck x) k=true):pC (x::cs) k=pC cs k+1/\fC (x::cs) k=fC cs k:=by
 have h':befB (rk (keyRow x)) k=true:=by rw[rk_key];exact h
 refine ⟨?_,?_⟩
 ·unfold pC;rw[cS];simp only[pos,h',aH]
 ·unfold fC;rw[cS];exact fnd_cons_lt h'
theorem pC_ge {x:Change} {cs:List Change} {k:Int×Int} (h:befB (ck x) k=false):pC (x::cs) k=0/\fC (x::cs) k=decide (ck x=k):=by
 have h':befB (rk (keyRow x)) k=false:=by rw[rk_key];exact h
 have h0:pos ((x::cs).map keyRow) k=0:=by rw[cS];simp[pos,h']
 refine ⟨h0,?_⟩
 unfold fC fnd;rw[h0];simp only[cS,eB,rk_key]
theorem fold1_lt {x:Change} {cs:List Change} {c:Change} (h:befB (ck x) (ck c)=true):fold1 (x::cs) c=(fold1 cs c).map (x::·):=by
 obtain ⟨h1,h2⟩:=pC_lt (cs:=cs) h;unfold fold1;rw[h1,h2];simp only[fE,List.take_succ_cons,List.drop_succ_cons,List.set_cons_succ]
 cases (if fC cs (ck c)=true then cs[pC cs (ck c)]? else none) with
 | none=>rfl
 | some y=>
  simp only;split
  ·rfl
  ·split <;> rfl
theorem fold1_gt {x:Change} {cs:List Change} {c:Change} (h:befB (ck c) (ck x)=true):fold1 (x::cs) c=some (c::x::cs):=by
 have hne:¬ ck x=ck c:=fun e=>by rw[e,befB_irr] at h;cases h
 obtain ⟨h1,h2⟩:=pC_ge (cs:=cs) (befB_asym h);unfold fold1;rw[h1,h2];simp[hne]
theorem fold1_eq {x:Change} {cs:List Change} {c:Change} (h:ck x=ck c):fold1 (x::cs) c=if badC x c then none else if goneC (turnC x c) then some cs else some (turnC x c::cs):=by
 obtain ⟨h1,h2⟩:=pC_ge (cs:=cs) (k:=ck c) (x:=x) (by rw[h];exact befB_irr _);unfold fold1;rw[h1,h2];simp[h]
theorem fold1_nil (c:Change):fold1 [] c=some [c]:=by simp[fold1,fC,fnd,pC,pos]
theorem fold1_len {cs:List Change} {c:Change} {r:List Change} (h:fold1 cs c=some r):r.length<=cs.length+1:=by
 unfold fold1 at h;split at h
 ·injection h with h;subst h;simp only[aU,bS,bM,aP,aZ];omega
 ·split at h
  ·cases h
  ·split at h
   ·injection h with h;subst h;simp only[aU,bS,bM];omega
   ·injection h with h;subst h;simp
theorem fold1_all {q:Change->Prop} {cs:List Change} {c:Change} {r:List Change} (h:fold1 cs c=some r) (h1:∀ x ∈ cs,q x) (h2:q c) (h3:∀ x ∈ cs,q (turnC x c)):∀ x ∈ r,q x:=by
 unfold fold1 at h;split at h
 ·injection h with h;subst h;intro x hx;simp only[cM,bV] at hx;rcases hx with (hx | rfl) | hx
  ·exact h1 x (eG hx)
  ·exact h2
  ·exact h1 x (dK hx)
 ·rename_i y hy
  have hy':y ∈ cs:=by
   split at hy
   ·exact bW hy
   ·cases hy
  split at h
  ·cases h
  ·split at h
   ·injection h with h;subst h;intro x hx;rcases cM.1 hx with hx | hx
    ·exact h1 x (eG hx)
    ·exact h1 x (dK hx)
   ·injection h with h;subst h;intro x hx;rcases gR hx with hx | rfl
    ·exact h1 x hx
    ·exact h3 y hy'
theorem keyOrder_eq (c:Change) (r:Row):impl_keyOrder.sem (c,r,())=some (if befB (ck c) (rk r) then -1 else if befB (rk r) (ck c) then 1 else 0,()):=by
 refine lift_eq (k:=0) fun k _=>(impl_keyOrder.raw_eq k _).trans ?_;show impl_keyOrder.p _=_;unfold impl_keyOrder.p;simp only[implKey_eq,order_eq,keyRow_ck,aB];rfl
theorem ord_neg (a b:Int×Int):decide ((if befB a b then (-1:Int) else if befB b a then 1 else 0) < 0)=befB a b:=by
 cases befB a b <;> cases befB b a <;> rfl
theorem ord_nul (a b:Int×Int):decide ((if befB a b then (-1:Int) else if befB b a then 1 else 0)=0)=decide (a=b):=by
 cases h1:befB a b with
 | true=>
  have:¬ a=b:=fun e=>by rw[e,befB_irr] at h1;cases h1
  simp[this]
 | false=>
  cases h2:befB b a with
  | true=>
   have:¬ a=b:=fun e=>by rw[e,befB_irr] at h2;cases h2
   simp[this]
  | false=>simp[befB_tri h1 h2]
theorem searchC_eq (xs:List Change) (key:Row) (f:Nat×Int) (hu:upC xs) (hl:xs.length<=2000000):slices_BinarySearchFunc_Change.sem (xs,key,f,())=some ((pC xs (rk key):Int),fC xs (rk key),()):=by
 have hp:=pC_le xs (rk key)
 have hq:slices_BinarySearchFunc_Change.q0 (xs,key,f,()) (pC xs (rk key):Int)=some ((pC xs (rk key):Int),fC xs (rk key),()):=by
  show slices_BinarySearchFunc_Change.q0 _ _=_;unfold slices_BinarySearchFunc_Change.q0;by_cases hlt:pC xs (rk key) < xs.length
  ·have h1:((pC xs (rk key):Nat):Int) < (xs.length:Int):=by omega
   have h2:fC xs (rk key)=decide (ck xs[pC xs (rk key)]=rk key):=by
    unfold fC fnd
    have h3:(xs.map keyRow)[pos (xs.map keyRow) (rk key)]?=some (keyRow xs[pC xs (rk key)]):=by
     rw[dY];show Option.map keyRow xs[pC xs (rk key)]?=_;rw[aA hlt];rfl
    rw[h3];simp only[rk_key]
   simp only[h1,aE,aL,aN,aH,aI,aA hlt,aB,keyOrder_eq,ord_nul,h2]
  ·have h1:¬ ((pC xs (rk key):Nat):Int) < (xs.length:Int):=by omega
   simp only[h1,aF,aG];have h3:(xs.map keyRow)[pos (xs.map keyRow) (rk key)]?=none:=cV (by rw[eX];show xs.length<=pC xs (rk key);omega);unfold fC fnd;rw[h3]
 refine lift_eq (k:=xs.length+1) fun k hk=>(slices_BinarySearchFunc_Change.raw_eq k _).trans ?_
 refine rawIter_eq (B:=fun self v=>slices_BinarySearchFunc_Change.b0 self (fun z=>slices_BinarySearchFunc_Change.q0 (xs,key,f,()) z) (xs,key,f,()) v) (fun _=>((pC xs (rk key):Int),fC xs (rk key),()))
  (fun v=>∃ lo hi:Nat,v=((lo:Int),(hi:Int))/\lo<=pC xs (rk key)/\pC xs (rk key)<=hi/\hi<=xs.length) (fun v=>(v.2 - v.1).toNat) (fun v hv self=>?_) k (0,(xs.length:Int)) ⟨0,xs.length,rfl,by omega,hp,by omega⟩ (by simp;omega)
 obtain ⟨lo,hi,rfl,h1,h2,h3⟩:=hv;by_cases hlt:lo < hi
 ·right;have hlt':(lo:Int) < (hi:Int):=by omega
  have hm:(lo+hi) / 2 < xs.length:=by omega
  have hm':(lo+hi) / 2 < (xs.map keyRow).length:=by rw[eX];exact hm
  have hb:∀ self,slices_BinarySearchFunc_Change.b0 self (fun z=>slices_BinarySearchFunc_Change.q0 (xs,key,f,()) z) (xs,key,f,()) ((lo:Int),(hi:Int))=if befB (ck xs[(lo+hi) / 2]) (rk key) then self (w64 ((((lo+hi) / 2:Nat):Int)+1),(hi:Int)) else self ((lo:Int),(((lo+hi) / 2:Nat):Int)):=fun self=>by
   show slices_BinarySearchFunc_Change.b0 _ _ _ _=_;unfold slices_BinarySearchFunc_Change.b0;simp only[hlt',aE,aL,half lo hi (by omega),aN,aH,aI,aA hm,aB,keyOrder_eq,ord_neg];cases befB (ck xs[(lo+hi) / 2]) (rk key) <;> rfl
  have hkey:rk (xs.map keyRow)[(lo+hi) / 2]=ck xs[(lo+hi) / 2]:=by rw[List.getElem_map,rk_key]
  cases hc:befB (ck xs[(lo+hi) / 2]) (rk key) with
  | true=>
   refine ⟨((((lo+hi) / 2+1:Nat):Int),(hi:Int)),?_,rfl,⟨_,_,rfl,?_,h2,h3⟩,by simp only;omega⟩
   ·rw[hb,hc,aV rfl,w64_in (by omega)];rfl
   ·rcases cB ((lo+hi) / 2) (pC xs (rk key)) with h | h
    ·omega
    ·have:=up_not (xs.map keyRow) (rk key) _ hm' hu h;rw[hkey] at this;rw[this] at hc;cases hc
  | false=>
   refine ⟨((lo:Int),(((lo+hi) / 2:Nat):Int)),?_,rfl,⟨_,_,rfl,h1,?_,by omega⟩,by simp only;omega⟩
   ·rw[hb,hc];rfl
   ·rcases cB ((lo+hi) / 2) (pC xs (rk key)) with h | h
    ·have:=pos_lt (xs.map keyRow) (rk key) _ hm' h;rw[hkey] at this;rw[this] at hc;cases hc
    ·exact h
 ·left;have e:lo=pC xs (rk key):=by omega
  have hlt':¬ (lo:Int) < (hi:Int):=by omega
  show slices_BinarySearchFunc_Change.b0 _ _ _ _=_;unfold slices_BinarySearchFunc_Change.b0;simp only[hlt',aF,aG];rw[e];exact hq
def foldC (xs:List Change) (c:Change):Buffer:=if foldF xs=0 then (if chS c=0 then (match fold1 xs c with | none=>((8:Int),([]:List Change),()) | some r=>((0:Int),r,())) else (chS c,([]:List Change),())) else (foldF xs,([]:List Change),())
theorem insC_eq (xs:List Change) (i:Nat) (c:Change) (hi:i<=xs.length) (hl:xs.length<=1000):slices_Insert_Change.sem (xs,(i:Int),[c],())=some (xs.take i++[c]++xs.drop i,()):=by
 have h1:(0:Int)<=(i:Int)/\(i:Int)<=(xs.length:Int)/\xs.length+[c].length<=CAP:=⟨by omega,by omega,cap_ok (by simp only[aP,aZ];omega)⟩
 show (if (0:Int)<=(i:Int)/\(i:Int)<=(xs.length:Int)/\xs.length+[c].length<=CAP then some (xs.take (i:Int).toNat++[c]++xs.drop (i:Int).toNat,()) else none)=_;rw[aV h1];rfl
theorem delC_eq (xs:List Change) (i:Nat) (hi:i < xs.length) (hl:xs.length<=1000):slices_Delete_Change.sem (xs,(i:Int),w64 ((i:Int)+1),())=some (xs.take i++xs.drop (i+1),()):=by
 rw[w64_in (by omega)]
 have h1:(0:Int)<=(i:Int)/\(i:Int)<=(i:Int)+1/\(i:Int)+1<=(xs.length:Int):=⟨by omega,by omega,by omega⟩
 show (if (0:Int)<=(i:Int)/\(i:Int)<=(i:Int)+1/\(i:Int)+1<=(xs.length:Int) then some (xs.take (i:Int).toNat++xs.drop ((i:Int)+1).toNat,()) else none)=_;rw[aV h1];rfl
theorem implFold_eq (xs:List Change) (c:Change) (hl:xs.length<=1048576) (h:∀ x ∈ xs,cl x) (hc:cl c):impl_FoldChange.sem (xs,c,())=some (foldC xs c,()):=by
 refine lift_eq (k:=0) fun k _=>(impl_FoldChange.raw_eq k _).trans ?_;show impl_FoldChange.p _=_;unfold impl_FoldChange.p foldC;simp only[folded_eq xs (by rw[maxLen_val];omega) h,single_eq c hc,aB];by_cases h1:foldF xs=0
 ·obtain ⟨hu,_,h60⟩:=foldF_good h1;simp only[h1,aE,aQ,aG,aH];by_cases h2:chS c=0
  ·have hp:=pC_le xs (ck c);simp only[h2,aE,aQ,aG,aH,implKey_eq,searchC_eq xs _ _ hu (by omega),rk_key,cloneChange_eq xs hl,aB];unfold fold1
   cases hf:fC xs (ck c) with
   | false=>
    simp only[bG,aL,aD,aM,insC_eq xs _ c hp (by omega),aB]
   | true=>
    have hlt:pC xs (ck c) < xs.length:=by
     obtain ⟨hp,_⟩:=fnd_lt hf;rw[eX] at hp;exact hp
    have hi:(0:Int)<=(pC xs (ck c):Int)/\((pC xs (ck c):Nat):Int) < (xs.length:Int):=⟨by omega,by omega⟩
    simp only[aQ,aG,aH,aV hi,aI,aA hlt,aB,delC_eq xs _ hlt (by omega)];generalize xs[pC xs (ck c)]=x;unfold badC goneC turnC
    cases c.1 <;> cases x.2.2.1 <;> cases x.1 <;> cases c.2.2.1 <;> simp <;> (try (cases Ty.eq tRow c.2.1 x.2.2.2.1 <;> simp)) <;> (try (cases Ty.eq tRow x.2.1 c.2.2.2.1 <;> simp))
  ·simp only[h2,aF,bG,aL,aM]
 ·simp only[h1,aF,bG,aL,aM]
def foldS (c:Change) (s:List Change×Bool) (x:Change):Sum (List Change×Bool×Unit) (List Change×Bool):=
 let s':=if !s.2&&befB (ck c) (ck x) then (s.1++[c],true) else s
 if befB (ck x) (ck c) then .inr (s'.1++[x],s'.2) else if befB (ck c) (ck x) then .inr (s'.1++[x],s'.2) else
 if badC x c then .inl ([],false,()) else if goneC (turnC x c) then .inr (s'.1,true) else .inr (s'.1++[turnC x c],true)
def foldE (c:Change) (s:List Change×Bool):List Change×Bool×Unit:=if s.2 then (s.1,true,()) else (s.1++[c],true,())
theorem foldS_done (c:Change):∀ (xs:List Change) (i:Nat) (s:List Change),(∀ x ∈ xs,befB (ck c) (ck x)=true)->forI (fun _ s x=>foldS c s x) (foldE c) i xs (s,true)=(s++xs,true,())
 | [],_,s,_=>by simp[forI,foldE]
 | x::xs,i,s,h=>by
  have hx:=h x bB;have:foldS c (s,true) x=.inr (s++[x],true):=by simp[foldS,hx,befB_asym hx]
  simp only[forI,this];rw[foldS_done c xs (i+1) _ (fun y hy=>h y (aR _ hy))];simp
theorem foldS_eq (c:Change):∀ (xs:List Change) (i:Nat) (s:List Change),upC xs->forI (fun _ s x=>foldS c s x) (foldE c) i xs (s,false)=match fold1 xs c with | none=>([],false,()) | some r=>(s++r,true,())
 | [],_,s,_=>by simp[forI,foldE,fold1_nil]
 | x::xs,i,s,hu=>by
  have hu2:=upC_cons.1 hu
  cases h1:befB (ck x) (ck c) with
  | true=>
   have:foldS c (s,false) x=.inr (s++[x],false):=by simp[foldS,h1,befB_asym h1]
   simp only[forI,this];rw[foldS_eq c xs (i+1) _ hu2.2,fold1_lt h1];cases fold1 xs c <;> simp
  | false=>
   cases h2:befB (ck c) (ck x) with
   | true=>
    have:foldS c (s,false) x=.inr (s++[c]++[x],true):=by simp[foldS,h1,h2]
    simp only[forI,this];rw[foldS_done c xs (i+1) _ (fun y hy=>befB_trans h2 (hu2.1 y hy)),fold1_gt h2];simp
   | false=>
    have he:=befB_tri h1 h2;have hgt:∀ y ∈ xs,befB (ck c) (ck y)=true:=fun y hy=>by rw[<-he];exact hu2.1 y hy
    rw[fold1_eq he]
    cases h3:badC x c with
    | true=>
     have:foldS c (s,false) x=.inl ([],false,()):=by simp[foldS,h1,h2,h3]
     simp only[forI,this];rfl
    | false=>
     cases h4:goneC (turnC x c) with
     | true=>
      have:foldS c (s,false) x=.inr (s,true):=by simp[foldS,h1,h2,h3,h4]
      simp only[forI,this];rw[foldS_done c xs (i+1) _ hgt];simp
     | false=>
      have:foldS c (s,false) x=.inr (s++[turnC x c],true):=by simp[foldS,h1,h2,h3,h4]
      simp only[forI,this];rw[foldS_done c xs (i+1) _ hgt];simp
theorem ty_symm {a b:Row}:Ty.eq tRow a b=Ty.eq tRow b a:=by
 cases h1:Ty.eq tRow a b with
 | true=>
  have:=row_eq h1;subst this;exact h1.symm
 | false=>
  cases h2:Ty.eq tRow b a with
  | true=>
   have:=row_eq h2;subst this;rw[h1] at h2;cases h2
  | false=>rfl
theorem specFold1_eq (xs:List Change) (c:Change) (hu:upC xs) (hl:xs.length<=1000):spec_l9Fold.sem (xs,c,())=some (match fold1 xs c with | none=>(([]:List Change),false,()) | some r=>(r,true,())):=by
 refine lift_eq (k:=xs.length+1) fun k hk=>(spec_l9Fold.raw_eq k _).trans ?_
 have:=for_loop (B:=fun self v=>spec_l9Fold.b0 self (fun z=>spec_l9Fold.q0 (xs,c,()) z) (xs,c,()) v) xs (fun (s:List Change×Bool) (i:Int)=>(s.1,s.2,i)) (fun _ s x=>foldS c s x) (foldE c) (fun i s=>s.1.length<=2*i) (by rw[maxLen_val];omega)
  (fun i hi s self hI=>by
   show spec_l9Fold.b0 _ _ _ _=_;unfold spec_l9Fold.b0 foldS;have hlt:(i:Int) < (xs.length:Int):=by omega
   obtain ⟨s1,s2⟩:=s;simp only at hI;have c1:∀ y:Change,s1.length+[y].length<=CAP:=fun y=>cap_ok (by simp only[aP,aZ];omega);have c2:∀ y:Change,(s1++[c]).length+[y].length<=CAP:=fun y=>cap_ok (by simp only[aU,aP,aZ];omega);simp only[hlt,aE,aL,aN,aH,aI,aA hi,aB,ahead_eq,c1,c2];generalize xs[i]=x;unfold badC goneC turnC;rw[ty_symm (a:=x.2.2.2.1) (b:=c.2.1)]
   cases befB (ck c) (ck x) <;> cases befB (ck x) (ck c) <;> cases s2 <;> cases x.2.2.1 <;> cases c.1 <;> cases x.1 <;> cases c.2.2.1 <;> simp <;> (try (cases Ty.eq tRow c.2.1 x.2.2.2.1 <;> simp)) <;> (try (cases Ty.eq tRow x.2.1 c.2.2.2.1 <;> simp)))
  (fun i hi s s' hI hf=>by
   obtain ⟨s1,s2⟩:=s;unfold foldS at hf;simp only at hf hI;have hlen:(if (!s2&&befB (ck c) (ck xs[i]))=true then (s1++[c],true) else (s1,s2)).1.length<=s1.length+1:=by split <;> simp
   split at hf
   ·injection hf with hf;subst hf;simp only[aU,aP,aZ];omega
   ·split at hf
    ·injection hf with hf;subst hf;simp only[aU,aP,aZ];omega
    ·split at hf
     ·cases hf
     ·split at hf
      ·injection hf with hf;subst hf;simp only;omega
      ·injection hf with hf;subst hf;simp only[aU,aP,aZ];omega) (fun s self hI=>by
   show spec_l9Fold.b0 _ _ _ _=_;unfold spec_l9Fold.b0;simp only[bP,aF,aG];show spec_l9Fold.q0 _ _=_;unfold spec_l9Fold.q0 foldE;obtain ⟨s1,s2⟩:=s;simp only at hI;have c1:∀ y:Change,s1.length+[y].length<=CAP:=fun y=>cap_ok (by simp only[aP,aZ];omega);simp only[c1,aH]
   cases s2 <;> rfl) ([],false) (by simp) k (by omega)
 rw[foldS_eq c xs 0 [] hu] at this;refine (this:spec_l9Fold.r0 k (xs,c,()) ([],false,0)=_).trans ?_;cases fold1 xs c <;> rfl
theorem specFold_eq (xs:List Change) (c:Change) (hl:xs.length<=1048576) (h:∀ x ∈ xs,cl x) (hc:cl c):spec_FoldChange.sem (xs,c,())=some (foldC xs c,()):=by
 refine lift_eq (k:=0) fun k _=>(spec_FoldChange.raw_eq k _).trans ?_;show spec_FoldChange.p _=_;unfold spec_FoldChange.p foldC;simp only[specList_eq xs (by rw[maxLen_val];omega) h,specChangeS_eq c hc,aB];by_cases h1:foldF xs=0
 ·obtain ⟨hu,_,h60⟩:=foldF_good h1;simp only[h1,aE,aQ,aG,aH];by_cases h2:chS c=0
  ·simp only[h2,aE,aQ,aG,aH,specFold1_eq xs c hu (by omega),aB];cases fold1 xs c <;> rfl
  ·simp only[h2,aF,bG,aL,aM]
 ·simp only[h1,aF,bG,aL,aM]
end OT
namespace OT
open Go
theorem for_loopE {V S O α:Type} {B:(V->Option O)->V->Option O} (xs:List α) (enc:S->Int->V) (f:Nat->S->α->Sum (Option O) S) (fin:S->Option O) (I:Nat->S->Prop) (hmax:xs.length<=maxLen)
  (hin:∀ (i:Nat) (hi:i < xs.length) (s:S) self,I i s->B self (enc s (i:Int))=match f i s xs[i] with | .inl o=>o | .inr s'=>self (enc s' (w64 ((i:Int)+1))))
  (hI:∀ (i:Nat) (hi:i < xs.length) (s s':S),I i s->f i s xs[i]=.inr s'->I (i+1) s')
  (hout:∀ (s:S) self,I xs.length s->B self (enc s (xs.length:Int))=fin s) (s:S) (h0:I 0 s):∀ k,xs.length < k->rawIter B k (enc s 0)=forI f fin 0 xs s:=by
 have main:∀ (m i:Nat) (s:S),xs.length - i=m->i<=xs.length->I i s->∀ k,m < k->rawIter B k (enc s (i:Int))=forI f fin i (xs.drop i) s:=by
  intro m
  induction m with
  | zero=>
   intro i s hm hi hs k hk;have hi':i=xs.length:=by omega
   subst hi'
   cases k with
   | zero=>omega
   | succ k=>
    show B (rawIter B k) _=_;rw[hout s _ hs];simp[forI]
  | succ m ih=>
   intro i s hm hi hs k hk;have hlt:i < xs.length:=by omega
   cases k with
   | zero=>omega
   | succ k=>
    show B (rawIter B k) _=_;rw[hin i hlt s _ hs,dA hlt];simp only[forI]
    cases hf:f i s xs[i] with
    | inl o=>rfl
    | inr s'=>
     have hw:w64 ((i:Int)+1)=((i+1:Nat):Int):=by rw[w64_in (by rw[maxLen_val] at hmax;omega)];omega
     simp only[hw];exact ih (i+1) s' (by omega) (by omega) (hI i hlt s s' hs hf) k (by omega)
 intro k hk
 simpa using main xs.length 0 s (by omega) (by omega) h0 k hk
theorem forI_any {O α:Type} (p:α->Bool) (a:O) (fin:Unit->O):∀ (xs:List α) (i:Nat),forI (fun _ _ x=>if p x then .inl a else .inr ()) fin i xs ()=if xs.any p then a else fin ()
 | [],_=>rfl
 | x::xs,i=>by
  simp only[forI,gD];by_cases h:p x=true
  ·simp[h]
  ·simp[h,forI_any p a fin xs (i+1)]
def whereF {α:Type} (p:α->Bool):Nat->List α->Int
 | _,[]=>-1
 | i,x::xs=>if p x then (i:Int) else whereF p (i+1) xs
theorem forI_where {α:Type} (p:α->Bool):∀ (xs:List α) (i:Nat),forI (fun i _ x=>if p x then .inl ((i:Int),()) else .inr ()) (fun _=>((-1:Int),())) i xs ()=(whereF p i xs,())
 | [],_=>rfl
 | x::xs,i=>by
  simp only[forI,whereF];by_cases h:p x=true
  ·simp[h]
  ·simp[h,forI_where p xs (i+1)]
def keyB2 (k:Key):Bool:=inB k.1 0 3&&inB k.2.1 1 99
def tl (x:Tx):Prop:=List.length x.2.1<=1048576/\List.length x.2.2.1<=1048576/\List.length x.2.2.2.1<=1048576/\∀ c ∈ x.2.1,cl c
end OT
namespace OT
open Go
def pb (D:List UInt8) (i:Nat):Nat:=(D.getD i 0).toNat
theorem pb_lt (D:List UInt8) (i:Nat):pb D i < 256:=jO _
theorem pb_get {D:List UInt8} {i:Nat} (h:i < D.length):D[i]?=some D[i]/\(D[i]).toNat=pb D i:=⟨aA h,by simp[pb,h]⟩
theorem pb_ext {A B:List UInt8} (h:A.length=B.length) (h2:∀ j,j < A.length->pb A j=pb B j):A=B:=by
 refine List.ext_getElem h fun i h1 h3=>?_;have:=h2 i h1;rw[<-(pb_get h1).2,<- (pb_get h3).2] at this;exact jM.1 this
theorem pb_piece (D:List UInt8) (a n j:Nat) (h:j < n):pb ((D.drop a).take n) j=pb D (a+j):=by
 unfold pb;simp only[eV,bF,h,aH,bH]
def pn (p:List UInt8):Nat:=pb p 0
def plo (p:List UInt8):Nat:=pb p 1
def pat (p:List UInt8) (i:Nat):Nat:=pb p (2+2*i)
def psz (p:List UInt8) (i:Nat):Nat:=pb p (3+2*i)
def slotB (p:List UInt8) (i:Nat):Bool:=if pat p i=0\/psz p i=0 then decide (pat p i=psz p i) else decide (plo p<=pat p i)&&decide (pat p i+psz p i<=64)
def apartP (p:List UInt8) (i k:Nat):Bool:=(decide (psz p i=0)||decide (psz p k=0))||(decide (pat p i+psz p i<=pat p k)||decide (pat p k+psz p k<=pat p i))
def pageF (p:List UInt8):Int:=
 if p.length=64 then
  if pn p<=16/\2+2*pn p<=plo p/\plo p<=64 then
   if (List.range (pn p)).all (slotB p) then
    if (List.range (pn p)).all (fun i=>(List.range i).all (apartP p i)) then
     if 0 < pn p/\psz p (pn p - 1)=0 then 8 else 0
    else 8
   else 3
  else 3
 else 1
structure PageOk (p:List UInt8):Prop where
 len:p.length=64
 n:pn p<=16
 lo:2+2*pn p<=plo p
 hi:plo p<=64
 slot:∀ i,i < pn p->psz p i≠0->plo p<=pat p i/\pat p i+psz p i<=64
 zero:∀ i,i < pn p->psz p i=0->pat p i=0
 apart:∀ i k,i < pn p->k < pn p->i≠k->psz p i≠0->psz p k≠0->pat p i+psz p i<=pat p k\/pat p k+psz p k<=pat p i
 last:0 < pn p->psz p (pn p - 1)≠0
theorem slotB_iff {p:List UInt8} {i:Nat} (hlo:2<=plo p):slotB p i=true↔(psz p i≠0->plo p<=pat p i/\pat p i+psz p i<=64)/\(psz p i=0->pat p i=0):=by
 unfold slotB;by_cases h1:psz p i=0
 ·simp[h1]
 ·by_cases h2:pat p i=0
  ·simp[h1,h2];omega
  ·simp[h1,h2]
theorem apartP_iff {p:List UInt8} {i k:Nat}:apartP p i k=true↔(psz p i≠0->psz p k≠0->pat p i+psz p i<=pat p k\/pat p k+psz p k<=pat p i):=by
 unfold apartP;by_cases h1:psz p i=0
 ·simp[h1]
 ·by_cases h2:psz p k=0
  ·simp[h2]
  ·simp[h1,h2]
theorem pageF_iff {p:List UInt8}:pageF p=0↔PageOk p:=by
 constructor
 ·intro h;unfold pageF at h;split at h
  ·rename_i h1;split at h
   ·rename_i h2;split at h
    ·rename_i h3;split at h
     ·rename_i h4;split at h
      ·cases h
      ·rename_i h5;have hs:∀ i,i < pn p->(psz p i≠0->plo p<=pat p i/\pat p i+psz p i<=64)/\(psz p i=0->pat p i=0):=fun i hi=>(slotB_iff (by omega)).1 (cC.1 h3 i (dC.2 hi));have ha:∀ i k,i < pn p->k < i->psz p i≠0->psz p k≠0->pat p i+psz p i<=pat p k\/pat p k+psz p k<=pat p i:=fun i k hi hk=>apartP_iff.1 (cC.1 (cC.1 h4 i (dC.2 hi)) k (dC.2 hk));refine ⟨h1,h2.1,h2.2.1,h2.2.2,fun i hi=>(hs i hi).1,fun i hi=>(hs i hi).2,fun i k hi hk hik z1 z2=>?_,fun hn hz=>h5 ⟨hn,hz⟩⟩
       rcases Nat.lt_or_gt_of_ne hik with h6 | h6
       ·exact (ha k i hk h6 z2 z1).symm
       ·exact ha i k hi h6 z1 z2
     ·cases h
    ·cases h
   ·cases h
  ·cases h
 ·intro h;unfold pageF;rw[aV h.len,aV ⟨h.n,h.lo,h.hi⟩,aV,aV,aY]
  ·intro ⟨h1,h2⟩;exact h.last h1 h2
  ·refine cC.2 fun i hi=>cC.2 fun k hk=>apartP_iff.2 ?_;have:=dC.1 hi;have:=dC.1 hk;exact h.apart i k (by omega) (by omega) (by omega)
  ·exact cC.2 fun i hi=>(slotB_iff (by have:=h.lo;omega)).2 ⟨h.slot i (dC.1 hi),h.zero i (dC.1 hi)⟩
def cellP (p:List UInt8) (i:Nat):List UInt8:=(p.drop (pat p i)).take (psz p i)
def cellOf (p:List UInt8) (i:Nat):List UInt8:=if i < pn p then cellP p i else []
theorem cellP_len {p:List UInt8} (h:PageOk p) {i:Nat} (hi:i < pn p):(cellP p i).length=psz p i:=by
 unfold cellP;by_cases hz:psz p i=0
 ·simp[hz]
 ·have:=h.slot i hi hz;have:=h.len;simp only[bS,bM];omega
theorem cellP_pb (p:List UInt8) (i j:Nat) (h:j < psz p i):pb (cellP p i) j=pb p (pat p i+j):=pb_piece p _ _ j h
theorem cellP_eq {p q:List UInt8} {i k:Nat} (hp:(cellP p i).length=psz p i) (hq:(cellP q k).length=psz q k) (hs:psz p i=psz q k) (hb:∀ j,j < psz p i->pb p (pat p i+j)=pb q (pat q k+j)):cellP p i=cellP q k:=by
 refine pb_ext (by omega) fun j hj=>?_;rw[cellP_pb p i j (by omega),cellP_pb q k j (by omega)];exact hb j (by omega)
theorem cellP_is {p c:List UInt8} {i:Nat} (hp:(cellP p i).length=psz p i) (hs:psz p i=c.length) (hb:∀ j,j < c.length->pb p (pat p i+j)=pb c j):cellP p i=c:=by
 refine pb_ext (by omega) fun j hj=>?_;rw[cellP_pb p i j (by omega)];exact hb j (by omega)
def stand (p:List UInt8) (s a:Nat) (c:List UInt8):List UInt8:=((over p a c.length c).set (2+2*s) (UInt8.ofNat a)).set (3+2*s) (UInt8.ofNat c.length)
structure Turned (p q:List UInt8) (s a m:Nat):Prop where
 len:q.length=64
 n:pn q=pn p\/(pn q=pn p+1/\s=pn p)
 s_lt:s < pn q
 n16:pn q<=16
 lo:2+2*pn q<=plo q
 lo2:plo q<=plo p
 at_:pat q s=a
 sz:psz q s=m
 pos:0 < m
 a_lo:plo q<=a
 a_hi:a+m<=64
 oth:∀ i,i < pn q->i≠s->pat q i=pat p i/\psz q i=psz p i
 free:∀ i,i < pn p->i≠s->psz p i≠0->a+m<=pat p i\/pat p i+psz p i<=a
 same:∀ j,plo p<=j->j < 64->(j < a\/a+m<=j)->pb q j=pb p j
theorem Turned.ok {p q:List UInt8} {s a m:Nat} (t:Turned p q s a m) (h:PageOk p):PageOk q:=by
 have hlt:∀ i,i < pn q->i≠s->i < pn p:=fun i hi hs=>by rcases t.n with h1 | ⟨h1,h2⟩ <;> omega
 have ha:=t.at_;have hm:=t.sz;have hpos:=t.pos;have hlo:=t.a_lo;have hhi:=t.a_hi;have hlo2:=t.lo2;have hh:=h.hi;refine ⟨t.len,t.n16,t.lo,by omega,fun i hi hz=>?_,fun i hi hz=>?_,fun i k hi hk hik z1 z2=>?_,fun hn=>?_⟩
 ·by_cases hs:i=s
  ·subst hs;omega
  ·obtain ⟨h1,h2⟩:=t.oth i hi hs;have:=h.slot i (hlt i hi hs) (by omega);omega
 ·by_cases hs:i=s
  ·subst hs;omega
  ·obtain ⟨h1,h2⟩:=t.oth i hi hs;have:=h.zero i (hlt i hi hs) (by omega);omega
 ·by_cases hs:i=s
  ·subst hs;have hks:k≠i:=fun e=>hik e.symm;obtain ⟨h1,h2⟩:=t.oth k hk hks;have:=t.free k (hlt k hk hks) hks (by omega);omega
  ·obtain ⟨h1,h2⟩:=t.oth i hi hs;by_cases hs2:k=s
   ·subst hs2;have:=t.free i (hlt i hi hs) hs (by omega);omega
   ·obtain ⟨h3,h4⟩:=t.oth k hk hs2;have:=h.apart i k (hlt i hi hs) (hlt k hk hs2) hik (by omega) (by omega);omega
 ·by_cases hs:pn q - 1=s
  ·rw[hs];omega
  ·obtain ⟨h1,h2⟩:=t.oth (pn q - 1) (by omega) hs
   have hq:pn q=pn p:=by
    rcases t.n with h3 | ⟨h3,h4⟩
    ·exact h3
    ·omega
   rw[h2,hq];exact h.last (by omega)
theorem Turned.cell_other {p q:List UInt8} {s a m:Nat} (t:Turned p q s a m) (h:PageOk p) {i:Nat} (hi:i < pn q) (hs:i≠s):cellP q i=cellP p i:=by
 have hip:i < pn p:=by rcases t.n with h1 | ⟨h1,h2⟩ <;> omega
 obtain ⟨h1,h2⟩:=t.oth i hi hs;refine cellP_eq (cellP_len (t.ok h) hi) (cellP_len h hip) h2 fun j hj=>?_;have hz:psz p i≠0:=by omega
 have h3:=h.slot i hip hz;have h4:=t.free i hip hs hz;rw[h1];exact t.same _ (by omega) (by omega) (by omega)
theorem Turned.cell_this {p q:List UInt8} {s a:Nat} {c:List UInt8} (t:Turned p q s a c.length) (h:PageOk p) (hc:∀ j,j < c.length->pb q (a+j)=pb c j):cellP q s=c:=
 cellP_is (cellP_len (t.ok h) t.s_lt) t.sz fun j hj=>by rw[t.at_];exact hc j hj
theorem Turned.cells {p q:List UInt8} {s a:Nat} {c:List UInt8} (t:Turned p q s a c.length) (h:PageOk p) (hc:∀ j,j < c.length->pb q (a+j)=pb c j) (i:Nat):cellOf q i=if i=s then c else cellOf p i:=by
 have hs:=t.s_lt;unfold cellOf;by_cases his:i=s
 ·subst his;rw[aV hs,aV rfl,t.cell_this h hc]
 ·rw[aY his];by_cases hi:i < pn q
  ·have hip:i < pn p:=by rcases t.n with h1 | ⟨h1,h2⟩ <;> omega
   rw[aV hi,aV hip,t.cell_other h hi his]
  ·have hip:¬ i < pn p:=by rcases t.n with h1 | ⟨h1,h2⟩ <;> omega
   rw[aY hi,aY hip]
end OT
namespace OT
open Go
def sumZ (p:List UInt8):Nat->Nat
 | 0=>0
 | m+1=>sumZ p m+psz p m
def covP (p:List UInt8):Nat->Nat->Bool
 | 0,_=>false
 | k+1,j=>covP p k j||decide (pat p k<=j/\j < pat p k+psz p k)
structure CompI (p:List UInt8) (k:Nat) (o:List UInt8) (a:Nat):Prop where
 len:o.length=64
 n:pb o 0=pn p
 a:a=64 - sumZ p k
 sz:∀ i,i < pn p->psz o i=psz p i
 old:∀ i,i < pn p->(k<=i\/psz p i=0)->pat o i=pat p i
 new:∀ i,i < k->psz p i≠0->pat o i=64 - sumZ p (i+1)/\∀ j,j < psz p i->pb o (64 - sumZ p (i+1)+j)=pb p (pat p i+j)
end OT
namespace OT
open Go
theorem ix3 {i:Nat} (h:i < 1000):w64 ((3:Int)+w64 ((2:Int)*(i:Int)))=((3+2*i:Nat):Int):=by
 rw[w64_in (n:=(2:Int)*(i:Int)) (by omega),w64_in (by omega)];omega
theorem ix2 {i:Nat} (h:i < 1000):w64 ((2:Int)+w64 ((2:Int)*(i:Int)))=((2+2*i:Nat):Int):=by
 rw[w64_in (n:=(2:Int)*(i:Int)) (by omega),w64_in (by omega)];omega
theorem wpb (p:List UInt8) (i:Nat):w64 ((pb p i:Nat):Int)=((pb p i:Nat):Int):=by
 have:=pb_lt p i;exact w64_in (by omega)
theorem read_pb {R:Type} {p:List UInt8} {i:Nat} (h:i < p.length) (K:UInt8->Option R):(p[i]?).bind K=K p[i]:=by rw[(pb_get h).1];rfl
section
variable {p:List UInt8} (hp:p.length=64)
include hp
theorem pCount_eq:spec_l2Count.sem (p,())=some ((pn p:Int),()):=by
 refine lift_eq (k:=0) fun k _=>(spec_l2Count.raw_eq k _).trans ?_;show spec_l2Count.p _=_;unfold spec_l2Count.p;simp only[read_pb (show 0 < p.length by omega),(pb_get (show 0 < p.length by omega)).2,wpb];rfl
theorem pSlots_eq:impl_slots.sem (p,())=some ((pn p:Int),()):=by
 refine lift_eq (k:=0) fun k _=>(impl_slots.raw_eq k _).trans ?_;show impl_slots.p _=_;unfold impl_slots.p;simp only[read_pb (show 0 < p.length by omega),(pb_get (show 0 < p.length by omega)).2,wpb];rfl
theorem pLow_eq:spec_l2Low.sem (p,())=some ((plo p:Int),()):=by
 refine lift_eq (k:=0) fun k _=>(spec_l2Low.raw_eq k _).trans ?_;show spec_l2Low.p _=_;unfold spec_l2Low.p;simp only[read_pb (show 1 < p.length by omega),(pb_get (show 1 < p.length by omega)).2,wpb];rfl
theorem pSize_eq {i:Nat} (hi:i < 16):spec_l2Size.sem (p,(i:Int),())=some ((psz p i:Int),()):=by
 refine lift_eq (k:=0) fun k _=>(spec_l2Size.raw_eq k _).trans ?_;show spec_l2Size.p _=_;unfold spec_l2Size.p;simp only[ix3 (show i < 1000 by omega),aN,aH,aI,read_pb (show 3+2*i < p.length by omega),(pb_get (show 3+2*i < p.length by omega)).2,wpb];rfl
theorem pPlace_eq {i:Nat} (hi:i < 16):spec_l2Place.sem (p,(i:Int),())=some ((pat p i:Int),()):=by
 refine lift_eq (k:=0) fun k _=>(spec_l2Place.raw_eq k _).trans ?_;show spec_l2Place.p _=_;unfold spec_l2Place.p;simp only[ix2 (show i < 1000 by omega),aN,aH,aI,read_pb (show 2+2*i < p.length by omega),(pb_get (show 2+2*i < p.length by omega)).2,wpb];rfl
theorem pSpot_eq {i:Nat} (hi:i < 16):impl_spot.sem (p,(i:Int),())=some ((pat p i:Int),(psz p i:Int),()):=by
 refine lift_eq (k:=0) fun k _=>(impl_spot.raw_eq k _).trans ?_;show impl_spot.p _=_;unfold impl_spot.p;simp only[ix2 (show i < 1000 by omega),ix3 (show i < 1000 by omega),aN,aH,aI,read_pb (show 2+2*i < p.length by omega),(pb_get (show 2+2*i < p.length by omega)).2,read_pb (show 3+2*i < p.length by omega),(pb_get (show 3+2*i < p.length by omega)).2,wpb];rfl
theorem pSlot_eq {i:Nat} (hi:i < 16):spec_l2Slot.sem (p,(i:Int),())=some (slotB p i,()):=by
 refine lift_eq (k:=0) fun k _=>(spec_l2Slot.raw_eq k _).trans ?_;show spec_l2Slot.p _=_;unfold spec_l2Slot.p slotB;have h1:=pb_lt p (2+2*i);have h2:=pb_lt p (3+2*i)
 have hw:w64 ((pat p i:Int)+(psz p i:Int))=((pat p i+psz p i:Nat):Int):=by
  have:pat p i < 256:=h1;have:psz p i < 256:=h2;rw[w64_in (by omega)];omega
 simp only[pPlace_eq hp hi,pSize_eq hp hi,pLow_eq hp,aB,hw];have e1:decide ((pat p i:Int)=0)=decide (pat p i=0):=by rw[cI];omega
 have e2:decide ((psz p i:Int)=0)=decide (psz p i=0):=by rw[cI];omega
 have e3:decide ((pat p i:Int)=(psz p i:Int))=decide (pat p i=psz p i):=by rw[cI];omega
 have e4:decide ((plo p:Int)<=(pat p i:Int))=decide (plo p<=pat p i):=by rw[cI];omega
 have e5:decide (((pat p i+psz p i:Nat):Int)<=64)=decide (pat p i+psz p i<=64):=by rw[cI];omega
 rw[e1,e2,e3,e4,e5];by_cases c1:pat p i=0
 ·simp[c1]
 ·by_cases c2:psz p i=0
  ·simp[c1,c2]
  ·simp only[c1,c2,aF,aG,or_self,aM];cases decide (plo p<=pat p i) <;> rfl
theorem pApart_eq {i j:Nat} (hi:i < 16) (hj:j < 16):spec_l2Apart.sem (p,(i:Int),(j:Int),())=some (apartP p i j,()):=by
 refine lift_eq (k:=0) fun k _=>(spec_l2Apart.raw_eq k _).trans ?_;show spec_l2Apart.p _=_;unfold spec_l2Apart.p apartP;have h1:pat p i < 256:=pb_lt p _;have h2:psz p i < 256:=pb_lt p _;have h3:pat p j < 256:=pb_lt p _;have h4:psz p j < 256:=pb_lt p _;have hw:w64 ((pat p i:Int)+(psz p i:Int))=((pat p i+psz p i:Nat):Int):=by rw[w64_in (by omega)];omega
 have hw2:w64 ((pat p j:Int)+(psz p j:Int))=((pat p j+psz p j:Nat):Int):=by rw[w64_in (by omega)];omega
 simp only[pPlace_eq hp hi,pSize_eq hp hi,pPlace_eq hp hj,pSize_eq hp hj,aB,hw,hw2];have e1:decide ((psz p i:Int)=0)=decide (psz p i=0):=by rw[cI];omega
 have e2:decide ((psz p j:Int)=0)=decide (psz p j=0):=by rw[cI];omega
 have e3:decide (((pat p i+psz p i:Nat):Int)<=(pat p j:Int))=decide (pat p i+psz p i<=pat p j):=by rw[cI];omega
 have e4:decide (((pat p j+psz p j:Nat):Int)<=(pat p i:Int))=decide (pat p j+psz p j<=pat p i):=by rw[cI];omega
 rw[e1,e2,e3,e4];cases decide (psz p i=0) <;> cases decide (psz p j=0) <;> cases decide (pat p i+psz p i<=pat p j) <;> rfl
end
theorem forI_checkN {O:Type} (q:Nat->Bool) (bad e:O):∀ (xs:List Nat) (i:Nat),forI (fun _ (_:Unit) x=>if q x then .inr () else .inl bad) (fun _=>e) i xs ()=if xs.all q then e else bad:=fun xs i=>forI_check q bad (fun _=>e) xs i
theorem specPage_eq (p:List UInt8) (hl:p.length<=maxLen):spec_l2Fault.sem (p,())=some (pageF p,()):=by
 refine lift_eq (k:=100) fun k hk=>(spec_l2Fault.raw_eq k _).trans ?_;unfold spec_l2Fault.p pageF;have e0:decide ((p.length:Int)=64)=decide (p.length=64):=by rw[cI];omega
 rw[e0];by_cases hp:p.length=64;rotate_left
 ·simp only[hp,aF,bG,aL,aM]
 have hn:pn p < 256:=pb_lt p 0;have hlo:plo p < 256:=pb_lt p 1;have hw:w64 ((2:Int)+w64 ((2:Int)*(pn p:Int)))=((2+2*pn p:Nat):Int):=ix2 (by omega);simp only[hp,aE,aQ,aG,pCount_eq hp,pLow_eq hp,aB,hw,aH];by_cases c1:pn p<=16;rotate_left
 ·have:((16:Int) < (pn p:Int)):=by omega
  simp only[this,aE,aL,c1,gQ,aM]
 have n1:¬ ((16:Int) < (pn p:Int)):=by omega
 simp only[n1,aF,aG,c1,dZ];by_cases c2:2+2*pn p<=plo p;rotate_left
 ·have:((plo p:Int) < ((2+2*pn p:Nat):Int)):=by omega
  simp only[this,aE,aL,c2,gQ,aM]
 have n2:¬ ((plo p:Int) < ((2+2*pn p:Nat):Int)):=by omega
 simp only[n2,aF,aG,c2,dZ];by_cases c3:plo p<=64;rotate_left
 ·have:((64:Int) < (plo p:Int)):=by omega
  simp only[this,aE,aL,c3,aM]
 have n3:¬ ((64:Int) < (plo p:Int)):=by omega
 simp only[n3,aF,aG,c3,aH]
 have inner:∀ (self:((List UInt8)×Int×Int)->Option spec_l2Fault.Out) (e2:((List UInt8)×Int)->Option spec_l2Fault.Out) (i:Nat) (hi:i < pn p),spec_l2Fault.r2 k self e2 (p,()) p (pn p:Int) (i:Int) (0:Int)=if (List.range i).all (apartP p i) then self (p,(pn p:Int),w64 ((i:Int)+1)) else some ((8:Int),()):=fun self e2 i hi=>by
  have:=for_loopE (B:=fun self' v=>spec_l2Fault.b2 self' (fun z=>spec_l2Fault.q1 self e2 (p,()) p (pn p:Int) (i:Int) z) (p,()) p (pn p:Int) (i:Int) v) (List.range i) (fun (_:Unit) (j:Int)=>j) (fun _ _ x=>if apartP p i x then .inr () else .inl (some ((8:Int),()))) (fun _=>self (p,(pn p:Int),w64 ((i:Int)+1))) (fun _ _=>True) (by rw[maxLen_val,bT];omega)
   (fun j hj s self' _=>by
    rw[bT] at hj;show spec_l2Fault.b2 _ _ _ _ _ _ _=_;unfold spec_l2Fault.b2;have hlt:(j:Int) < (i:Int):=by omega
    simp only[hlt,aE,aL,pApart_eq hp (show i < 16 by omega) (show j < 16 by omega),aB,dW]
    cases apartP p i j <;> rfl)
   (fun _ _ _ _ _ _=>trivial) (fun s self' _=>by
    rw[bT];show spec_l2Fault.b2 _ _ _ _ _ _ _=_;unfold spec_l2Fault.b2;simp only[bP,aF,aG]
    rfl) () trivial k (by rw[bT];omega)
  rw[forI_checkN] at this;exact this
 have outer:spec_l2Fault.r1 k (p,()) (pn p:Int) (p,(pn p:Int),(0:Int))=if (List.range (pn p)).all (fun i=>(List.range i).all (apartP p i)) then spec_l2Fault.q2 (p,()) (p,(pn p:Int)) else some ((8:Int),()):=by
  have:=for_loopE (B:=fun self v=>spec_l2Fault.B1 k self (fun z=>spec_l2Fault.q2 (p,()) z) (p,()) v) (List.range (pn p)) (fun (_:Unit) (i:Int)=>(p,(pn p:Int),i)) (fun _ _ x=>if (List.range x).all (apartP p x) then .inr () else .inl (some ((8:Int),()))) (fun _=>spec_l2Fault.q2 (p,()) (p,(pn p:Int))) (fun _ _=>True) (by rw[maxLen_val,bT];omega)
   (fun i hi s self _=>by
    rw[bT] at hi;show spec_l2Fault.b1 _ _ _ _ _=_;unfold spec_l2Fault.b1;have hlt:(i:Int) < (pn p:Int):=by omega
    simp only[hlt,aE,aL,inner self _ i hi,dW]
    cases (List.range i).all (apartP p i) <;> rfl)
   (fun _ _ _ _ _ _=>trivial) (fun s self _=>by
    rw[bT];show spec_l2Fault.b1 _ _ _ _ _=_;unfold spec_l2Fault.b1
    simp only[bP,aF,aG]) () trivial k (by rw[bT];omega)
  rw[forI_checkN] at this;exact this
 have first:spec_l2Fault.r0 k (p,()) (pn p:Int) (0:Int)=if (List.range (pn p)).all (slotB p) then spec_l2Fault.r1 k (p,()) (pn p:Int) (p,(pn p:Int),(0:Int)) else some ((3:Int),()):=by
  have:=for_loopE (B:=fun self v=>spec_l2Fault.b0 self (fun z=>spec_l2Fault.Q0 k (p,()) (pn p:Int) z) (p,()) (pn p:Int) v) (List.range (pn p)) (fun (_:Unit) (i:Int)=>i) (fun _ _ x=>if slotB p x then .inr () else .inl (some ((3:Int),()))) (fun _=>spec_l2Fault.r1 k (p,()) (pn p:Int) (p,(pn p:Int),(0:Int))) (fun _ _=>True) (by rw[maxLen_val,bT];omega)
   (fun i hi s self _=>by
    rw[bT] at hi;show spec_l2Fault.b0 _ _ _ _ _=_;unfold spec_l2Fault.b0;have hlt:(i:Int) < (pn p:Int):=by omega
    simp only[hlt,aE,aL,pSlot_eq hp (show i < 16 by omega),aB,dW]
    cases slotB p i <;> rfl)
   (fun _ _ _ _ _ _=>trivial) (fun s self _=>by
    rw[bT];show spec_l2Fault.b0 _ _ _ _ _=_;unfold spec_l2Fault.b0;simp only[bP,aF,aG]
    rfl) () trivial k (by rw[bT];omega)
  rw[forI_checkN] at this;exact this
 rw[first];split
 ·rw[outer];split
  ·show spec_l2Fault.q2 _ _=_;unfold spec_l2Fault.q2;by_cases h0:0 < pn p
   ·have hlt:(0:Int) < (pn p:Int):=by omega
    have hwm:w64 ((pn p:Int) - 1)=((pn p - 1:Nat):Int):=by rw[w64_in (by omega)];omega
    simp only[hlt,aE,aL,hwm,pSize_eq hp (show pn p - 1 < 16 by omega),aB,h0,dZ];by_cases hz:psz p (pn p - 1)=0
    ·simp[hz]
    ·have:¬ ((psz p (pn p - 1):Int)=0):=by omega
     simp only[this,aF,aG,hz,aM]
   ·have hlt:¬ ((0:Int) < (pn p:Int)):=by omega
    simp only[hlt,aF,aG,h0,gQ,aM]
  ·rfl
 ·rfl
theorem forI_anyS {S O:Type} (q:Nat->Bool) (g:Nat->S) (bad e:O):∀ (xs:List Nat) (i:Nat) (s:S),forI (fun _ s x=>if q x then .inl bad else .inr (g x)) (fun _=>e) i xs s=if xs.any q then bad else e
 | [],_,_=>rfl
 | x::xs,i,s=>by
  simp only[forI,gD];by_cases h:q x=true
  ·simp[h]
  ·simp[h,forI_anyS q g bad e xs (i+1)]
def covS (p:List UInt8) (i t:Nat):List Bool:=(List.range 64).map fun j=>covP p i j||decide (pat p i<=j/\j < pat p i+t)
def overB (p:List UInt8) (i:Nat):Bool:=(List.range (psz p i)).any fun t=>covP p i (pat p i+t)
theorem covS_zero (p:List UInt8) (i:Nat):covS p i 0=(List.range 64).map (covP p i):=by
 unfold covS;refine List.map_congr_left fun j _=>?_;have:¬ (pat p i<=j/\j < pat p i+0):=by omega
 simp only[this,aF,Bool.or_false]
theorem covS_full (p:List UInt8) (i:Nat):covS p i (psz p i)=(List.range 64).map (covP p (i+1)):=rfl
theorem covS_get (p:List UInt8) (i t j:Nat) (h:j < 64):(covS p i t)[j]?=some (covP p i j||decide (pat p i<=j/\j < pat p i+t)):=by
 unfold covS;simp[h]
theorem covS_len (p:List UInt8) (i t:Nat):(covS p i t).length=64:=by simp[covS]
theorem covS_succ (p:List UInt8) (i t:Nat) (h:pat p i+t < 64):(covS p i t).set (pat p i+t) true=covS p i (t+1):=by
 refine fM fun j=>?_;rw[fB,covS_len];by_cases hj:j < 64
 ·rw[covS_get p i t j hj,covS_get p i (t+1) j hj];by_cases e:pat p i+t=j
  ·subst e;have:pat p i<=pat p i+t/\pat p i+t < pat p i+(t+1):=by omega
   simp[h,this]
  ·rw[aY e];have:(pat p i<=j/\j < pat p i+t)↔(pat p i<=j/\j < pat p i+(t+1)):=by omega
   simp only[this]
 ·have h1:(covS p i t)[j]?=none:=cV (by rw[covS_len];omega);have h2:(covS p i (t+1))[j]?=none:=cV (by rw[covS_len];omega);rw[h1,h2,aY (by omega)]
theorem covP_iff {p:List UInt8}:∀ {k j:Nat},covP p k j=true↔∃ i,i < k/\pat p i<=j/\j < pat p i+psz p i
 | 0,j=>by simp[covP]
 | k+1,j=>by
  simp only[covP,cW,bU,covP_iff (k:=k)];constructor
  ·rintro (⟨i,h1,h2⟩ | h)
   ·exact ⟨i,by omega,h2⟩
   ·exact ⟨k,by omega,h⟩
  ·rintro ⟨i,h1,h2⟩;by_cases e:i=k
   ·subst e;exact .inr h2
   ·exact .inl ⟨i,by omega,h2⟩
theorem over_apart (p:List UInt8) (i:Nat):overB p i=!(List.range i).all (apartP p i):=by
 rw[fK];simp only[overB,fU,dC,covP_iff,cN,List.all_eq_false,Bool.not_eq_true];constructor
 ·rintro ⟨t,ht,k,hk,h1,h2⟩;refine ⟨k,hk,?_⟩
  cases h:apartP p i k with
  | false=>rfl
  | true=>have:=apartP_iff.1 h (by omega) (by omega);omega
 ·rintro ⟨k,hk,h⟩;have hn:¬ (psz p i≠0->psz p k≠0->pat p i+psz p i<=pat p k\/pat p k+psz p k<=pat p i):=fun h2=>by rw[apartP_iff.2 h2] at h;cases h
  by_cases c1:psz p i=0
  ·exact absurd (fun h=>absurd c1 h) hn
  ·by_cases c2:psz p k=0
   ·exact absurd (fun _ h=>absurd c2 h) hn
   ·have c3:¬ (pat p i+psz p i<=pat p k):=fun h3=>hn fun _ _=>.inl h3;have c4:¬ (pat p k+psz p k<=pat p i):=fun h3=>hn fun _ _=>.inr h3;exact ⟨max (pat p i) (pat p k) - pat p i,by omega,k,hk,by omega,by omega⟩
theorem any_over (p:List UInt8) (n:Nat):(List.range n).any (overB p)=!(List.range n).all (fun i=>(List.range i).all (apartP p i)):=by
 rw[List.not_all_eq_any_not];congr 1;funext i;exact over_apart p i
theorem implPage_eq (p:List UInt8) (hl:p.length<=maxLen):impl_PageFault.sem (p,())=some (pageF p,()):=by
 refine lift_eq (k:=300) fun k hk=>(impl_PageFault.raw_eq k _).trans ?_;unfold impl_PageFault.p pageF;have e0:decide ((p.length:Int)=64)=decide (p.length=64):=by rw[cI];omega
 rw[e0];by_cases hp:p.length=64;rotate_left
 ·simp only[hp,aF,bG,aL,aM]
 have hn:pn p < 256:=pb_lt p 0;have hlo:plo p < 256:=pb_lt p 1;have hw:w64 ((2:Int)+w64 ((2:Int)*(pn p:Int)))=((2+2*pn p:Nat):Int):=ix2 (by omega);have hb1:((p[1]'(by omega)).toNat)=plo p:=(pb_get (show 1 < p.length by omega)).2;have hwl:w64 (plo p:Int)=(plo p:Int):=wpb p 1;simp only[hp,aE,aQ,aG,read_pb (show 1 < p.length by omega),hb1,hwl,pSlots_eq hp,aB,hw,aH];by_cases c1:pn p<=16;rotate_left
 ·have:((16:Int) < (pn p:Int)):=by omega
  simp only[this,aE,aL,c1,gQ,aM]
 have n1:¬ ((16:Int) < (pn p:Int)):=by omega
 simp only[n1,aF,aG,c1,dZ];by_cases c2:2+2*pn p<=plo p;rotate_left
 ·have:((plo p:Int) < ((2+2*pn p:Nat):Int)):=by omega
  simp only[this,aE,aL,c2,gQ,aM]
 have n2:¬ ((plo p:Int) < ((2+2*pn p:Nat):Int)):=by omega
 simp only[n2,aF,aG,c2,dZ];by_cases c3:plo p<=64;rotate_left
 ·have:((64:Int) < (plo p:Int)):=by omega
  simp only[this,aE,aL,c3,aM]
 have n3:¬ ((64:Int) < (plo p:Int)):=by omega
 simp only[n3,aF,aG,c3,aH]
 have first:impl_PageFault.r0 k (p,()) (pn p:Int) (plo p:Int) (0:Int)=if (List.range (pn p)).all (slotB p) then impl_PageFault.Q0 k (p,()) (pn p:Int) (plo p:Int) () else some ((3:Int),()):=by
  have:=for_loopE (B:=fun self v=>impl_PageFault.b0 self (fun z=>impl_PageFault.Q0 k (p,()) (pn p:Int) (plo p:Int) z) (p,()) (pn p:Int) (plo p:Int) v) (List.range (pn p)) (fun (_:Unit) (i:Int)=>i) (fun _ _ x=>if slotB p x then .inr () else .inl (some ((3:Int),()))) (fun _=>impl_PageFault.Q0 k (p,()) (pn p:Int) (plo p:Int) ()) (fun _ _=>True) (by rw[maxLen_val,bT];omega)
   (fun i hi s self _=>by
    rw[bT] at hi;show impl_PageFault.b0 _ _ _ _ _ _=_;unfold impl_PageFault.b0;have hlt:(i:Int) < (pn p:Int):=by omega
    have h1:pat p i < 256:=pb_lt p _;have h2:psz p i < 256:=pb_lt p _;have hw2:w64 ((pat p i:Int)+(psz p i:Int))=((pat p i+psz p i:Nat):Int):=by rw[w64_in (by omega)];omega
    simp only[hlt,aE,aL,pSpot_eq hp (show i < 16 by omega),aB,dW,hw2];have e1:decide ((pat p i:Int)=0)=decide (pat p i=0):=by rw[cI];omega
    have e2:decide ((psz p i:Int)=0)=decide (psz p i=0):=by rw[cI];omega
    have e4:decide ((pat p i:Int) < (plo p:Int))=decide (pat p i < plo p):=by rw[cI];omega
    have e5:decide ((64:Int) < ((pat p i+psz p i:Nat):Int))=decide (64 < pat p i+psz p i):=by rw[cI];omega
    rw[e1,e2,e4,e5];unfold slotB;by_cases d1:pat p i=0
    ·by_cases d2:psz p i=0
     ·simp[d1,d2]
     ·have:¬ (0=psz p i):=fun e=>d2 e.symm;simp[d1,d2,this]
    ·by_cases d2:psz p i=0
     ·simp[d1,d2]
     ·by_cases d3:pat p i < plo p
      ·have d3':¬ (plo p<=pat p i):=by omega
       simp[d1,d2,d3,d3']
      ·by_cases d4:64 < pat p i+psz p i
       ·have d4':¬ (pat p i+psz p i<=64):=by omega
        simp[d1,d2,d3,d4,d4']
       ·have d3':plo p<=pat p i:=by omega
        have d4':pat p i+psz p i<=64:=by omega
        simp[d1,d2,d3,d4,d3',d4'])
   (fun _ _ _ _ _ _=>trivial) (fun s self _=>by
    rw[bT];show impl_PageFault.b0 _ _ _ _ _ _=_;unfold impl_PageFault.b0
    simp only[bP,aF,aG]) () trivial k (by rw[bT];omega)
  rw[forI_checkN] at this;exact this
 rw[first];by_cases hsl:(List.range (pn p)).all (slotB p)=true;rotate_left
 ·simp only[hsl,aD,aM]
 simp only[hsl,aH];have hs:∀ i,i < pn p->psz p i≠0->plo p<=pat p i/\pat p i+psz p i<=64:=fun i hi=>((slotB_iff (by omega)).1 (cC.1 hsl i (dC.2 hi))).1
 have inner:∀ (self:((List UInt8)×Int×(List Bool)×Int×Int)->Option impl_PageFault.Out) (e2:((List UInt8)×Int)->Option impl_PageFault.Out) (i:Nat) (hi:i < pn p),impl_PageFault.r2 k self e2 (p,()) p (pn p:Int) (pat p i:Int) (psz p i:Int) (pn p:Int) (i:Int) ((List.range 64).map (covP p i),(pat p i:Int))=if overB p i then some ((8:Int),()) else self (p,(pn p:Int),(List.range 64).map (covP p (i+1)),(pn p:Int),w64 ((i:Int)+1)):=fun self e2 i hi=>by
  have h1:pat p i < 256:=pb_lt p _;have h2:psz p i < 256:=pb_lt p _;have hw2:w64 ((pat p i:Int)+(psz p i:Int))=((pat p i+psz p i:Nat):Int):=by rw[w64_in (by omega)];omega
  have:=for_loopE (B:=fun self' v=>impl_PageFault.b2 self' (fun z=>impl_PageFault.q1 self e2 (p,()) p (pn p:Int) (pat p i:Int) (psz p i:Int) (pn p:Int) (i:Int) z) (p,()) p (pn p:Int) (pat p i:Int) (psz p i:Int) (pn p:Int) (i:Int) v) (List.range (psz p i)) (fun (s:List Bool) (t:Int)=>(s,(pat p i:Int)+t)) (fun _ s t=>if covP p i (pat p i+t) then .inl (some ((8:Int),())) else .inr (covS p i (t+1))) (fun _=>self (p,(pn p:Int),(List.range 64).map (covP p (i+1)),(pn p:Int),w64 ((i:Int)+1))) (fun t s=>s=covS p i t) (by rw[maxLen_val,bT];omega)
   (fun t ht s self' hI=>by
    rw[bT] at ht;subst hI;obtain ⟨g1,g2⟩:=hs i hi (by omega);show impl_PageFault.b2 _ _ _ _ _ _ _ _ _ _=_;unfold impl_PageFault.b2;have hlt:(pat p i:Int)+(t:Int) < ((pat p i+psz p i:Nat):Int):=by omega
    have hnn:(0:Int)<=(pat p i:Int)+(t:Int):=by omega
    have hlen:(pat p i:Int)+(t:Int) < ((covS p i t).length:Int):=by rw[covS_len];omega
    have htn:((pat p i:Int)+(t:Int)).toNat=pat p i+t:=by omega
    have hnot:¬ (pat p i<=pat p i+t/\pat p i+t < pat p i+t):=by omega
    have hwt:w64 ((pat p i:Int)+(t:Int)+1)=(pat p i:Int)+w64 ((t:Int)+1):=by rw[w64_in (by omega),w64_in (by omega)];omega
    simp only[hw2,hlt,aE,aL,hnn,hlen,cU,aH,htn,covS_get p i t (pat p i+t) (by omega),hnot,aF,Bool.or_false,aB,dW,covS_succ p i t (by omega),hwt]
    cases covP p i (pat p i+t) <;> rfl)
   (fun t ht s s' hI hf=>by
    simp only[dW] at hf;split at hf
    ·cases hf
    ·injection hf with hf;exact hf.symm) (fun s self' hI=>by
    rw[bT] at hI ⊢;show impl_PageFault.b2 _ _ _ _ _ _ _ _ _ _=_;unfold impl_PageFault.b2;have hlt:¬ ((pat p i:Int)+(psz p i:Int) < ((pat p i+psz p i:Nat):Int)):=by omega
    simp only[hw2,hlt,aF,aG];rw[hI,covS_full]
    rfl) (covS p i 0) rfl k (by rw[bT];omega)
  rw[forI_anyS] at this;rw[<-covS_zero];simp only[Int.add_zero] at this;exact this
 have outer:impl_PageFault.r1 k (p,()) (pn p:Int) (plo p:Int) (p,(pn p:Int),List.replicate 64 false,(pn p:Int),(0:Int))=if (List.range (pn p)).any (overB p) then some ((8:Int),()) else impl_PageFault.q2 (p,()) (p,(pn p:Int)):=by
  have:=for_loopE (B:=fun self v=>impl_PageFault.B1 k self (fun z=>impl_PageFault.q2 (p,()) z) (p,()) v) (List.range (pn p)) (fun (s:List Bool) (i:Int)=>(p,(pn p:Int),s,(pn p:Int),i)) (fun _ s x=>if overB p x then .inl (some ((8:Int),())) else .inr ((List.range 64).map (covP p (x+1)))) (fun _=>impl_PageFault.q2 (p,()) (p,(pn p:Int))) (fun i s=>s=(List.range 64).map (covP p i)) (by rw[maxLen_val,bT];omega)
   (fun i hi s self hI=>by
    rw[bT] at hi;subst hI;show impl_PageFault.b1 _ _ _ _ _=_;unfold impl_PageFault.b1;have hlt:(i:Int) < (pn p:Int):=by omega
    simp only[hlt,aE,aL,pSpot_eq hp (show i < 16 by omega),aB,inner self _ i hi,dW]
    cases overB p i <;> rfl)
   (fun i hi s s' hI hf=>by
    simp only[dW] at hf;split at hf
    ·cases hf
    ·injection hf with hf;exact hf.symm) (fun s self _=>by
    rw[bT];show impl_PageFault.b1 _ _ _ _ _=_;unfold impl_PageFault.b1
    simp only[bP,aF,aG]) (List.replicate 64 false) (by show _=(List.range 64).map (fun _=>false);decide) k (by rw[bT];omega)
  rw[forI_anyS] at this;exact this
 show impl_PageFault.q0 _ _ _ _ _=_;unfold impl_PageFault.q0;rw[outer,any_over];by_cases hap:(List.range (pn p)).all (fun i=>(List.range i).all (apartP p i))=true;rotate_left
 ·simp only[hap,bG,aH,aD,aM]
 simp only[hap,aQ,aD,aM,aH];show impl_PageFault.q2 _ _=_;unfold impl_PageFault.q2;by_cases h0:0 < pn p
 ·have hlt:(0:Int) < (pn p:Int):=by omega
  have hwm:w64 (w64 ((2:Int)*(pn p:Int))+1)=((2*pn p+1:Nat):Int):=by rw[w64_in (n:=(2:Int)*(pn p:Int)) (by omega),w64_in (by omega)];omega
  have hz:((p[2*pn p+1]'(by omega)).toNat)=psz p (pn p - 1):=by
   rw[(pb_get (show 2*pn p+1 < p.length by omega)).2];show pb p _=pb p _;congr 1;omega
  simp only[hlt,aE,aL,hwm,aN,aH,aI,read_pb (show 2*pn p+1 < p.length by omega),hz,h0,dZ];by_cases hz:psz p (pn p - 1)=0
  ·simp[hz]
  ·have:¬ ((psz p (pn p - 1):Int)=0):=by omega
   simp only[this,aF,aG,hz,aM]
 ·have hlt:¬ ((0:Int) < (pn p:Int)):=by omega
  simp only[hlt,aF,aG,h0,gQ,aM]
end OT
namespace OT
open Go
theorem range_loop {V S O:Type} {B:(V->Option O)->V->Option O} (n:Nat) (enc:S->Int->V) (f:Nat->S->Sum (Option O) S) (fin:S->Option O) (I:Nat->S->Prop) (hn:n<=1048576)
  (hin:∀ (i:Nat),i < n->∀ (s:S) self,I i s->B self (enc s (i:Int))=match f i s with | .inl o=>o | .inr s'=>self (enc s' (w64 ((i:Int)+1))))
  (hI:∀ (i:Nat),i < n->∀ (s s':S),I i s->f i s=.inr s'->I (i+1) s')
  (hout:∀ (s:S) self,I n s->B self (enc s (n:Int))=fin s) (s:S) (h0:I 0 s) (k:Nat) (hk:n < k):rawIter B k (enc s 0)=forI (fun _ s x=>f x s) fin 0 (List.range n) s:=
 for_loopE (List.range n) enc (fun _ s x=>f x s) fin I (by rw[maxLen_val,bT];omega)
  (fun i hi s self h=>by rw[bT] at hi;simp only[dW];exact hin i hi s self h)
  (fun i hi s s' h hf=>by rw[bT] at hi;simp only[dW] at hf;exact hI i hi s s' h hf)
  (fun s self h=>by rw[bT] at h ⊢;exact hout s self h) s h0 k (by rw[bT];exact hk)
theorem forI_app {O α β:Type} (g:α->List β) (fin:List β->O):∀ (xs:List α) (i:Nat) (s:List β),forI (fun _ s x=>.inr (s++g x)) fin i xs s=fin (s++xs.flatMap g)
 | [],_,s=>by simp[forI]
 | x::xs,i,s=>by simp only[forI];rw[forI_app g fin xs (i+1)];simp[bL]
abbrev row0:Row:=((0:Int),(0:Int),(0:Int),([]:List UInt8),())
abbrev cell0:CellResult:=((0:Int),(0:Int),(0:Int),(0:Int),row0,())
abbrev cell5:CellResult:=((5:Int),(0:Int),(0:Int),(0:Int),row0,())
def rowB (d:List UInt8):Row:=((pb d 1:Int),(pb d 2:Int),(pb d 3:Int)*256+(pb d 4:Int),d.drop 6,())
def cellF (d:List UInt8):CellResult×Bool:=
 if d.length=3/\pb d 0=1 then (((0:Int),(1:Int),(pb d 1:Int),(pb d 2:Int),row0,()),decide (pb d 1<=11)&&decide (pb d 2<=15))
 else if d.length < 6\/pb d 0=1\/2 < pb d 0\/d.length≠6+pb d 5 then (cell0,false)
 else (((0:Int),(pb d 0:Int),(0:Int),(0:Int),rowB d,()),decide (rowF (rowB d)=0))
theorem or_bytes {a b:Nat} (ha:a < 256) (hb:b < 256):((BitVec.ofInt 64 (w64 ((a:Int)*2 ^ 8)) ||| BitVec.ofInt 64 (b:Int)).toNat:Int)=(a:Int)*256+(b:Int):=by
 have e1:w64 ((a:Int)*2 ^ 8)=((2 ^ 8*a:Nat):Int):=by rw[w64_in (by omega)];omega
 rw[e1,BitVec.toNat_or]
 have e2:(BitVec.ofInt 64 ((2 ^ 8*a:Nat):Int)).toNat=2 ^ 8*a:=by
  rw[gB];omega
 have e3:(BitVec.ofInt 64 (b:Int)).toNat=b:=by
  rw[gB];omega
 rw[e2,e3,<- Nat.two_pow_add_eq_or_of_lt (by omega) a];omega
theorem specRead1_eq (d:List UInt8) (hd:d.length<=100):spec_l1Read.sem (d,())=some ((cellF d).1,(cellF d).2,()):=by
 refine lift_eq (k:=0) fun k _=>(spec_l1Read.raw_eq k _).trans ?_;show spec_l1Read.p _=_;unfold spec_l1Read.p cellF;have b0:=pb_lt d 0;have b1:=pb_lt d 1;have b2:=pb_lt d 2;have b3:=pb_lt d 3;have b4:=pb_lt d 4;have b5:=pb_lt d 5;by_cases h3:d.length=3
 ·have e3:decide ((d.length:Int)=3)=true:=bZ (by omega);have e6:decide ((d.length:Int) < 6)=true:=bZ (by omega);have hl6:d.length < 6:=by omega
  simp only[e3,e6,aL,read_pb (show 0 < d.length by omega),(pb_get (show 0 < d.length by omega)).2];by_cases h1:pb d 0=1
  ·have e1:decide ((pb d 0:Int)=1)=true:=bZ (by omega);rw[aV ⟨h3,h1⟩];simp only[e1,aL,read_pb (show 1 < d.length by omega),(pb_get (show 1 < d.length by omega)).2,read_pb (show 2 < d.length by omega),(pb_get (show 2 < d.length by omega)).2,wpb]
   have hpl:spec_l1Place.sem ((pb d 1:Int),(pb d 2:Int),())=some (decide (pb d 1<=11)&&decide (pb d 2<=15),()):=by
    refine lift_eq (k:=0) fun k _=>(spec_l1Place.raw_eq k _).trans ?_;show spec_l1Place.p _=_;unfold spec_l1Place.p;simp only[specIn_eq,aB];have g1:decide ((0:Int)<=(pb d 1:Int))=true:=bZ (by omega);have g2:decide ((0:Int)<=(pb d 2:Int))=true:=bZ (by omega);have g3:decide ((pb d 1:Int)<=11)=decide (pb d 1<=11):=by rw[cI];omega
    have g4:decide ((pb d 2:Int)<=15)=decide (pb d 2<=15):=by rw[cI];omega
    rw[g1,g2,g3,g4];cases decide (pb d 1<=11) <;> rfl
   simp only[hpl,aB]
  ·have e1:decide ((pb d 0:Int)=1)=false:=cE (by omega);rw[aY (fun h=>h1 h.2),aV (Or.inl hl6)];simp only[e1,aG]
 ·have e3:decide ((d.length:Int)=3)=false:=cE (by omega);simp only[e3,aG,h3,gQ,aM];by_cases h6:d.length < 6
  ·have e6:decide ((d.length:Int) < 6)=true:=bZ (by omega);simp only[e6,aL,h6,jL,aH]
  ·have e6:decide ((d.length:Int) < 6)=false:=cE (by omega);simp only[e6,aG,read_pb (show 0 < d.length by omega),(pb_get (show 0 < d.length by omega)).2,h6,jG];by_cases h1:pb d 0=1
   ·have e1:decide ((pb d 0:Int)=1)=true:=bZ (by omega);rw[aV (Or.inl h1)];simp only[e1,aL]
   have e1:decide ((pb d 0:Int)=1)=false:=cE (by omega);simp only[e1,aG,h1,jG];by_cases h2:2 < pb d 0
   ·have e2:decide ((2:Int) < (pb d 0:Int))=true:=bZ (by omega);simp only[e2,aL,h2,jL,aH]
   have e2:decide ((2:Int) < (pb d 0:Int))=false:=cE (by omega);have w6:w64 ((6:Int)+(pb d 5:Int))=((6+pb d 5:Nat):Int):=by rw[w64_in (by omega)];omega
   simp only[e2,aG,h2,jG,read_pb (show 5 < d.length by omega),(pb_get (show 5 < d.length by omega)).2,wpb,w6];by_cases h5:d.length=6+pb d 5;rotate_left
   ·have e5:decide ((d.length:Int)=((6+pb d 5:Nat):Int))=false:=cE (by omega);simp only[e5,bG,aL,h5,ne_eq,eK,aH]
   have e5:decide ((d.length:Int)=((6+pb d 5:Nat):Int))=true:=bZ (by omega);have h6':(0:Int)<=6/\(6:Int)<=(d.length:Int):=by omega
   have w3:w64 (w64 ((pb d 3:Int)*256)+(pb d 4:Int))=(pb d 3:Int)*256+(pb d 4:Int):=by rw[w64_in (n:=(pb d 3:Int)*256) (by omega),w64_in (by omega)]
   have ht:(d.take d.length).drop 6=d.drop 6:=by rw[eQ]
   have hr:spec_l1Fault.sem (rowB d,())=some (rowF (rowB d),()):=specRow_eq (rowB d) (by rw[maxLen_val];simp only[rowB,bM];omega);unfold rowB at hr;rw[aY (fun h=>h h5)]
   simp only[e5,aQ,aG,read_pb (show 1 < d.length by omega),(pb_get (show 1 < d.length by omega)).2,read_pb (show 2 < d.length by omega),(pb_get (show 2 < d.length by omega)).2,
    read_pb (show 3 < d.length by omega),(pb_get (show 3 < d.length by omega)).2,read_pb (show 4 < d.length by omega),(pb_get (show 4 < d.length by omega)).2,wpb,w3,ht,hr,aB]
   rw[aV (by omega)];rfl
theorem implUnpack_eq (d:List UInt8) (hd:d.length<=100):impl_UnpackCell.sem (d,())=some (if (cellF d).2 then (cellF d).1 else cell5,()):=by
 refine lift_eq (k:=0) fun k _=>(impl_UnpackCell.raw_eq k _).trans ?_;show impl_UnpackCell.p _=_;unfold impl_UnpackCell.p;have b0:=pb_lt d 0;have b1:=pb_lt d 1;have b2:=pb_lt d 2;have b3:=pb_lt d 3;have b4:=pb_lt d 4;have b5:=pb_lt d 5;by_cases h3:d.length=3
 ·have e3:decide ((d.length:Int)=3)=true:=bZ (by omega);have e6:decide ((d.length:Int) < 6)=true:=bZ (by omega);have hl6:d.length < 6:=by omega
  simp only[e3,e6,aL,read_pb (show 0 < d.length by omega),(pb_get (show 0 < d.length by omega)).2];by_cases h1:pb d 0=1
  ·have e1:decide ((pb d 0:Int)=1)=true:=bZ (by omega);have hc:cellF d=(((0:Int),(1:Int),(pb d 1:Int),(pb d 2:Int),row0,()),decide (pb d 1<=11)&&decide (pb d 2<=15)):=by unfold cellF;rw[aV ⟨h3,h1⟩]
   rw[hc];simp only[e1,aL,read_pb (show 1 < d.length by omega),(pb_get (show 1 < d.length by omega)).2,read_pb (show 2 < d.length by omega),(pb_get (show 2 < d.length by omega)).2,wpb];by_cases c1:pb d 1<=11
   ·have d1:decide ((pb d 1:Int) < 12)=true:=bZ (by omega);by_cases c2:pb d 2<=15
    ·have d2:decide ((pb d 2:Int) < 16)=true:=bZ (by omega);simp[d1,d2,c1,c2]
    ·have d2:decide ((pb d 2:Int) < 16)=false:=cE (by omega);simp[d1,d2,c1,c2]
   ·have d1:decide ((pb d 1:Int) < 12)=false:=cE (by omega);simp[d1,c1]
  ·have e1:decide ((pb d 0:Int)=1)=false:=cE (by omega);have hc:cellF d=(cell0,false):=by unfold cellF;rw[aY (fun h=>h1 h.2),aV (Or.inl hl6)]
   rw[hc];simp only[e1,aG,aD,aM]
 ·have e3:decide ((d.length:Int)=3)=false:=cE (by omega);simp only[e3,aG];by_cases h6:d.length < 6
  ·have e6:decide ((d.length:Int) < 6)=true:=bZ (by omega);have hc:cellF d=(cell0,false):=by unfold cellF;rw[aY (fun h=>h3 h.1),aV (Or.inl h6)]
   rw[hc];simp only[e6,aL,aD,aM]
  ·have e6:decide ((d.length:Int) < 6)=false:=cE (by omega)
   have hc:cellF d=if pb d 0=1\/2 < pb d 0\/d.length≠6+pb d 5 then (cell0,false) else (((0:Int),(pb d 0:Int),(0:Int),(0:Int),rowB d,()),decide (rowF (rowB d)=0)):=by
    unfold cellF;rw[aY (fun h=>h3 h.1)];simp only[h6,jG]
   have hlen:∀ i,i < 6->i < d.length:=fun i hi=>by omega
   have w6:w64 ((6:Int)+(pb d 5:Int))=((6+pb d 5:Nat):Int):=by rw[w64_in (by omega)];omega
   have h6':(0:Int)<=6/\(6:Int)<=(d.length:Int):=by omega
   have w3:w64 ((BitVec.ofInt 64 (w64 ((pb d 3:Int)*2 ^ 8)) ||| BitVec.ofInt 64 (pb d 4:Int)).toNat:Int)=(pb d 3:Int)*256+(pb d 4:Int):=by rw[or_bytes b3 b4,w64_in (by omega)]
   have ht:(d.take d.length).drop 6=d.drop 6:=by rw[eQ]
   have hr:impl_RowFault.sem (rowB d,())=some (rowF (rowB d),()):=implRow_eq (rowB d) (by rw[maxLen_val];simp only[rowB,bM];omega);unfold rowB at hr
   simp only[e6,aG,read_pb (show 0 < d.length by omega),(pb_get (show 0 < d.length by omega)).2,read_pb (show 5 < d.length by omega),(pb_get (show 5 < d.length by omega)).2,read_pb (show 1 < d.length by omega),(pb_get (show 1 < d.length by omega)).2,read_pb (show 2 < d.length by omega),(pb_get (show 2 < d.length by omega)).2,
    read_pb (show 3 < d.length by omega),(pb_get (show 3 < d.length by omega)).2,read_pb (show 4 < d.length by omega),(pb_get (show 4 < d.length by omega)).2,wpb,w6,h6'.2,show (0:Int)<=6 by omega,cU,aH,w3,ht,hr,aB]
   have e5:decide ((d.length:Int)=((6+pb d 5:Nat):Int))=decide (d.length=6+pb d 5):=by rw[cI];omega
   have e0:decide ((pb d 0:Int)=0)=decide (pb d 0=0):=by rw[cI];omega
   have e2:decide ((pb d 0:Int)=2)=decide (pb d 0=2):=by rw[cI];omega
   rw[e5,e0,e2]
   have fin:∀ (c5:d.length=6+pb d 5) (c0:¬ (pb d 0=1\/2 < pb d 0\/d.length≠6+pb d 5)),(bif !decide (rowF ((pb d 1:Int),(pb d 2:Int),(pb d 3:Int)*256+(pb d 4:Int),d.drop 6,())=0) then some (cell5,()) else some (((0:Int),(pb d 0:Int),(0:Int),(0:Int),((pb d 1:Int),(pb d 2:Int),(pb d 3:Int)*256+(pb d 4:Int),d.drop 6,()),()),()))=some (if (cellF d).2 then (cellF d).1 else cell5,()):=fun c5 c0=>by
    rw[hc,aY c0];show (bif !decide (rowF (rowB d)=0) then some (cell5,()) else some (((0:Int),(pb d 0:Int),(0:Int),(0:Int),rowB d,()),()))=some (if decide (rowF (rowB d)=0)=true then ((0:Int),(pb d 0:Int),(0:Int),(0:Int),rowB d,()) else cell5,());cases decide (rowF (rowB d)=0) <;> rfl
   have bad:(pb d 0=1\/2 < pb d 0\/d.length≠6+pb d 5)->(some (cell5,()):Option impl_UnpackCell.Out)=some (if (cellF d).2 then (cellF d).1 else cell5,()):=fun h=>by
    rw[hc,aV h];rfl
   by_cases c5:d.length=6+pb d 5
   ·rw[bZ c5];by_cases c0:pb d 0=0
    ·rw[bZ c0];exact fin c5 (by omega)
    ·rw[cE c0];by_cases c2:pb d 0=2
     ·rw[bZ c2];exact fin c5 (by omega)
     ·rw[cE c2];exact bad (by omega)
   ·rw[cE c5];have hb:=bad (.inr (.inr c5));cases decide (pb d 0=0) <;> cases decide (pb d 0=2) <;> exact hb
section
variable {p:List UInt8} (hp:PageOk p)
include hp
theorem implHas_eq (s:Nat):impl_hasSlot.sem (p,(s:Int),())=some (decide (s < pn p)&&!decide (psz p s=0),()):=by
 refine lift_eq (k:=0) fun k _=>(impl_hasSlot.raw_eq k _).trans ?_;show impl_hasSlot.p _=_;unfold impl_hasSlot.p;have h0:(0:Int)<=(s:Int):=by omega
 have hn:=hp.n;have hl:=hp.len;simp only[h0,aE,aL,pSlots_eq hl,aB];by_cases hs:s < pn p
 ·have e1:(s:Int) < (pn p:Int):=by omega
  have e2:decide ((psz p s:Int)=0)=decide (psz p s=0):=by rw[cI];omega
  have e3:(p[3+2*s]'(by omega)).toNat=psz p s:=(pb_get (show 3+2*s < p.length by omega)).2;simp only[e1,hs,aE,aL,ix3 (show s < 1000 by omega),aN,aH,aI,read_pb (show 3+2*s < p.length by omega),e3,e2,fF]
 ·have e1:¬ ((s:Int) < (pn p:Int)):=by omega
  simp only[e1,hs,aF,aG,jP]
theorem specHas_eq (s:Nat):spec_l2Has.sem (p,(s:Int),())=some (decide (s < pn p)&&!decide (psz p s=0),()):=by
 refine lift_eq (k:=0) fun k _=>(spec_l2Has.raw_eq k _).trans ?_;show spec_l2Has.p _=_;unfold spec_l2Has.p;have hn:=hp.n;have hl:=hp.len;have hw:w64 ((pn p:Int) - 1)=(pn p:Int) - 1:=w64_in (by omega);have h0:decide ((0:Int)<=(s:Int))=true:=bZ (by omega);have h1:decide ((s:Int)<=(pn p:Int) - 1)=decide (s < pn p):=by rw[cI];omega
 simp only[pCount_eq hl,aB,hw,specIn_eq,h0,h1,fF];by_cases hs:s < pn p
 ·have e2:decide ((0:Int) < (psz p s:Int))=!decide (psz p s=0):=by
   by_cases hz:psz p s=0
   ·simp[hz]
   ·have:(0:Int) < (psz p s:Int):=by omega
    rw[bZ this,cE hz];rfl
  simp only[hs,aE,aL,pSize_eq hl (show s < 16 by omega),aB,e2,fF]
 ·simp only[hs,aF,aG,jP]
theorem cell_in {s:Nat} (hs:s < pn p):pat p s+psz p s<=64:=by
 by_cases hz:psz p s=0
 ·have:=hp.zero s hs hz;omega
 ·exact (hp.slot s hs hz).2
theorem implCellAt_eq {s:Nat} (hs:s < pn p):impl_cellAt.sem (p,(s:Int),())=some (cellP p s,()):=by
 refine lift_eq (k:=0) fun k _=>(impl_cellAt.raw_eq k _).trans ?_;show impl_cellAt.p _=_;unfold impl_cellAt.p cellP;have hn:=hp.n;have hl:=hp.len;have hc:=cell_in hp hs;have hw:w64 ((pat p s:Int)+(psz p s:Int))=((pat p s+psz p s:Nat):Int):=by rw[w64_in (by omega)];omega
 have hb:(0:Int)<=(pat p s:Int)/\(pat p s:Int)<=((pat p s+psz p s:Nat):Int)/\((pat p s+psz p s:Nat):Int)<=(p.length:Int):=by omega
 simp only[pSpot_eq hl (show s < 16 by omega),aB,hw];rw[aV hb];simp only[aI,eD];rw[show pat p s+psz p s - pat p s=psz p s by omega]
theorem specCellAt_eq {s:Nat} (hs:s < pn p):spec_l2Cell.sem (p,(s:Int),())=some (cellP p s,()):=by
 refine lift_eq (k:=0) fun k _=>(spec_l2Cell.raw_eq k _).trans ?_;show spec_l2Cell.p _=_;unfold spec_l2Cell.p cellP;have hn:=hp.n;have hl:=hp.len;have hc:=cell_in hp hs;have hw:w64 ((pat p s:Int)+(psz p s:Int))=((pat p s+psz p s:Nat):Int):=by rw[w64_in (by omega)];omega
 have hb:(0:Int)<=(pat p s:Int)/\(pat p s:Int)<=((pat p s+psz p s:Nat):Int)/\((pat p s+psz p s:Nat):Int)<=(p.length:Int):=by omega
 simp only[pPlace_eq hl (show s < 16 by omega),pSize_eq hl (show s < 16 by omega),aB,hw];rw[aV hb,aV (cap_ok (by simp only[aZ,bM,bS];omega))];simp only[aI,eD,cH];rw[show pat p s+psz p s - pat p s=psz p s by omega]
end
theorem cellP_small {p:List UInt8} (hp:PageOk p) {s:Nat} (hs:s < pn p):(cellP p s).length<=64:=by
 have:=cellP_len hp hs;have:=cell_in hp hs;omega
end OT
namespace OT
open Go
theorem forI_dup {α β O:Type} [DecidableEq β] (g:α->Option β) (bad:O) (fin:Unit->O) (p:α->α->Bool) (hp:∀ x y,p x y=true↔∃ b,g x=some b/\g y=some b) (all:List α):∀ (xs pre:List α),all=pre++xs->(pre.filterMap g).Nodup->forI (fun i _ x=>if (all.take i).any (p x) then .inl bad else .inr ()) fin pre.length xs ()=if (all.filterMap g).Nodup then fin () else bad
 | [],pre,h,hn=>by
  rw[cP] at h;subst h;simp only[forI,hn,aH]
 | x::xs,pre,h,hn=>by
  have ht:all.take pre.length=pre:=by rw[h];exact List.take_left
  simp only[forI,ht];have hall:all.filterMap g=pre.filterMap g++([x].filterMap g++xs.filterMap g):=by rw[h,<- iC (x:=x),cR,cR]
  cases hc:pre.any (p x) with
  | true=>
   simp only[aH];obtain ⟨y,hy,hpy⟩:=fU.1 hc;obtain ⟨b,h1,h2⟩:=(hp x y).1 hpy;rw[aY];intro hnd;rw[hall,List.nodup_append] at hnd;exact hnd.2.2 b (jA.2 ⟨y,hy,h2⟩) b (by simp[h1]) rfl
  | false=>
   simp only[aD,aM]
   have:=forI_dup g bad fin p hp all xs (pre++[x]) (by rw[h];simp) (by
    rw[cR,List.nodup_append];refine ⟨hn,?_,fun a ha b hb e=>?_⟩
    ·cases hg:g x with
     | none=>simp[hg]
     | some b=>simp[hg]
    ·subst e;obtain ⟨y,hy,hgy⟩:=jA.1 ha;obtain ⟨z,hz,hgz⟩:=jA.1 hb;rw[bV] at hz;subst hz;have:pre.any (p z)=true:=fU.2 ⟨y,hy,(hp z y).2 ⟨a,hgz,hgy⟩⟩
     rw[this] at hc;cases hc)
   rw[aU] at this;exact this
theorem forI_dup0 {α β O:Type} [DecidableEq β] (g:α->Option β) (bad:O) (fin:Unit->O) (p:α->α->Bool) (hp:∀ x y,p x y=true↔∃ b,g x=some b/\g y=some b) (xs:List α):forI (fun i _ x=>if (xs.take i).any (p x) then .inl bad else .inr ()) fin 0 xs ()=if (xs.filterMap g).Nodup then fin () else bad:=
 forI_dup g bad fin p hp xs xs [] rfl iZ
theorem sorted_unique {α:Type} {lt:α->α->Prop} (has:∀ a b,lt a b->¬ lt b a):∀ (xs ys:List α),xs.Perm ys->xs.Pairwise lt->ys.Pairwise lt->xs=ys
 | [],ys,h,_,_=>(List.nil_perm.1 h).symm
 | x::xs,[],h,_,_=>by have:=h.length_eq;cases this
 | x::xs,y::ys,h,h1,h2=>by
  obtain ⟨a1,a2⟩:=eI.1 h1;obtain ⟨b1,b2⟩:=eI.1 h2;by_cases hxy:x=y
  ·subst hxy;rw[sorted_unique has xs ys ((List.perm_cons x).1 h) a2 b2]
  ·have hx:x ∈ ys:=by
    have:=h.mem_iff.1 (bB (a:=x) (l:=xs));rcases aS.1 this with e | e
    ·exact absurd e hxy
    ·exact e
   have hy:y ∈ xs:=by
    have:=h.mem_iff.2 (bB (a:=y) (l:=ys));rcases aS.1 this with e | e
    ·exact absurd e.symm hxy
    ·exact e
   exact absurd (b1 x hx) (has _ _ (a1 y hy))
theorem put1_perm (xs:List Row) (r:Row):(put1 xs r).Perm (r::xs):=by
 unfold put1;rw[bL];have:=fV (a:=r) (l₁:=xs.take (pos xs (rk r))) (l₂:=xs.drop (pos xs (rk r)));rw[cO] at this;exact this
theorem pos_bef {xs:List Row} {k:Int×Int} {x:Row} (hu:up xs) (h:x ∈ xs.drop (pos xs k)):befB (rk x) k=false:=by
 obtain ⟨i,hi,e⟩:=dH.1 h;rw[bM] at hi;rw[jF] at e;rw[<-e];exact up_not xs k _ _ hu (by omega)
theorem up_put1 {xs:List Row} {r:Row} (hu:up xs) (hn:∀ x ∈ xs,rk x≠rk r):up (put1 xs r):=by
 unfold put1 up;rw[bL,gL];have hd:=hu.drop (i:=pos xs (rk r));refine ⟨hu.take,?_,fun a ha b hb=>?_⟩
 ·rw[iC,eI];refine ⟨fun b hb=>?_,hd⟩
  have h1:=pos_bef hu hb;have h2:=hn b (dK hb)
  cases h3:befB (rk r) (rk b) with
  | true=>rfl
  | false=>exact absurd (befB_tri h1 h3) h2
 ·have h1:=take_bef ha;rw[iC] at hb;rcases aS.1 hb with e | e
  ·subst e;exact h1
  ·have h2:=pos_bef hu e;have h3:=hn b (dK e)
   cases h4:befB (rk a) (rk b) with
   | true=>rfl
   | false=>
    cases h5:befB (rk b) (rk a) with
    | true=>rw[befB_trans h5 h1] at h2;cases h2
    | false=>
     have:=befB_tri h4 h5;rw[this] at h1;rw[h1] at h2;cases h2
def sortR (l:List Row):List Row:=l.foldl put1 []
theorem foldl_put1:∀ (l acc:List Row),(l.foldl put1 acc).Perm (l++acc)
 | [],acc=>gM _
 | r::l,acc=>by
  have h1:=foldl_put1 l (put1 acc r);have h2:(l++put1 acc r).Perm (l++r::acc):=(gM l).append (put1_perm acc r);exact h1.trans (h2.trans fV)
theorem sortR_perm (l:List Row):(sortR l).Perm l:=by
 have:=foldl_put1 l [];rw[cP] at this;exact this
theorem foldl_up:∀ (l acc:List Row),up acc->(l.map rk++acc.map rk).Nodup->up (l.foldl put1 acc)
 | [],acc,h,_=>h
 | r::l,acc,h,hn=>by
  simp only[cS,dD,dP,cM,not_or] at hn;refine foldl_up l (put1 acc r) (up_put1 h fun x hx e=>hn.1.2 (gO.2 ⟨x,hx,e⟩)) ?_
  have:(l.map rk++(put1 acc r).map rk).Perm (rk r::(l.map rk++acc.map rk)):=by
   refine ((gM _).append ((put1_perm acc r).map rk)).trans ?_;rw[cS];exact fV
  rw[this.nodup_iff,dP,cM,not_or];exact hn
theorem sortR_up {l:List Row} (h:(l.map rk).Nodup):up (sortR l):=foldl_up l [] List.Pairwise.nil (by simpa using h)
theorem befB_not {a b:Int×Int} (h:befB a b=true):¬ befB b a=true:=by rw[befB_asym h];exact fun h=>by cases h
theorem up_nodup {xs:List Row} (h:up xs):(xs.map rk).Nodup:=by
 unfold List.Nodup;rw[hJ];refine h.imp fun h1 e=>?_;rw[e,befB_irr] at h1;cases h1
end OT
namespace OT
open Go
abbrev Pgs:Type:=List (List UInt8)
def goI {α β:Type} (g:Nat->α->List β):Nat->List α->List β
 | _,[]=>[]
 | i,x::xs=>g i x++goI g (i+1) xs
theorem forI_appI {O α β:Type} (g:Nat->α->List β) (fin:List β->O):∀ (xs:List α) (i:Nat) (s:List β),forI (fun i s x=>.inr (s++g i x)) fin i xs s=fin (s++goI g i xs)
 | [],_,s=>by simp[forI,goI]
 | x::xs,i,s=>by simp only[forI,goI];rw[forI_appI g fin xs (i+1)];simp[bL]
theorem goI_len {α β:Type} {g:Nat->α->List β} {n:Nat}:∀ (xs:List α) (i:Nat),(∀ i x,x ∈ xs->(g i x).length<=n)->(goI g i xs).length<=n*xs.length
 | [],_,_=>by simp[goI]
 | x::xs,i,h=>by
  have h1:=h i x bB;have h2:=goI_len xs (i+1) fun i y hy=>h i y (aR _ hy);simp only[goI,aU,aP,Nat.mul_add];omega
theorem goI_mem {α β:Type} {g:Nat->α->List β} {y:β}:∀ {xs:List α} {i:Nat},y ∈ goI g i xs↔∃ (j:Nat) (x:α),xs[j]?=some x/\y ∈ g (i+j) x
 | [],i=>by simp[goI]
 | x::xs,i=>by
  simp only[goI,cM,goI_mem (xs:=xs)];constructor
  ·rintro (h | ⟨j,z,h1,h2⟩)
   ·exact ⟨0,x,rfl,h⟩
   ·exact ⟨j+1,z,h1,by rw[show i+(j+1)=i+1+j by omega];exact h2⟩
  ·rintro ⟨j,z,h1,h2⟩
   cases j with
   | zero=>injection h1 with h1;subst h1;exact .inl h2
   | succ j=>exact .inr ⟨j,z,h1,by rw[show i+1+j=i+(j+1) by omega];exact h2⟩
def sFlag (x:L6Spot):Int:=x.2.2.1.2.1
def sTp (x:L6Spot):Int:=x.2.2.1.2.2.1
def sTs (x:L6Spot):Int:=x.2.2.1.2.2.2.1
def sRow (x:L6Spot):Row:=x.2.2.1.2.2.2.2.1
def spot1 (P:Nat) (p:List UInt8) (s:Nat):List L6Spot:=if psz p s=0 then [] else [((P:Int),(s:Int),(cellF (cellP p s)).1,())]
def spotsPg (P:Nat) (p:List UInt8):List L6Spot:=(List.range (pn p)).flatMap (spot1 P p)
def spotsF (ps:Pgs):List L6Spot:=goI spotsPg 0 ps
def cellG (ps:Pgs) (a b:Int):CellResult×Bool:=match ps[a.toNat]? with
 | some p=>if b.toNat < pn p/\psz p b.toNat≠0 then cellF (cellP p b.toNat) else (cell0,false)
 | none=>(cell0,false)
def okCell (p:List UInt8) (s:Nat):Bool:=decide (psz p s=0)||(cellF (cellP p s)).2
def pgC (p:List UInt8):Int:=if pageF p=0 then (if (List.range (pn p)).all (okCell p) then 0 else 5) else pageF p
def stubOk (ps:Pgs) (x:L6Spot):Bool:=!decide (sFlag x=1)||((cellG ps (sTp x) (sTs x)).2&&decide ((cellG ps (sTp x) (sTs x)).1.2.1=2))
def sTgt (x:L6Spot):Option (Int×Int):=if sFlag x=1 then some (sTp x,sTs x) else none
def withRow (x:L6Spot) (r:Row):L6Spot:=(x.1,x.2.1,(x.2.2.1.1,x.2.2.1.2.1,x.2.2.1.2.2.1,x.2.2.1.2.2.2.1,r,x.2.2.1.2.2.2.2.2),x.2.2.2)
def seen1 (ps:Pgs) (x:L6Spot):L6Spot:=if sFlag x=1 then withRow x (cellG ps (sTp x) (sTs x)).1.2.2.2.2.1 else x
def seenX (ps:Pgs) (x:L6Spot):List L6Spot:=if sFlag x=2 then [] else [seen1 ps x]
def seenF (ps:Pgs):List L6Spot:=(spotsF ps).flatMap (seenX ps)
def lookC (ps:Pgs):Int:=
 if (spotsF ps).all (stubOk ps) then
  if ((spotsF ps).filterMap sTgt).Nodup then (if ((seenF ps).map fun x=>rk (sRow x)).Nodup then 0 else 8) else 6
 else 4
def viewC (ps:Pgs):Int:=if 12 < ps.length then 2 else if firstF pgC ps=0 then lookC ps else firstF pgC ps
def rightP (ps:Pgs):Prop:=ps.length<=12/\∀ p ∈ ps,PageOk p
theorem pgC_ok {p:List UInt8} (h:pgC p=0):PageOk p/\∀ s,s < pn p->psz p s≠0->(cellF (cellP p s)).2=true:=by
 unfold pgC at h;split at h
 ·rename_i h1;split at h
  ·rename_i h2;refine ⟨pageF_iff.1 h1,fun s hs hz=>?_⟩
   have:=cC.1 h2 s (dC.2 hs)
   simpa [okCell,hz] using this
  ·cases h
 ·rename_i h1;exact absurd h h1
theorem firstF_all {α:Type} {c:α->Int}:∀ {xs:List α},firstF c xs=0->∀ x ∈ xs,c x=0
 | [],_,_,hx=>by cases hx
 | y::xs,h,x,hx=>by
  simp only[firstF] at h;split at h
  ·rename_i hy;rcases aS.1 hx with rfl | hx
   ·exact hy
   ·exact firstF_all h x hx
  ·rename_i hy;exact absurd h hy
theorem view_right {ps:Pgs} (h:viewC ps=0):rightP ps/\firstF pgC ps=0/\lookC ps=0:=by
 unfold viewC at h;split at h
 ·cases h
 ·rename_i h1;split at h
  ·rename_i h2;exact ⟨⟨by omega,fun p hp=>(pgC_ok (firstF_all h2 p hp)).1⟩,h2,h⟩
  ·rename_i h2;exact absurd h h2
theorem spotsPg_len {p:List UInt8} (h:PageOk p) (P:Nat):(spotsPg P p).length<=16:=by
 have:∀ n,((List.range n).flatMap (spot1 P p)).length<=n:=by
  intro n
  induction n with
  | zero=>simp
  | succ n ih=>
   rw[List.range_succ,iQ,aU]
   have:(([n]:List Nat).flatMap (spot1 P p)).length<=1:=by
    simp only[eA,List.flatMap_nil,cP,spot1];split <;> simp
   omega
 have h1:=this (pn p);have h2:=h.n;unfold spotsPg;omega
theorem spots_len {ps:Pgs} (h:rightP ps):(spotsF ps).length<=192:=by
 have:=goI_len (g:=spotsPg) (n:=16) ps 0 fun i p hp=>spotsPg_len (h.2 p hp) i;unfold spotsF;have:=h.1;omega
theorem seen_len {ps:Pgs} (h:rightP ps):(seenF ps).length<=192:=by
 have:∀ xs:List L6Spot,(xs.flatMap (seenX ps)).length<=xs.length:=by
  intro xs
  induction xs with
  | nil=>simp
  | cons x xs ih=>
   have:(seenX ps x).length<=1:=by unfold seenX;split <;> simp
   simp only[eA,aU,aP];omega
 have h1:=this (spotsF ps);have h2:=spots_len h;unfold seenF;omega
theorem cellF_nonneg (d:List UInt8):0<=(cellF d).1.2.2.1/\0<=(cellF d).1.2.2.2.1:=by
 unfold cellF;split
 ·exact ⟨aN _,aN _⟩
 ·split
  ·exact ⟨iI _,iI _⟩
  ·exact ⟨iI _,iI _⟩
theorem spot_mem {ps:Pgs} {x:L6Spot}:x ∈ spotsF ps↔∃ (P:Nat) (p:List UInt8) (s:Nat),ps[P]?=some p/\s < pn p/\psz p s≠0/\x=((P:Int),(s:Int),(cellF (cellP p s)).1,()):=by
 unfold spotsF;rw[goI_mem];constructor
 ·rintro ⟨j,p,h1,h2⟩;obtain ⟨s,h3,h4⟩:=eR.1 h2;unfold spot1 at h4;split at h4
  ·cases h4
  ·rename_i hz;rw[bV] at h4;rw[bD] at h4;exact ⟨j,p,s,h1,dC.1 h3,hz,h4⟩
 ·rintro ⟨P,p,s,h1,h2,h3,rfl⟩;refine ⟨P,p,h1,eR.2 ⟨s,dC.2 h2,?_⟩⟩
  unfold spot1;rw[aY h3,bD];exact bV.2 rfl
theorem spot_nonneg {ps:Pgs} {x:L6Spot} (h:x ∈ spotsF ps):0<=sTp x/\0<=sTs x:=by
 obtain ⟨P,p,s,_,_,_,rfl⟩:=spot_mem.1 h;exact cellF_nonneg _
theorem specSpots_eq (ps:Pgs) (h:rightP ps):spec_l6Spots.sem (ps,())=some (spotsF ps,()):=by
 obtain ⟨hl,hp⟩:=h;refine lift_eq (k:=100) fun k hk=>(spec_l6Spots.raw_eq k _).trans ?_
 have inner:∀ (self:(Pgs×(List L6Spot)×Int)->Option spec_l6Spots.Out) (e0:(List L6Spot)->Option spec_l6Spots.Out) (i:Nat) (hi:i < ps.length) (s:List L6Spot),s.length<=1000->spec_l6Spots.r1 k self e0 (ps,()) ps (i:Int) (s,(0:Int))=self (ps,s++spotsPg i ps[i],w64 ((i:Int)+1)):=fun self e0 i hi s0 hs0=>by
  have hok:=hp _ (bC hi);have hn:=hok.n;have hlen:=hok.len
  have:=range_loop (B:=fun self' v=>spec_l6Spots.b1 self' (fun z=>spec_l6Spots.q0 self e0 (ps,()) ps (i:Int) z) (ps,()) ps (i:Int) v) (pn ps[i]) (fun (s:List L6Spot) (j:Int)=>(s,j)) (fun j s=>.inr (s++spot1 i ps[i] j)) (fun s=>self (ps,s,w64 ((i:Int)+1))) (fun j s=>s.length<=1000+j) (by omega)
   (fun j hj s self' hI=>by
    show spec_l6Spots.b1 _ _ _ _ _ _=_;unfold spec_l6Spots.b1 spot1;have hlt:(j:Int) < (pn ps[i]:Int):=by omega
    simp only[aN,aH,aI,aA hi,aB,pCount_eq hlen,hlt,aE,aL,pSize_eq hlen (show j < 16 by omega)];by_cases hz:psz ps[i] j=0
    ·have:¬ ((0:Int) < (psz ps[i] j:Int)):=by omega
     rw[cE this];simp only[aG,hz,aH,cP]
    ·have:((0:Int) < (psz ps[i] j:Int)):=by omega
     rw[bZ this];simp only[aL,specCellAt_eq hok hj,specRead1_eq _ (bK (cellP_small hok hj) (by omega)),aB,hz,aM]
     rw[aV (cap_ok (by simp only[aP,aZ];omega))])
   (fun j hj s s' hI hf=>by
    injection hf with hf;subst hf;have:(spot1 i ps[i] j).length<=1:=by unfold spot1;split <;> simp
    rw[aU];omega) (fun s self' hI=>by
    show spec_l6Spots.b1 _ _ _ _ _ _=_;unfold spec_l6Spots.b1;simp only[aN,aH,aI,aA hi,aB,pCount_eq hlen,bP,aF,aG]
    rfl) s0 (by omega) k (by omega)
  rw[forI_app (spot1 i ps[i])] at this;exact this
 have:=for_loopE (B:=fun self v=>spec_l6Spots.B0 k self (fun z=>spec_l6Spots.q1 (ps,()) z) (ps,()) v) ps (fun (s:List L6Spot) (i:Int)=>(ps,s,i)) (fun i s p=>.inr (s++spotsPg i p)) (fun s=>some (s,())) (fun i s=>s.length<=16*i) (by rw[maxLen_val];omega)
  (fun i hi s self hI=>by
   show spec_l6Spots.b0 _ _ _ _ _=_;unfold spec_l6Spots.b0;have hlt:(i:Int) < (ps.length:Int):=by omega
   simp only[hlt,aE,aL,inner self _ i hi s (by omega)])
  (fun i hi s s' hI hf=>by
   injection hf with hf;subst hf;have:=spotsPg_len (hp _ (bC hi)) i
   rw[aU];omega) (fun s self _=>by
   show spec_l6Spots.b0 _ _ _ _ _=_;unfold spec_l6Spots.b0;simp only[bP,aF,aG]
   rfl) [] (by simp) k (by omega)
 rw[forI_appI] at this;exact this
theorem specCells_eq (ps:Pgs) (hl:ps.length<=12) (hp:∀ p ∈ ps,p.length<=maxLen):spec_l6Cells.sem (ps,())=some (firstF pgC ps,()):=by
 refine lift_eq (k:=100) fun k hk=>(spec_l6Cells.raw_eq k _).trans ?_
 have inner:∀ (self:(Pgs×Int)->Option spec_l6Cells.Out) (e0:Unit->Option spec_l6Cells.Out) (i:Nat) (hi:i < ps.length),PageOk ps[i]->spec_l6Cells.r1 k self e0 (ps,()) ps (i:Int) (0:Int)=if (List.range (pn ps[i])).all (okCell ps[i]) then self (ps,w64 ((i:Int)+1)) else some ((5:Int),()):=fun self e0 i hi hok=>by
  have hn:=hok.n;have hlen:=hok.len
  have:=range_loop (B:=fun self' v=>spec_l6Cells.b1 self' (fun z=>spec_l6Cells.q0 self e0 (ps,()) ps (i:Int) z) (ps,()) ps (i:Int) v) (pn ps[i]) (fun (_:Unit) (j:Int)=>j) (fun j _=>if okCell ps[i] j then .inr () else .inl (some ((5:Int),()))) (fun s=>self (ps,w64 ((i:Int)+1))) (fun _ _=>True) (by omega)
   (fun j hj s self' hI=>by
    show spec_l6Cells.b1 _ _ _ _ _ _=_;unfold spec_l6Cells.b1 okCell;have hlt:(j:Int) < (pn ps[i]:Int):=by omega
    simp only[aN,aH,aI,aA hi,aB,pCount_eq hlen,hlt,aE,aL,pSize_eq hlen (show j < 16 by omega)];by_cases hz:psz ps[i] j=0
    ·have:¬ ((0:Int) < (psz ps[i] j:Int)):=by omega
     rw[cE this];simp only[aG,hz,aE,fX,aH]
    ·have:((0:Int) < (psz ps[i] j:Int)):=by omega
     rw[bZ this];simp only[aL,specCellAt_eq hok hj,specRead1_eq _ (bK (cellP_small hok hj) (by omega)),aB,hz,aF,eN]
     cases (cellF (cellP ps[i] j)).2 <;> rfl)
   (fun _ _ _ _ _ _=>trivial) (fun s self' hI=>by
    show spec_l6Cells.b1 _ _ _ _ _ _=_;unfold spec_l6Cells.b1;simp only[aN,aH,aI,aA hi,aB,pCount_eq hlen,bP,aF,aG]
    rfl) () trivial k (by omega)
  rw[forI_checkN] at this;exact this
 have:=for_loopE (B:=fun self v=>spec_l6Cells.B0 k self (fun z=>spec_l6Cells.q1 (ps,()) z) (ps,()) v) ps (fun (_:Unit) (i:Int)=>(ps,i)) (fun i _ p=>if pgC p=0 then .inr () else .inl (some (pgC p,()))) (fun _=>some ((0:Int),())) (fun _ _=>True) (by rw[maxLen_val];omega)
  (fun i hi s self hI=>by
   show spec_l6Cells.b0 _ _ _ _ _=_;unfold spec_l6Cells.b0 pgC;have hlt:(i:Int) < (ps.length:Int):=by omega
   simp only[hlt,aE,aL,aN,aH,aI,aA hi,aB,specPage_eq _ (hp _ (bC hi))];by_cases h0:pageF ps[i]=0
   ·rw[bZ h0];simp only[aQ,aG,inner self _ i hi (pageF_iff.1 h0),h0,aH];by_cases hc:(List.range (pn ps[i])).all (okCell ps[i])=true
    ·simp only[hc,aH]
    ·simp only[hc,aD,aM];rfl
   ·rw[cE h0]
    simp only[bG,aL,h0,aM])
  (fun _ _ _ _ _ _=>trivial) (fun s self _=>by
   show spec_l6Cells.b0 _ _ _ _ _=_;unfold spec_l6Cells.b0;simp only[bP,aF,aG]
   rfl) () trivial k (by omega)
 rw[forI_first pgC (fun c=>some (c,())) (fun _=>some ((0:Int),()))] at this;refine bI this ?_;split
 ·rename_i h;rw[h]
 ·rfl
theorem specCell6_eq (ps:Pgs) (h:rightP ps) (a b:Int) (ha:0<=a) (hb:0<=b):spec_l6Cell.sem (ps,a,b,())=some ((cellG ps a b).1,(cellG ps a b).2,()):=by
 obtain ⟨hl,hp⟩:=h;obtain ⟨a,rfl⟩:=dE ha;obtain ⟨b,rfl⟩:=dE hb;refine lift_eq (k:=0) fun k hk=>(spec_l6Cell.raw_eq k _).trans ?_;show spec_l6Cell.p _=_;unfold spec_l6Cell.p cellG;have hw:w64 ((ps.length:Int) - 1)=(ps.length:Int) - 1:=w64_in (by omega);have h0:decide ((0:Int)<=(a:Int))=true:=bZ (by omega);have h1:decide ((a:Int)<=(ps.length:Int) - 1)=decide (a < ps.length):=by rw[cI];omega
 simp only[specIn_eq,hw,h0,h1,aB,fF,aI];by_cases hal:a < ps.length;rotate_left
 ·rw[cE hal,cV (by omega)];rfl
 rw[bZ hal];have hok:=hp _ (bC hal);simp only[aQ,aG,aN,aH,aA hal,aB,specHas_eq hok];by_cases hc:b < pn ps[a]/\psz ps[a] b≠0
 ·rw[bZ hc.1,cE hc.2,aV hc];simp only[bG,fQ,aQ,aG,specCellAt_eq hok hc.1,specRead1_eq _ (bK (cellP_small hok hc.1) (by omega)),aB]
 ·rw[aY hc]
  have:(decide (b < pn ps[a])&&!decide (psz ps[a] b=0))=false:=by
   rw[gE];by_cases h2:b < pn ps[a]
   ·right
    have:psz ps[a] b=0:=by
     by_cases h3:psz ps[a] b=0
     ·exact h3
     ·exact absurd ⟨h2,h3⟩ hc
    rw[bZ this];rfl
   ·left;exact cE h2
  rw[this];rfl
theorem specStubs_eq (ps:Pgs) (h:rightP ps):spec_l6Stubs.sem (spotsF ps,ps,())=some (if (spotsF ps).all (stubOk ps) then (if ((spotsF ps).filterMap sTgt).Nodup then 0 else 6) else 4,()):=by
 have hsl:=spots_len h;have hnn:∀ x ∈ spotsF ps,0<=sTp x/\0<=sTs x:=fun x hx=>spot_nonneg hx;generalize spotsF ps=xs at hsl hnn ⊢;refine lift_eq (k:=300) fun k hk=>(spec_l6Stubs.raw_eq k _).trans ?_
 have inner:∀ (self:(List L6Spot×Int)->Option spec_l6Stubs.Out) (e2:Unit->Option spec_l6Stubs.Out) (i:Nat) (hi:i < xs.length),spec_l6Stubs.r2 k self e2 (xs,ps,()) xs (i:Int) (0:Int)=if (xs.take i).any (fun y=>decide (sFlag xs[i]=1)&&(decide (sFlag y=1)&&(decide (sTp xs[i]=sTp y)&&decide (sTs xs[i]=sTs y)))) then some ((6:Int),()) else self (xs,w64 ((i:Int)+1)):=fun self e2 i hi=>by
  have hti:(xs.take i).length=i:=by rw[bS];omega
  have:=for_loopE (B:=fun self' v=>spec_l6Stubs.b2 self' (fun z=>spec_l6Stubs.q1 self e2 (xs,ps,()) xs (i:Int) z) (xs,ps,()) xs (i:Int) v) (xs.take i) (fun (_:Unit) (j:Int)=>j) (fun _ _ y=>if decide (sFlag xs[i]=1)&&(decide (sFlag y=1)&&(decide (sTp xs[i]=sTp y)&&decide (sTs xs[i]=sTs y))) then .inl (some ((6:Int),())) else .inr ()) (fun _=>self (xs,w64 ((i:Int)+1))) (fun _ _=>True) (by rw[maxLen_val];omega)
   (fun j hj s self' _=>by
    have hji:j < i:=by omega
    have hj2:j < xs.length:=by omega
    show spec_l6Stubs.b2 _ _ _ _ _ _=_;unfold spec_l6Stubs.b2;have hlt:(j:Int) < (i:Int):=by omega
    have hg:(xs.take i)[j]=xs[j]:=jE;rw[hg];simp only[hlt,aE,aL,aN,aH,aI,aA hi,aA hj2,aB];show (bif decide (sFlag xs[i]=1) then bif decide (sFlag xs[j]=1) then bif decide (sTp xs[i]=sTp xs[j]) then bif decide (sTs xs[i]=sTs xs[j]) then _ else _ else _ else _ else _)=_
    cases decide (sFlag xs[i]=1) <;> cases decide (sFlag xs[j]=1) <;> cases decide (sTp xs[i]=sTp xs[j]) <;> cases decide (sTs xs[i]=sTs xs[j]) <;> rfl)
   (fun _ _ _ _ _ _=>trivial) (fun s self' _=>by
    rw[hti];show spec_l6Stubs.b2 _ _ _ _ _ _=_;unfold spec_l6Stubs.b2;simp only[bP,aF,aG]
    rfl) () trivial k (by omega)
  rw[forI_any] at this;exact this
 have second:spec_l6Stubs.r1 k (xs,ps,()) (xs,(0:Int))=if (xs.filterMap sTgt).Nodup then some ((0:Int),()) else some ((6:Int),()):=by
  have:=for_loopE (B:=fun self v=>spec_l6Stubs.B1 k self (fun z=>spec_l6Stubs.q2 (xs,ps,()) z) (xs,ps,()) v) xs (fun (_:Unit) (i:Int)=>(xs,i)) (fun i _ x=>if (xs.take i).any (fun y=>decide (sFlag x=1)&&(decide (sFlag y=1)&&(decide (sTp x=sTp y)&&decide (sTs x=sTs y)))) then .inl (some ((6:Int),())) else .inr ()) (fun _=>some ((0:Int),())) (fun _ _=>True) (by rw[maxLen_val];omega)
   (fun i hi s self _=>by
    show spec_l6Stubs.b1 _ _ _ _ _=_;unfold spec_l6Stubs.b1;have hlt:(i:Int) < (xs.length:Int):=by omega
    simp only[hlt,aE,aL,inner self _ i hi]
    split <;> rfl)
   (fun _ _ _ _ _ _=>trivial) (fun s self _=>by
    show spec_l6Stubs.b1 _ _ _ _ _=_;unfold spec_l6Stubs.b1;simp only[bP,aF,aG]
    rfl) () trivial k (by omega)
  rw[forI_dup0 sTgt (some ((6:Int),())) (fun _=>some ((0:Int),())) (fun x y=>decide (sFlag x=1)&&(decide (sFlag y=1)&&(decide (sTp x=sTp y)&&decide (sTs x=sTs y)))) (fun x y=>?_) xs] at this
  ·exact this
  ·unfold sTgt;simp only[aC,bU];constructor
   ·rintro ⟨h1,h2,h3,h4⟩;exact ⟨(sTp x,sTs x),by rw[aV h1],by rw[aV h2,h3,h4]⟩
   ·rintro ⟨b,h1,h2⟩;by_cases c1:sFlag x=1
    ·by_cases c2:sFlag y=1
     ·rw[aV c1] at h1;rw[aV c2] at h2;injection h1 with h1;injection h2 with h2;rw[<-h2] at h1;injection h1 with h3 h4;exact ⟨c1,c2,h3,h4⟩
     ·rw[aY c2] at h2;cases h2
    ·rw[aY c1] at h1;cases h1
 have:=for_loopE (B:=fun self v=>spec_l6Stubs.b0 self (fun z=>spec_l6Stubs.Q0 k (xs,ps,()) z) (xs,ps,()) v) xs (fun (_:Unit) (i:Int)=>i) (fun i _ x=>if stubOk ps x then .inr () else .inl (some ((4:Int),()))) (fun _=>spec_l6Stubs.r1 k (xs,ps,()) (xs,(0:Int))) (fun _ _=>True) (by rw[maxLen_val];omega)
  (fun i hi s self _=>by
   show spec_l6Stubs.b0 _ _ _ _=_;unfold spec_l6Stubs.b0 stubOk;have hlt:(i:Int) < (xs.length:Int):=by omega
   obtain ⟨g1,g2⟩:=hnn _ (bC hi);have hcc:spec_l6Cell.sem (ps,(xs[i]).2.2.1.2.2.1,(xs[i]).2.2.1.2.2.2.1,())=some ((cellG ps (sTp xs[i]) (sTs xs[i])).1,(cellG ps (sTp xs[i]) (sTs xs[i])).2,()):=specCell6_eq ps h _ _ g1 g2;simp only[hlt,aE,aL,aN,aH,aI,aA hi,aB,hcc];show (bif !decide (sFlag xs[i]=1) then _ else _)=_
   cases decide (sFlag xs[i]=1) <;> cases (cellG ps (sTp xs[i]) (sTs xs[i])).2 <;> cases decide ((cellG ps (sTp xs[i]) (sTs xs[i])).1.2.1=2) <;> rfl)
  (fun _ _ _ _ _ _=>trivial) (fun s self _=>by
   show spec_l6Stubs.b0 _ _ _ _=_;unfold spec_l6Stubs.b0;simp only[bP,aF,aG]
   rfl) () trivial k (by omega)
 rw[forI_check (stubOk ps) (some ((4:Int),())) (fun _=>spec_l6Stubs.r1 k (xs,ps,()) (xs,(0:Int)))] at this;refine bI this ?_;rw[second];split
 ·split <;> rfl
 ·rfl
theorem specSeen_eq (ps:Pgs) (h:rightP ps):spec_l6Seen.sem (ps,())=some (seenF ps,()):=by
 refine lift_eq (k:=300) fun k hk=>(spec_l6Seen.raw_eq k _).trans ?_;unfold spec_l6Seen.p;rw[specSpots_eq ps h];simp only[aB];have hsl:=spots_len h;have hnn:∀ x ∈ spotsF ps,0<=sTp x/\0<=sTs x:=fun x hx=>spot_nonneg hx;unfold seenF;generalize spotsF ps=xs at hsl hnn ⊢
 have:=for_loopE (B:=fun self v=>spec_l6Seen.b0 self (fun z=>spec_l6Seen.q0 (ps,()) xs z) (ps,()) xs v) xs (fun (s:List L6Spot) (i:Int)=>(s,i)) (fun i s x=>.inr (s++seenX ps x)) (fun s=>some (s,())) (fun i s=>s.length<=i) (by rw[maxLen_val];omega)
  (fun i hi s self hI=>by
   show spec_l6Seen.b0 _ _ _ _ _=_;unfold spec_l6Seen.b0 seenX;have hlt:(i:Int) < (xs.length:Int):=by omega
   obtain ⟨g1,g2⟩:=hnn _ (bC hi);have hcc:spec_l6Cell.sem (ps,(xs[i]).2.2.1.2.2.1,(xs[i]).2.2.1.2.2.2.1,())=some ((cellG ps (sTp xs[i]) (sTs xs[i])).1,(cellG ps (sTp xs[i]) (sTs xs[i])).2,()):=specCell6_eq ps h _ _ g1 g2;have hcap:∀ y:L6Spot,s.length+[y].length<=CAP:=fun y=>cap_ok (by simp only[aP,aZ];omega);simp only[hlt,aE,aL,aN,cU,aH,aI,aA hi,aB,hcc,hcap];show (bif decide (sFlag xs[i]=2) then _ else bif decide (sFlag xs[i]=1) then _ else _)=_;unfold seen1;by_cases c2:sFlag xs[i]=2
   ·simp only[c2,aE,aL,aH,cP]
   ·by_cases c1:sFlag xs[i]=1
    ·simp only[c1,c2,aE,aF,aL,aG,aH,aM];rfl
    ·simp only[c1,c2,aF,aG,aM])
  (fun i hi s s' hI hf=>by
   injection hf with hf;subst hf;have:(seenX ps xs[i]).length<=1:=by unfold seenX;split <;> simp
   rw[aU];omega) (fun s self _=>by
   show spec_l6Seen.b0 _ _ _ _ _=_;unfold spec_l6Seen.b0;simp only[bP,aF,aG]
   rfl) [] (by simp) k (by omega)
 rw[forI_app (seenX ps)] at this;exact this
def sKey (x:L6Spot):Option (Int×Int):=some (rk (sRow x))
theorem specView_eq (ps:Pgs) (hp:∀ p ∈ ps,p.length<=maxLen):spec_l6Fault.sem (ps,())=some (viewC ps,()):=by
 refine lift_eq (k:=300) fun k hk=>(spec_l6Fault.raw_eq k _).trans ?_;unfold spec_l6Fault.p viewC;by_cases hl:12 < ps.length
 ·have:(12:Int) < (ps.length:Int):=by omega
  simp only[this,aE,aL,hl,aH]
 have hl':¬ ((12:Int) < (ps.length:Int)):=by omega
 simp only[hl',aF,aG,hl,aM,specCells_eq ps (by omega) hp,aB];by_cases hc:firstF pgC ps=0;rotate_left
 ·simp only[hc,aF,bG,aL,aM]
 have h:rightP ps:=⟨by omega,fun p hp=>(pgC_ok (firstF_all hc p hp)).1⟩
 simp only[hc,aE,aQ,aG,aH,specSpots_eq ps h,specStubs_eq ps h,specSeen_eq ps h,aB];unfold lookC;by_cases h1:(spotsF ps).all (stubOk ps)=true;rotate_left
 ·simp only[h1,aD,aM];rfl
 by_cases h2:((spotsF ps).filterMap sTgt).Nodup;rotate_left
 ·simp only[h1,h2,aH,aM];rfl
 simp only[h1,h2,aH,aE,aQ,aG];have hsl:=seen_len h;generalize seenF ps=xs at hsl ⊢
 have inner:∀ (self:(List L6Spot×Int)->Option spec_l6Fault.Out) (e0:Unit->Option spec_l6Fault.Out) (i:Nat) (hi:i < xs.length),spec_l6Fault.r1 k self e0 (ps,()) xs (i:Int) (0:Int)=if (xs.take i).any (fun y=>decide ((sRow xs[i]).1=(sRow y).1)&&decide ((sRow xs[i]).2.1=(sRow y).2.1)) then some ((8:Int),()) else self (xs,w64 ((i:Int)+1)):=fun self e0 i hi=>by
  have hti:(xs.take i).length=i:=by rw[bS];omega
  have:=for_loopE (B:=fun self' v=>spec_l6Fault.b1 self' (fun z=>spec_l6Fault.q0 self e0 (ps,()) xs (i:Int) z) (ps,()) xs (i:Int) v) (xs.take i) (fun (_:Unit) (j:Int)=>j) (fun _ _ y=>if decide ((sRow xs[i]).1=(sRow y).1)&&decide ((sRow xs[i]).2.1=(sRow y).2.1) then .inl (some ((8:Int),())) else .inr ()) (fun _=>self (xs,w64 ((i:Int)+1))) (fun _ _=>True) (by rw[maxLen_val];omega)
   (fun j hj s self' _=>by
    have hji:j < i:=by omega
    have hj2:j < xs.length:=by omega
    show spec_l6Fault.b1 _ _ _ _ _ _=_;unfold spec_l6Fault.b1;have hlt:(j:Int) < (i:Int):=by omega
    have hlt1:(i:Int) < (xs.length:Int):=by omega
    have hlt2:(j:Int) < (xs.length:Int):=by omega
    have hg:(xs.take i)[j]=xs[j]:=jE;rw[hg];simp only[hlt,hlt1,hlt2,aE,aL,aN,cU,aH,aI,aA hi,aA hj2,aB];show (bif decide ((sRow xs[i]).1=(sRow xs[j]).1) then bif decide ((sRow xs[i]).2.1=(sRow xs[j]).2.1) then _ else _ else _)=_
    cases decide ((sRow xs[i]).1=(sRow xs[j]).1) <;> cases decide ((sRow xs[i]).2.1=(sRow xs[j]).2.1) <;> rfl)
   (fun _ _ _ _ _ _=>trivial) (fun s self' _=>by
    rw[hti];show spec_l6Fault.b1 _ _ _ _ _ _=_;unfold spec_l6Fault.b1;simp only[bP,aF,aG]
    rfl) () trivial k (by omega)
  rw[forI_any] at this;exact this
 have:=for_loopE (B:=fun self v=>spec_l6Fault.B0 k self (fun z=>spec_l6Fault.q1 (ps,()) z) (ps,()) v) xs (fun (_:Unit) (i:Int)=>(xs,i)) (fun i _ x=>if (xs.take i).any (fun y=>decide ((sRow x).1=(sRow y).1)&&decide ((sRow x).2.1=(sRow y).2.1)) then .inl (some ((8:Int),())) else .inr ()) (fun _=>some ((0:Int),())) (fun _ _=>True) (by rw[maxLen_val];omega)
  (fun i hi s self _=>by
   show spec_l6Fault.b0 _ _ _ _ _=_;unfold spec_l6Fault.b0;have hlt:(i:Int) < (xs.length:Int):=by omega
   simp only[hlt,aE,aL,inner self _ i hi]
   split <;> rfl)
  (fun _ _ _ _ _ _=>trivial) (fun s self _=>by
   show spec_l6Fault.b0 _ _ _ _ _=_;unfold spec_l6Fault.b0;simp only[bP,aF,aG]
   rfl) () trivial k (by omega)
 rw[forI_dup0 sKey (some ((8:Int),())) (fun _=>some ((0:Int),())) (fun x y=>decide ((sRow x).1=(sRow y).1)&&decide ((sRow x).2.1=(sRow y).2.1)) (fun x y=>?_) xs] at this
 ·refine bI this ?_
  have:xs.filterMap sKey=xs.map fun x=>rk (sRow x):=by
   unfold sKey;rw[<-List.filterMap_eq_map];rfl
  rw[this];split <;> rfl
 ·unfold sKey rk;simp only[aC,bU];constructor
  ·rintro ⟨h1,h2⟩;exact ⟨_,rfl,by rw[h1,h2]⟩
  ·rintro ⟨b,h1,h2⟩;injection h1 with h1;injection h2 with h2;rw[<-h2] at h1;injection h1 with h3 h4;exact ⟨h3,h4⟩
end OT
namespace OT
open Go Go.Sort
abbrev tK2:Ty:=.arr 2 i64
theorem key2_eq (a b c d:Int):Ty.eq tK2 [a,b] [c,d]=(decide (a=c)&&decide (b=d)):=by
 show ([(a,c),(b,d)]:List (Int×Int)).all (fun p=>Ty.eq i64 p.1 p.2)=_;simp only[eL,List.all_nil,Bool.and_true];rfl
theorem key2_lay (a b:Int):((List.replicate 2 (0:Int)).set 0 a).set 1 b=[a,b]:=rfl
theorem mapPut_fresh {α:Type} (k:Ty) (m:List (k.den×α)) (x:k.den) (y:α) (h:∀ e ∈ m,k.eq x e.1=false):mapPut k m x y=m++[(x,y)]:=by
 have:m.findIdx? (fun e=>k.eq x e.1)=none:=by
  rw[List.findIdx?_eq_none_iff];exact h
 unfold mapPut;rw[this]
def rowsOf1 (x:L6Spot):List Seen:=if sFlag x=0 then [(sRow x,x.1,x.2.1,false,x.1,x.2.1,())] else []
def stubOf1 (x:L6Spot):List Seen:=if sFlag x=1 then [(row0,x.1,x.2.1,true,sTp x,sTs x,())] else []
def movOf1 (x:L6Spot):List (List Int×Row):=if sFlag x=2 then [([x.1,x.2.1],sRow x)] else []
theorem cellF_flag (d:List UInt8):(cellF d).2=true->(cellF d).1.1=0/\((cellF d).1.2.1=0\/(cellF d).1.2.1=1\/(cellF d).1.2.1=2):=by
 unfold cellF;split
 ·intro _;exact ⟨rfl,.inr (.inl rfl)⟩
 ·split
  ·intro h;cases h
  ·rename_i h;intro _;refine ⟨rfl,?_⟩
   show ((pb d 0:Int)=0\/(pb d 0:Int)=1\/(pb d 0:Int)=2);omega
def cellsOk (ps:Pgs):Prop:=rightP ps/\∀ p ∈ ps,∀ s,s < pn p->psz p s≠0->(cellF (cellP p s)).2=true
theorem cells_of {ps:Pgs} (hl:ps.length<=12) (h:firstF pgC ps=0):cellsOk ps:=
 ⟨⟨hl,fun p hp=>(pgC_ok (firstF_all h p hp)).1⟩,fun p hp=>(pgC_ok (firstF_all h p hp)).2⟩
theorem spot_flag {ps:Pgs} (h:cellsOk ps) {x:L6Spot} (hx:x ∈ spotsF ps):sFlag x=0\/sFlag x=1\/sFlag x=2:=by
 obtain ⟨P,p,s,h1,h2,h3,rfl⟩:=spot_mem.1 hx;exact (cellF_flag _ (h.2 p (bW h1) s h2 h3)).2
theorem gather_len (S:List L6Spot):(S.flatMap rowsOf1).length<=S.length/\(S.flatMap stubOf1).length<=S.length:=by
 induction S with
 | nil=>exact ⟨aK _,aK _⟩
 | cons x S ih=>
  have h1:(rowsOf1 x).length<=1:=by unfold rowsOf1;split <;> simp
  have h2:(stubOf1 x).length<=1:=by unfold stubOf1;split <;> simp
  simp only[eA,aU,aP];omega
theorem mov_get {ps:Pgs} (h:cellsOk ps) (a b:Int) (ha:0<=a) (hb:0<=b):mapGet tK2 ((spotsF ps).flatMap movOf1) [a,b]=if (cellG ps a b).2&&decide ((cellG ps a b).1.2.1=2) then some (cellG ps a b).1.2.2.2.2.1 else none:=by
 obtain ⟨a,rfl⟩:=dE ha;obtain ⟨b,rfl⟩:=dE hb;unfold mapGet
 have at_:∀ x ∈ spotsF ps,x.1=(a:Int)->x.2.1=(b:Int)->cellG ps (a:Int) (b:Int)=(x.2.2.1,true):=fun x hx e1 e2=>by
  obtain ⟨P,p,s,h1,h2,h3,rfl⟩:=spot_mem.1 hx;have e1:(P:Int)=(a:Int):=e1;have e2:(s:Int)=(b:Int):=e2;have e1:P=a:=by omega
  have e2:s=b:=by omega
  subst e1;subst e2;unfold cellG;simp only[aI,h1];rw[aV ⟨h2,h3⟩];have:=h.2 p (bW h1) s h2 h3;rw[<-this]
 cases hf:((spotsF ps).flatMap movOf1).find? (fun e=>Ty.eq tK2 [(a:Int),(b:Int)] e.1) with
 | some e=>
  have hm:=List.mem_of_find?_eq_some hf;have hp:=List.find?_some hf;obtain ⟨x,hx,hxe⟩:=eR.1 hm;unfold movOf1 at hxe;split at hxe
  ·rename_i h2;rw[bV] at hxe;subst hxe;rw[key2_eq,aC,bU,bU] at hp;have hg:=at_ x hx hp.1.symm hp.2.symm;rw[hg];have:(x.2.2.1).2.1=2:=h2;simp only[this,aE,fQ,aH,cA];rfl
  ·cases hxe
 | none=>
  rw[aY]
  ·rfl
  ·intro hc;rw[aC,bU] at hc;obtain ⟨c1,c2⟩:=hc
   have:∃ x ∈ spotsF ps,x.1=(a:Int)/\x.2.1=(b:Int)/\sFlag x=2:=by
    unfold cellG at c1 c2;simp only[aI] at c1 c2
    cases hpa:ps[a]? with
    | none=>rw[hpa] at c1;cases c1
    | some p=>
     rw[hpa] at c1 c2;simp only at c1 c2;by_cases hc:b < pn p/\psz p b≠0
     ·rw[aV hc] at c2;exact ⟨_,spot_mem.2 ⟨a,p,b,hpa,hc.1,hc.2,rfl⟩,rfl,rfl,c2⟩
     ·rw[aY hc] at c1;cases c1
   obtain ⟨x,hx,e1,e2,e3⟩:=this;have hm:([x.1,x.2.1],sRow x) ∈ (spotsF ps).flatMap movOf1:=eR.2 ⟨x,hx,by unfold movOf1;rw[aV e3];exact bV.2 rfl⟩;have:=List.find?_eq_none.1 hf _ hm;rw[key2_eq,e1,e2] at this;simp at this
def convS (x:L6Spot):Seen:=(sRow x,x.1,x.2.1,decide (sFlag x=1),(if sFlag x=1 then sTp x else x.1),(if sFlag x=1 then sTs x else x.2.1),())
def fillS (ps:Pgs) (y:Seen):Seen:=(orZ (mapGet tK2 ((spotsF ps).flatMap movOf1) [y.2.2.2.2.1,y.2.2.2.2.2.1]) row0,y.2)
def listV (ps:Pgs):List Seen:=(spotsF ps).flatMap rowsOf1++((spotsF ps).flatMap stubOf1).map (fillS ps)
theorem listV_perm {ps:Pgs} (h:cellsOk ps) (hs:(spotsF ps).all (stubOk ps)=true):(listV ps).Perm ((seenF ps).map convS):=by
 unfold listV seenF;have hall:=cC.1 hs;have hfl:∀ x ∈ spotsF ps,sFlag x=0\/sFlag x=1\/sFlag x=2:=fun x hx=>spot_flag h hx;have hnn:∀ x ∈ spotsF ps,0<=sTp x/\0<=sTs x:=fun x hx=>spot_nonneg hx
 have key:∀ S:List L6Spot,(∀ x ∈ S,x ∈ spotsF ps)->(S.flatMap rowsOf1++(S.flatMap stubOf1).map (fillS ps)).Perm ((S.flatMap (seenX ps)).map convS):=by
  intro S
  induction S with
  | nil=>intro _;exact gM _
  | cons x S ih=>
   intro hS;have ih:=ih fun y hy=>hS y (aR _ hy);have hx:=hS x bB;simp only[eA,iK];rcases hfl x hx with h0 | h1 | h2
   ·have e1:rowsOf1 x=[convS (seen1 ps x)]:=by
     unfold rowsOf1 convS seen1;have n1:¬ sFlag x=1:=by omega
     rw[aV h0,aY n1,aY n1,aY n1,cE n1]
    have e2:stubOf1 x=[]:=by unfold stubOf1;rw[aY (by omega)]
    have e3:seenX ps x=[seen1 ps x]:=by unfold seenX;rw[aY (by omega)]
    rw[e1,e2,e3];simp only[fY,cH,cS,dD];exact List.Perm.cons _ ih
   ·have e1:rowsOf1 x=[]:=by unfold rowsOf1;rw[aY (by omega)]
    have e3:seenX ps x=[seen1 ps x]:=by unfold seenX;rw[aY (by omega)]
    have e2:(stubOf1 x).map (fillS ps)=[convS (seen1 ps x)]:=by
     unfold stubOf1;rw[aV h1];simp only[cS,fY];obtain ⟨g1,g2⟩:=hnn x hx;have hst:=hall x hx;unfold stubOk at hst;rw[bZ h1] at hst;simp only[aQ,eN] at hst;have hg:=mov_get h (sTp x) (sTs x) g1 g2;rw[aV hst] at hg;unfold fillS;simp only[hg,orZ];unfold seen1;rw[aV h1];have hfl1:sFlag (withRow x (cellG ps (sTp x) (sTs x)).1.2.2.2.2.1)=1:=h1;unfold convS;rw[aV hfl1,aV hfl1,bZ hfl1];rfl
    rw[e1,e2,e3];simp only[cH,cS,fY,dD];exact (fV).trans (List.Perm.cons _ ih)
   ·have e1:rowsOf1 x=[]:=by unfold rowsOf1;rw[aY (by omega)]
    have e2:stubOf1 x=[]:=by unfold stubOf1;rw[aY (by omega)]
    have e3:seenX ps x=[]:=by unfold seenX;rw[aV h2]
    rw[e1,e2,e3]
    simpa using ih
 exact key (spotsF ps) fun x hx=>hx
def ltS (x y:Seen):Bool:=befB (rk x.1) (rk y.1)
def cfS (x y:Seen):Int:=if befB (x.1.1,x.1.2.1) (y.1.1,y.1.2.1) then -1 else if befB (y.1.1,y.1.2.1) (x.1.1,x.1.2.1) then 1 else 0
theorem cfS_lt:Go.Proofs.ltOf cfS=ltS:=by
 funext x y;exact ord_lt x.1 y.1
theorem look1_eq (x y:Seen):impl_look_1.sem (x,y,())=some (cfS x y,()):=by
 refine lift_eq (k:=0) fun k hk=>(impl_look_1.raw_eq k _).trans ?_;show impl_look_1.p _=_;unfold impl_look_1.p;rw[order_eq];rfl
theorem swoS:SWO ltS where
 irrefl x:=befB_irr _
 trans x y z h1 h2:=befB_trans h1 h2
 ntrans x y z h1 h2:=by
  cases h3:ltS x z with
  | false=>rfl
  | true=>
   unfold ltS at h1 h2 h3
   cases h4:befB (rk y.1) (rk x.1) with
   | true=>
    have:=befB_trans h4 h3;rw[this] at h2;cases h2
   | false=>
    have:=befB_tri h1 h4;rw[this] at h3;rw[h3] at h2;cases h2
def putS (xs:List Seen) (x:Seen):List Seen:=xs.take (pos (xs.map (·.1)) (rk x.1))++[x]++xs.drop (pos (xs.map (·.1)) (rk x.1))
def sortS (l:List Seen):List Seen:=l.foldl putS []
theorem putS_map (xs:List Seen) (x:Seen):(putS xs x).map (·.1)=put1 (xs.map (·.1)) x.1:=by
 unfold putS put1;simp only[iK,List.map_take,List.map_drop,cS,fY]
theorem putS_perm (xs:List Seen) (x:Seen):(putS xs x).Perm (x::xs):=by
 unfold putS;rw[bL];have:=fV (a:=x) (l₁:=xs.take (pos (xs.map (·.1)) (rk x.1))) (l₂:=xs.drop (pos (xs.map (·.1)) (rk x.1)));rw[cO] at this;exact this
theorem sortS_map (l:List Seen):(sortS l).map (·.1)=sortR (l.map (·.1)):=by
 have main:∀ (l acc:List Seen),(l.foldl putS acc).map (·.1)=(l.map (·.1)).foldl put1 (acc.map (·.1)):=by
  intro l
  induction l with
  | nil=>intro acc;rfl
  | cons x l ih=>intro acc;simp only[fL,cS,ih,putS_map]
 exact main l []
theorem sortS_perm (l:List Seen):(sortS l).Perm l:=by
 have main:∀ (l acc:List Seen),(l.foldl putS acc).Perm (l++acc):=by
  intro l
  induction l with
  | nil=>intro acc;exact gM _
  | cons x l ih=>
   intro acc;exact (ih (putS acc x)).trans (((gM l).append (putS_perm acc x)).trans fV)
 have:=main l [];rw[cP] at this;exact this
def upS (xs:List Seen):Prop:=xs.Pairwise fun x y=>ltS x y=true
theorem upS_iff {xs:List Seen}:upS xs↔up (xs.map (·.1)):=by
 unfold upS up;rw[hJ];rfl
theorem sortS_unique {l r:List Seen} (hp:r.Perm l) (hr:upS r) (hn:(l.map fun x=>rk x.1).Nodup):r=sortS l:=by
 refine sorted_unique (lt:=fun x y=>ltS x y=true) (fun a b h=>befB_not h) r (sortS l) (hp.trans (sortS_perm l).symm) hr (upS_iff.2 ?_);rw[sortS_map];refine sortR_up ?_;rw[hU];exact hn
theorem upS_nodup {r:List Seen} (h:upS r):(r.map fun x=>rk x.1).Nodup:=by
 have:=up_nodup (upS_iff.1 h);rw[hU] at this;exact this
def adjB:List Seen->Bool
 | x::y::l=>ltS x y&&adjB (y::l)
 | _=>true
theorem adj_up:∀ (l:List Seen),adjB l=true->upS l
 | [],_=>List.Pairwise.nil
 | [x],_=>gX _ _
 | x::y::l,h=>by
  simp only[adjB,aC] at h;have ih:=adj_up (y::l) h.2;refine eI.2 ⟨fun z hz=>?_,ih⟩;rcases aS.1 hz with rfl | hz
  ·exact h.1
  ·exact befB_trans h.1 ((eI.1 ih).1 z hz)
theorem up_adjB:∀ (l:List Seen),upS l->adjB l=true
 | [],_=>rfl
 | [x],_=>rfl
 | x::y::l,h=>by
  obtain ⟨h1,h2⟩:=eI.1 h;simp only[adjB,aC];exact ⟨h1 y bB,up_adjB (y::l) h2⟩
theorem sorted_up {r:List Seen} (h:r.Pairwise fun x y=>ltS y x=false) (hn:(r.map fun x=>rk x.1).Nodup):upS r:=by
 unfold upS
 have h2:r.Pairwise fun x y=>rk x.1≠rk y.1:=by
  unfold List.Nodup at hn;rw[hJ] at hn;exact hn
 refine (h.and h2).imp fun {x y} ⟨g1,g2⟩=>?_
 cases h3:ltS x y with
 | true=>rfl
 | false=>exact absurd (befB_tri h3 g1) g2
end OT
namespace OT
open Go Go.Sort
theorem sort_sem (z:List Seen) (hl:z.length<=1000):∃ r:List Seen,(∀ f:Nat×Int,slices_SortFunc_seen.sem (z,f,())=some (r,()))/\r.Perm z/\r.Pairwise fun x y=>ltS y x=false:=by
 have hs:SWO (Go.Proofs.ltOf cfS):=by rw[cfS_lt];exact swoS
 have h1:=sortF_eq (e:=tSeen) (cs:=impl_look_1.sem) (cf:=cfS) (fun x y=>look1_eq x y) hs z (cap_ok (bK hl (by omega)));have h2:=pdq_spec (α:=tSeen.den) (lt:=Go.Proofs.ltOf cfS) hs z;refine ⟨_,fun f=>?_,h2.1,?_⟩
 ·show (sortF tSeen impl_look_1.sem z).map (fun r=>(r,()))=_;rw[h1];rfl
 ·exact h2.2.imp fun {x y} (h:Go.Proofs.ltOf (α:=Seen) cfS y x=false)=>by rw[cfS_lt] at h;exact h
theorem forI_adj {O:Type} (r:List Seen) (bad e:O):∀ (l pre:List Seen) (x:Seen),r=pre++x::l->forI (fun i (_:Unit) y=>if (match r[i]? with | some z=>ltS z y | none=>true) then .inr () else .inl bad) (fun _=>e) pre.length l ()=if adjB (x::l) then e else bad
 | [],pre,x,_=>by simp[forI,adjB]
 | y::l,pre,x,h=>by
  have hx:r[pre.length]?=some x:=by rw[h,bR (aK _)];simp
  simp only[forI,hx,adjB];by_cases hc:ltS x y=true;rotate_left
  ·have hc':ltS x y=false:=by simpa using hc
   simp only[hc',aD,aM,jP]
  ·simp only[hc,aH,fF];have:=forI_adj r bad e l (pre++[x]) y (by rw[h];simp);rw[aU] at this;exact this
theorem adj_walk (ps:Pgs) (k:Nat) (hk:300<=k) (r:List Seen) (hl:r.length<=192):rawIter (fun self v=>impl_look.B4 k self (fun z=>impl_look.Q4 k (ps,()) r z) (ps,()) r v) k 1=if adjB r then some (r,(0:Int),()) else some (([]:List Seen),(8:Int),()):=by
 have:=for_loopE (B:=fun self v=>impl_look.B4 k self (fun z=>impl_look.Q4 k (ps,()) r z) (ps,()) r v) (r.drop 1) (fun (_:Unit) (i:Int)=>i+1) (fun i _ y=>if (match r[i]? with | some z=>ltS z y | none=>true) then .inr () else .inl (some (([]:List Seen),(8:Int),()))) (fun _=>some (r,(0:Int),())) (fun _ _=>True) (by rw[maxLen_val,bM];omega)
  (fun i hi s self _=>by
   rw[bM] at hi;show impl_look.b4 _ _ _ _ _=_;unfold impl_look.b4;have hlt:(i:Int)+1 < (r.length:Int):=by omega
   have hlt2:(i:Int) < (r.length:Int):=by omega
   have hnn:(0:Int)<=(i:Int)+1:=by omega
   have hw1:w64 ((i:Int)+1 - 1)=(i:Int):=by rw[w64_in (by omega)];omega
   have hw2:w64 ((i:Int)+1+1)=w64 ((i:Int)+1)+1:=by rw[w64_in (by omega),w64_in (by omega)]
   have htn:((i:Int)+1).toNat=i+1:=by omega
   have hg:(r.drop 1)[i]'(by rw[bM];omega)=r[i+1]'(by omega):=by rw[jF];congr 1;omega
   rw[hg];simp only[hlt,hlt2,hnn,hw1,hw2,htn,aE,aL,aN,cU,aH,aI,aA (show i < r.length by omega),aA (show i+1 < r.length by omega),aB,isBefore_eq];show (bif !ltS r[i] (r[i+1]'(by omega)) then _ else _)=_
   cases ltS r[i] (r[i+1]'(by omega)) <;> rfl)
  (fun _ _ _ _ _ _=>trivial) (fun s self _=>by
   rw[bM];show impl_look.b4 _ _ _ _ _=_;unfold impl_look.b4;have hlt:¬ (((r.length - 1:Nat):Int)+1 < (r.length:Int)):=by omega
   simp only[hlt,aF,aG]
   rfl) () trivial k (by rw[bM];omega)
 refine bI this ?_
 cases r with
 | nil=>rfl
 | cons x l=>
  exact forI_adj (x::l) _ _ l [] x rfl
def viewL (ps:Pgs):List Seen:=if viewC ps=0 then sortS ((seenF ps).map convS) else []
def lookL (ps:Pgs):List Seen:=if lookC ps=0 then sortS ((seenF ps).map convS) else []
def keyS2 (y:Seen):Option (Int×Int):=some (y.2.2.2.2.1,y.2.2.2.2.2.1)
def toldE (y:Seen):List Int×Bool:=([y.2.2.2.2.1,y.2.2.2.2.2.1],true)
theorem told_get (T:List Seen) (a b:Int):orZ (mapGet tK2 (T.map toldE) [a,b]) false=T.any fun y=>decide (a=y.2.2.2.2.1)&&decide (b=y.2.2.2.2.2.1):=by
 induction T with
 | nil=>rfl
 | cons y T ih=>
  have hk:Ty.eq tK2 [a,b] (toldE y).1=(decide (a=y.2.2.2.2.1)&&decide (b=y.2.2.2.2.2.1)):=key2_eq _ _ _ _;unfold mapGet at ih ⊢;rw[cS,List.find?_cons,gD,hk]
  cases (decide (a=y.2.2.2.2.1)&&decide (b=y.2.2.2.2.2.1)) with
  | true=>rfl
  | false=>simpa using ih
theorem tgt_keys (S:List L6Spot):(S.flatMap stubOf1).filterMap keyS2=S.filterMap sTgt:=by
 induction S with
 | nil=>rfl
 | cons x S ih=>
  rw[eA,cR,ih];unfold stubOf1;by_cases h:sFlag x=1
  ·rw[aV h];have:sTgt x=some (sTp x,sTs x):=by unfold sTgt;rw[aV h]
   simp[cX,this,keyS2]
  ·rw[aY h];have:sTgt x=none:=by unfold sTgt;rw[aY h]
   simp[cX,this]
theorem implLook_eq (ps:Pgs) (h:cellsOk ps):impl_look.sem (ps,())=some (lookL ps,lookC ps,()):=by
 obtain ⟨hl,hp⟩:=h.1;have hsl:=spots_len h.1;refine lift_eq (k:=300) fun k hk=>(impl_look.raw_eq k _).trans ?_
 have inner:∀ (self:(List Seen×List Seen×List (List Int×Row)×Pgs×Int×Int)->Option impl_look.Out) (e0:(List Seen×List Seen×List (List Int×Row))->Option impl_look.Out) (i:Nat) (hi:i < ps.length) (S:List L6Spot),S.length<=16*i->(∀ x ∈ S,x.1 < (i:Int)) ->
   impl_look.r1 k self e0 (ps,()) (i:Int) ps[i] ps (ps.length:Int) (pn ps[i]:Int) (S.flatMap rowsOf1,S.flatMap stubOf1,S.flatMap movOf1,(0:Int))=self ((S++spotsPg i ps[i]).flatMap rowsOf1,(S++spotsPg i ps[i]).flatMap stubOf1,(S++spotsPg i ps[i]).flatMap movOf1,ps,(ps.length:Int),w64 ((i:Int)+1)):=fun self e0 i hi S0 hS0 hfr=>by
  have hok:=hp _ (bC hi);have hn:=hok.n;have hlen:=hok.len;have hcell:=h.2 _ (bC hi)
  have:=range_loop (B:=fun self' v=>impl_look.B1 k self' (fun z=>impl_look.Q0 k self e0 (ps,()) (i:Int) ps[i] ps (ps.length:Int) (pn ps[i]:Int) z) (ps,()) (i:Int) ps[i] ps (ps.length:Int) (pn ps[i]:Int) v) (pn ps[i]) (fun (S:List L6Spot) (j:Int)=>(S.flatMap rowsOf1,S.flatMap stubOf1,S.flatMap movOf1,j)) (fun j S=>.inr (S++spot1 i ps[i] j)) (fun S=>self (S.flatMap rowsOf1,S.flatMap stubOf1,S.flatMap movOf1,ps,(ps.length:Int),w64 ((i:Int)+1))) (fun j S=>S.length<=16*i+j/\∀ x ∈ S,x.1 < (i:Int)\/(x.1=(i:Int)/\x.2.1 < (j:Int))) (by omega)
   (fun j hj S self' ⟨hI1,hI2⟩=>by
    show impl_look.b1 _ _ _ _ _ _ _ _ _=_;unfold impl_look.b1 spot1;have hlt:(j:Int) < (pn ps[i]:Int):=by omega
    simp only[hlt,aE,aL,implHas_eq hok,hj,fF,aB];by_cases hz:psz ps[i] j=0
    ·simp only[hz,aE,aQ,bG,aL,aH,cP]
    ·have hc2:=hcell j hj hz;obtain ⟨f1,f2⟩:=cellF_flag _ hc2;obtain ⟨l1,l2⟩:=gather_len S;have hcap:∀ (T:List Seen) (y:Seen),T.length<=S.length->T.length+[y].length<=CAP:=fun T y hT=>cap_ok (by simp only[aP,aZ];omega);simp only[hz,aF,bG,aQ,aG,implCellAt_eq hok hj,implUnpack_eq _ (bK (cellP_small hok hj) (by omega)),hc2,aH,aM,aB,f1,aE,hcap _ _ l1,hcap _ _ l2,key2_lay]
     obtain ⟨x,hx⟩:∃ x:L6Spot,x=((i:Int),(j:Int),(cellF (cellP ps[i] j)).1,()):=⟨_,rfl⟩
     have hxf:sFlag x=(cellF (cellP ps[i] j)).1.2.1:=by rw[hx];rfl
     rw[<-hx];simp only[iQ,eA,List.flatMap_nil,cP];rcases f2 with g | g | g
     ·have e1:rowsOf1 x=[((cellF (cellP ps[i] j)).1.2.2.2.2.1,(i:Int),(j:Int),false,(i:Int),(j:Int),())]:=by unfold rowsOf1;rw[aV (hxf.trans g),hx];rfl
      have e2:stubOf1 x=[]:=by unfold stubOf1;rw[aY (by omega)]
      have e3:movOf1 x=[]:=by unfold movOf1;rw[aY (by omega)]
      rw[e1,e2,e3];simp only[g,aE,aL,cP,aP,aZ,jH,dN,cY,aH]
     ·have e1:rowsOf1 x=[]:=by unfold rowsOf1;rw[aY (by omega)]
      have e2:stubOf1 x=[(row0,(i:Int),(j:Int),true,(cellF (cellP ps[i] j)).1.2.2.1,(cellF (cellP ps[i] j)).1.2.2.2.1,())]:=by unfold stubOf1;rw[aV (hxf.trans g),hx];rfl
      have e3:movOf1 x=[]:=by unfold movOf1;rw[aY (by omega)]
      rw[e1,e2,e3];have n1:¬ ((1:Int)=0):=by decide
      have n2:¬ ((1:Int)=2):=by decide
      simp only[g,n1,n2,aF,aG,cP,aP,aZ,jH,dN,cY,aH]
     ·have e1:rowsOf1 x=[]:=by unfold rowsOf1;rw[aY (by omega)]
      have e2:stubOf1 x=[]:=by unfold stubOf1;rw[aY (by omega)]
      have e3:movOf1 x=[([(i:Int),(j:Int)],(cellF (cellP ps[i] j)).1.2.2.2.2.1)]:=by unfold movOf1;rw[aV (hxf.trans g),hx];rfl
      rw[e1,e2,e3];have n1:¬ ((2:Int)=0):=by decide
      have hput:mapPut tK2 (S.flatMap movOf1) [(i:Int),(j:Int)] (cellF (cellP ps[i] j)).1.2.2.2.2.1=S.flatMap movOf1++[([(i:Int),(j:Int)],(cellF (cellP ps[i] j)).1.2.2.2.2.1)]:=mapPut_fresh tK2 _ _ _ fun e he=>by
       obtain ⟨y,hy,hye⟩:=eR.1 he;unfold movOf1 at hye;split at hye
       ·rw[bV] at hye;subst hye;rw[key2_eq]
        rcases hI2 y hy with c | ⟨c,d⟩
        ·rw[cE (show ¬ (i:Int)=y.1 by omega)];rfl
        ·rw[cE (show ¬ (j:Int)=y.2.1 by omega),Bool.and_false]
       ·cases hye
      simp only[g,n1,aF,aE,aG,aL,hput,cP,aP,aZ,jH,dN,cY,aH]
      rfl)
   (fun j hj S S' ⟨hI1,hI2⟩ hf=>by
    injection hf with hf;subst hf;have:(spot1 i ps[i] j).length<=1:=by unfold spot1;split <;> simp
    refine ⟨by rw[aU];omega,fun x hx=>?_⟩
    rcases cM.1 hx with hx | hx
    ·rcases hI2 x hx with c | ⟨c,d⟩
     ·exact .inl c
     ·exact .inr ⟨c,by omega⟩
    ·unfold spot1 at hx;split at hx
     ·cases hx
     ·rw[bV] at hx;subst hx
      exact .inr ⟨rfl,by show (j:Int) < ((j+1:Nat):Int);omega⟩) (fun S self' hI=>by
    show impl_look.b1 _ _ _ _ _ _ _ _ _=_;unfold impl_look.b1;simp only[bP,aF,aG]
    rfl) S0 ⟨by omega,fun x hx=>.inl (hfr x hx)⟩ k (by omega)
  rw[forI_app (spot1 i ps[i])] at this;exact this
 have outer:impl_look.r0 k (ps,()) (([]:List Seen),([]:List Seen),([]:List (List Int×Row)),ps,(ps.length:Int),(0:Int))=impl_look.Q1 k (ps,()) ((spotsF ps).flatMap rowsOf1,(spotsF ps).flatMap stubOf1,(spotsF ps).flatMap movOf1):=by
  have:=for_loopE (B:=fun self v=>impl_look.B0 k self (fun z=>impl_look.Q1 k (ps,()) z) (ps,()) v) ps (fun (S:List L6Spot) (i:Int)=>(S.flatMap rowsOf1,S.flatMap stubOf1,S.flatMap movOf1,ps,(ps.length:Int),i)) (fun i S p=>.inr (S++spotsPg i p)) (fun S=>impl_look.Q1 k (ps,()) (S.flatMap rowsOf1,S.flatMap stubOf1,S.flatMap movOf1)) (fun i S=>S.length<=16*i/\∀ x ∈ S,x.1 < (i:Int)) (by rw[maxLen_val];omega)
   (fun i hi S self ⟨hI1,hI2⟩=>by
    show impl_look.b0 _ _ _ _ _=_;unfold impl_look.b0;have hlt:(i:Int) < (ps.length:Int):=by omega
    have hlen:=(hp _ (bC hi)).len
    simp only[hlt,aE,aL,aN,aH,aI,aA hi,aB,pSlots_eq hlen,inner self _ i hi S hI1 hI2])
   (fun i hi S S' ⟨hI1,hI2⟩ hf=>by
    injection hf with hf;subst hf;have:=spotsPg_len (hp _ (bC hi)) i;refine ⟨by rw[aU];omega,fun x hx=>?_⟩
    rcases cM.1 hx with hx | hx
    ·have:=hI2 x hx;omega
    ·obtain ⟨s,_,hs⟩:=eR.1 hx;unfold spot1 at hs;split at hs
     ·cases hs
     ·rw[bV] at hs;subst hs;show (i:Int) < ((i+1:Nat):Int)
      omega) (fun S self hI=>by
    show impl_look.b0 _ _ _ _ _=_;unfold impl_look.b0
    simp only[bP,aF,aG]) [] ⟨by simp,fun x hx=>by cases hx⟩ k (by omega)
  rw[forI_appI] at this;exact this
 show impl_look.r0 k (ps,()) (([]:List Seen),([]:List Seen),([]:List (List Int×Row)),ps,(ps.length:Int),(0:Int))=_;rw[outer];show impl_look.q1 _ _ _=_;unfold impl_look.q1;obtain ⟨gl1,gl2⟩:=gather_len (spotsF ps)
 have hT:∀ y ∈ (spotsF ps).flatMap stubOf1,∃ x ∈ spotsF ps,sFlag x=1/\y=(row0,x.1,x.2.1,true,sTp x,sTs x,()):=fun y hy=>by
  obtain ⟨x,hx,hxy⟩:=eR.1 hy;unfold stubOf1 at hxy;split at hxy
  ·rename_i hf;exact ⟨x,hx,hf,bV.1 hxy⟩
  ·cases hxy
 have l2w:impl_look.r2 k (ps,()) ((spotsF ps).flatMap rowsOf1) ((spotsF ps).flatMap stubOf1) ((spotsF ps).flatMap movOf1) (((spotsF ps).flatMap stubOf1).length:Int) (0:Int)=if (spotsF ps).all (stubOk ps) then impl_look.Q2 k (ps,()) ((spotsF ps).flatMap rowsOf1) ((spotsF ps).flatMap stubOf1) ((spotsF ps).flatMap movOf1) (((spotsF ps).flatMap stubOf1).length:Int) () else some (([]:List Seen),(4:Int),()):=by
  obtain ⟨T,hTd⟩:∃ T,T=(spotsF ps).flatMap stubOf1:=⟨_,rfl⟩
  obtain ⟨M,hM⟩:∃ M,M=(spotsF ps).flatMap movOf1:=⟨_,rfl⟩
  rw[<-hTd,<- hM];have hTl:T.length<=192:=by rw[hTd];omega
  have:=for_loopE (B:=fun self v=>impl_look.B2 k self (fun z=>impl_look.Q2 k (ps,()) ((spotsF ps).flatMap rowsOf1) T M (T.length:Int) z) (ps,()) ((spotsF ps).flatMap rowsOf1) T M (T.length:Int) v) T (fun (_:Unit) (i:Int)=>i) (fun i _ y=>if (mapGet tK2 M [y.2.2.2.2.1,y.2.2.2.2.2.1]).isSome then .inr () else .inl (some (([]:List Seen),(4:Int),()))) (fun _=>impl_look.Q2 k (ps,()) ((spotsF ps).flatMap rowsOf1) T M (T.length:Int) ()) (fun _ _=>True) (by rw[maxLen_val];omega)
   (fun i hi s self _=>by
    show impl_look.b2 _ _ _ _ _ _ _ _=_;unfold impl_look.b2;have hlt:(i:Int) < (T.length:Int):=by omega
    simp only[hlt,aE,aL,aN,cU,aH,aI,aA hi,aB,key2_lay,dN,cY,show (0:Nat) < 2 by omega,show (1:Nat) < 2 by omega]
    cases (mapGet tK2 M [(T[i]).2.2.2.2.1,(T[i]).2.2.2.2.2.1]).isSome <;> rfl)
   (fun _ _ _ _ _ _=>trivial) (fun s self _=>by
    show impl_look.b2 _ _ _ _ _ _ _ _=_;unfold impl_look.b2
    simp only[bP,aF,aG]) () trivial k (by omega)
  rw[forI_check (fun y:Seen=>(mapGet tK2 M [y.2.2.2.2.1,y.2.2.2.2.2.1]).isSome) (some (([]:List Seen),(4:Int),())) (fun _=>impl_look.Q2 k (ps,()) ((spotsF ps).flatMap rowsOf1) T M (T.length:Int) ())] at this;refine bI this ?_
  have hb:T.all (fun y:Seen=>(mapGet tK2 M [y.2.2.2.2.1,y.2.2.2.2.2.1]).isSome)=(spotsF ps).all (stubOk ps):=by
   have hone:∀ x ∈ spotsF ps,sFlag x=1->(mapGet tK2 M [sTp x,sTs x]).isSome=stubOk ps x:=fun x hx hf=>by
    obtain ⟨g1,g2⟩:=spot_nonneg hx;rw[hM,mov_get h _ _ g1 g2];unfold stubOk;rw[bZ hf];cases ((cellG ps (sTp x) (sTs x)).2&&decide ((cellG ps (sTp x) (sTs x)).1.2.1=2)) <;> rfl
   rw[fK,cC,cC];constructor
   ·intro hall x hx;by_cases hf:sFlag x=1
    ·rw[<-hone x hx hf]
     have hy:(row0,x.1,x.2.1,true,sTp x,sTs x,()) ∈ T:=by
      rw[hTd];exact eR.2 ⟨x,hx,by unfold stubOf1;rw[aV hf];exact bV.2 rfl⟩
     exact hall _ hy
    ·unfold stubOk;rw[cE hf];rfl
   ·intro hall y hy;obtain ⟨x,hx,hf,e⟩:=hT y (hTd ▸ hy);subst e;exact (hone x hx hf).trans (hall x hx)
  rw[hb]
 rw[l2w];unfold lookL lookC;by_cases hst:(spotsF ps).all (stubOk ps)=true;rotate_left
 ·simp only[hst,aD,aM];rfl
 simp only[hst,aH];show impl_look.q2 _ _ _ _ _ _ _=_;unfold impl_look.q2
 have l3w:impl_look.r3 k (ps,()) ((spotsF ps).flatMap rowsOf1) ((spotsF ps).flatMap stubOf1) ((spotsF ps).flatMap movOf1) (((spotsF ps).flatMap stubOf1).length:Int) ((spotsF ps).flatMap stubOf1) ((spotsF ps).flatMap movOf1) (((spotsF ps).flatMap stubOf1).length:Int) ((spotsF ps).flatMap rowsOf1,([]:List (List Int×Bool)),(0:Int))=if ((spotsF ps).filterMap sTgt).Nodup then impl_look.Q3 k (ps,()) ((spotsF ps).flatMap stubOf1) ((spotsF ps).flatMap movOf1) (((spotsF ps).flatMap stubOf1).length:Int) (listV ps) else some (([]:List Seen),(6:Int),()):=by
  have hkeys:=tgt_keys (spotsF ps);unfold listV
  obtain ⟨T,hTd⟩:∃ T,T=(spotsF ps).flatMap stubOf1:=⟨_,rfl⟩
  obtain ⟨M,hM⟩:∃ M,M=(spotsF ps).flatMap movOf1:=⟨_,rfl⟩
  obtain ⟨L,hL⟩:∃ L,L=(spotsF ps).flatMap rowsOf1:=⟨_,rfl⟩
  have hfill:∀ y:Seen,fillS ps y=(orZ (mapGet tK2 M [y.2.2.2.2.1,y.2.2.2.2.2.1]) row0,y.2):=fun y=>by unfold fillS;rw[hM]
  rw[<-hTd,<- hM,<- hL];rw[<-hTd] at hkeys;have hTl:T.length<=192:=by rw[hTd];omega
  have hLl:L.length<=192:=by rw[hL];omega
  have:=for_loopE (B:=fun self v=>impl_look.B3 k self (fun z=>impl_look.Q3 k (ps,()) T M (T.length:Int) z) (ps,()) T M (T.length:Int) v) T (fun (_:Unit) (i:Int)=>(L++(T.take i.toNat).map (fillS ps),(T.take i.toNat).map toldE,i)) (fun i _ y=>if (T.take i).any (fun z=>decide (y.2.2.2.2.1=z.2.2.2.2.1)&&decide (y.2.2.2.2.2.1=z.2.2.2.2.2.1)) then .inl (some (([]:List Seen),(6:Int),())) else .inr ()) (fun _=>impl_look.Q3 k (ps,()) T M (T.length:Int) (L++T.map (fillS ps))) (fun _ _=>True) (by rw[maxLen_val];omega)
   (fun i hi s self _=>by
    show impl_look.b3 _ _ _ _ _ _ _=_;unfold impl_look.b3;have hlt:(i:Int) < (T.length:Int):=by omega
    have hcap:∀ y:Seen,(L++(T.take i).map (fillS ps)).length+[y].length<=CAP:=fun y=>cap_ok (by simp only[aU,eX,bS,aP,aZ];omega);have hw:(w64 ((i:Int)+1)).toNat=i+1:=by rw[w64_in (by omega)];omega
    have htk:T.take (i+1)=T.take i++[T[i]]:=eU hi;simp only[hlt,aE,aL,aN,cU,aH,aI,aA hi,aB,key2_lay,dN,cY,show (0:Nat) < 2 by omega,show (1:Nat) < 2 by omega,told_get,hcap,hw,htk,iK,cS,fY];have htg:=told_get (T.take i) (T[i]).2.2.2.2.1 (T[i]).2.2.2.2.2.1;refine bI (dF (fun b:Bool=>bif b then (some (([]:List Seen),(6:Int),()):Option impl_look.Out) else self (L++(T.take i).map (fillS ps)++[(orZ (mapGet tK2 M [(T[i]).2.2.2.2.1,(T[i]).2.2.2.2.2.1]) ((0:Int),(0:Int),(0:Int),([]:List UInt8),()),(T[i]).2)],mapPut tK2 ((T.take i).map toldE) [(T[i]).2.2.2.2.1,(T[i]).2.2.2.2.2.1] true,w64 ((i:Int)+1))) htg) ?_
    cases hc:(T.take i).any (fun z=>decide ((T[i]).2.2.2.2.1=z.2.2.2.2.1)&&decide ((T[i]).2.2.2.2.2.1=z.2.2.2.2.2.1)) with
    | true=>rfl
    | false=>
     simp only[aG,aD,aM]
     have hput:mapPut tK2 ((T.take i).map toldE) [(T[i]).2.2.2.2.1,(T[i]).2.2.2.2.2.1] true=(T.take i).map toldE++[toldE T[i]]:=mapPut_fresh tK2 _ _ _ fun e he=>by
      obtain ⟨z,hz,rfl⟩:=gO.1 he;have h1:=List.any_eq_false.1 hc z hz;have:Ty.eq tK2 [(T[i]).2.2.2.2.1,(T[i]).2.2.2.2.2.1] (toldE z).1=_:=key2_eq _ _ _ _;rw[this]
      simpa using h1
     rw[hput,hfill,bL])
   (fun _ _ _ _ _ _=>trivial) (fun s self _=>by
    show impl_look.b3 _ _ _ _ _ _ _=_;unfold impl_look.b3
    simp only[bP,aF,aG,aI,eQ]) () trivial k (by omega)
  rw[forI_dup0 keyS2 (some (([]:List Seen),(6:Int),())) (fun _=>impl_look.Q3 k (ps,()) T M (T.length:Int) (L++T.map (fillS ps))) (fun y z=>decide (y.2.2.2.2.1=z.2.2.2.2.1)&&decide (y.2.2.2.2.2.1=z.2.2.2.2.2.1)) (fun y z=>?_) T,hkeys] at this
  ·simp only[Int.toNat_zero,iY,fY,cP] at this;exact this
  ·unfold keyS2;simp only[aC,bU];constructor
   ·rintro ⟨h1,h2⟩;exact ⟨_,rfl,by rw[h1,h2]⟩
   ·rintro ⟨b,h1,h2⟩;injection h1 with h1;injection h2 with h2;rw[<-h2] at h1;injection h1 with h3 h4;exact ⟨h3,h4⟩
 rw[l3w];by_cases htk:((spotsF ps).filterMap sTgt).Nodup;rotate_left
 ·simp only[htk,aM];rfl
 simp only[htk,aH];show impl_look.q3 _ _ _ _ _ _=_;unfold impl_look.q3;have hperm:=listV_perm h hst
 have hvl:(listV ps).length<=192:=by
  have:=hperm.length_eq;rw[eX] at this;have:=seen_len h.1;omega
 obtain ⟨r,hr1,hr2,hr3⟩:=sort_sem (listV ps) (by omega);rw[hr1];simp only[aB];have hrl:r.length<=192:=by have:=hr2.length_eq;omega
 have hrp:=hr2.trans hperm
 have hkn:(r.map fun x=>rk x.1).Nodup↔((seenF ps).map fun x=>rk (sRow x)).Nodup:=by
  have h1:(r.map fun x=>rk x.1).Perm (((seenF ps).map convS).map fun x=>rk x.1):=hrp.map _;rw[h1.nodup_iff,hU];exact jQ
 refine (adj_walk ps k hk r hrl).trans ?_;by_cases hnd:((seenF ps).map fun x=>rk (sRow x)).Nodup
 ·have hup:=sorted_up hr3 (hkn.2 hnd);have hun:=sortS_unique hrp hup (by rw[hU];exact hnd);simp only[hnd,aH,up_adjB r hup];rw[hun]
 ·have:¬ adjB r=true:=fun ha=>hnd (hkn.1 (upS_nodup (adj_up r ha)));simp only[hnd,this,aM];rfl
theorem implView_eq (ps:Pgs) (hp:∀ p ∈ ps,p.length<=maxLen):impl_view.sem (ps,())=some (viewL ps,viewC ps,()):=by
 refine lift_eq (k:=300) fun k hk=>(impl_view.raw_eq k _).trans ?_;unfold impl_view.p viewL viewC;by_cases hl:12 < ps.length
 ·have:(12:Int) < (ps.length:Int):=by omega
  simp only[this,aE,aL,hl,aH];rfl
 have hl':¬ ((12:Int) < (ps.length:Int)):=by omega
 simp only[hl',aF,aG,hl,aM]
 have inner:∀ (self:(Pgs×Pgs×Int×Int)->Option impl_view.Out) (e0:Pgs->Option impl_view.Out) (i:Nat) (hi:i < ps.length),PageOk ps[i]->impl_view.r1 k self e0 (ps,()) ps ps[i] ps (ps.length:Int) (i:Int) (pn ps[i]:Int) (0:Int)=if (List.range (pn ps[i])).all (okCell ps[i]) then self (ps,ps,(ps.length:Int),w64 ((i:Int)+1)) else some (([]:List Seen),(5:Int),()):=fun self e0 i hi hok=>by
  have hn:=hok.n;have hlen:=hok.len
  have:=range_loop (B:=fun self' v=>impl_view.b1 self' (fun z=>impl_view.q0 self e0 (ps,()) ps ps[i] ps (ps.length:Int) (i:Int) (pn ps[i]:Int) z) (ps,()) ps ps[i] ps (ps.length:Int) (i:Int) (pn ps[i]:Int) v) (pn ps[i]) (fun (_:Unit) (j:Int)=>j) (fun j _=>if okCell ps[i] j then .inr () else .inl (some (([]:List Seen),(5:Int),()))) (fun _=>self (ps,ps,(ps.length:Int),w64 ((i:Int)+1))) (fun _ _=>True) (by omega)
   (fun j hj s self' hI=>by
    show impl_view.b1 _ _ _ _ _ _ _ _ _ _=_;unfold impl_view.b1 okCell;have hlt:(j:Int) < (pn ps[i]:Int):=by omega
    simp only[hlt,aE,aL,implHas_eq hok,hj,fF,aB];by_cases hz:psz ps[i] j=0
    ·simp only[hz,aE,aQ,aG,fX,aH]
    ·simp only[hz,aF,bG,aL,implCellAt_eq hok hj,implUnpack_eq _ (bK (cellP_small hok hj) (by omega)),aB,eN]
     cases hc:(cellF (cellP ps[i] j)).2 with
     | true=>
      have:=(cellF_flag _ hc).1;simp only[aH,this,aE,aQ,aG]
     | false=>rfl)
   (fun _ _ _ _ _ _=>trivial) (fun s self' hI=>by
    show impl_view.b1 _ _ _ _ _ _ _ _ _ _=_;unfold impl_view.b1;simp only[bP,aF,aG]
    rfl) () trivial k (by omega)
  rw[forI_checkN] at this;exact this
 have outer:impl_view.r0 k (ps,()) (ps,ps,(ps.length:Int),(0:Int))=if firstF pgC ps=0 then impl_view.q1 (ps,()) ps else some (([]:List Seen),firstF pgC ps,()):=by
  have:=for_loopE (B:=fun self v=>impl_view.B0 k self (fun z=>impl_view.q1 (ps,()) z) (ps,()) v) ps (fun (_:Unit) (i:Int)=>(ps,ps,(ps.length:Int),i)) (fun i _ p=>if pgC p=0 then .inr () else .inl (some (([]:List Seen),pgC p,()))) (fun _=>impl_view.q1 (ps,()) ps) (fun _ _=>True) (by rw[maxLen_val];omega)
   (fun i hi s self hI=>by
    show impl_view.b0 _ _ _ _ _=_;unfold impl_view.b0 pgC;have hlt:(i:Int) < (ps.length:Int):=by omega
    simp only[hlt,aE,aL,aN,aH,aI,aA hi,aB,implPage_eq _ (hp _ (bC hi))];by_cases h0:pageF ps[i]=0
    ·have hok:=pageF_iff.1 h0;rw[bZ h0];simp only[aQ,aG,pSlots_eq hok.len,aB,inner self _ i hi hok,h0,aH];by_cases hc:(List.range (pn ps[i])).all (okCell ps[i])=true
     ·simp only[hc,aH]
     ·simp only[hc,aD,aM];rfl
    ·rw[cE h0]
     simp only[bG,aL,h0,aM])
   (fun _ _ _ _ _ _=>trivial) (fun s self _=>by
    show impl_view.b0 _ _ _ _ _=_;unfold impl_view.b0
    simp only[bP,aF,aG]) () trivial k (by omega)
  rw[forI_first pgC (fun c=>some (([]:List Seen),c,())) (fun _=>impl_view.q1 (ps,()) ps)] at this;exact this
 rw[outer];by_cases hc:firstF pgC ps=0
 ·simp only[hc,aH];show impl_view.q1 _ _=_;unfold impl_view.q1;rw[implLook_eq ps (cells_of (by omega) hc)];rfl
 ·simp only[hc,aM]
theorem implPages_eq (ps:Pgs) (hp:∀ p ∈ ps,p.length<=maxLen):impl_PagesFault.sem (ps,())=some (viewC ps,()):=by
 refine lift_eq (k:=0) fun k hk=>(impl_PagesFault.raw_eq k _).trans ?_;show impl_PagesFault.p _=_;unfold impl_PagesFault.p;rw[implView_eq ps hp];rfl
end OT
namespace OT
open Go
structure viewR (ps:Pgs):Prop where
 right:rightP ps
 cells:cellsOk ps
 stubs:(spotsF ps).all (stubOk ps)=true
 tgts:((spotsF ps).filterMap sTgt).Nodup
 keys:((seenF ps).map fun x=>rk (sRow x)).Nodup
 list:viewL ps=sortS ((seenF ps).map convS)
theorem view_ok {ps:Pgs} (h:viewC ps=0):viewR ps:=by
 obtain ⟨h1,h2,h3⟩:=view_right h;have hc:=cells_of h1.1 h2;unfold lookC at h3;split at h3
 ·rename_i a1;split at h3
  ·rename_i a2;split at h3
   ·rename_i a3;exact ⟨h1,hc,a1,a2,a3,by unfold viewL;rw[aV h]⟩
   ·cases h3
  ·cases h3
 ·cases h3
theorem viewL_perm {ps:Pgs} (h:viewR ps):(viewL ps).Perm ((seenF ps).map convS):=by rw[h.list];exact sortS_perm _
theorem viewL_len {ps:Pgs} (h:viewR ps):(viewL ps).length<=192:=by
 have:=(viewL_perm h).length_eq;rw[eX] at this;have:=seen_len h.right;omega
def rowsV (ps:Pgs):List Row:=(viewL ps).map (·.1)
theorem rowsV_eq {ps:Pgs} (h:viewR ps):rowsV ps=sortR ((seenF ps).map sRow):=by
 unfold rowsV;rw[h.list,sortS_map,hU];rfl
theorem rowsV_up {ps:Pgs} (h:viewR ps):up (rowsV ps):=by
 rw[rowsV_eq h];refine sortR_up ?_;rw[hU];exact h.keys
theorem seenRows_eq (l:List Seen) (hl:l.length<=1000):impl_plain.sem (l,())=some (l.map (·.1),()):=by
 refine lift_eq (k:=1100) fun q hq=>(impl_plain.raw_eq q _).trans ?_
 have:=for_loop (B:=fun self v=>impl_plain.b0 self (fun z=>impl_plain.q0 (l,()) z) (l,()) v) l (fun (s:List Row) (i:Int)=>(s,i)) (fun _ s x=>.inr (s++[x.1])) (fun s=>(s,())) (fun i s=>s.length=i) (by rw[maxLen_val];omega)
  (fun i hi s self hs=>by
   show impl_plain.b0 _ _ _ _=_;unfold impl_plain.b0;have hlt:(i:Int) < (l.length:Int):=by omega
   rw[bZ hlt,aL,aV (aN i)];simp only[aI,aA hi,aB]
   rw[aV (cap_ok (by simp only[aP,aZ];omega))])
  (fun i hi s s' hs hf=>by injection hf with hf;subst hf;simp[hs]) (fun s self _=>by
   show impl_plain.b0 _ _ _ _=_;unfold impl_plain.b0;rw[cE (bP _),aG]
   rfl) [] rfl q (by omega)
 rw[forI_fold (g:=fun (s:List Row) (x:Seen)=>s++[x.1])] at this;refine this.trans ?_
 have hm:∀ (xs:List Seen) (s:List Row),xs.foldl (fun s x=>s++[x.1]) s=s++xs.map (·.1):=by
  intro xs
  induction xs with
  | nil=>intro s;simp
  | cons x xs ih=>intro s;rw[fL,ih];simp
 rw[hm,cH]
theorem specRowsIn_eq {ps:Pgs} (h:viewC ps=0):spec_l6RowsIn.sem (ps,())=some (rowsV ps,()):=by
 have hr:=view_right h;have hl:=seen_len hr.1;refine lift_eq (k:=300) fun k hk=>(spec_l6RowsIn.raw_eq k _).trans ?_;unfold spec_l6RowsIn.p;rw[specSeen_eq ps hr.1];simp only[aB]
 have:=for_loop (B:=fun self v=>spec_l6RowsIn.b0 self (fun z=>spec_l6RowsIn.q0 (ps,()) (seenF ps) z) (ps,()) (seenF ps) v) (seenF ps) (fun (s:List Row) (i:Int)=>(s,i)) (fun _ s x=>.inr (put1 s (sRow x))) (fun s=>(s,())) (fun i s=>s.length<=i) (by rw[maxLen_val];omega)
  (fun i hi s self hs=>by
   show spec_l6RowsIn.b0 _ _ _ _ _=_;unfold spec_l6RowsIn.b0;have hlt:(i:Int) < ((seenF ps).length:Int):=by omega
   rw[bZ hlt,aL,aV ⟨aN i,hlt⟩];simp only[aI,aA hi,aB];rw[specPut_eq _ _ (by omega)]
   rfl)
  (fun i hi s s' hs hf=>by
   injection hf with hf;subst hf;unfold put1;simp only[aU,bS,bM,aP,aZ]
   omega) (fun s self _=>by
   show spec_l6RowsIn.b0 _ _ _ _ _=_;unfold spec_l6RowsIn.b0;rw[cE (bP _),aG]
   rfl) [] (aK 0) k (by omega)
 rw[forI_fold (g:=fun (s:List Row) (x:L6Spot)=>put1 s (sRow x))] at this;refine this.trans ?_;rw[rowsV_eq (view_ok h)];unfold sortR;rw[List.foldl_map]
end OT
namespace OT
open Go
def bl (x:Run):Int:=(List.length x.2.1:Int)
def runStep (s:Int) (x:Run):Sum (Int×Unit) Int:=
 if inB x.1 0 63 then (if inB (bl x) 1 64 then (if 64 < x.1+bl x then .inl (3,()) else if x.1 < s then .inl (1,()) else .inr (x.1+bl x+1)) else .inl (3,())) else .inl (3,())
def runsL (s:Int) (xs:List Run):Int:=(forI (fun _ s x=>runStep s x) (fun _=>((0:Int),())) 0 xs s).1
def runsF (xs:List Run):Int:=if 64 < xs.length then 2 else runsL 0 xs
theorem step_good {s s':Int} {x:Run} (h:runStep s x=.inr s'):0<=x.1/\x.1<=63/\1<=bl x/\bl x<=64/\x.1+bl x<=64/\s<=x.1/\s'=x.1+bl x+1:=by
 unfold runStep at h;split at h
 ·rename_i h1;split at h
  ·rename_i h2;split at h
   ·cases h
   ·split at h
    ·cases h
    ·injection h with h;simp only[inB,aC,bU] at h1 h2;omega
  ·cases h
 ·cases h
theorem step_bad {s:Int} {x:Run} {o:Int×Unit} (h:runStep s x=.inl o):o.1≠0:=by
 unfold runStep at h;split at h
 ·split at h
  ·split at h
   ·injection h with h;subst h;decide
   ·split at h
    ·injection h with h;subst h;decide
    ·cases h
  ·injection h with h;subst h;decide
 ·injection h with h;subst h;decide
theorem forI_ix {S O α:Type} {f:S->α->Sum O S} {fin:S->O}:∀ (xs:List α) (i j:Nat) (s:S),forI (fun _ s x=>f s x) fin i xs s=forI (fun _ s x=>f s x) fin j xs s
 | [],_,_,_=>rfl
 | x::xs,i,j,s=>by
  simp only[forI];split
  ·rfl
  ·exact forI_ix xs _ _ _
theorem runsL_cons (s:Int) (x:Run) (xs:List Run):runsL s (x::xs)=match runStep s x with | .inl o=>o.1 | .inr s'=>runsL s' xs:=by
 unfold runsL;simp only[forI]
 cases h:runStep s x with
 | inl o=>rfl
 | inr s'=>simp only;rw[forI_ix xs 1 0]
theorem runsL_good:∀ (xs:List Run) (s:Int),runsL s xs=0->∀ x ∈ xs,0<=x.1/\x.1<=63/\1<=bl x/\bl x<=64
 | [],_,_,_,hx=>by cases hx
 | y::ys,s,h,x,hx=>by
  rw[runsL_cons] at h
  cases hs:runStep s y with
  | inl o=>rw[hs] at h;exact absurd h (step_bad hs)
  | inr s'=>
   rw[hs] at h;have:=step_good hs;rcases aS.1 hx with e | e
   ·subst e;omega
   ·exact runsL_good ys s' h x e
theorem runsF_good {xs:List Run} (h:runsF xs=0):List.length xs<=64/\∀ x ∈ xs,0<=x.1/\x.1<=63/\1<=bl x/\bl x<=64:=by
 unfold runsF at h;split at h
 ·cases h
 ·exact ⟨by omega,runsL_good xs 0 h⟩
theorem runsF_one {y z:Run} {ys:List Run} (h:runsF (y::z::ys)=0):List.length y.2.1≠64:=by
 unfold runsF at h;split at h
 ·cases h
 ·rw[runsL_cons] at h
  cases hs:runStep 0 y with
  | inl o=>rw[hs] at h;exact absurd h (step_bad hs)
  | inr s'=>
   rw[hs] at h;have h1:=step_good hs;simp only[runsL_cons] at h
   cases hs2:runStep s' z with
   | inl o=>rw[hs2] at h;exact absurd h (step_bad hs2)
   | inr s2=>
    have h2:=step_good hs2;have:bl y=(List.length y.2.1:Int):=rfl;omega
theorem implRuns_eq (xs:List Run):impl_RunsFault.sem (xs,())=some (runsF xs,()):=by
 refine lift_eq (k:=66) fun k hk=>(impl_RunsFault.raw_eq k _).trans ?_;unfold impl_RunsFault.p runsF;by_cases hl:64 < xs.length
 ·have:(64:Int) < (xs.length:Int):=by omega
  simp only[hl,this,aE,aL,aH]
 have hl':¬ (64:Int) < (xs.length:Int):=by omega
 have:=for_loop (B:=fun self v=>impl_RunsFault.b0 self (fun z=>impl_RunsFault.q0 (xs,()) z) (xs,()) v) xs (fun (s:Int) (i:Int)=>(s,i)) (fun _ s x=>runStep s x) (fun _=>(0,())) (fun _ _=>True) (by rw[maxLen_val];omega)
  (fun i hi s self _=>by
   show impl_RunsFault.b0 _ _ _ _=_;unfold impl_RunsFault.b0;have hlt:(i:Int) < (xs.length:Int):=by omega
   simp only[hlt,aE,aL,aN,aH,aI,aA hi,aB,implIn_eq];generalize xs[i]=x;unfold runStep bl inB;by_cases a1:(0:Int)<=x.1;rotate_left
   ·simp[a1]
   by_cases a2:x.1<=63;rotate_left
   ·simp[a2]
   by_cases a3:(1:Int)<=(List.length x.2.1:Int)
   rotate_left
   ·simp[a1,a2,a3]
   by_cases a4:(List.length x.2.1:Int)<=64;rotate_left
   ·simp[a1,a2,a4]
   have e1:w64 (x.1+(List.length x.2.1:Int))=x.1+(List.length x.2.1:Int):=w64_in (by omega);have e2:w64 (x.1+(List.length x.2.1:Int)+1)=x.1+(List.length x.2.1:Int)+1:=w64_in (by omega);simp only[a1,a2,a3,a4,e1,e2,aE,fQ,aQ,aG,aH]
   by_cases a5:64 < x.1+(List.length x.2.1:Int)
   ·simp[a5]
   by_cases a6:x.1 < s
   ·simp[a5,a6]
   simp[a5,a6]) (fun _ _ _ _ _ _=>trivial) (fun s self _=>by
   show impl_RunsFault.b0 _ _ _ _=_;unfold impl_RunsFault.b0
   simp[impl_RunsFault.q0,impl_RunsFault.q0]) 0 trivial k (by omega)
 simp only[hl,aM,hl',aF,aG];exact this
theorem specRuns_eq (xs:List Run):spec_l3Fault.sem (xs,())=some (runsF xs,()):=by
 refine lift_eq (k:=66) fun k hk=>(spec_l3Fault.raw_eq k _).trans ?_;unfold spec_l3Fault.p runsF;by_cases hl:64 < xs.length
 ·have:(64:Int) < (xs.length:Int):=by omega
  simp only[hl,this,aE,aL,aH]
 have hl':¬ (64:Int) < (xs.length:Int):=by omega
 have:=for_loop (B:=fun self v=>spec_l3Fault.b0 self (fun z=>spec_l3Fault.q0 (xs,()) z) (xs,()) v) xs (fun (s:Int) (i:Int)=>i) (fun _ s x=>runStep s x) (fun _=>(0,()))
  (fun i s=>(i=0->s=0)/\∀ y,0 < i->xs[i - 1]?=some y->0<=y.1/\y.1<=63/\bl y<=64/\s=y.1+bl y+1) (by rw[maxLen_val];omega)
  (fun i hi s self hI=>by
   show spec_l3Fault.b0 _ _ _ _=_;unfold spec_l3Fault.b0;have hlt:(i:Int) < (xs.length:Int):=by omega
   simp only[hlt,aE,aL,aN,aH,aI,aA hi,aB,specIn_eq];generalize xs[i]=x;unfold runStep bl inB;by_cases a1:(0:Int)<=x.1;rotate_left
   ·simp[a1]
   by_cases a2:x.1<=63;rotate_left
   ·simp[a2]
   by_cases a3:(1:Int)<=(List.length x.2.1:Int)
   rotate_left
   ·simp[a1,a2,a3]
   by_cases a4:(List.length x.2.1:Int)<=64;rotate_left
   ·simp[a1,a2,a4]
   have e1:w64 (x.1+(List.length x.2.1:Int))=x.1+(List.length x.2.1:Int):=w64_in (by omega);simp only[a1,a2,a3,a4,e1,aE,fQ,aQ,aG,aH]
   by_cases a5:64 < x.1+(List.length x.2.1:Int)
   ·simp[a5]
   by_cases h0:i=0
   ·subst h0;have:=hI.1 rfl;subst this;have a6:¬ x.1 < 0:=by omega
    simp[a5,a6]
   ·have hi1:i - 1 < xs.length:=by omega
    obtain ⟨y0,y1,y2,y3⟩:=hI.2 xs[i - 1] (by omega) (aA hi1);have hp:(0:Int) < (i:Int):=by omega
    have ew:w64 ((i:Int) - 1)=((i - 1:Nat):Int):=by rw[w64_in (by omega)];omega
    unfold bl at y2 y3;have e2:w64 ((xs[i - 1]).1+(List.length (xs[i - 1]).2.1:Int))=(xs[i - 1]).1+(List.length (xs[i - 1]).2.1:Int):=w64_in (by omega);simp only[a5,hp,ew,e2,aE,aF,aL,aG,aN,aH,aM,aI,aA hi1,aB];by_cases a6:x.1 < s
    ·have:x.1<=(xs[i - 1]).1+(List.length (xs[i - 1]).2.1:Int):=by omega
     simp[a6,this]
    ·have:¬ x.1<=(xs[i - 1]).1+(List.length (xs[i - 1]).2.1:Int):=by omega
     simp[a6,this])
  (fun i hi s s' _ hs=>⟨fun e=>by omega,fun y _ hy=>by
   rw[Nat.add_sub_cancel,aA hi] at hy;injection hy with hy;subst hy;have:=step_good hs
   omega⟩) (fun s self _=>by
   show spec_l3Fault.b0 _ _ _ _=_;unfold spec_l3Fault.b0
   simp[spec_l3Fault.q0,spec_l3Fault.q0]) 0 ⟨fun _=>rfl,fun y h=>by omega⟩ k (by omega)
 simp only[hl,aM,hl',aF,aG];exact this
def headF (k:Int) (xs:List Run):Int:=match xs with
 | []=>1
 | y::_=>if decide (k=4)&&!decide (List.length y.2.1=64) then 1 else 0
def recF (r:Record):Int:=
 if !inB r.1 1 6||(!inB r.1 2 4&&(!decide (r.2.2.1=0)||decide (0 < List.length r.2.2.2.1)))||(decide (r.1=4)&&!decide (r.2.1=0)) then 1
 else if (!decide (r.1=4)&&!inB r.2.1 1 99)||!inB r.2.2.1 0 11 then 3
 else if !inB r.1 2 4 then 0
 else if runsF r.2.2.2.1=0 then headF r.1 r.2.2.2.1 else runsF r.2.2.2.1
theorem spec4Runs_eq (k:Int):spec_l4Runs.sem (k,())=some (inB k 2 4,()):=by
 refine lift_eq (k:=0) fun n _=>(spec_l4Runs.raw_eq n _).trans ?_;show spec_l4Runs.p _=_;unfold spec_l4Runs.p;simp[specIn_eq,inB]
theorem turns_eq (k:Int):impl_turns.sem (k,())=some (inB k 2 4,()):=by
 refine lift_eq (k:=0) fun n _=>(impl_turns.raw_eq n _).trans ?_;show impl_turns.p _=_;unfold impl_turns.p inB;by_cases h1:k=2
 ·subst h1;rfl
 by_cases h2:k=3
 ·subst h2;rfl
 by_cases h3:k=4
 ·subst h3;rfl
 have:(decide ((2:Int)<=k)&&decide (k<=4))=false:=by
  by_cases h4:(2:Int)<=k
  ·have:¬ k<=4:=by omega
   simp[this]
  ·simp[h4]
 simp[h1,h2,h3,this]
theorem specRec_eq (r:Record):spec_l4Fault.sem (r,())=some (recF r,()):=by
 obtain ⟨k,t,p,xs,⟨⟩⟩:=r;refine lift_eq (k:=0) fun n _=>(spec_l4Fault.raw_eq n _).trans ?_;show spec_l4Fault.p _=_;unfold spec_l4Fault.p recF;simp only[specIn_eq,spec4Runs_eq,specRuns_eq,aB,show ∀ a b c:Int,(decide (b<=a)&&decide (a<=c))=inB a b c from fun _ _ _=>rfl];have h0:decide ((0:Int) < (xs.length:Int))=decide (0 < xs.length):=by simp
 have hj:(spec_l3Fault.sem (xs,()))=some (runsF xs,()):=specRuns_eq xs;rw[h0]
 have hh:(bif decide ((List.length xs:Int)=0) then some ((1:Int),()) else bif decide (k=4) then (xs[0]?).bind fun x23=>bif !decide ((List.length x23.2.1:Int)=64) then some ((1:Int),()) else some (0,()) else some (0,()))=some (headF k xs,()):=by
  cases xs with
  | nil=>rfl
  | cons y ys=>
   have:¬ ((List.length (y::ys):Int)=0):=by simp only[aP];omega
   simp only[this,aF,aG,headF,eB,aB]
   have h64:decide ((List.length y.2.1:Int)=64)=decide (List.length y.2.1=64):=by
    by_cases h:List.length y.2.1=64
    ·simp[h]
    ·have:¬ ((List.length y.2.1:Int)=64):=by omega
     simp[h,this]
   rw[h64];cases decide (k=4) <;> cases decide (List.length y.2.1=64) <;> rfl
 rw[hh];by_cases hr:runsF xs=0
 ·simp only[hr,aE,aQ,aG,aH];cases inB k 1 6 <;> cases inB k 2 4 <;> cases decide (p=0) <;> cases decide (0 < xs.length) <;> cases decide (k=4) <;> cases decide (t=0) <;> cases inB t 1 99 <;> cases inB p 0 11 <;> rfl
 ·simp only[hr,aF,bG,aL,aM];cases inB k 1 6 <;> cases inB k 2 4 <;> cases decide (p=0) <;> cases decide (0 < xs.length) <;> cases decide (k=4) <;> cases decide (t=0) <;> cases inB t 1 99 <;> cases inB p 0 11 <;> rfl
theorem implRec_eq (r:Record):impl_RecordFault.sem (r,())=some (recF r,()):=by
 obtain ⟨k,t,p,xs,⟨⟩⟩:=r;refine lift_eq (k:=0) fun n _=>(impl_RecordFault.raw_eq n _).trans ?_;show impl_RecordFault.p _=_;unfold impl_RecordFault.p recF;simp only[implIn_eq,turns_eq,isTx_eq,implRuns_eq,aB,show ∀ a b c:Int,(decide (b<=a)&&decide (a<=c))=inB a b c from fun _ _ _=>rfl];have h0:decide ((0:Int) < (xs.length:Int))=decide (0 < xs.length):=by simp
 rw[h0]
 have hk:inB k 2 4=false->decide (k=4)=false:=by
  intro h;by_cases e:k=4
  ·subst e;cases h
  ·simp[e]
 have h64:∀ y:Run,decide ((List.length y.2.1:Int)=64)=decide (List.length y.2.1=64):=fun y=>by
  by_cases h:List.length y.2.1=64
  ·simp[h]
  ·have:¬ ((List.length y.2.1:Int)=64):=by omega
   simp[h,this]
 have hz:decide (0 < xs.length)=false->xs=[]:=by
  intro h
  cases xs with
  | nil=>rfl
  | cons _ _=>simp at h
 have hh:runsF xs=0->(bif decide ((List.length xs:Int)=0) then some ((1:Int),()) else bif decide (k=4) then bif !decide ((List.length xs:Int)=1) then some ((1:Int),()) else (xs[0]?).bind fun x23=>bif !decide ((List.length x23.2.1:Int)=64) then some ((1:Int),()) else some (0,()) else some (0,()))=some (headF k xs,()):=by
  intro hr
  cases xs with
  | nil=>rfl
  | cons y ys=>
   have:¬ ((List.length (y::ys):Int)=0):=by simp only[aP];omega
   simp only[this,aF,aG,headF,eB,aB,h64]
   cases ys with
   | nil=>cases decide (k=4) <;> cases decide (List.length y.2.1=64) <;> rfl
   | cons z ys=>
    have h1:=runsF_one hr;have h2:¬ ((List.length (y::z::ys):Int)=1):=by simp only[aP];omega
    simp only[h1,h2,aF];cases decide (k=4) <;> rfl
 cases hk2:inB k 2 4 with
 | false=>
  have hk4:=hk hk2;have hr0:runsF ([]:List Run)=0:=rfl;simp only[hk4]
  by_cases hx:xs=[]
  ·subst hx;cases inB k 1 6 <;> cases decide (p=0) <;> cases inB t 1 99 <;> cases inB p 0 11 <;> rfl
  ·have hx':decide (0 < xs.length)=true:=by
    cases xs with
    | nil=>exact absurd rfl hx
    | cons _ _=>simp
   simp only[hx'];cases inB k 1 6 <;> cases decide (p=0) <;> rfl
 | true=>
  by_cases hr:runsF xs=0
  ·have hh:=hh hr;simp only[hr,aE,aQ,aG,aL,aH,hh];cases inB k 1 6 <;> cases decide (k=4) <;> cases decide (t=0) <;> cases inB t 1 99 <;> cases inB p 0 11 <;> rfl
  ·simp only[hr,aF,bG,aL,aM];cases inB k 1 6 <;> cases decide (k=4) <;> cases decide (t=0) <;> cases inB t 1 99 <;> cases inB p 0 11 <;> rfl
theorem recF_good {r:Record} (h:recF r=0):1<=r.1/\r.1<=6/\0<=r.2.1/\r.2.1<=99/\0<=r.2.2.1/\r.2.2.1<=11/\List.length r.2.2.2.1<=64/\∀ x ∈ r.2.2.2.1,0<=x.1/\x.1<=63/\1<=bl x/\bl x<=64:=by
 obtain ⟨k,t,p,xs,⟨⟩⟩:=r;unfold recF at h;split at h
 ·cases h
 rename_i h1;split at h
 ·cases h
 rename_i h2
 have hx:List.length xs<=64/\∀ x ∈ xs,0<=x.1/\x.1<=63/\1<=bl x/\bl x<=64:=by
  split at h
  ·rename_i h3;simp only[cW,aC,not_or,not_and,h3,forall_const] at h1
   cases xs with
   | nil=>exact ⟨by simp,fun x hx=>by cases hx⟩
   | cons y ys=>exact absurd (by simp) h1.1.2.2
  ·split at h
   ·rename_i h4;exact runsF_good h4
   ·rename_i h4;exact absurd h h4
 simp only[cW,aC,not_or,not_and,inB,cN,gE,fR,bU] at h1 h2;refine ⟨?_,?_,?_,?_,?_,?_,hx⟩ <;> by_cases hk:k=4 <;> simp_all <;> omega
end OT
namespace OT
open Go
def flat1 (x:Run):List UInt8:=UInt8.ofInt x.1::UInt8.ofInt (List.length x.2.1:Int)::x.2.1
def flatR (xs:List Run):List UInt8:=xs.flatMap flat1
def head5 (r:Record):List UInt8:=[(0:UInt8),UInt8.ofInt r.1,UInt8.ofInt r.2.1,UInt8.ofInt r.2.2.1,UInt8.ofInt (List.length r.2.2.2.1:Int)]
def sumP (s:Int) (l:List UInt8):Int:=l.foldl (fun s c=>(s*31+(c.toNat:Int)) % 65521) s
def hdP (r:Record):List UInt8:=(head5 r++flatR r.2.2.2.1).set 0 (UInt8.ofInt (w64 (((head5 r++flatR r.2.2.2.1).length:Int)+2)))
def packF (r:Record):List UInt8:=hdP r++[UInt8.ofInt ((sumP 1 (hdP r)) / 256),UInt8.ofInt (sumP 1 (hdP r))]
def smallR (r:Record):Prop:=List.length r.2.2.2.1<=64/\∀ x ∈ r.2.2.2.1,List.length x.2.1<=64
theorem small_of {r:Record} (h:recF r=0):smallR r:=by
 have:=recF_good h;refine ⟨this.2.2.2.2.2.2.1,fun x hx=>?_⟩
 have h2:=this.2.2.2.2.2.2.2 x hx;unfold bl at h2;omega
theorem flatR_append (xs ys:List Run):flatR (xs++ys)=flatR xs++flatR ys:=iQ
theorem flatR_cons (x:Run) (xs:List Run):flatR (x::xs)=flat1 x++flatR xs:=eA
theorem flatR_len {xs:List Run} (h:∀ x ∈ xs,List.length x.2.1<=64):(flatR xs).length<=66*xs.length:=by
 induction xs with
 | nil=>simp[flatR]
 | cons x xs ih=>
  have h1:=ih fun y hy=>h y (by simp[hy]);have h2:=h x (by simp);rw[flatR_cons];simp only[aU,aP,flat1];omega
theorem hdP_len (r:Record):(hdP r).length=5+(flatR r.2.2.2.1).length:=by simp[hdP,head5];omega
theorem packF_len (r:Record):(packF r).length=7+(flatR r.2.2.2.1).length:=by
 simp only[packF,aU,hdP_len,aP,aZ];omega
theorem packF_small {r:Record} (h:smallR r):(packF r).length<=5000:=by
 rw[packF_len];have:=flatR_len h.2;have:=h.1;omega
theorem sumP_in:∀ (l:List UInt8) (s:Int),0<=s/\s < 65521->0<=sumP s l/\sumP s l < 65521
 | [],s,h=>h
 | c::l,s,h=>sumP_in l ((s*31+(c.toNat:Int)) % 65521) ⟨Int.emod_nonneg _ (by omega),Int.emod_lt_of_pos _ (by omega)⟩
theorem byte_tmod {s:Int} (h:0<=s):UInt8.ofInt (s.tmod 256)=UInt8.ofInt s:=by
 rw[jB h];apply UInt8.toBitVec_inj.1;apply BitVec.eq_of_toNat_eq;simp[UInt8.ofInt,gB]
theorem fold_flat:∀ (xs:List Run) (s:List UInt8),xs.foldl (fun s x=>s++flat1 x) s=s++flatR xs
 | [],s=>by simp[flatR]
 | x::xs,s=>by rw[fL,fold_flat,flatR_cons,bL]
theorem sum_step {s:Int} {c:UInt8} (h:0<=s/\s < 65521):((w64 ((w64 (s*(31:Int)))+(w64 (c.toNat:Int)))).tmod (65521:Int))=(s*31+(c.toNat:Int)) % 65521:=by
 have hc:=c.toNat_lt;have e1:w64 (s*31)=s*31:=w64_in (by omega);have e2:w64 (c.toNat:Int)=(c.toNat:Int):=w64_in (by omega);have e3:w64 (s*31+(c.toNat:Int))=s*31+(c.toNat:Int):=w64_in (by omega);rw[e1,e2,e3,jB (by omega)]
theorem specSum_eq (l:List UInt8) (h:l.length<=100000):spec_l4Sum.sem (l,())=some (sumP 1 l,()):=by
 refine lift_eq (k:=100001) fun k hk=>(spec_l4Sum.raw_eq k _).trans ?_
 have:=for_loop (B:=fun self v=>spec_l4Sum.b0 self (fun z=>spec_l4Sum.q0 (l,()) z) (l,()) v) l (fun (s:Int) (i:Int)=>(s,i)) (fun _ s c=>.inr ((s*31+(c.toNat:Int)) % 65521)) (fun s=>(s,())) (fun _ s=>0<=s/\s < 65521) (by rw[maxLen_val];omega)
  (fun i hi s self hI=>by
   show spec_l4Sum.b0 _ _ _ _=_;unfold spec_l4Sum.b0;have hlt:(i:Int) < (l.length:Int):=by omega
   simp only[hlt,aE,aL,aN,aH,aI,aA hi,aB,sum_step hI])
  (fun i hi s s' hI hs=>by injection hs with hs;omega) (fun s self _=>by
   show spec_l4Sum.b0 _ _ _ _=_;unfold spec_l4Sum.b0
   simp[spec_l4Sum.q0,spec_l4Sum.q0]) 1 (by omega) k (by omega)
 rw[forI_fold] at this;exact this
theorem specPack_eq (r:Record) (h:smallR r):spec_l4Pack.sem (r,())=some (packF r,()):=by
 obtain ⟨K,T,P,xs,⟨⟩⟩:=r;obtain ⟨h1,h2⟩:=h;simp only at h1 h2;refine lift_eq (k:=100) fun k hk=>(spec_l4Pack.raw_eq k _).trans ?_
 have hlen:∀ i,(flatR (xs.take i)).length<=66*64:=fun i=>by
  have:=flatR_len (xs:=xs.take i) (fun x hx=>h2 x (eG hx));have:(xs.take i).length<=xs.length:=by simp;omega
  omega
 have:=for_loop (B:=fun self v=>spec_l4Pack.b0 self (fun z=>spec_l4Pack.q0 ((K,T,P,xs,()),()) z) ((K,T,P,xs,()),()) v) xs (fun (s:List UInt8) (i:Int)=>(s,i)) (fun _ s x=>.inr (s++flat1 x)) (fun s=>(let q:=s.set 0 (UInt8.ofInt (w64 ((s.length:Int)+2)));(q++[UInt8.ofInt ((sumP 1 q) / 256),UInt8.ofInt (sumP 1 q)],())))
  (fun i s=>s=head5 (K,T,P,xs,())++flatR (xs.take i)) (by rw[maxLen_val];omega)
  (fun i hi s self hI=>by
   show spec_l4Pack.b0 _ _ _ _=_;unfold spec_l4Pack.b0;have hlt:(i:Int) < (xs.length:Int):=by omega
   have hs:s.length<=5000:=by rw[hI];have:=hlen i;simp only[aU,head5,aP,aZ];omega
   have hx:=h2 xs[i] (bC hi);simp only[hlt,aE,aL,aN,aH,aI,aA hi,aB];generalize xs[i]=x at hx;have c1:s.length+[UInt8.ofInt x.1,UInt8.ofInt (List.length x.2.1:Int)].length<=CAP:=cap_ok (by simp only[aP,aZ];omega);have c2:(s++[UInt8.ofInt x.1,UInt8.ofInt (List.length x.2.1:Int)]).length+List.length x.2.1<=CAP:=cap_ok (by simp only[aU,aP,aZ];omega)
   simp only[c1,c2,aH,flat1,bL,dD,cH])
  (fun i hi s s' hI hs=>by
   injection hs with hs;rw[<-hs,hI,eU hi,flatR_append,bL]
   simp[flatR]) (fun s self hI=>by
   show spec_l4Pack.b0 _ _ _ _=_;unfold spec_l4Pack.b0;have hs:5<=s.length/\s.length<=5000:=by rw[hI];have:=hlen xs.length;simp only[aU,head5,aP,aZ];omega
   simp only[bP,aF,aG,spec_l4Pack.q0,spec_l4Pack.q0]
   have c0:(0:Int)<=0/\(0:Int) < (s.length:Int):=⟨by omega,by omega⟩
   rw[aV c0,aA (by omega:0 < s.length)];simp only[aB];generalize hq:s.set 0 (UInt8.ofInt (w64 ((s.length:Int)+2)))=q;have hql:q.length=s.length:=by rw[<-hq];simp
   rw[specSum_eq q (by omega)];simp only[aB];have hb:=sumP_in q 1 (by omega);have c1:q.length+[UInt8.ofInt (w64 ((sumP 1 q).tdiv 256)),UInt8.ofInt ((sumP 1 q).tmod 256)].length<=CAP:=cap_ok (by simp only[aP,aZ];omega)
   rw[aV c1,byte_tmod hb.1,fH hb.1,w64_in (by omega)]) (head5 (K,T,P,xs,())) (by simp[flatR]) k (by omega)
 rw[forI_fold,fold_flat] at this;exact this
theorem implPack_eq (r:Record) (h:smallR r):impl_packed.sem (r,())=some (packF r,()):=by
 obtain ⟨K,T,P,xs,⟨⟩⟩:=r;obtain ⟨h1,h2⟩:=h;simp only at h1 h2;refine lift_eq (k:=6000) fun k hk=>(impl_packed.raw_eq k _).trans ?_
 have hlen:∀ i,(flatR (xs.take i)).length<=66*64:=fun i=>by
  have:=flatR_len (xs:=xs.take i) (fun x hx=>h2 x (eG hx));have:(xs.take i).length<=xs.length:=by simp;omega
  omega
 have sum2:∀ q:List UInt8,q.length<=5000->impl_packed.r1 k ((K,T,P,xs,()),()) q (q.length:Int) (1,0)=some (q++[UInt8.ofInt ((sumP 1 q) / 256),UInt8.ofInt (sumP 1 q)],()):=fun q hq=>by
  have:=for_loop (B:=fun self v=>impl_packed.b1 self (fun z=>impl_packed.q1 ((K,T,P,xs,()),()) q (q.length:Int) z) ((K,T,P,xs,()),()) q (q.length:Int) v) q (fun (s:Int) (i:Int)=>(s,i)) (fun _ s c=>.inr ((s*31+(c.toNat:Int)) % 65521)) (fun s=>(q++[UInt8.ofInt (s / 256),UInt8.ofInt s],())) (fun _ s=>0<=s/\s < 65521) (by rw[maxLen_val];omega)
   (fun i hi s self hI=>by
    show impl_packed.b1 _ _ _ _ _ _=_;unfold impl_packed.b1;have hlt:(i:Int) < (q.length:Int):=by omega
    have hlt2:(0:Int)<=(i:Int)/\(i:Int) < (q.length:Int):=by omega
    simp only[hlt,hlt2,cU,aE,aL,aN,aH,aI,aA hi,aB,sum_step hI])
   (fun i hi s s' hI hs=>by injection hs with hs;omega) (fun s self hI=>by
    show impl_packed.b1 _ _ _ _ _ _=_;unfold impl_packed.b1;simp only[bP,aF,aG,impl_packed.q1,impl_packed.q1];have c1:q.length+[UInt8.ofInt (s.fdiv (2 ^ 8)),UInt8.ofInt s].length<=CAP:=cap_ok (by simp only[aP,aZ];omega);rw[aV c1,gJ s (by omega:(0:Int)<=2 ^ 8)]
    rfl) 1 (by omega) k (by omega)
  rw[forI_fold] at this;exact this
 have:=for_loop (B:=fun self v=>impl_packed.b0 self (fun z=>impl_packed.Q0 k ((K,T,P,xs,()),()) z) ((K,T,P,xs,()),()) v) xs (fun (s:List UInt8) (i:Int)=>(s,i)) (fun _ s x=>.inr (s++flat1 x)) (fun s=>(let q:=s.set 0 (UInt8.ofInt (w64 ((s.length:Int)+2)));(q++[UInt8.ofInt ((sumP 1 q) / 256),UInt8.ofInt (sumP 1 q)],())))
  (fun i s=>s=head5 (K,T,P,xs,())++flatR (xs.take i)) (by rw[maxLen_val];omega)
  (fun i hi s self hI=>by
   show impl_packed.b0 _ _ _ _=_;unfold impl_packed.b0;have hlt:(i:Int) < (xs.length:Int):=by omega
   have hs:s.length<=5000:=by rw[hI];have:=hlen i;simp only[aU,head5,aP,aZ];omega
   have hx:=h2 xs[i] (bC hi);simp only[hlt,aE,aL,aN,aH,aI,aA hi,aB];generalize xs[i]=x at hx;have c1:s.length+[UInt8.ofInt x.1,UInt8.ofInt (List.length x.2.1:Int)].length<=CAP:=cap_ok (by simp only[aP,aZ];omega);have c2:(s++[UInt8.ofInt x.1,UInt8.ofInt (List.length x.2.1:Int)]).length+List.length x.2.1<=CAP:=cap_ok (by simp only[aU,aP,aZ];omega)
   simp only[c1,c2,aH,flat1,bL,dD,cH])
  (fun i hi s s' hI hs=>by
   injection hs with hs;rw[<-hs,hI,eU hi,flatR_append,bL]
   simp[flatR]) (fun s self hI=>by
   show impl_packed.b0 _ _ _ _=_;unfold impl_packed.b0;have hs:5<=s.length/\s.length<=5000:=by rw[hI];have:=hlen xs.length;simp only[aU,head5,aP,aZ];omega
   simp only[bP,aF,aG,impl_packed.Q0,impl_packed.q0]
   have c0:(0:Int)<=0/\(0:Int) < (s.length:Int):=⟨by omega,by omega⟩
   rw[aV c0,aA (by omega:0 < s.length)];simp only[aB];generalize hq:s.set 0 (UInt8.ofInt (w64 ((s.length:Int)+2)))=q;have hql:q.length=s.length:=by rw[<-hq];simp
   exact sum2 q (by omega)) (head5 (K,T,P,xs,())) (by simp[flatR]) k (by omega)
 rw[forI_fold,fold_flat] at this;exact this
end OT
