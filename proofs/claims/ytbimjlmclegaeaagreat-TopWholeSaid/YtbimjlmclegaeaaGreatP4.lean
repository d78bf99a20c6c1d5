/- TopWhole: a member replaced and rebuilt is whole, and any other may fail then; part 5 of 6. Conditions: none. -/
import Derived.Test.YtbimjlmclegaeaaGreatP3
namespace Go.Proofs.YtbimjlmclegaeaaGreat
set_option linter.all false
set_option maxRecDepth 1000000
set_option maxHeartbeats 8000000
open Go.RowKit Go.Proofs.Tryz
open Go renaming World->QL,World->M,Value->QN,results->RV,Ending->SG,Addr->TF,maxLen->UT,callFunc->UY
open Go.IntKind renaming i64->QQ,u64->VY
open List renaming setIfInBounds_toArray->QR,getElem_cons_zero->QS,getElem_cons_succ->QT,getElem_toArray->QU,set_cons_zero->QV,set_cons_succ->QW,length_append->RE,length_map->RL,getElem?_map->RU,mem_map->SA,getElem?_range->SP,length_cons->SQ,mem_singleton->TC,append_assoc->TK,getElem?_take->TT,mem_append->TV,map_cons->UC,range->UD,mem_range->UJ,append_nil->UK,mem_cons->UR,range_succ->UW,cons_append->VB,nil_append->VE,length_nil->WG,size_toArray->WJ,mem_append_left->ZM
open Go.RowKit renaming Hid->RH,Below->SM
open Option renaming map_some->RJ
open Nat renaming zero_add->RQ,mod_eq_of_lt->SL,mul_one->UI,add_assoc->UZ,add_zero->VU,zero_mul->WI,ne_of_gt->ZI
open Go.Act renaming put->SC,eval->WH
open Go.World renaming size_setCell->SE
open Go.Value renaming slice->SF,int->SU,ownBlock->XA
open Go.Fence renaming wide->UF
open Go.Proofs.Tryz renaming underlying41->UX
open Go.Region renaming ready->VD,wanted->VT,binds->XR,noSelect->YO,noSelect_spec->YX
open Bool renaming and_eq_true->VX
open Go.CallsIn renaming inRound->WL
open _root_.Array renaming getElem?_eq_none->XB,replicate_zero->ZQ,replicate_succ->ZR
open Go.AllReadyH renaming cons->XG,nil->XS
open Go.Instr renaming endRound->ZO
def XM:=@List.take_append_of_le_length
variable {w W z:World}{n m k i j r C:Nat}{c:Int}{v x y:Value}{T:List Nat}{p:Addr}{P:Option Addr}{A:Array Value}{d:Bool}{S Q X:Nat->Prop}{t:TypeId}{L:List Value}{O:Obj}{f:aO}{F:dj}{g:au}{K:bp}{l:List Pt}{D:Dk}{U:Dv}{b:By}{o:Ro}{s:Rs}{u:Su}
section
def kL(ep sq:Nat)(P:bY)(i:Nat):Hd:=⟨ep,sq,i,P.N,P.me i,P.row i,hz (P.da i),dD 0 128 (ei (P.da i))⟩
structure bJ(F:dj)(ep sq room:Nat)(P:bY):Prop where
 ok:P.ok
 cA:1<=P.N/\P.N<=1023
 c:cI ep sq
 room:2*P.N+1<=room
 sec:∀j,j<=2*P.N->aC (F j) (bo ep sq P j)
section
variable {F:dj} {ep sq room:Nat} {P:bY}
theorem eo(b:P.ok)(c:cI ep sq)(d:1<=P.N/\P.N<=1023){i:Nat}(a:i<P.N):(kL ep sq P i).ok:=
 ⟨c,d,a,b.me i a,b.row i a,gT _ _ _ ai (nW (b.da i a))⟩
theorem bJ.head(h:bJ F ep sq room P){i:Nat}(b:i<P.N):aC (F (2*i)) (kL ep sq P i).enc:=by have a:=h.sec (2*i) J;unfold bo at a;rw[al J,ak J,show 2*i/2=i by omega]at a;exact a
theorem bJ.data(h:bJ F ep sq room P){i:Nat}(b:i<P.N):aC (F (2*i+1)) (ei (P.da i)):=by have a:=h.sec (2*i+1) J;unfold bo at a;rw[al J,al J,show(2*i+1)/2=i by omega]at a;exact a
theorem bJ.tk(h:bJ F ep sq room P):aC (F (2*P.N)) (eh ep sq P.N (fA ep sq P P.N)):=by have a:=h.sec (2*P.N) (QP _);unfold bo at a;rw[ak rfl]at a;exact a
def oh(F:dj):Nat->Nat
 |0=>0
 |k+1=>dD (oh F k) 128 (F (2*k))
theorem mS:∀{k:Nat},(∀i,i<k->aC (F (2*i)) (kL ep sq P i).enc)->fA ep sq P k=oh F k
 |0,_=>rfl
 |k+1,h=>by unfold fA oh;rw[mS λi b=>h i J];exact(hL λj a=>h k (TX k) j a).symm
theorem Kn{f:aO}{e:Bool}(h:(e=false/\hz f=false)\/(e=true/\xK f=true)):hz (tD e f)=e/\aC (ei (tD e f)) f:=by
 rcases h with⟨rfl,h⟩|⟨rfl,h⟩
 .have a:tD false f=f:=by funext k;unfold tD;rw[al aJ]
  rw[a];refine⟨h,λk c=>?_⟩;unfold ei;rw[h,al aJ]
 .have a:hz (tD true f)=true:=by
   unfold hz;simp only[decide_eq_true_eq];exact⟨rfl,rfl,rfl,rfl⟩
  refine⟨a,λk c=>?_⟩;unfold ei;rw[a];unfold xK at h;simp only[decide_eq_true_eq]at h;obtain⟨d,g,j,z3⟩:=h;by_cases b:k<4
  .rw [ak ⟨rfl,b⟩]
   match k,b with
   |0,_=>exact d.symm
   |1,_=>exact g.symm
   |2,_=>exact j.symm
   |3,_=>exact z3.symm
  .rw [al (λh=>b h.2)];unfold tD;rw[al (λh=>b h.2)]
theorem rK{f h:aO}(e:aC f h):hz f=hz h:=by unfold hz;rw[e 0 ai,e 1 ai,e 2 ai,e 3 ai]
theorem AY{f h:aO}(e:aC f h):xK f=xK h:=by unfold xK;rw[e 0 ai,e 1 ai,e 2 ai,e 3 ai]
theorem vN(f:aO):(hz f=false/\hz (ei f)=false)\/(hz f=true/\xK (ei f)=true):=by
 cases h:hz f
 .refine .inl ⟨rfl,?_⟩;have e:aC (ei f) f:=λk _=>by unfold ei;rw[h,al aJ]
  rw[rK e,h]
 .refine .inr ⟨rfl,?_⟩;unfold xK ei;rw[h];simp
structure kk(F:dj)(ep sq room i:Nat)(Q:bY)(hd:Hd):Prop where
 c:cI ep sq
 cA:1<=Q.N/\Q.N<=1023
 rm:2*Q.N+1<=room
 le:i<=2*Q.N
 me:∀k,2*k+1<i->Q.me k<=15/\Q.row k<=4095/\Lt 128 (Q.da k)
 pair:∀k,2*k+1<i->aC (F (2*k)) (kL ep sq Q k).enc/\aC (F (2*k+1)) (ei (Q.da k))
 Pq:i%2=1->hd.ok/\aC (F (i-1)) hd.enc/\hd.ep=ep/\hd.sq=sq/\hd.ix=i/2/\hd.cA=Q.N
 uniq:∀P,bJ F ep sq room P->P.N=Q.N
variable {i:Nat} {Q:bY} {hd:Hd}
theorem kk.start{h:Hd}(a:h.ok)(c:aC (F 0) h.enc)(d:h.ep=ep)(e:h.sq=sq)(f:h.ix=0)(g:2*h.cA+1<=room):kk F ep sq room 1 ⟨h.cA,λ_=>0,λ_=>0,λ_ _=>0⟩ h:=by have j:=a.cA;refine⟨by rw[<-d,<-e];exact a.c,j,g,by show 1<=2*h.cA;omega,λk a=>J,λk a=>J,λ_=>⟨a,c,d,e,f,rfl⟩,λP b=>?_⟩;have l:=Hd.cF a c;have m:=Hd.cF (eo b.ok b.c b.cA (by have:=b.cA;omega)) (b.head (i:=0) (by have:=b.cA;omega));have n:=l.symm.trans m;exact(congrArg Hd.cA n).symm
theorem kk.head{h:Hd}(a:kk F ep sq room i Q hd)(d:i%2=0)(b:i<2*Q.N)(c:h.ok)(e:aC (F i) h.enc)(f:h.ep=ep)(g:h.sq=sq)(j:h.ix=i/2)(l:h.cA=Q.N):kk F ep sq room (i+1) Q h:=
 ⟨a.c,a.cA,a.rm,b,λk c=>a.me k J,λk c=>a.pair k J,λ_=>⟨c,e,f,g,by rw[j];omega,l⟩,a.uniq⟩
def bY.put(Q:bY)(k:Nat)(hd:Hd)(f:aO):bY:=⟨Q.N,λj=>if j=k then hd.me else Q.me j,λj=>if j=k then hd.row else Q.row j,λj=>if j=k then tD hd.nu f else Q.da j⟩
theorem kk.data(a:kk F ep sq room i Q hd)(b:i%2=1)(l:Lt 128 (F i))(m:(hd.nu=false/\hz (F i)=false)\/(hd.nu=true/\xK (F i)=true))(n:dD 0 128 (F i)=hd.sm):kk F ep sq room (i+1) (Q.put (i/2) hd (F i)) hd:=by
 obtain⟨f,o,p,q,r,s⟩:=a.Pq b;obtain⟨t,g⟩:=Kn m;have u:=a.le;refine⟨a.c,a.cA,a.rm,by show i+1<=2*Q.N;omega,λk v=>?_,λk v=>?_,λh=>J,a.uniq⟩
 .show (if k=i/2 then hd.me else Q.me k)<=15/\(if k=i/2 then hd.row else Q.row k)<=4095/\Lt 128 (if k=i/2 then tD hd.nu (F i)else Q.da k);by_cases e:k=i/2
  .rw [ak e,ak e,ak e];refine⟨f.me,f.row,λj c=>?_⟩;unfold tD;split
   .unfold iU
    (repeat' split)<;>decide
   .exact l j c
  .rw [al e,al e,al e];exact a.me k J
 .by_cases e:k=i/2
  .subst e;have w:2*(i/2)=i-1:=J;have x:i-1+1=i:=J;have d:kL ep sq (Q.put (i/2) hd (F i)) (i/2)=hd:=by unfold kL bY.put;simp only[if_true];rw[t,hL (h:=F i) (λj c=>g j c),n,<-p,<-q,<-r,<-s]
   rw[d,w,x];refine⟨o,?_⟩;show aC (F i) (ei (if i/2=i/2 then tD hd.nu (F i)else _));rw[ak rfl];exact g.symm
  .have d:kL ep sq (Q.put (i/2) hd (F i)) k=kL ep sq Q k:=by
    unfold kL bY.put;simp only[al e]
   have y:(Q.put (i/2) hd (F i)).da k=Q.da k:=al e;rw[d,y];exact a.pair k J
theorem kk.qp(a:kk F ep sq room (2*Q.N) Q hd)(d:aC (F (2*Q.N)) (eh ep sq Q.N (oh F Q.N))):bJ F ep sq room Q:=by
 refine⟨⟨λk b=>(a.me k J).1,λk b=>(a.me k J).2.1,λk b=>(a.me k J).2.2⟩,a.cA,a.c,a.rm,λj f=>?_⟩;unfold bo;by_cases e:j=2*Q.N
 .rw [ak e,e,mS λk b=>(a.pair k J).1];exact d
 .rw [al e];by_cases c:j%2=0
  .rw [ak c];have:=(a.pair (j/2) J).1;rw[show 2*(j/2)=j by omega]at this;exact this
  .rw [al c];have:=(a.pair (j/2) J).2;rw[show 2*(j/2)+1=j by omega]at this;exact this
theorem kk.rL(a:kk F ep sq room i Q hd)(h:i=room):∀P,¬bJ F ep sq room P:=λP b=>by have c:=a.uniq P b;have d:=b.room;have e:=a.le;omega
theorem AZ(h:0=room):∀P,¬bJ F ep sq room P:=λP a=>by have b:=a.room;omega
theorem xL(h:∀b:Hd,b.ok->¬aC (F 0) b.enc):∀P,¬bJ F ep sq room P:=λP a=>
 h _ (eo a.ok a.c a.cA (by have:=a.cA;omega)) (a.head (i:=0) (by have:=a.cA;omega))
theorem vO{h:Hd}(b:h.ok)(c:aC (F 0) h.enc)(d:¬(h.ep=ep/\h.sq=sq/\h.ix=0/\2*h.cA+1<=room)):∀P,¬bJ F ep sq room P:=λP a=>d (by have e:=Hd.cF b c;have f:=Hd.cF (eo a.ok a.c a.cA (by have:=a.cA;omega)) (a.head (i:=0) (by have:=a.cA;omega));have g:=e.symm.trans f;rw[g];exact⟨rfl,rfl,rfl,a.room⟩)
theorem kk.A_(d:kk F ep sq room i Q hd)(e:i%2=0)(f:i<2*Q.N)(h:∀b:Hd,b.ok->¬aC (F i) b.enc):∀P,¬bJ F ep sq room P:=λP a=>by have g:=d.uniq P a;have c:=a.head (i:=i/2) J;rw[show 2*(i/2)=i by omega]at c;exact h _ (eo a.ok a.c a.cA J) c
theorem kk.xM(c:kk F ep sq room i Q hd)(d:i%2=0)(e:i<2*Q.N){h:Hd}(f:h.ok)(g:aC (F i) h.enc)(j:¬(h.ep=ep/\h.sq=sq/\h.ix=i/2/\h.cA=Q.N)):∀P,¬bJ F ep sq room P:=λP a=>j (by have k:=c.uniq P a;have b:=a.head (i:=i/2) J;rw[show 2*(i/2)=i by omega]at b;have l:=Hd.cF f g;have m:=Hd.cF (eo a.ok a.c a.cA J) b;have n:=l.symm.trans m;rw[n];exact⟨rfl,rfl,rfl,k⟩)
theorem kk.vP(b:kk F ep sq room i Q hd)(c:i%2=1){P:bY}(a:bJ F ep sq room P):hd=kL ep sq P (i/2)/\aC (F i) (ei (P.da (i/2))):=by obtain⟨f,g,-⟩:=b.Pq c;have j:=b.uniq P a;have h:=b.le;have d:=a.head (i:=i/2) J;have e:=a.data (i:=i/2) J;rw[show 2*(i/2)=i-1 by omega]at d;rw[show 2*(i/2)+1=i by omega]at e;exact⟨(Hd.cF f g).symm.trans (Hd.cF (eo a.ok a.c a.cA J) d),e⟩
theorem kk.EP(f:kk F ep sq room i Q hd)(b:i%2=1)(a:(hd.nu=false/\hz (F i)=true)\/(hd.nu=true/\xK (F i)=false)):∀P,¬bJ F ep sq room P:=λP g=>by
 obtain⟨h,e⟩:=f.vP b g;have j:hd.nu=hz (P.da (i/2)):=by rw[h];rfl
 rw[rK e,AY e,j]at a;rcases vN (P.da (i/2))with⟨c,d⟩|⟨c,d⟩
 .rw [c,d]at a;simp at a
 .rw [c,d]at a;simp at a
theorem kk.ER(b:kk F ep sq room i Q hd)(a:i%2=1)(c:dD 0 128 (F i)≠hd.sm):∀P,¬bJ F ep sq room P:=λP d=>by obtain⟨e,f⟩:=b.vP a d;refine c ?_;rw[e];exact hL λj g=>f j g
theorem kk.rM(c:kk F ep sq room (2*Q.N) Q hd)(d:¬aC (F (2*Q.N)) (eh ep sq Q.N (oh F Q.N))):∀P,¬bJ F ep sq room P:=λP a=>d (by have e:=c.uniq P a;have b:=a.tk;rw[mS λk f=>a.head f,e]at b;exact b)
end
end
section
open Go.Shelf
theorem zf(f:FuncId):UF.fn f:=trivial
attribute [local go_sem] WU zf
theorem vQ(a:Option TF)(N b:Nat)(w:M)(f:N<=4096):aD 273 #[.slice a (N*128) b] w λe c=>aK e (Y N)/\w=c:=by
 obtain⟨n,d⟩:=ah (N*128);have g:((n:Nat):Int).tdiv 128=((N:Nat):Int):=by have:n/128=N:=J;rw[<-this];exact Int.ofNat_tdiv _ _
 have h:QQ.wrap ((N:Nat):Int)=(N:Nat):=bf;rw[d];go_enter func273,ntmps273;go_wp2;go_ret;exact⟨by simp[*],rfl⟩
def ID(b o a N t k:Nat):QN:=.slice (some ⟨b,o+(t+k)%N*128,none⟩) 128 (a-(t+k)%N*128)
def zg(X:Nat->Prop)(b:Nat->M->Prop)(qh:M->Prop)(k:Nat)(A:M)(e:SG)(a:M):Prop:=
 (aK e dU/\Out X A a/\b (k+1) a)\/(aK e iD/\Out X A a/\qh a)
theorem A'(l F G b o c N t:Nat)(X:Nat->Prop)(a:Nat->QL->Prop)(qh:QL->Prop)(W:QL)(b1:1<=N)(K:N<=4096)(b2:t<N)(r:N*128<=c)(s:aZ W F (ao #[.slice (some (ag b o)) (N*128) c] 352))(L:aZ W G (ao #[ae t] 3))(O:¬X F)(P:¬X G)(Q:a 0 W)(S:∀k A n,a k A->a k (A.drewN n))(a0:∀q k A,k<N->a k A->YieldAt UF q prog l #[ae k,ID b o c N t k] A (zg X a qh k A)):
  CallsIn UF 2 prog 337 #[.func (.yield l) #[] #[],aq F,aq G] W
   λe T=>(∃v,aK e v)/\Out X W T/\(a N T\/qh T):=by
 refine callsIn_of_wp func337 rfl trivial ?_;simp only[ntmps337,WJ,SQ,WG,Nat.reduceAdd,Nat.reduceSub,ZR,ZQ,List.push_toArray,List.append_toArray,VE,VB];have a4:=ad a0;have U:=ad S;have M:=ad s;have H2:=ad L;have H0:RH (Out X W W/\a 0 W):=⟨Out.refl _ _,Q⟩;have f:=ad (λw=>vQ (some (ag b o)) N c w K);obtain⟨R,a2,a3⟩:=cr s;obtain⟨n,C⟩:=ah (N*128);simp only[C]at f;rw[C]at R M s r;have V:=ad C;clear C;gi_wp2_with(first|(gi_at_call 273;refine(VA.2 (f _)).mono ?_;rintro e w1 ⟨rfl,rfl⟩))
 gi_loopw [4,5,8] (λs4 s5 Z wr=>∃k:Nat,k<=N/\Z= ae k/\RH (Out X W wr/\a k wr)) (λ_ _ Z _=>N-(intOf Z).toNat)
 case atStart=>exact⟨0,QX _,rfl,H0⟩
 case round=>
  obtain⟨k,b3,rfl,p⟩:=hrel;by_cases u:k<N
  .have s:=p.1.heap M O;have L:=p.1.heap H2 P;obtain⟨R,a2,a3⟩:=cr s;obtain⟨d1,d2,d3⟩:=cr L;obtain⟨q,D⟩:=ah ((t+k)%N);have a5:q<N:=by rw[<-D];exact SB _ aa
   have e1:QQ.wrap ((t:Int)+k)=((t+k:Nat):Int):=bf;have e2:((t+k:Nat):Int).tmod (N:Int)=((q:Nat):Int):=by rw[<-D];exact SK _ _
   obtain⟨x,H⟩:=ah (q*128);have e3:QQ.wrap ((q:Int)*128)=((x:Nat):Int):=by rw[<-H];go_arith
   have e5:¬N=0:=aa;have e6:QQ.wrap ((x:Int)+128)=((x+128:Nat):Int):=bf;have e7:(0:Int)<=(x:Int):=aa;have a6:=V.out;have e9:((x+128:Nat):Int)<=(c:Int):=aa;have a7:¬c=x:=aa;have I:=aA D H;obtain⟨b4,y⟩:=ah (t+k);rw[y]at e1 e2;clear D H y;gi_wp2_with fail
   gi_quiet_th (first|(gi_at_call 273;exact CallsIn.quiet_of_same (VA.2 ((f _).mono λe b5 h=>⟨h.1,h.2.symm⟩))))
   have z:=ad (U k wr nq p.2);have g:=ad (λq=>a4.out q k (wr.drewN nq) u z);unfold ID at g;rw[I.1,I.2]at g;have a8:x+128-x=128:=aa;obtain⟨b6,Y,E,J,b7,a9⟩:=g.out 1;have b0:=ad a9;gi_wp2_with fail;refine b0.mono ?_;have B:RH (Out X W (wr.drewN nq)):=p.1.then (ct aj _);rintro e w2 (⟨rfl,d,i⟩|⟨rfl,d,i⟩)
   .have j:=ad (B.tr d);have m:=ad i;gi_wp2;go_roundw
    case rel=>exact⟨k+1,u,by go_num,j,m⟩
    case measure=>simp[intOf];omega
   .have j:=ad (B.tr d);have m:=ad i;gi_wp2;refine RB (results_none rfl _ _ _) rfl ?_;exact⟨⟨_,rfl⟩,j,.inr m⟩
  .obtain rfl:k=N:=aa;gi_wp2;go_end0;exact⟨⟨_,rfl⟩,p.1,.inl p.2⟩
end
section
open Go.Shelf
def jP(o:Oper):Bool:=match o.op with| .defer _=>false|_=>true
theorem xN{o:Oper}(h:jP o=true)(c):o.op≠ .defer c:=λe=>by unfold jP at h;rw[e]at h;cases h
section
variable {l n:Nat} {P:Program} {ops:Array Oper} {Q:Exit->Act->QL->Prop} {S:QL->Prop}
theorem nR(fI:ops.all jP=true)(s:¬LetsOut Q){i:Nat}{K q:Act->M->Prop}{a:Act}{w:M}(b:∀a w,K a w->q a w)(h:wpOp P ops Q i K a w):wpOpIn (UF.inRound l) n P ops Q i q a w:=by
 unfold wpOp at h;unfold wpOpIn;cases k:ops[i]? with
 |none=>simp only[k]at h;exact b _ _ h
 |some o=>
  simp only[k]at h|-;have t:jP o=true:=by obtain⟨y,j⟩:=RM.1 k;rw[<-j];exact Array.all_eq_true.1 fI i y
  split
  .rename_i m;simp only[m,if_true]at h;have h:=h.resolve_right λe=>s e.2;unfold Oper.wp at h;unfold Oper.wpIn;refine⟨λ_ _=>trivial,?_⟩;rw[Oper.semAt_eq _ _ _ (xN t)];generalize (execOp a.eval o).run P w=r at*;cases r with
   |ok x z=>
    cases x<;>simp only[Oper.upon]at h<;>simp only[Oper.uponIn]
    case value u=>exact b _ _ h
    case skip=>exact b _ _ h
    case defer d=>exact b _ _ h
    case enter f g=>exact⟨(λe=>by cases e),WL l ((VA.2 h).mono λe A j=>by cases e<;>first|exact b _ _ j|exact j)⟩
    case row p g=>exact⟨(λe=>by cases e),λc B F=>by obtain⟨v,C,D,E⟩:=h c B;exact⟨v,C,b _ _ D,(stepsIn_wide (P:=P)).2 E⟩⟩
   |halt x z=>
    cases x<;>simp only[Oper.upon]at h
    case panic u=>simp only[Oper.uponIn];exact h
  .rename_i m;simp only[m]at h;exact⟨λ_ _=>trivial,b _ _ h⟩
theorem iC(fI:ops.all jP=true)(b:¬LetsOut Q):∀(fuel:Nat) (listed:Array Bool) (a:Act) (w:M),wpAnyH P .any ops Q S fuel listed a w->wpAnyIn (UF.inRound l) n P .any ops Q fuel listed a w
 |0,_,_,_,h=>h
 |fuel+1,_,_,_,h=>⟨h.1,λi c=>nR fI b (λd e f=>iC fI b fuel _ d e f.2) (h.2 i c)⟩
theorem eE{id:Nat}{a:Act}{w:M}(b:P.follows .mixedOrders=true)(fI:ops.all jP=true)(c:¬LetsOut Q)(d:S w.drew)(h:S w.drew->wpAnyH P .any ops Q S ops.size (Array.replicate ops.size false) a w.drew):(Code.region id ops true).wpIn (UF.inRound l) n P Q a w:=
 wpIn_region_any b (iC fI c _ _ _ _ (h d))
end
section
variable {P:Program} {ops:Array Oper} {Q:Exit->Act->QL->Prop} {md:Region.Mode} {S:QL->Prop} {i:Nat} {oi:Oper} {v:QN} {fuel:Nat} {listed:Array Bool} {a:Act} {w:QL}
theorem lQ(b:ops[i]?=some oi)(d:∀w,S w->(execOp a.eval oi).run P w=.ok (.value v) w)(e:S w)(h:wpAnyH P md ops Q S fuel (listed.setIfInBounds i true) (a.put oi.dst v) w)(f:YO ops=true:=by kernel_rfl)(g:Region.free md ops listed i=true:=by kernel_rfl)(j:(VD md ops listed).contains i=true:=by kernel_rfl)(k:VT oi (yielded ops a.tmps)=true:=by kernel_rfl)(m:∀c a w,Q (.panic c) (a.put oi.dst v) w->Q (.panic c) a w:=by exactλ_ _ _ h=>h):wpAnyH P md ops Q S (fuel+1) listed a w:=
 wpAnyH_take b f g j m (.inl ⟨k,d⟩) e h
theorem Ba(b:ops[i]?=some oi)(d:S w)(h:wpAnyH P md ops Q S fuel (listed.setIfInBounds i true) (a.put oi.dst undef) w)(e:YO ops=true:=by kernel_rfl)(f:Region.free md ops listed i=true:=by kernel_rfl)(g:(VD md ops listed).contains i=true:=by kernel_rfl)(j:VT oi (yielded ops a.tmps)=false:=by kernel_rfl)(k:∀c a w,Q (.panic c) (a.put oi.dst undef) w->Q (.panic c) a w:=by exactλ_ _ _ h=>h):wpAnyH P md ops Q S (fuel+1) listed a w:=
 wpAnyH_take b e f g k (.inr ⟨j,rfl⟩) d h
end
end
section
open Go.Shelf
theorem Hm(rg:QN)(t:Nat)(w:M)(a:Option TF)(n c:Nat)(b:rg=.slice a n c):aD 309 #[rg,Y t] w λe d=>aK e (.func (.func 337) #[] #[H w.heap.size,.pointer (some ⟨w.heap.size+1,0,none⟩)])/\
  d=(w.alloc (ao #[rg] 352)).alloc (ao #[Y t] 3):=by
 subst b;go_enter func309,ntmps309;go_wp2;go_ret;exact⟨rfl,rfl⟩
theorem ES(w:M):aD 308 #[] w λe a=>aK e (H w.heap.size)/\a=w.alloc (ao #[.int .u32 0,Y 0] 436):=by go_enter func308,ntmps308;go_wp2;go_ret;exact⟨rfl,rfl⟩
def mT(w:M):List Obj->M
 | [] =>w
 |o::a=>mT (w.alloc o) a
theorem il:∀(a:List Obj) (w:M),ar w (mT w a)
 | [],_=>aj
 |o::a,w=>(aI aj o).trans ((il a (w.alloc o)).mono aJ)
theorem nB:∀(a:List Obj) (w:M),(mT w a).heap.size=w.heap.size+a.length
 | [],_=>rfl
 |o::a,w=>by show(mT (w.alloc o) a).heap.size=_;rw[nB a,TG,SQ];omega
theorem pP:∀(a:List Obj) (w:M) (j:Nat) (o:Obj),a[j]?=some o->(mT w a).heap[w.heap.size+j]?=some o
 |o::a,w,0,p,h=>by
  have e:o=p:=by simpa using h
  subst e;exact((il a (w.alloc o)).block _ aJ).trans (QM w o)
 |o::a,w,j+1,p,h=>by have:=pP a (w.alloc o) j p (by simpa using h);rw[TG,show w.heap.size+1+j=w.heap.size+(j+1)by omega]at this;exact this
theorem fe.wide{B a:Nat}{w:M}{v:QN}{l:List Pt}(h:fe B w v l)(b:a<=B):fe a w v l:=by obtain⟨c,d,e,f⟩:=h;exact⟨c,d,cu e b,f⟩
def bL(Q:bY)(m:Nat):List Pt:=(UD m).map λi=>(Q.me i,Q.row i,Q.da i)
theorem cT(Q:bY)(m:Nat):(bL Q m).length=m:=by simp[bL]
theorem Bb(Q:bY)(k:Nat)(hd:Hd)(f:aO):bL (Q.put k hd f) (k+1)=bL Q k++ [(hd.me,hd.row,tD hd.nu f)]:=by
 unfold bL;rw[UW,SR];congr 1
 .refine VH λi a=>?_;have:i≠k:=by have:=UJ.1 a;omega
  simp only[bY.put,al this]
 .simp [bY.put]
def Ko(F:dj)(ep sq room:Nat)(w:M)(e:SG)(b:M):Prop:=
 ar w b/\∃a n c,(∃P,bJ F ep sq room P/\aK e (.tuple #[.agg #[bj sq,.slice a n c],.bool true])/\fe w.heap.size b (.slice a n c) (bL P P.N))\/
  ((∀P,¬bJ F ep sq room P)/\aK e (.tuple #[.agg #[bj sq,.slice a n c],.bool false]))
def BC(room ep sq t:Nat)(rg:QN)(s:Nat)(sv:QN)(hd:Hd)(N ds dm:Nat):Nat->Array QN × Nat
 |0=>(#[.int .i64 (room:Nat)],3)
 |1=>(#[.int .u64 (ep:Nat)],87)
 |2=>(#[.int .u64 (sq:Nat)],87)
 |3=>(#[.int .u64 0,.slice none 0 0],204)
 |4=>(#[.bool false],4)
 |5=>(#[.int .u64 (sq:Nat),sv],204)
 |6=>(rJ hd,390)
 |7=>(#[.int .i64 (N:Nat)],3)
 |8=>(#[.int .u32 (ds:Nat),.int .i64 (dm:Nat)],436)
 |9=>(#[.pointer (some ⟨s+8,0,none⟩)],391)
 |10=>(#[rg],352)
 |_=>(#[.int .i64 (t:Nat)],3)
theorem xO(room ep sq t:Nat)(rg:QN)(s:Nat)(sv:QN)(hd:Hd)(N ds dm j:Nat):(BC room ep sq t rg s sv hd N ds dm j).2≠5:=by unfold BC;split<;>(dsimp only;decide)
structure BR(w:M)(lo:Loop)(room ep sq t:Nat)(rg:QN)(sv:QN)(hd:Hd)(N ds dm:Nat)(ps:List Pt)(A:M):Prop where
 l:A.heap[w.heap.size+13]? =some (.loop lo)
 D:A.heap[w.heap.size+12]? =some (.deferred (some []))
 c:∀j,j<12->A.heap[w.heap.size+j]? =some (.cells (BC room ep sq t rg w.heap.size sv hd N ds dm j).1 (BC room ep sq t rg w.heap.size sv hd N ds dm j).2 (0,0))
 ls:fe (w.heap.size+14) A sv ps
 out:ar w A
section
variable {w:QL} {lo lo':Loop} {room ep sq t:Nat} {rg sv:QN} {hd:Hd} {N ds dm:Nat} {l:List Pt} {A B:QL}
theorem BR.size(h:BR w lo room ep sq t rg sv hd N ds dm l A):w.heap.size+14<=A.heap.size:=Z_ h.l
theorem BR.then(h:BR w lo room ep sq t rg sv hd N ds dm l A)(a:ar A B):BR w lo room ep sq t rg sv hd N ds dm l B:=by have c:=h.size;exact⟨(a.block _ J).trans h.l,(a.block _ J).trans h.D,λj b=>(a.block _ J).trans (h.c j b),h.ls.below a,h.out.trans (a.mono J)⟩
theorem fe.kM{B:Nat}{w:M}{v:QN}{l:List Pt}(h:fe B w v l){k:Nat}(a:v.ownBlock=some k):B<=k:=by obtain⟨c,d,b,e⟩:=h;exact(bm b a).2
theorem BR.put(h:BR w lo room ep sq t rg sv hd N ds dm l A):BR w lo' room ep sq t rg sv hd N ds dm l (A.putObj (w.heap.size+13) (.loop lo')):=by
 have a:Out (λb=>b=w.heap.size+13) A (A.putObj (w.heap.size+13) (.loop lo')):=Out.putObj (S:=λb=>b=w.heap.size+13) (Out.refl _ _) (λ_=>rfl) _;have g:=h.size;refine⟨TE (Z_ h.l),a.heap h.D (by show¬w.heap.size+12=w.heap.size+13;omega),λj f=>a.heap (h.c j f) (by show¬w.heap.size+j=w.heap.size+13;omega),
  h.ls.out a (λk c e=>by have:=h.ls.kM c;have:k=w.heap.size+13:=e;omega) (λk o c d=>?_),h.out.trans (a.below (λk _ e=>by have:k=w.heap.size+13:=e;omega) J)⟩
 have:k=w.heap.size+13:=c;subst this;rw[h.l]at d;cases d;exactλe=>by simp[ty]at e
theorem BR.dR{a:QN}{d:Hd}{i f g:Nat}{n:List Pt}(h:BR w lo room ep sq t rg sv hd N ds dm l A)(c:Nat)(p:c<12)(m:Out (λb=>b=w.heap.size+c) A B)(q:aZ B (w.heap.size+c) (.cells (BC room ep sq t rg w.heap.size a d i f g c).1 (BC room ep sq t rg w.heap.size a d i f g c).2 (0,0)))(r:∀j,j<12->j≠c->BC room ep sq t rg w.heap.size a d i f g j=BC room ep sq t rg w.heap.size sv hd N ds dm j)(s:fe (w.heap.size+14) B a n):BR w lo room ep sq t rg a d i f g n B:=by
 have u:=h.size;refine⟨m.heap h.l (by show¬w.heap.size+13=w.heap.size+c;omega),m.heap h.D (by show¬w.heap.size+12=w.heap.size+c;omega),λj o=>?_,s,h.out.trans (m.below (λk _ e=>by have:k=w.heap.size+c:=e;omega) J)⟩;by_cases e:j=c
 .rw [e];exact q
 .rw [r j o e];exact m.heap (h.c j o) (by show¬w.heap.size+j=w.heap.size+c;omega)
theorem BR.Ol{c:Hd}{i d f:Nat}(h:BR w lo room ep sq t rg sv hd N ds dm l A)(a:Nat)(g:a<12)(n:Out (λb=>b=w.heap.size+a) A B)(q:B.heap[w.heap.size+a]?=some (.cells (BC room ep sq t rg w.heap.size sv c i d f a).1 (BC room ep sq t rg w.heap.size sv c i d f a).2 (0,0)))(r:∀j,j<12->j≠a->BC room ep sq t rg w.heap.size sv c i d f j=BC room ep sq t rg w.heap.size sv hd N ds dm j):BR w lo room ep sq t rg sv c i d f l B:=by
 refine h.dR a g n q r (h.ls.out n (λk m e=>by have:=h.ls.kM m;have:k=w.heap.size+a:=e;omega) (λk o m p=>?_));have:k=w.heap.size+a:=m;subst this;rw[h.c a g]at p;cases p;exact xO _ _ _ _ _ _ _ _ _ _ _ _
theorem BR.cA(h:BR w lo room ep sq t rg sv hd N ds dm l A)(M:Nat):BR w lo room ep sq t rg sv hd M ds dm l (A.setCell ⟨w.heap.size+7,0,none⟩ (Y M)):=by
 refine h.Ol 7 ai ((Out.refl (λb=>b=w.heap.size+7) A).setCell (p:=⟨w.heap.size+7,0,none⟩) (λ_=>rfl) _) (heap_setCell_same _ _ 0 _ 3 _ (h.c 7 ai)) λj c a=>?_
 match j,c with
 |0,_|1,_|2,_|3,_|4,_|5,_|6,_|8,_|9,_|10,_|11,_=>rfl
 |7,_=>exact absurd rfl a
theorem Hn{w:M}{p ty:Nat}{r q o n k j g f:QN}(h:aZ w p (.cells #[r,q,o,n,k,j,g,f] ty (0,0)))(a b c d x4 e i m:QN):
  (((((((((w.setCell (R p 0) a).setCell (R p 1) b).setCell (R p 2) c).setCell (R p 3) d).setCell (R p 4) x4).setCell (R p 5) e).setCell (R p 6) i).setCell (R p 7) m)).heap[p]?=some (.cells #[a,b,c,d,x4,e,i,m] ty (0,0)):=by
 have s:(w.setCell (R p 0) a).heap[p]?=some (.cells #[a,q,o,n,k,j,g,f] ty (0,0)):=heap_setCell_same _ p 0 _ ty a h;have u:((w.setCell (R p 0) a).setCell (R p 1) b).heap[p]?=some (.cells #[a,b,o,n,k,j,g,f] ty (0,0)):=heap_setCell_same _ p 1 _ ty b s;have v:(((w.setCell (R p 0) a).setCell (R p 1) b).setCell (R p 2) c).heap[p]?=some (.cells #[a,b,c,n,k,j,g,f] ty (0,0)):=heap_setCell_same _ p 2 _ ty c u;have x:((((w.setCell (R p 0) a).setCell (R p 1) b).setCell (R p 2) c).setCell (R p 3) d).heap[p]?=some (.cells #[a,b,c,d,k,j,g,f] ty (0,0)):=heap_setCell_same _ p 3 _ ty d v;have y:(((((w.setCell (R p 0) a).setCell (R p 1) b).setCell (R p 2) c).setCell (R p 3) d).setCell (R p 4) x4).heap[p]?=some (.cells #[a,b,c,d,x4,j,g,f] ty (0,0)):=heap_setCell_same _ p 4 _ ty x4 x;have z:((((((w.setCell (R p 0) a).setCell (R p 1) b).setCell (R p 2) c).setCell (R p 3) d).setCell (R p 4) x4).setCell (R p 5) e).heap[p]?=some (.cells #[a,b,c,d,x4,e,g,f] ty (0,0)):=heap_setCell_same _ p 5 _ ty e y;have C:(((((((w.setCell (R p 0) a).setCell (R p 1) b).setCell (R p 2) c).setCell (R p 3) d).setCell (R p 4) x4).setCell (R p 5) e).setCell (R p 6) i).heap[p]?=some (.cells #[a,b,c,d,x4,e,i,f] ty (0,0)):=heap_setCell_same _ p 6 _ ty i z;have D:((((((((w.setCell (R p 0) a).setCell (R p 1) b).setCell (R p 2) c).setCell (R p 3) d).setCell (R p 4) x4).setCell (R p 5) e).setCell (R p 6) i).setCell (R p 7) m).heap[p]?=some (.cells #[a,b,c,d,x4,e,i,m] ty (0,0)):=heap_setCell_same _ p 7 _ ty m C;exact D
theorem BR.Pr(h:BR w lo room ep sq t rg sv hd N ds dm l A)(x:Hd):BR w lo room ep sq t rg sv x N ds dm l
  ((((((((A.setCell ⟨w.heap.size+6,0,none⟩ (bj x.ep)).setCell ⟨w.heap.size+6,1,none⟩ (bj x.sq)).setCell ⟨w.heap.size+6,2,none⟩ (Y x.ix)).setCell ⟨w.heap.size+6,3,none⟩ (Y x.cA)).setCell ⟨w.heap.size+6,4,none⟩ (Y x.me)).setCell ⟨w.heap.size+6,5,none⟩ (Y x.row)).setCell ⟨w.heap.size+6,6,none⟩ (.bool x.nu)).setCell ⟨w.heap.size+6,7,none⟩ (.int .u32 (x.sm:Nat))):=by
 have c:aZ A (w.heap.size+6) (ao (rJ hd) 390):=h.c 6 ai;have d:=Hn c (bj x.ep) (bj x.sq) (Y x.ix) (Y x.cA) (Y x.me) (Y x.row) (.bool x.nu) (.int .u32 (x.sm:Nat));have e:Out (λb=>b=w.heap.size+6) A ((((((((A.setCell ⟨w.heap.size+6,0,none⟩ (bj x.ep)).setCell ⟨w.heap.size+6,1,none⟩ (bj x.sq)).setCell ⟨w.heap.size+6,2,none⟩ (Y x.ix)).setCell ⟨w.heap.size+6,3,none⟩ (Y x.cA)).setCell ⟨w.heap.size+6,4,none⟩ (Y x.me)).setCell ⟨w.heap.size+6,5,none⟩ (Y x.row)).setCell ⟨w.heap.size+6,6,none⟩ (.bool x.nu)).setCell ⟨w.heap.size+6,7,none⟩ (.int .u32 (x.sm:Nat))):=((((((((Out.refl (λb=>b=w.heap.size+6) A).setCell (p:=⟨w.heap.size+6,0,none⟩) (λ_=>rfl) _).setCell (p:=⟨w.heap.size+6,1,none⟩) (λ_=>rfl) _).setCell (p:=⟨w.heap.size+6,2,none⟩) (λ_=>rfl) _).setCell (p:=⟨w.heap.size+6,3,none⟩) (λ_=>rfl) _).setCell (p:=⟨w.heap.size+6,4,none⟩) (λ_=>rfl) _).setCell (p:=⟨w.heap.size+6,5,none⟩) (λ_=>rfl) _).setCell (p:=⟨w.heap.size+6,6,none⟩) (λ_=>rfl) _).setCell (p:=⟨w.heap.size+6,7,none⟩) (λ_=>rfl) _;refine h.Ol 6 ai e d λj f a=>?_
 match j,f with
 |0,_|1,_|2,_|3,_|4,_|5,_|7,_|8,_|9,_|10,_|11,_=>rfl
 |6,_=>exact absurd rfl a
theorem BR.HV{a b:Nat}(h:BR w lo room ep sq t rg sv hd N ds dm l A)(e:Out (λk=>k=w.heap.size+8) A B)(c:FC B (w.heap.size+8) a b):BR w lo room ep sq t rg sv hd N a b l B:=by
 refine h.Ol 8 ai e c λj f d=>?_
 match j,f with
 |0,_|1,_|2,_|3,_|4,_|5,_|6,_|7,_|9,_|10,_|11,_=>rfl
 |8,_=>exact absurd rfl d
theorem BR.push{a g:Option TF}{n m c q:Nat}{r:List Pt}{us':List QN}(h:BR w lo room ep sq t rg (.slice a n c) hd N ds dm l A)(x:Out (λk=>(SF a n c).ownBlock=some k) A B)(G:us'.length=r.length)(b:B.ownsRow (w.heap.size+14) 206 3 (.slice g m q) r.length (dc r us'))(s:∀(i:Nat) (p:Pt) (u:QN),r[i]?=some p->us'[i]?=some u->dT B u p.2.2):
  BR w lo room ep sq t rg (.slice g m q) hd N ds dm r (B.setCell ⟨w.heap.size+5,1,none⟩ (.slice g m q)):=by
 have P:=h.size;have E:∀j,j<14->¬(λk=>(SF a n c).ownBlock=some k) (w.heap.size+j):=λj v e=>by have:=h.ls.kM e;omega
 have d:∀j,j≠5->∀z,A.heap[w.heap.size+j]?=some z->j<14->(B.setCell ⟨w.heap.size+5,1,none⟩ (.slice g m q)).heap[w.heap.size+j]?=some z:=λj C z y v=>
  (RZ _ _ _ _ (by show w.heap.size+j≠w.heap.size+5;omega)).trans (x.heap y (E j v))
 have C:B.heap[w.heap.size+5]?=some (ao #[bj sq,.slice a n c] 204):=x.heap (h.c 5 ai) (E 5 ai);have K:=heap_setCell_same B _ 1 _ 204 (.slice g m q) C;have f:Out (λk=>k=w.heap.size+5) B (B.setCell ⟨w.heap.size+5,1,none⟩ (.slice g m q)):=(Out.refl (λk=>k=w.heap.size+5) B).setCell (p:=⟨w.heap.size+5,1,none⟩) (λ_=>rfl) _;refine⟨d 13 ai _ h.l ai,d 12 ai _ h.D ai,λj v=>?_,⟨us',G,f.own b λk D e=>?_,λi p u L O=>(s i p u L O).out f λk o D y=>?_⟩,?_⟩
 .by_cases e:j=5
  .subst e;exact K
  .have:=d j e _ (h.c j v) J;rw[this]
   match j,v with
   |0,_|1,_|2,_|3,_|4,_|6,_|7,_|8,_|9,_|10,_|11,_=>rfl
   |5,_=>exact absurd rfl e
 .have Q:=(bm b D).2;have F:k=w.heap.size+5:=e;omega
 .have F:k=w.heap.size+5:=D;subst F;rw[C]at y;cases y;exactλe=>by simp[ty]at e
 .refine h.out.trans ((x.below (B:=w.heap.size) (λk _ e=>by have:=h.ls.kM e;omega) J).trans (f.below (λk _ e=>by have:k=w.heap.size+5:=e;omega) ?_));have:=x.size;omega
structure BE(w:M)(lo:Loop)(F:dj)(room ep sq:Nat)(A:M):Prop where
 l:A.heap[w.heap.size+13]? =some (.loop lo)
 D:A.heap[w.heap.size+12]? =some (.deferred (some []))
 out:ar w A
 r:∃a n c b,A.heap[w.heap.size+3]? =some (ao #[bj sq,.slice a n c] 204)/\A.heap[w.heap.size+4]? =some (ao #[.bool b] 4)/\
  ((b=true/\∃P,bJ F ep sq room P/\fe (w.heap.size+14) A (.slice a n c) (bL P P.N))\/(b=false/\∀P,¬bJ F ep sq room P))
theorem BR.done{F:dj}{a:Option TF}{n c:Nat}{b:Bool}(h:BR w lo room ep sq t rg (.slice a n c) hd N ds dm l A)(g:(b=true/\∃P,bJ F ep sq room P/\l=bL P P.N)\/(b=false/\∀P,¬bJ F ep sq room P)):
  BE w lo F room ep sq (((A.setCell ⟨w.heap.size+3,0,none⟩ (bj sq)).setCell ⟨w.heap.size+3,1,none⟩ (.slice a n c)).setCell ⟨w.heap.size+4,0,none⟩ (.bool b)):=by
 have r:=h.size;have d:Out (λk=>k=w.heap.size+3\/k=w.heap.size+4) A (((A.setCell ⟨w.heap.size+3,0,none⟩ (bj sq)).setCell ⟨w.heap.size+3,1,none⟩ (.slice a n c)).setCell ⟨w.heap.size+4,0,none⟩ (.bool b)):=
  (((Out.refl (λk=>k=w.heap.size+3\/k=w.heap.size+4) A).setCell (p:=⟨w.heap.size+3,0,none⟩) (λ_=>.inl rfl) _).setCell (p:=⟨w.heap.size+3,1,none⟩) (λ_=>.inl rfl) _).setCell (p:=⟨w.heap.size+4,0,none⟩) (λ_=>.inr rfl) _
 have i:=heap_setCell_same _ (w.heap.size+3) 1 _ 204 (.slice a n c) (heap_setCell_same A (w.heap.size+3) 0 _ 204 (bj sq) (h.c 3 ai));have j:((A.setCell ⟨w.heap.size+3,0,none⟩ (bj sq)).setCell ⟨w.heap.size+3,1,none⟩ (.slice a n c)).heap[w.heap.size+4]?=some (ao #[.bool false] 4):=
  ((RZ _ _ _ _ (by show w.heap.size+4≠w.heap.size+3;omega)).trans (RZ _ _ _ _ (by show w.heap.size+4≠w.heap.size+3;omega))).trans (h.c 4 ai)
 refine⟨d.heap h.l (by show¬(w.heap.size+13=w.heap.size+3\/w.heap.size+13=w.heap.size+4);omega),d.heap h.D (by show¬(w.heap.size+12=w.heap.size+3\/w.heap.size+12=w.heap.size+4);omega),
  h.out.trans (d.below (λk _ e=>by have:k=w.heap.size+3\/k=w.heap.size+4:=e;omega) J),a,n,c,b,?_,heap_setCell_same _ _ 0 _ _ _ j,g.imp ?_ id⟩
 .exact (RZ _ _ _ _ (by show w.heap.size+3≠w.heap.size+4;omega)).trans i
 .rintro ⟨m,P,q,rfl⟩;refine⟨m,P,q,h.ls.out d (λk hk e=>by have:=h.ls.kM hk;have:k=w.heap.size+3\/k=w.heap.size+4:=e;omega) (λk o hk f=>?_)⟩;rcases hk with hk|hk
  .subst hk;rw[h.c 3 ai]at f;cases f;exact xO _ _ _ _ _ _ _ _ _ _ _ _
  .subst hk;rw[h.c 4 ai]at f;cases f;exact xO _ _ _ _ _ _ _ _ _ _ _ _
theorem BE.then{F:dj}(h:BE w lo F room ep sq A)(d:ar A B):BE w lo F room ep sq B:=by have m:w.heap.size+14<=A.heap.size:=Z_ h.l;obtain⟨a,n,c,b,f,g,i⟩:=h.r;exact⟨(d.block _ J).trans h.l,(d.block _ J).trans h.D,h.out.trans (d.mono J),a,n,c,b,(d.block _ J).trans f,(d.block _ J).trans g,i.imp (λ⟨e,P,j,k⟩=>⟨e,P,j,k.below d⟩) id⟩
theorem BE.put{F:dj}(h:BE w lo F room ep sq A):BE w lo' F room ep sq (A.putObj (w.heap.size+13) (.loop lo')):=by
 have d:Out (λb=>b=w.heap.size+13) A (A.putObj (w.heap.size+13) (.loop lo')):=Out.putObj (S:=λb=>b=w.heap.size+13) (Out.refl _ _) (λ_=>rfl) _;have s:w.heap.size+14<=A.heap.size:=Z_ h.l;obtain⟨a,n,c,b,j,m,p⟩:=h.r;refine⟨TE (Z_ h.l),d.heap h.D (by show¬w.heap.size+12=w.heap.size+13;omega),h.out.trans (d.below (λk _ e=>by have:k=w.heap.size+13:=e;omega) J),
  a,n,c,b,d.heap j (by show¬w.heap.size+3=w.heap.size+13;omega),d.heap m (by show¬w.heap.size+4=w.heap.size+13;omega),p.imp ?_ id⟩
 rintro⟨q,P,r,g⟩;refine⟨q,P,r,g.out d (λk f e=>by have:=g.kM f;have:k=w.heap.size+13:=e;omega) (λk o f i=>?_)⟩;have:k=w.heap.size+13:=f;subst this;rw[h.l]at i;cases i;exactλe=>by simp[ty]at e
theorem BR.endLoop(h:BR w lo room ep sq t rg sv hd N ds dm l A)(b:lo.state≠ .busy){jump:Option Code}(c:lo.pending=jump):∃lo' a,(Instr.endLoop (w.heap.size+13)).run prog A=.ok jump a/\BR w lo' room ep sq t rg sv hd N ds dm l a:=by subst c;exact⟨_,_,run_endLoop h.l b,h.put⟩
theorem BE.endLoop{F:dj}(h:BE w lo F room ep sq A)(b:lo.state≠ .busy){jump:Option Code}(c:lo.pending=jump):∃lo' a,(Instr.endLoop (w.heap.size+13)).run prog A=.ok jump a/\BE w lo' F room ep sq a:=by subst c;exact⟨_,_,run_endLoop h.l b,h.put⟩
theorem BE.answer{F:dj}(h:BE w lo F room ep sq A):∃a n c g,(A.putObj (w.heap.size+12) (.deferred none)).cell? ⟨w.heap.size+3,0,none⟩=some (bj sq)/\(A.putObj (w.heap.size+12) (.deferred none)).cell? ⟨w.heap.size+3,1,none⟩=some (.slice a n c)/\
  (A.putObj (w.heap.size+12) (.deferred none)).cell? ⟨w.heap.size+4,0,none⟩=some (.bool g)/\Ko F ep sq room w (.returned (.tuple #[.agg #[bj sq,.slice a n c],.bool g])) (A.putObj (w.heap.size+12) (.deferred none)):=by
 have d:Out (λk=>k=w.heap.size+12) A (A.putObj (w.heap.size+12) (.deferred none)):=Out.putObj (S:=λk=>k=w.heap.size+12) (Out.refl _ _) (λ_=>rfl) _;have x:w.heap.size+14<=A.heap.size:=Z_ h.l;obtain⟨a,n,c,b,p,q,r⟩:=h.r;have i:=d.heap p (by show¬w.heap.size+3=w.heap.size+12;omega);have s:=d.heap q (by show¬w.heap.size+4=w.heap.size+12;omega);refine⟨a,n,c,b,(cr i).1 0,(cr i).1 1,(cr s).1 0,h.out.trans (d.below (λk _ e=>by have:k=w.heap.size+12:=e;omega) J),a,n,c,?_⟩;rcases r with⟨rfl,P,u,j⟩|⟨rfl,v⟩
 .refine .inl ⟨P,u,rfl,fe.wide ?_ (Nat.le_add_right w.heap.size 14)⟩;refine j.out d (λk f e=>by have:=j.kM f;have:k=w.heap.size+12:=e;omega) (λk o f m=>?_);have:k=w.heap.size+12:=f;subst this;rw[h.D]at m;cases m;exactλe=>by simp[ty]at e
 .exact .inr ⟨v,rfl⟩
end
end
section
open Go.Shelf
attribute [local go_sem] WU zf
theorem dx{V:M}{d:Nat}{X:Array QN}(h:∀o,V.cell? (R d o)=X[o]?){p:TF}(a:p.block≠d)(v:QN):∀o,(V.setCell p v).cell? (R d o)=X[o]?:=λo=>
 (World.cell?_setCell_far _ _ _ _ a).trans (h o)
theorem xP{F:dj}:∀{m:Nat},(∀i,i<2*m->Lt 128 (F i))->oh F m<4294967296
 |0,_=>by show(0:Nat)<_;decide
 |m+1,h=>gT _ _ _ (xP λi a=>h i J) (h (2*m) J)
section
variable {F:dj} {ep sq room k:Nat} {Q:bY} {hd:Hd}
theorem zh(a:kk F ep sq room k Q hd)(c:k=2*Q.N)(b:∀i,i<=k->Lt 128 (F i)):(⟨ep,sq,Q.N,oh F Q.N⟩:Cm).ok:=⟨a.c,a.cA,xP λi h=>b i J⟩
theorem Bc(a:kk F ep sq room k Q hd)(b:k=2*Q.N)(d:∀i,i<=k->Lt 128 (F i))(e:∀c:Cm,c.ok->¬aC (F k) c.enc):∀P,¬bJ F ep sq room P:=by have f:=e _ (zh a b d);subst b;exact a.rM f
theorem xQ(g:kk F ep sq room k Q hd)(j:k=2*Q.N)(n:∀i,i<=k->Lt 128 (F i)){h:Cm}(l:h.ok)(m:aC (F k) h.enc):
  (decide (h.ep=ep/\h.sq=sq/\h.cA=Q.N/\h.sm=oh F ((k+1)/2))=true/\∃P,bJ F ep sq room P/\bL Q (k/2)=bL P P.N)\/(decide (h.ep=ep/\h.sq=sq/\h.cA=Q.N/\h.sm=oh F ((k+1)/2))=false/\∀P,¬bJ F ep sq room P):=by
 have o:(k+1)/2=Q.N:=J;have p:k/2=Q.N:=J;rw[o,p];by_cases f:h.ep=ep/\h.sq=sq/\h.cA=Q.N/\h.sm=oh F Q.N
 .refine .inl ⟨decide_eq_true f,Q,?_,rfl⟩;have q:h=⟨ep,sq,Q.N,oh F Q.N⟩:=by obtain⟨a,b,c,d⟩:=h;obtain⟨rfl,rfl,rfl,rfl⟩:=f;rfl
  rw[q]at m;subst j;exact g.qp m
 .refine .inr ⟨decide_eq_false f,?_⟩;have r:=zh g j n;have s:¬aC (F k) (eh ep sq Q.N (oh F Q.N)):=λe=>f (by have t:=(Cm.cF l m).symm.trans (Cm.cF r e);rw[t];exact⟨rfl,rfl,rfl,rfl⟩);subst j;exact g.rM s
end
theorem Out.Hn{S:Nat->Prop}{a w:M}{p:Nat}(h:Out S a w)(b:p<a.heap.size->S p)(c d e f x4 g i j:QN):
  Out S a ((((((((w.setCell (R p 0) c).setCell (R p 1) d).setCell (R p 2) e).setCell (R p 3) f).setCell (R p 4) x4).setCell (R p 5) g).setCell (R p 6) i).setCell (R p 7) j):=
 (((((((h.setCell (p:=R p 0) b _).setCell (p:=R p 1) b _).setCell (p:=R p 2) b _).setCell (p:=R p 3) b _).setCell (p:=R p 4) b _).setCell (p:=R p 5) b _).setCell (p:=R p 6) b _).setCell (p:=R p 7) b _
theorem xR{w:M}{B e c n:Nat}{v:QN}{xs:List QN}(d:w.ownsRow B e c v n xs){k:Nat}{o:Obj}(a:v.ownBlock=some k)(b:w.heap[k]?=some o):ty o=e:=by
 rcases d.2 with⟨rfl,_⟩|⟨g,f,h,rfl,_,i,_⟩
 .cases a
 .cases a;rw[i]at b;cases b;rfl
def Mm(s G ep sq M:Nat)(a:QN)(h:Cm)(V:QL):Prop:=
 (∀o,V.cell? ⟨s+5,o,none⟩=(#[bj sq,a]:Array QN)[o]?)/\(∀o,V.cell? ⟨s+1,o,none⟩=(#[bj ep]:Array QN)[o]?)/\(∀o,V.cell? ⟨s+2,o,none⟩=(#[bj sq]:Array QN)[o]?)/\(∀o,V.cell? ⟨s+7,o,none⟩=(#[Y M]:Array QN)[o]?)/\
  (∀o,V.cell? ⟨s+9,o,none⟩=(#[.pointer (some ⟨s+8,0,none⟩)]:Array QN)[o]?)/\(∀o,V.cell? (R G o)=(#[bj h.ep,bj h.sq,Y h.cA,.int .u32 (h.sm:Nat)]:Array QN)[o]?)
theorem Mm.set{s G ep sq M:Nat}{b:QN}{h:Cm}{V:QL}(c:Mm s G ep sq M b h V){p:TF}(l:p.block=s+3\/p.block=s+4)(d:p.block≠G)(v:QN):Mm s G ep sq M b h (V.setCell p v):=by obtain⟨e,f,g,i,j,a⟩:=c;exact⟨dx e J _,dx f J _,dx g J _,dx i J _,dx j J _,dx a d _⟩
def Om(w:QL)(b:Loop)(F:dj)(room ep sq t:Nat)(d:QN)(k:Nat)(A:QL):Prop:=
 k<=room/\∃(Q:bY) (hd:Hd) (M:Nat) (a:Option TF) (c:Nat),BR w b room ep sq t d (.slice a (k/2) c) hd M (oh F ((k+1)/2)) (128*((k+1)/2)) (bL Q (k/2)) A/\
  ((k=0/\M=0)\/(0<k/\kk F ep sq room k Q hd/\M=Q.N))
theorem ET(b o b5 N t room ep sq:Nat)(F:dj)(w:QL)(v3:1<=N)(r8:N<=4096)(v4:t<N)(k1:N*128<=b5)(f9:room<=N)(t6:∀k,k<N->dT w (ID b o b5 N t k) (F k)/\∀j,j<128->F k j<256):
  aD 274 #[.slice (some (ag b o)) (N*128) b5,ae t,ae room,bj ep,bj sq] w (Ko F ep sq room w):=by
 obtain⟨n,H⟩:=ah (N*128);rw[H];have r9:=ad H;clear H;refine(VA (n:=3)).1 ?_;refine callsIn_of_wp_marks func274 rfl trivial ?_;simp only[ntmps274,WJ,SQ,WG,Nat.reduceAdd,Nat.reduceSub,ZR,ZQ,List.push_toArray,List.append_toArray,VE,VB];have m8:=ad t6;have s0:=ad k1;clear t6 k1;obtain⟨g5,i7⟩:=ah (SF (some (ag b o)) n b5);have b6:=ad (λW=>Hm g5 t W (some (ag b o)) n b5 i7.symm);have l0:=ad i7;rw[i7];clear i7;gi_wp2_with(first|(gi_at_call 308;refine(VA.2 (ES _)).mono ?_;rintro e E ⟨rfl,rfl⟩)|(gi_at_call 309;refine(VA.2 (b6 _)).mono ?_;rintro e w2 ⟨rfl,rfl⟩));rename_i K n4;have n5:=ad n4;clear n4;obtain⟨W0,d8⟩:=ah (mT w [ao #[ae room] 3,ao #[bj ep] 87,ao #[bj sq] 87,ao #[.int .u64 0,aU] 204,ao #[.bool false] 4,ao #[bj sq,aU] 204,ao (rJ ⟨0,0,0,0,0,0,false,0⟩) 390,ao #[ae 0] 3,ao #[.int .u32 0,ae 0] 436,ao #[.pointer (some ⟨w.heap.size+8,0,none⟩)] 391,ao #[g5] 352,ao #[ae t] 3] );have i5:=λj l1 h=>pP [ao #[ae room] 3,ao #[bj ep] 87,ao #[bj sq] 87,ao #[.int .u64 0,aU] 204,ao #[.bool false] 4,ao #[bj sq,aU] 204,ao (rJ ⟨0,0,0,0,0,0,false,0⟩) 390,ao #[ae 0] 3,ao #[.int .u32 0,ae 0] 436,ao #[.pointer (some ⟨w.heap.size+8,0,none⟩)] 391,ao #[g5] 352,ao #[ae t] 3] w j l1 h;have i8:ar w W0:=by rw[<-d8];exact il _ _
 have f3:W0.heap.size=w.heap.size+12:=by rw[<-d8];exact nB _ _
 rw[d8]at i5;refine(show∀X,X=W0->Code.wpIn UF 3 prog _ _ _ X from ?_) _ d8;intro X k2;rw[k2];clear k2;simp only[UZ,Nat.reduceAdd];refine jc (gf:=337) (lb:= #[.pointer (some ⟨w.heap.size+10,0,none⟩),.pointer (some ⟨w.heap.size+11,0,none⟩)]) rfl (RP func337 aE rfl) ?_;intro t7 d9 a6;rw[f3];simp only[UZ,Nat.reduceAdd];obtain⟨W1,d0⟩:=ah ((W0.alloc (.deferred (some []))).alloc (.loop (d9 .ready none)));rw[d0];have b3:∀k,k<W0.heap.size->W1.heap[k]?=W0.heap[k]?:=λk p9=>by rw[<-d0];exact(RG _ _ k aQ).trans (RG _ _ k p9)
 have i9:ar w W1:=by rw[<-d0];exact aI (aI i8 _) _
 have f0:aZ W1 (w.heap.size+13) (.loop (d9 .ready none)):=by rw[<-d0];have:=QM (W0.alloc (.deferred (some []))) (.loop (d9 .ready none));rwa[TG,f3]at this
 have f1:aZ W1 (w.heap.size+12) (.deferred (some [])):=by rw[<-d0];have:=(RG (W0.alloc (.deferred (some []))) (.loop (d9 .ready none)) W0.heap.size aJ).trans (QM W0 _);rwa[f3]at this
 have j0:Om w (d9 .ready none) F room ep sq t g5 0 W1:=by
  refine⟨QX _,⟨0,λ_=>0,λ_=>0,λ_ _=>0⟩,⟨0,0,0,0,0,0,false,0⟩,0,none,0,⟨f0,f1,λj t8=>(b3 _ aa).trans ?_,⟨[],rfl,SS _ _ _ _,λi p u h=>by simp[bL]at h⟩,i9⟩,.inl ⟨rfl,rfl⟩⟩;refine i5 j _ ?_
  match j,t8 with
  |0,_=>rfl
  |1,_=>rfl
  |2,_=>rfl
  |3,_=>rfl
  |4,_=>rfl
  |5,_=>rfl
  |6,_=>rfl
  |7,_=>rfl
  |8,_=>rfl
  |9,_=>rfl
  |10,_=>rfl
  |11,_=>rfl
 have k2:∀j,j<14->j≠10->j≠11->(λb=>w.heap.size<=b/\b≠w.heap.size+10/\b≠w.heap.size+11) (w.heap.size+j):=λj _ h1 I=>⟨aa,aa,aa⟩;have n6:=r9.out;refine(A' (w.heap.size+13) (w.heap.size+10) (w.heap.size+11) b o b5 N t (λb=>w.heap.size<=b/\b≠w.heap.size+10/\b≠w.heap.size+11) (Om w (d9 .ready none) F room ep sq t g5) (BE w (d9 .done (some .ret)) F room ep sq) W1 v3 r8 v4 s0
  ((b3 _ aa).trans (by have:=i5 10 _ rfl;rw[n6,l0.out];exact this)) ((b3 _ aa).trans (i5 11 _ rfl)) (λh=>h.2.1 rfl) (λh=>h.2.2 rfl) j0 (λk A n h=>?_) ?_).mono ?_
 .obtain ⟨h1,Q,hd,M,a,c,I,h3⟩:=h;exact⟨h1,Q,hd,M,a,c,I.then (ct aj _),h3⟩
 .intro q k A p9 v5;obtain⟨n7,Q,hd,M,a,c,s1,f4⟩:=v5;have s2:=s1.l;have s3:=run_yield (P:=prog) (args:= #[ae k,ID b o b5 N t k]) s2 (by rw[a6];rfl);rw[show(d9 .ready none).fn=t7 by rw[a6]]at s3;refine⟨t7,_,_,_,s3,roundIn_of_wpIn trivial ?_⟩;have l2:=run_beginRound (P:=prog) s2 (by rw[a6]);have j6:=s1.put (lo':={d9 .ready none with state:=.busy});obtain⟨A2,g6⟩:=ah (A.putObj (w.heap.size+13) (.loop {d9 .ready none with state:=.busy}));rw[g6]at l2 j6;have s:=ad j6;have g7:RH (Out (λb=>w.heap.size<=b/\b≠w.heap.size+10/\b≠w.heap.size+11) A A2):=by rw[<-g6];exact Out.putObj (Out.refl _ _) (λ_=>k2 13 ai ai ai) _
  obtain⟨R,r0⟩:=ah (zg (λb=>w.heap.size<=b/\b≠w.heap.size+10/\b≠w.heap.size+11) (Om w (d9 .ready none) F room ep sq t g5) (BE w (d9 .done (some .ret)) F room ep sq) k A);rw[r0,a6];have n8:=ad a6;have f5:=ad f4;clear a6 f4 g6 s1 s2 s3 j0 f1 f0 i9 b3 i5 i8 f3 d8 d0 b6 n6;have f6:=ad k2;clear k2;obtain⟨l3,l4⟩:=ah ({d9 .ready none with state:=.busy}:Loop);have d1:RH (∀A3 n9 e0 f7 d6 d7,BR w l3 room ep sq t g5 (.slice d6 ((k+1)/2) d7) e0 f7 (oh F ((k+1+1)/2)) (128*((k+1+1)/2)) (bL n9 ((k+1)/2)) A3->k<room->kk F ep sq room (k+1) n9 e0->f7=n9.N->Out (λb=>w.heap.size<=b/\b≠w.heap.size+10/\b≠w.heap.size+11) A A3->
    ∃v b7,(ZO (w.heap.size+13) none).run prog A3=.ok v b7/\R (.returned v) b7):=by
   intro A3 n9 e0 f7 d6 d7 h1 I h3 h4 Z;refine⟨_,_,run_endRound (P:=prog) none h1.l,?_⟩;have e1:({l3 with state:=if(none:Option Code).isNone then .ready else .done,pending:=none}:Loop)=d9 .ready none:=by rw[<-l4,n8.out];rfl
   rw[e1,<-r0];refine .inl ⟨rfl,Out.putObj Z (λ_=>f6.out 13 ai ai ai) _,I,n9,e0,f7,d6,d7,?_,.inr ⟨Nat.succ_pos _,h3,h4⟩⟩;exact h1.put
  have a2:RH (∀A3 e0 f7 t9 u8 d6 k3 d7 l f8,BR w l3 room ep sq t g5 (.slice d6 k3 d7) e0 f7 t9 u8 l A3->Out (λb=>w.heap.size<=b/\b≠w.heap.size+10/\b≠w.heap.size+11) A A3->((f8=true/\∃P,bJ F ep sq room P/\l=bL P P.N)\/(f8=false/\∀P,¬bJ F ep sq room P))->
    ∀B,SM (((A3.setCell ⟨w.heap.size+3,0,none⟩ (bj sq)).setCell ⟨w.heap.size+3,1,none⟩ (.slice d6 k3 d7)).setCell ⟨w.heap.size+4,0,none⟩ (.bool f8)).heap.size (((A3.setCell ⟨w.heap.size+3,0,none⟩ (bj sq)).setCell ⟨w.heap.size+3,1,none⟩ (.slice d6 k3 d7)).setCell ⟨w.heap.size+4,0,none⟩ (.bool f8)) B->
    ∃v b7,(ZO (w.heap.size+13) (some .ret)).run prog B=.ok v b7/\R (.returned v) b7):=by
   intro A3 e0 f7 t9 u8 d6 k3 d7 l f8 h1 I h3 B o0;have h4:=(h1.done (F:=F) h3).then o0;refine⟨_,_,run_endRound (P:=prog) (some .ret) h4.l,?_⟩;have e1:({l3 with state:=if(some Code.ret:Option Code).isNone then .ready else .done,pending:=some Code.ret}:Loop)=d9 .done (some .ret):=by rw[<-l4,n8.out];rfl
   rw[e1,<-r0];refine .inr ⟨rfl,Out.putObj ((((I.setCell (p:=⟨w.heap.size+3,0,none⟩) (λ_=>f6.out 3 ai ai ai) _).setCell (p:=⟨w.heap.size+3,1,none⟩) (λ_=>f6.out 3 ai ai ai) _).setCell (p:=⟨w.heap.size+4,0,none⟩) (λ_=>f6.out 4 ai ai ai) _).then o0) (λ_=>f6.out 13 ai ai ai) _,?_⟩;exact h4.put
  clear r0;rw[l4]at j6 s;clear j6;gi_wp2;refine⟨A2,l2,?_⟩;clear l2;obtain⟨c0,u0,z0⟩:=cr (show A2.heap[w.heap.size+0]?=some (ao #[ae room] 3)from s.c 0 ai);obtain⟨c3,u3,z3⟩:=cr (show A2.heap[w.heap.size+3]?=some (ao #[.int .u64 0,aU] 204)from s.c 3 ai);obtain⟨c4,u4,z4⟩:=cr (show A2.heap[w.heap.size+4]?=some (ao #[.bool false] 4)from s.c 4 ai);obtain⟨c5,u5,z5⟩:=cr (show A2.heap[w.heap.size+5]?=some (ao #[bj sq,.slice a (k/2) c] 204)from s.c 5 ai);obtain⟨c7,u7,z7⟩:=cr (show A2.heap[w.heap.size+7]?=some (ao #[ae M] 3)from s.c 7 ai);simp only[VU]at c0 u0 z0;by_cases l5:k=room
  .have y:∀P,¬bJ F ep sq room P:=by
    rcases f5.out with⟨rfl,_⟩|⟨_,h3,_⟩
    .exact AZ l5
    .exact h3.rL l5
   have r:=ad y;clear y;subst l5;gi_wp2;exact a2 _ _ _ _ _ _ _ _ _ _ s g7 (.inr ⟨rfl,r⟩) _ aj
  .have l6:k<room:=aa;have j1:¬(k:Int)=(room:Int):=aa;have a5:RH (∀W,ar w W->dT W (ID b o b5 N t k) (F k)):=λW m9=>(m8 k p9).1.below m9;have k4:=ad (m8 k p9).2;have l7:RH (∀i,i<=k->Lt 128 (F i)):=λi r1=>(m8 i aa).2;obtain⟨v6,l8⟩:=ah (ID b o b5 N t k);rw[l8]at a5|-;obtain⟨r2,r3,r4,rfl⟩:∃r2 r3 r4,v6=.slice r2 r3 r4:=⟨_,_,_,l8.symm⟩;clear l8 m8 n5 K;by_cases g8:0<M/\k=2*M
   .have f4:kk F ep sq room k Q hd/\M=Q.N:=by
     rcases f5.out with⟨rfl,h⟩|⟨_,h1,I⟩
     .omega
     .exact ⟨h1,I⟩
    have z:=ad f4;have j2:(0:Int)<(M:Int):=aa;have v7:=f4.1.cA;have j3:QQ.wrap (2*(M:Int))=(k:Int):=bf;have o1:=ad g8;clear f4 g8 v7;have i6:=ad (Kj _ (F k) A2 (a5 _ s.out.out) k4);gi_wp2_with(first|(refine⟨(λh=>by cases h),?_⟩;gi_at_call 310;refine(WL (w.heap.size+13) (VA.2 i6)).mono ?_;rintro e E ⟨n0,h,rfl,b4,k5⟩;have r5:=aA b4 k5;clear b4 k5));rename_i K k6;have n1:=ad k6;clear k6;obtain⟨W,m9⟩:=ah (E.alloc (ao #[bj h.ep,bj h.sq,ae h.cA,.int .u32 (h.sm:Nat)] 397));rw[m9];have l9:ar A2 W:=by rw[<-m9];exact r5.1.trans ((aI aj _).mono r5.1.size)
    have o2:=s.then l9;have a3:=ad o2;have j7:aZ W E.heap.size (ao #[bj h.ep,bj h.sq,ae h.cA,.int .u32 (h.sm:Nat)] 397):=by rw[<-m9];exact QM _ _
    have o3:RH (Out (λb=>w.heap.size<=b/\b≠w.heap.size+10/\b≠w.heap.size+11) A W):=g7.then l9;obtain⟨G,v0⟩:=ah E.heap.size;have g9:RH (∀j,j<12->w.heap.size+j≠G):=λj t8=>by have:=s.size;have:=r5.1.size;omega
    rw[v0]at j7|-;have s4:=ad (λV (hV:FC V (w.heap.size+8) (oh F ((k+1)/2)) (128*((k+1)/2)))=>yn V _ _ _ hV);clear m9 l9 o2 v0 c0 u0 z0 c3 u3 z3 c4 u4 z4 c5 u5 z5 c7 u7 z7;rcases r5.2 with⟨rfl,b1,J⟩|⟨j8,y⟩
    .have q5:∀o,W.drew.cell? ⟨w.heap.size+5,o,none⟩=(#[bj sq,.slice a (k/2) c]:Array QN)[o]?:=(cr (show W.heap[w.heap.size+5]?=some (ao #[bj sq,.slice a (k/2) c] 204)from a3.c 5 ai)).1;have q1:∀o,W.drew.cell? ⟨w.heap.size+1,o,none⟩=(#[bj ep]:Array QN)[o]?:=(cr (show W.heap[w.heap.size+1]?=some (ao #[bj ep] 87)from a3.c 1 ai)).1;have q2:∀o,W.drew.cell? ⟨w.heap.size+2,o,none⟩=(#[bj sq]:Array QN)[o]?:=(cr (show W.heap[w.heap.size+2]?=some (ao #[bj sq] 87)from a3.c 2 ai)).1;have q7:∀o,W.drew.cell? ⟨w.heap.size+7,o,none⟩=(#[ae M]:Array QN)[o]?:=(cr (show W.heap[w.heap.size+7]?=some (ao #[ae M] 3)from a3.c 7 ai)).1;have q9:∀o,W.drew.cell? ⟨w.heap.size+9,o,none⟩=(#[.pointer (some ⟨w.heap.size+8,0,none⟩)]:Array QN)[o]?:=(cr (show W.heap[w.heap.size+9]?=some (ao #[.pointer (some ⟨w.heap.size+8,0,none⟩)] 391)from a3.c 9 ai)).1;have v1:∀o,W.drew.cell? (ag G o)=(#[bj h.ep,bj h.sq,ae h.cA,.int .u32 (h.sm:Nat)]:Array QN)[o]?:=(cr j7).1;obtain⟨c3,u3,z3⟩:=cr (show W.heap[w.heap.size+3]?=some (ao #[.int .u64 0,aU] 204)from a3.c 3 ai);obtain⟨c4,u4,z4⟩:=cr (show W.heap[w.heap.size+4]?=some (ao #[.bool false] 4)from a3.c 4 ai);obtain⟨f8,o4⟩:=ah (decide (h.ep=ep/\h.sq=sq/\h.cA=M/\h.sm=oh F ((k+1)/2)));have o5:=ad o4;clear o4;have d2:Mm w.heap.size G ep sq M (.slice a (k/2) c) h W.drew:=⟨q5,q1,q2,q7,q9,v1⟩;clear q5 q1 q2 q7 q9 v1;refine eE (S:=Mm w.heap.size G ep sq M (.slice a (k/2) c) h) aE aE (λ⟨_,_,h⟩=>h) d2 (λd=>?_);refine lQ (i:=0) (v:=?_) rfl ?_ d ?_
     rotate_left
     .rintro V ⟨Z,h1,I,h7,h9,a8⟩;go_simp
      try rfl
     try simp only[SC,QU,QS,QT,QR,QV,QW]
     refine lQ (i:=1) (v:=?_) rfl ?_ d ?_
     rotate_left
     .rintro V ⟨Z,h1,I,h7,h9,a8⟩;go_simp
      try rfl
     try simp only[SC,QU,QS,QT,QR,QV,QW]
     refine lQ (i:=2) (v:=?_) rfl ?_ d ?_
     rotate_left
     .rintro V ⟨Z,h1,I,h7,h9,a8⟩;go_simp
      try rfl
     try simp only[SC,QU,QS,QT,QR,QV,QW]
     refine lQ (i:=3) (v:=?_) rfl ?_ d ?_
     rotate_left
     .rintro V ⟨Z,h1,I,h7,h9,a8⟩;go_simp
      try rfl
     try simp only[SC,QU,QS,QT,QR,QV,QW]
     refine lQ (i:=4) (v:=?_) rfl ?_ d ?_
     rotate_left
     .rintro V ⟨Z,h1,I,h7,h9,a8⟩;go_simp
      try rfl
     try simp only[SC,QU,QS,QT,QR,QV,QW]
     refine lQ (i:=5) (v:=?_) rfl ?_ d ?_
     rotate_left
     .rintro V ⟨Z,h1,I,h7,h9,a8⟩;go_simp
      try rfl
     try simp only[SC,QU,QS,QT,QR,QV,QW]
     refine lQ (i:=6) (v:=?_) rfl ?_ d ?_
     rotate_left
     .rintro V ⟨Z,h1,I,h7,h9,a8⟩;go_simp
      try rfl
     try simp only[SC,QU,QS,QT,QR,QV,QW]
     refine lQ (i:=7) (v:=?_) rfl ?_ d ?_
     rotate_left
     .rintro V ⟨Z,h1,I,h7,h9,a8⟩;go_simp
      try rfl
     try simp only[SC,QU,QS,QT,QR,QV,QW]
     refine lQ (i:=8) (v:=?_) rfl ?_ d ?_
     rotate_left
     .rintro V ⟨Z,h1,I,h7,h9,a8⟩;go_simp
      try rfl
     try simp only[SC,QU,QS,QT,QR,QV,QW]
     refine wpAnyH_ready (rs:= [9]) aE aJ ?_;refine XG rfl (λK2 L=>?_) XS;rw[ak aE];have a7:=ad L;clear L;go_simp;refine(s4 W.drew (a3.c 8 ai)).mono ?_;rintro e w2 ⟨rfl,rfl⟩;refine a7.out.out _ _ d2 (λd=>?_)
     try simp only[SC,QU,QS,QT,QR,QV,QW]
     refine lQ (i:=10) (v:=?_) rfl ?_ d ?_
     rotate_left
     .rintro V ⟨Z,h1,I,h7,h9,a8⟩;go_simp
      try rfl
     try simp only[SC,QU,QS,QT,QR,QV,QW]
     refine lQ (i:=11) (v:=.bool f8) rfl ?_ d ?_
     .rintro V ⟨Z,h1,I,h7,h9,a8⟩;go_simp;rw[<-o5.out];by_cases e1:h.ep=ep<;>by_cases e2:h.sq=sq<;>by_cases e3:h.cA=M<;>by_cases e4:h.sm=oh F ((k+1)/2)<;>simp[e1,e2,e3,e4,Int.natCast_inj]
     try simp only[SC,QU,QS,QT,QR,QV,QW]
     refine lQ (i:=12) (v:=?_) rfl ?_ d ?_
     rotate_left
     .rintro V ⟨Z,h1,I,h7,h9,a8⟩;go_simp
      try rfl
     try simp only[SC,QU,QS,QT,QR,QV,QW]
     refine wpAnyH_ready (rs:= [13]) aE aJ ?_;refine XG rfl (λK2 L=>?_) XS;rw[ak aE];have a7:=ad L;clear L;go_simp;refine a7.out.out _ _ ((d2.set (p:=⟨w.heap.size+3,0,none⟩) (.inl rfl) (g9 3 ai) _).set (p:=⟨w.heap.size+3,1,none⟩) (.inl rfl) (g9 3 ai) _) (λd=>?_)
     try simp only[SC,QU,QS,QT,QR,QV,QW]
     refine wpAnyH_ready (rs:= [14]) aE aJ ?_;refine XG rfl (λK2 L=>?_) XS;rw[ak aE];have a7:=ad L;clear L;go_simp;refine a7.out.out _ _ (((d2.set (p:=⟨w.heap.size+3,0,none⟩) (.inl rfl) (g9 3 ai) _).set (p:=⟨w.heap.size+3,1,none⟩) (.inl rfl) (g9 3 ai) _).set (p:=⟨w.heap.size+4,0,none⟩) (.inr rfl) (g9 4 ai) _) (λd=>?_)
     try simp only[SC,QU,QS,QT,QR,QV,QW]
     refine wpAnyH_done aE ?_ _;refine n1 _ _ ?_;clear d d2 c3 u3 z3 c4 u4 z4 j7;gi_wp2;refine a2 W.drew _ _ _ _ _ _ _ _ f8 (a3.then (ct aj 1)) o3.drew ?_ _ aj;rw[<-o5.out,z.2];exact xQ z.1 (by rw[<-z.2];exact o1.2) l7 b1 J
    .have y:∀P,¬bJ F ep sq room P:=Bc z.1 (by rw[<-z.2];exact o1.2) l7 y;have r:=ad y;clear y;have k7:¬(n0:Int)=0:=aa;have q5:∀o,W.drew.cell? ⟨w.heap.size+5,o,none⟩=(#[bj sq,.slice a (k/2) c]:Array QN)[o]?:=(cr (show W.heap[w.heap.size+5]?=some (ao #[bj sq,.slice a (k/2) c] 204)from a3.c 5 ai)).1;obtain⟨c3,u3,z3⟩:=cr (show W.heap[w.heap.size+3]?=some (ao #[.int .u64 0,aU] 204)from a3.c 3 ai);obtain⟨c4,u4,z4⟩:=cr (show W.heap[w.heap.size+4]?=some (ao #[.bool false] 4)from a3.c 4 ai);refine eE (S:=λV=>∀o,V.cell? ⟨w.heap.size+5,o,none⟩=(#[bj sq,.slice a (k/2) c]:Array QN)[o]?) aE aE (λ⟨_,_,h⟩=>h) q5 (λd=>?_);refine lQ (i:=0) (v:=.agg #[bj sq,.slice a (k/2) c]) rfl ?_ d ?_
     .intro V Z;go_simp
     try simp only[SC,QU,QS,QT,QR,QV,QW]
     refine lQ (i:=1) (v:= aG n0) rfl ?_ d ?_
     .intro V Z;go_simp
     try simp only[SC,QU,QS,QT,QR,QV,QW]
     refine lQ (i:=2) (v:=.bool false) rfl ?_ d ?_
     .intro V Z;go_simp
     try simp only[SC,QU,QS,QT,QR,QV,QW]
     refine lQ (i:=3) (v:=.bool false) rfl ?_ d ?_
     .intro V Z;go_simp
     try simp only[SC,QU,QS,QT,QR,QV,QW]
     refine Ba (i:=4) rfl d ?_;refine Ba (i:=5) rfl d ?_;refine Ba (i:=6) rfl d ?_;refine Ba (i:=7) rfl d ?_;refine Ba (i:=8) rfl d ?_;refine Ba (i:=9) rfl d ?_;refine Ba (i:=10) rfl d ?_;refine Ba (i:=11) rfl d ?_
     try simp only[SC,QU,QS,QT,QR,QV,QW]
     refine lQ (i:=12) (v:=.bool false) rfl ?_ d ?_
     .intro V Z;go_simp
     try simp only[SC,QU,QS,QT,QR,QV,QW]
     refine wpAnyH_ready (rs:= [13]) aE aJ ?_;refine XG rfl (λK2 L=>?_) XS;rw[ak aE];have a7:=ad L;clear L;go_simp;refine a7.out.out _ _ (dx (dx q5 (by show w.heap.size+3≠w.heap.size+5;omega) _) (by show w.heap.size+3≠w.heap.size+5;omega) _) (λd=>?_)
     try simp only[SC,QU,QS,QT,QR,QV,QW]
     refine wpAnyH_ready (rs:= [14]) aE aJ ?_;refine XG rfl (λK2 L=>?_) XS;rw[ak aE];have a7:=ad L;clear L;go_simp;refine a7.out.out _ _ (dx (dx (dx q5 (by show w.heap.size+3≠w.heap.size+5;omega) _) (by show w.heap.size+3≠w.heap.size+5;omega) _) (by show w.heap.size+4≠w.heap.size+5;omega) _) (λd=>?_)
     try simp only[SC,QU,QS,QT,QR,QV,QW]
     refine wpAnyH_done aE ?_ _;refine n1 _ _ ?_;clear d q5 c3 u3 z3 c4 u4 z4 j7;gi_wp2;exact a2 W.drew _ _ _ _ _ _ _ _ false (a3.then (ct aj 1)) o3.drew (.inr ⟨rfl,r⟩) _ aj
   .rcases f5.out with⟨rfl,rfl⟩|⟨v8,h0,h6⟩
    .have i6:=ad (EN _ (F 0) A2 (a5 _ s.out.out) k4);have o6:RH (BR w l3 room ep sq t g5 (.slice a 0 c) hd 0 0 0 [] A2):=s.out;clear s f5 g8;gi_wp2_with fail;refine⟨(λh=>by cases h),?_⟩;refine(WL (w.heap.size+13) (VA.2 i6)).mono ?_;rintro e E ⟨n0,h,rfl,b4,k5⟩;have f:=ad (o6.then b4);have d3:RH (Out (λb=>w.heap.size<=b/\b≠w.heap.size+10/\b≠w.heap.size+11) A E):=g7.then b4;clear b4 c0 u0 z0 c3 u3 z3 c4 u4 z4 c5 u5 z5 c7 u7 z7 o6 i6;obtain⟨c0,u0,z0⟩:=cr (show E.heap[w.heap.size+0]?=some (ao #[ae room] 3)from f.c 0 ai);simp only[VU]at c0 u0 z0;obtain⟨c1,u1,z1⟩:=cr (show E.heap[w.heap.size+1]?=some (ao #[bj ep] 87)from f.c 1 ai);obtain⟨c2,u2,z2⟩:=cr (show E.heap[w.heap.size+2]?=some (ao #[bj sq] 87)from f.c 2 ai);obtain⟨c3,u3,z3⟩:=cr (show E.heap[w.heap.size+3]?=some (ao #[.int .u64 0,aU] 204)from f.c 3 ai);obtain⟨c4,u4,z4⟩:=cr (show E.heap[w.heap.size+4]?=some (ao #[.bool false] 4)from f.c 4 ai);obtain⟨c5,u5,z5⟩:=cr (show E.heap[w.heap.size+5]?=some (ao #[bj sq,.slice a 0 c] 204)from f.c 5 ai);obtain⟨c6,u6,z6⟩:=cr (show E.heap[w.heap.size+6]?=some (ao (rJ hd) 390)from f.c 6 ai);obtain⟨c7,u7,z7⟩:=cr (show E.heap[w.heap.size+7]?=some (ao #[ae ((0:Nat):Nat)] 3)from f.c 7 ai);obtain⟨c9,u9,z9⟩:=cr (show E.heap[w.heap.size+9]?=some (ao #[.pointer (some ⟨w.heap.size+8,0,none⟩)] 391)from f.c 9 ai);have O:RH (∀(f7:Nat) (l1:Obj),(∀P,¬bJ F ep sq room P)->∃v b7,(ZO (w.heap.size+13) (some .ret)).run prog (((((E.setCell ⟨w.heap.size+7,0,none⟩ (ae f7)).setCell ⟨w.heap.size+3,0,none⟩ (bj sq)).setCell ⟨w.heap.size+3,1,none⟩ (.slice a 0 c)).setCell ⟨w.heap.size+4,0,none⟩ iD).alloc l1)=.ok v b7/\R (.returned v) b7):=λf7 l1 y=>
      a2 (E.setCell ⟨w.heap.size+7,0,none⟩ (ae f7)) _ _ _ _ _ _ _ _ false (f.cA f7) (d3.setCell (p:=⟨w.heap.size+7,0,none⟩) (λ_=>f6.out 7 ai ai ai) _) (.inr ⟨rfl,y⟩) _ (aI aj _)
     rcases k5 with⟨rfl,b1,J⟩|⟨j8,y⟩
     .have o7:=b1.cA;have C:=ad (λH=>vO (ep:=ep) (sq:=sq) (room:=room) b1 J H);have a9:=aA b1 J;obtain⟨D,T,a4,x,b8,a0,a1,b9⟩:=h;simp only at o7 C;obtain⟨x2,d4⟩:=ah (2*x);obtain⟨x3,j9⟩:=ah (x2+1);have e1:QQ.wrap (2*(x:Int))=(x2:Int):=bf;have e2:QQ.wrap ((x2:Int)+1)=(x3:Int):=bf;have o8:=aA d4 j9;have e6:D≠ep\/(D=ep/\T≠sq)\/(D=ep/\T=sq/\a4≠0)\/(D=ep/\T=sq/\a4=0/\room<x3)\/(D=ep/\T=sq/\a4=0/\x3<=room):=aa;clear b1 J o7 d4 j9;rcases e6 with H|⟨g1,H⟩|⟨g1,g2,H⟩|⟨g1,g2,g3,H⟩|⟨g1,g2,g3,H⟩
      .have r:=ad (C λh=>H h.1);have j3:¬(D:Int)=(ep:Int):=aa;clear H C;gi_wp2;exact O _ _ r
      .have r:=ad (C λh=>H h.2.1);have j3:¬(T:Int)=(sq:Int):=aa;clear H C a9;subst D;gi_wp2;exact O _ _ r
      .have r:=ad (C λh=>H h.2.2.1);have j3:¬(a4:Int)=0:=aa;clear H C a9;subst D T;gi_wp2;exact O _ _ r
      .have r:=ad (C λh=>by have:=o8.out;omega);have j3:(room:Int)<(x3:Int):=aa;clear H C a9;subst D T a4;gi_wp2;exact O _ _ r
      .clear C;have j3:¬(room:Int)<(x3:Int):=aa;have s5:=ad H;clear H;subst D T a4;have c8:=((f.cA x).Pr ⟨ep,sq,0,x,b8,a0,a1,b9⟩).then (aI aj (ao #[bj ep,bj sq,ae 0,ae x,ae b8,ae a0,.bool a1,.int .u32 (b9:Nat)] 390));have h8:=ad (rY _ (w.heap.size+8) 0 0 128 _ (F 0) (c8.c 8 ai) ai (a5 _ c8.out).BH k4 ai ai);have i0:Out (λb=>w.heap.size<=b/\b≠w.heap.size+10/\b≠w.heap.size+11) A _:=((d3.setCell (p:=⟨w.heap.size+7,0,none⟩) (λ_=>f6.out 7 ai ai ai) (ae x)).Hn (λ_=>f6.out 6 ai ai ai) (bj ep) (bj sq) (ae 0) (ae x) (ae b8) (ae a0) (.bool a1) (.int .u32 (b9:Nat))).alloc (ao #[bj ep,bj sq,ae 0,ae x,ae b8,ae a0,.bool a1,.int .u32 (b9:Nat)] 390);have H4:=aA c8 i0;clear c8 i0;gi_wp2_with fail;refine⟨(λh=>by cases h),?_⟩;refine(WL (w.heap.size+13) (VA.2 h8)).mono ?_;rintro e w4 ⟨rfl,i1,e8⟩;have H5:=aA (H4.1.HV e8 i1) (H4.2.trans e8 (λb _ e=>by subst e;exact f6 8 ai ai ai));clear i1 e8 H4 h8 c0 u0 z0 c1 u1 z1 c2 u2 z2 c3 u3 z3 c4 u4 z4 c5 u5 z5 c6 u6 z6 c7 u7 z7 c9 u9 z9;gi_wp2;exact d1 w4 ⟨x,λ_=>0,λ_=>0,λ_ _=>0⟩ _ _ _ _ H5.1 l6 (kk.start a9.1 a9.2 rfl rfl rfl (by have h1:=o8.out;have I:=s5.out;show 2*x+1<=room;omega)) rfl H5.2
     .have r:=ad (xL (room:=room) (ep:=ep) (sq:=sq) y);have k7:¬(n0:Int)=0:=aa;clear y j8;gi_wp2;exact O _ _ r
    .have o9:=h0.cA;have p0:=h0.le;have m0:k<2*Q.N:=aa;obtain⟨x2,d4⟩:=ah (2*M);have e1:QQ.wrap (2*(M:Int))=(x2:Int):=bf;have j2:(0:Int)<(M:Int):=aa;have j4:¬(k:Int)=(x2:Int):=aa;have z:=aS h0 h6 m0 d4;obtain⟨m,n2⟩:=ah (k/2);rw[n2]at s c5;by_cases k0:k%2=0
     .rw [show(k+1)/2=m by omega]at s d1;rw[show(k+1+1)/2=m+1 by omega]at d1;have e7:oh F (m+1)=dD (oh F m) 128 (F k):=by show dD (oh F m) 128 (F (2*m))=_;rw[show 2*m=k by omega]
      rw[e7]at d1;have e3:(k:Int).tmod 2=0:=(show(k:Int).tmod ((2:Nat):Int)=((k%2:Nat):Int)from SK _ _).trans (by rw[k0];rfl);have e4:(k:Int).tdiv 2=(m:Int):=(show(k:Int).tdiv ((2:Nat):Int)=((k/2:Nat):Int)from Int.ofNat_tdiv _ _).trans (by rw[n2]);have j5:¬(k:Int)=0:=aa;have e5:QQ.wrap (m:Int)=(m:Int):=bf;have i6:=ad (EN _ (F k) A2 (a5 _ s.out.out) k4);have s6:=ad (show oh F m<4294967296 from xP λi r1=>l7.out i aa);have Y:=aS n2 k0 n7 f9;clear h0 h6 g8 f5 o9 p0 n2 m0 d4 k0 e7;gi_wp2_with fail;refine⟨(λh=>by cases h),?_⟩;refine(WL (w.heap.size+13) (VA.2 i6)).mono ?_;rintro e E ⟨n0,h,rfl,b4,k5⟩;have f:=ad (s.then b4);have d3:RH (Out (λb=>w.heap.size<=b/\b≠w.heap.size+10/\b≠w.heap.size+11) A E):=g7.then b4;clear b4 c0 u0 z0 c3 u3 z3 c4 u4 z4 c5 u5 z5 c7 u7 z7 s i6;obtain⟨c0,u0,z0⟩:=cr (show E.heap[w.heap.size+0]?=some (ao #[ae room] 3)from f.c 0 ai);simp only[VU]at c0 u0 z0;obtain⟨c1,u1,z1⟩:=cr (show E.heap[w.heap.size+1]?=some (ao #[bj ep] 87)from f.c 1 ai);obtain⟨c2,u2,z2⟩:=cr (show E.heap[w.heap.size+2]?=some (ao #[bj sq] 87)from f.c 2 ai);obtain⟨c3,u3,z3⟩:=cr (show E.heap[w.heap.size+3]?=some (ao #[.int .u64 0,aU] 204)from f.c 3 ai);obtain⟨c4,u4,z4⟩:=cr (show E.heap[w.heap.size+4]?=some (ao #[.bool false] 4)from f.c 4 ai);obtain⟨c5,u5,z5⟩:=cr (show E.heap[w.heap.size+5]?=some (ao #[bj sq,.slice a m c] 204)from f.c 5 ai);obtain⟨c6,u6,z6⟩:=cr (show E.heap[w.heap.size+6]?=some (ao (rJ hd) 390)from f.c 6 ai);obtain⟨c7,u7,z7⟩:=cr (show E.heap[w.heap.size+7]?=some (ao #[ae M] 3)from f.c 7 ai);obtain⟨c9,u9,z9⟩:=cr (show E.heap[w.heap.size+9]?=some (ao #[.pointer (some ⟨w.heap.size+8,0,none⟩)] 391)from f.c 9 ai);have O:RH (∀(l1:Obj),(∀P,¬bJ F ep sq room P)->∃v b7,(ZO (w.heap.size+13) (some .ret)).run prog ((((E.setCell ⟨w.heap.size+3,0,none⟩ (bj sq)).setCell ⟨w.heap.size+3,1,none⟩ (.slice a m c)).setCell ⟨w.heap.size+4,0,none⟩ iD).alloc l1)=.ok v b7/\R (.returned v) b7):=λl1 y=>
       a2 E _ _ _ _ _ _ _ _ false f d3 (.inr ⟨rfl,y⟩) _ (aI aj _)
      rcases k5 with⟨rfl,b1,J⟩|⟨j8,y⟩
      .have C:=ad (λH=>z.1.xM Y.2.1 z.2.2.1 b1 J H);have a9:=aA b1 J;obtain⟨D,T,a4,x,b8,a0,a1,b9⟩:=h;simp only at C;have e6:D≠ep\/(D=ep/\T≠sq)\/(D=ep/\T=sq/\a4≠m)\/(D=ep/\T=sq/\a4=m/\x≠M)\/(D=ep/\T=sq/\a4=m/\x=M):=aa;clear b1 J;rcases e6 with H|⟨g1,H⟩|⟨g1,g2,H⟩|⟨g1,g2,g3,H⟩|⟨g1,g2,g3,g4⟩
       .have r:=ad (C λh=>H h.1);have j3:¬(D:Int)=(ep:Int):=aa;clear H C;gi_wp2;exact O _ r
       .have r:=ad (C λh=>H h.2.1);have j3:¬(T:Int)=(sq:Int):=aa;clear H C a9;subst D;gi_wp2;exact O _ r
       .have r:=ad (C λh=>H (h.2.2.1.trans Y.1));have j3:¬(a4:Int)=(m:Int):=aa;clear H C a9;subst D T;gi_wp2;exact O _ r
       .have r:=ad (C λh=>H (h.2.2.2.trans z.2.1.symm));have j3:¬(x:Int)=(M:Int):=aa;clear H C a9;subst D T a4;gi_wp2;exact O _ r
       .clear C;obtain⟨x3,j9⟩:=ah (x2+1);have s7:=z.1.rm;have h6:=z.2.1;have d4:=z.2.2.2;have e2:QQ.wrap ((x2:Int)+1)=(x3:Int):=bf;have j3:¬(room:Int)<(x3:Int):=aa;clear s7 h6 d4 j9;subst D T a4 x;have c8:=(f.Pr ⟨ep,sq,m,M,b8,a0,a1,b9⟩).then (aI aj (ao #[bj ep,bj sq,ae m,ae M,ae b8,ae a0,.bool a1,.int .u32 (b9:Nat)] 390));have h8:=ad (rY _ (w.heap.size+8) (oh F m) (128*m) 128 _ (F k) (c8.c 8 ai) s6 (a5 _ c8.out).BH k4 ai (by have h1:=Y.1;have I:=Y.2.2.1;have h3:=Y.2.2.2;omega));have i0:Out (λb=>w.heap.size<=b/\b≠w.heap.size+10/\b≠w.heap.size+11) A _:=(d3.Hn (λ_=>f6.out 6 ai ai ai) (bj ep) (bj sq) (ae m) (ae M) (ae b8) (ae a0) (.bool a1) (.int .u32 (b9:Nat))).alloc (ao #[bj ep,bj sq,ae m,ae M,ae b8,ae a0,.bool a1,.int .u32 (b9:Nat)] 390);have H4:=aA c8 i0;clear c8 i0;gi_wp2_with fail;refine⟨(λh=>by cases h),?_⟩;refine(WL (w.heap.size+13) (VA.2 h8)).mono ?_;rintro e w4 ⟨rfl,i1,e8⟩;have H5:=aA (H4.1.HV e8 i1) (H4.2.trans e8 (λb _ e=>by subst e;exact f6 8 ai ai ai));clear i1 e8 H4 h8 c0 u0 z0 c1 u1 z1 c2 u2 z2 c3 u3 z3 c4 u4 z4 c5 u5 z5 c6 u6 z6 c7 u7 z7 c9 u9 z9;gi_wp2;exact d1 w4 Q _ _ _ _ H5.1 l6 (z.1.head Y.2.1 z.2.2.1 a9.1 a9.2 rfl rfl Y.1.symm z.2.1) z.2.1 H5.2
      .have r:=ad (z.1.A_ Y.2.1 z.2.2.1 y);have k7:¬(n0:Int)=0:=aa;clear y j8;gi_wp2;exact O _ r
     .rw [show(k+1)/2=m+1 by omega]at s d1;rw[show(k+1+1)/2=m+1 by omega]at d1;have m1:k%2=1:=aa;have e3:(k:Int).tmod 2=1:=(show(k:Int).tmod ((2:Nat):Int)=((k%2:Nat):Int)from SK _ _).trans (by rw[m1];rfl);have i6:=ad (EO hd.nu _ (F k) A2 (a5 _ s.out.out) k4);have Y:=aS n2 m1 n7 f9;obtain⟨c6,u6,z6⟩:=cr (show A2.heap[w.heap.size+6]?=some (ao (rJ hd) 390)from s.c 6 ai);clear h0 h6 g8 f5 o9 p0 n2 m0 d4 k0 m1;gi_wp2_with fail;refine⟨(λh=>by cases h),?_⟩;refine(WL (w.heap.size+13) (VA.2 i6)).mono ?_;rintro e E ⟨b4,k5⟩;have f:=ad (s.then b4);have d3:RH (Out (λb=>w.heap.size<=b/\b≠w.heap.size+10/\b≠w.heap.size+11) A E):=g7.then b4;clear b4 c0 u0 z0 c3 u3 z3 c4 u4 z4 c5 u5 z5 c7 u7 z7 c6 u6 z6 s i6;have f2:RH (∀W,BR w l3 room ep sq t g5 (.slice a m c) hd M (oh F (m+1)) (128*(m+1)) (bL Q m) W->Out (λb=>w.heap.size<=b/\b≠w.heap.size+10/\b≠w.heap.size+11) A W->(∀P,¬bJ F ep sq room P)->∃v b7,(ZO (w.heap.size+13) (some .ret)).run prog (((W.setCell ⟨w.heap.size+3,0,none⟩ (bj sq)).setCell ⟨w.heap.size+3,1,none⟩ (.slice a m c)).setCell ⟨w.heap.size+4,0,none⟩ iD)=.ok v b7/\R (.returned v) b7):=λW h1 I y=>
       a2 W _ _ _ _ _ _ _ _ false h1 I (.inr ⟨rfl,y⟩) _ aj
      rcases k5 with⟨p1,rfl⟩|⟨p1,g,r6,rfl,i5⟩
      .have r:=ad (z.1.EP Y.2.1 p1);clear p1;gi_wp2_with fail;rename_i K k6;have n1:=ad k6;clear k6;refine eE (S:=λ_=>True) aE aE (λ⟨_,_,h⟩=>h) trivial (λd=>?_);refine lQ (i:=0) (v:= aG 80) rfl ?_ d ?_
       .intro V Z;go_simp
       try simp only[SC,QU,QS,QT,QR,QV,QW]
       refine lQ (i:=1) (v:=.bool true) rfl ?_ d ?_
       .intro V Z;go_simp
       try simp only[SC,QU,QS,QT,QR,QV,QW]
       refine lQ (i:=2) (v:=.bool true) rfl ?_ d ?_
       .intro V Z;go_simp
       try simp only[SC,QU,QS,QT,QR,QV,QW]
       refine Ba (i:=3) rfl d ?_;refine Ba (i:=4) rfl d ?_;refine Ba (i:=5) rfl d ?_;refine Ba (i:=6) rfl d ?_;refine Ba (i:=7) rfl d ?_
       try simp only[SC,QU,QS,QT,QR,QV,QW]
       refine lQ (i:=8) (v:=.bool true) rfl ?_ d ?_
       .intro V Z;go_simp
       try simp only[SC,QU,QS,QT,QR,QV,QW]
       refine wpAnyH_done aE ?_ _;refine n1 _ _ ?_;have U:=ad (f.then (ct aj 1));have i2:=ad d3.drew;obtain⟨W2,m2⟩:=ah E.drew;rw[show E.drewN 1=W2 from m2]at U;rw[m2]at i2|-;clear d m2;obtain⟨c3,u3,z3⟩:=cr (show W2.heap[w.heap.size+3]?=some (ao #[.int .u64 0,aU] 204)from U.c 3 ai);obtain⟨c4,u4,z4⟩:=cr (show W2.heap[w.heap.size+4]?=some (ao #[.bool false] 4)from U.c 4 ai);obtain⟨c5,u5,z5⟩:=cr (show W2.heap[w.heap.size+5]?=some (ao #[bj sq,.slice a m c] 204)from U.c 5 ai);obtain⟨c6,u6,z6⟩:=cr (show W2.heap[w.heap.size+6]?=some (ao (rJ hd) 390)from U.c 6 ai);gi_wp2;exact f2 _ U i2 r
      .have s0:=ad p1;have v9:=ad i5;clear p1 i5;gi_wp2_with fail;rename_i K k6;have n1:=ad k6;clear k6;obtain⟨v2,m3⟩:=ah (dD 0 128 (F k));have m4:=ad (jC 128 (.slice r2 r3 r4) (F k) E.drew ((a5 _ (f.out.out.trans ((ct aj 1:ar E E.drew).mono (by have:=f.size;omega)))).BH) k4 ai);rw[m3]at m4;obtain⟨s8,p2⟩:=ah (decide (v2≠hd.sm));have i3:=aA p2 m3;clear p2 m3;have q6:∀o,E.drew.cell? ⟨w.heap.size+6,o,none⟩=(rJ hd)[o]?:=(cr (show E.heap[w.heap.size+6]?=some (ao (rJ hd) 390)from f.c 6 ai)).1;refine eE (S:=λV=>∀o,V.cell? ⟨w.heap.size+6,o,none⟩=(rJ hd)[o]?) aE aE (λ⟨_,_,h⟩=>h) q6 (λd=>?_);refine lQ (i:=0) (v:= aG 0) rfl ?_ d ?_
       .intro V Z;go_simp
       try simp only[SC,QU,QS,QT,QR,QV,QW]
       refine lQ (i:=1) (v:=.bool false) rfl ?_ d ?_
       .intro V Z;go_simp
       try simp only[SC,QU,QS,QT,QR,QV,QW]
       refine lQ (i:=2) (v:=.bool false) rfl ?_ d ?_
       .intro V Z;go_simp
       try simp only[SC,QU,QS,QT,QR,QV,QW]
       refine lQ (i:=3) (v:=.slice r2 r3 r4) rfl ?_ d ?_
       .intro V Z;go_simp
       try simp only[SC,QU,QS,QT,QR,QV,QW]
       refine lQ (i:=5) (v:=.pointer (some ⟨w.heap.size+6,7,none⟩)) rfl ?_ d ?_
       .intro V Z;go_simp
       try simp only[SC,QU,QS,QT,QR,QV,QW]
       refine lQ (i:=6) (v:=.int .u32 (hd.sm:Nat)) rfl ?_ d ?_
       .intro V Z;go_simp
       try simp only[SC,QU,QS,QT,QR,QV,QW]
       refine wpAnyH_ready (rs:= [4]) aE aJ ?_;refine XG rfl (λK2 L=>?_) XS;rw[ak aE];have a7:=ad L;clear L q6;go_simp;refine m4.mono ?_;rintro e W2 ⟨rfl,p3⟩;have m5:=ad ((ct aj 1:ar E E.drew).trans p3);have U:=ad (f.then m5);have i2:=ad (d3.then m5);have q6:∀o,W2.cell? ⟨w.heap.size+6,o,none⟩=(rJ hd)[o]?:=(cr (show W2.heap[w.heap.size+6]?=some (ao (rJ hd) 390)from U.c 6 ai)).1;refine a7.out.out _ _ q6 (λd=>?_);clear p3 m4 a7
       try simp only[SC,QU,QS,QT,QR,QV,QW]
       refine lQ (i:=7) (v:=.bool s8) rfl ?_ d ?_
       .intro V Z;go_simp;rw[<-i3.1];by_cases e:v2=hd.sm<;>simp[e,Int.natCast_inj]
       try simp only[SC,QU,QS,QT,QR,QV,QW]
       refine lQ (i:=8) (v:=.bool s8) rfl ?_ d ?_
       .intro V Z;go_simp
       try simp only[SC,QU,QS,QT,QR,QV,QW]
       refine wpAnyH_done aE ?_ _;refine n1 _ _ ?_;clear d q6;obtain⟨c3,u3,z3⟩:=cr (show W2.heap[w.heap.size+3]?=some (ao #[.int .u64 0,aU] 204)from U.c 3 ai);obtain⟨c4,u4,z4⟩:=cr (show W2.heap[w.heap.size+4]?=some (ao #[.bool false] 4)from U.c 4 ai);obtain⟨c5,u5,z5⟩:=cr (show W2.heap[w.heap.size+5]?=some (ao #[bj sq,.slice a m c] 204)from U.c 5 ai);obtain⟨c6,u6,z6⟩:=cr (show W2.heap[w.heap.size+6]?=some (ao (rJ hd) 390)from U.c 6 ai);cases s8
       case true=>have r:=ad (z.1.ER Y.2.1 (by rw[i3.2];exact of_decide_eq_true i3.1));gi_wp2;exact f2 _ U i2 r
       case false=>
        have k8:=of_decide_eq_false i3.1;have p4:RH (dD 0 128 (F k)=hd.sm):=i3.2.trans (Decidable.not_not.1 k8);clear k8;obtain⟨w0,m6,b0,k9⟩:=U.ls;rw[cT]at m6 b0;have b2:=aM m6 b0 k9;clear m6 b0 k9;obtain⟨w3,s9,t0,t1,t2⟩:=SN zU;gi_wp2_with(first|(gi_at_builtin;refine wpListIn_append_own _ rfl _ _ 162 rfl (w.heap.size+14) 206 w3 (.agg #[ae 0,ae 0,aU]) 3 40 YH s9 t0 t1 t2 rfl ai (.slice a m c) m _ rfl (aP (aI aj _) b2.2.1) (ag W2.heap.size 0) 1 1 [ae hd.me,ae hd.row,a_ g 128 r6] rfl rfl (SI (cs:= #[ae hd.me,ae hd.row,a_ g 128 r6]) (t:=206) (fr:=(0,0)) (QM W2 _)) (by intro u m7;simp at m7;rcases m7 with rfl|rfl|rfl<;>rfl) (by have:=Y.1;unfold UT;omega) (by have:=Y.1;omega) (by have:=U.size;simp;omega) ?_));intro w7 b7 b0 p5 _;obtain⟨d6,d7,rfl,-⟩:=av b0;have n3:Out (λb=>(SF a m c).ownBlock=some b) W2 b7:=(Out.af (aI aj _)).grown p5 λb b4 _=>b4;have e9:∀b o,(SF a m c).ownBlock=some b->aZ W2 b o->ty o≠5:=λb o b4 w5=>by have e:=xR b2.2.1 b4 w5;rw[e];decide
        have p6:bL (Q.put m hd (F k)) (m+1)=bL Q m++ [(hd.me,hd.row,tD hd.nu (F k))]:=Bb Q m hd (F k);have i4:dT b7 (a_ g 128 r6) (tD hd.nu (F k)):=((eZ v9).below m5).out n3 e9;have p7:BR w l3 room ep sq t g5 (.slice d6 (m+1) d7) hd M (oh F (m+1)) (128*(m+1)) (bL (Q.put m hd (F k)) (m+1)) (b7.setCell ⟨w.heap.size+5,1,none⟩ (.slice d6 (m+1) d7)):=by
         rw[p6];refine U.push n3 (us':=w0++ [a_ g 128 r6]) (by simp[b2.out.1,cT]) ?_ λi p u r7 m7=>?_
         .rw [oF (by rw[b2.1,cT]),RE,cT];exact b0
         .by_cases r1:i<m
          .rw [RN (by rw[cT];exact r1)]at r7;rw[RN (by rw[b2.1];exact r1)]at m7;exact(b2.2.2 i p u r7 m7).out n3 e9
          .rw [RK (by rw[cT];omega),cT]at r7;rw[RK (by rw[b2.1];omega),b2.1]at m7;obtain⟨e1,e2⟩:=RC.1 r7;obtain⟨e3,e4⟩:=RC.1 m7;have e5:i-m=0:=by simp at e1;omega
           simp only[e5,QS]at e2 e4;subst e2;subst e4;exact i4
        have H6:=ad p7;have t3:RH (Out (λb=>w.heap.size<=b/\b≠w.heap.size+10/\b≠w.heap.size+11) A (b7.setCell ⟨w.heap.size+5,1,none⟩ (.slice d6 (m+1) d7))):=
         (i2.trans n3 λb _ b4=>by have:=(bm b2.2.1 b4).2;exact⟨aa,aa,aa⟩).setCell (p:=⟨w.heap.size+5,1,none⟩) (λ_=>f6.out 5 ai ai ai) _
        have t4:RH (kk F ep sq room (k+1) (Q.put m hd (F k)) hd):=by have:=z.1.data Y.2.1 k4 s0 p4;rw[Y.1]at this;exact this
        have p8:=n3.heap (show W2.heap[w.heap.size+5]?=some (ao #[bj sq,.slice a m c] 204)from U.c 5 ai) λe=>by have:=(bm b2.2.1 e).2;omega
        clear c3 u3 z3 c4 u4 z4 c5 u5 z5 c6 u6 z6 b0 p5 n3 e9 p6 i4 p7;obtain⟨c5,u5,z5⟩:=cr p8;clear p8;gi_wp2;exact d1 _ _ _ _ _ _ H6 l6 t4 z.2.1 t3.out
 .rintro e W2 ⟨⟨v,rfl⟩,_,I⟩;rcases I with⟨h1,Q,hd,M,a,c,I,h3⟩|I
  .have y:∀P,¬bJ F ep sq room P:=by
    have t5:N=room:=aa;rcases h3 with⟨rfl,_⟩|⟨_,h3,_⟩
    .omega
    .exact h3.rL t5
   obtain⟨lo',W3,d5,h4⟩:=I.endLoop (by rw[a6];simp) (jump:=none) (by rw[a6]);refine⟨none,W3,d5,?_⟩;refine n5 _ _ ?_;have Z:=h4.done (b:=false) (F:=F) (.inr ⟨rfl,y⟩);have H5:=ad Z;have w6:∀o,W3.cell? ⟨w.heap.size+5,o,none⟩=(#[bj sq,.slice a (N/2) c]:Array QN)[o]?:=(cr (h4.c 5 ai)).1;obtain⟨q0,q1,q2⟩:=cr (h4.c 5 ai);obtain⟨q3,q4,q5⟩:=cr (show W3.heap[w.heap.size+3]?=some (ao #[.int .u64 0,aU] 204)from h4.c 3 ai);obtain⟨q6,q7,q8⟩:=cr (show W3.heap[w.heap.size+4]?=some (ao #[.bool false] 4)from h4.c 4 ai);obtain⟨d6,k3,d7,f8,g0,g1,g2,g3⟩:=Z.answer;have G:=aS g0 g1 g2 g3;clear d5 I h3 h4 Z y g0 g1 g2 g3 q0 k2 j0 f1 f0 i9 b3 i5 i8 f3 d8 d0 a6 b6 m8 l0;gi_wp2;refine⟨aJ,.inl ⟨_,_,rfl,run_takeDeferred H5.D,?_⟩⟩;refine⟨.tuple #[.agg #[bj sq,.slice d6 k3 d7],.bool f8],?_,G.2.2.2⟩;simp[RV,Tryz.f274,go_sem,G.out.1,G.out.2.1,G.out.2.2.1]
  .obtain ⟨lo',W3,d5,h4⟩:=I.endLoop (by rw[a6];simp) (jump:=some .ret) (by rw[a6]);refine⟨some .ret,W3,d5,?_⟩;have H5:=ad h4;obtain⟨d6,k3,d7,f8,g0,g1,g2,g3⟩:=h4.answer;have G:=aS g0 g1 g2 g3;clear d5 I h4 g0 g1 g2 g3 k2 j0 f1 f0 i9 b3 i5 i8 f3 d8 d0 a6 b6 m8 l0;gi_wp2;refine⟨aJ,.inl ⟨_,_,rfl,run_takeDeferred H5.D,?_⟩⟩;refine⟨.tuple #[.agg #[bj sq,.slice d6 k3 d7],.bool f8],?_,G.2.2.2⟩;simp[RV,Tryz.f274,go_sem,G.out.1,G.out.2.1,G.out.2.2.1]
end
theorem cN.sec(h:cN w v 128 f)(d:wJ v):dT w v f:=by obtain⟨a,c,rfl,h⟩:=h;obtain⟨b,o,e,g,rfl,i,j⟩:=h.resolve_left ai;exact⟨b,o,c,e,g,rfl,d,i,j⟩
def Qi(L c:Nat)(a:Nat × Nat->QN)(d:Nat × Nat->Nat->Nat)(v:QN)(e:List (Nat × Nat))(W:M)(x y:Int)(z:QN)(f:Bool)(b:M):Prop:=
 Out (LZ L c v) W b/\((f=false/\e= [])\/(f=true/\∃(p:Nat × Nat) (g:List (Nat × Nat)) (h:QN),x=(p.1:Nat)/\y=(p.2:Nat)/\z=a p/\(g++ [p]).Perm e/\bd b L c h g a d/\h.ownBlock=v.ownBlock/\dT b (a p) (d p)))
theorem EU(L d:Nat)(v:QN)(a:List (Nat × Nat))(f:Nat × Nat->QN)(g:Nat × Nat->Nat->Nat)(W:M)(h:bd W L d v a f g)(E:a.length<=50000):
  aD 200 #[H L] W λe i=>∃(x y:Int) (k:Option TF) (l m:Nat) (n:Bool),aK e (.tuple #[.agg #[Y x,Y y,.slice k l m],.bool n])/\Qi L d f g v a W x y (.slice k l m) n i:=by
 by_cases q:a= []
 .subst q;refine(xg L d f g v W h).mono ?_;rintro e i ⟨rfl,w⟩;exact⟨0,0,none,0,0,false,rfl,w.mono λ_ _ e=>.inl e,.inl ⟨rfl,rfl⟩⟩
 .obtain ⟨z,j⟩:=yJ h;refine(pd L d v a f g z W h j J (by have:a.length≠0:=λe=>q (WX.1 e);omega)).mono ?_;rintro e i ⟨p,rfl,A,B,r,C,s,D⟩;have t:p∈a:=r.mem_iff.1 aJ;have u:=(h.eG s (h.iQ p t).1).sec (h.iQ p t).2;obtain⟨b,o,c,e⟩:=u.form;exact⟨_,_,some (R b o),128,c,true,by rw[e],s,.inr ⟨rfl,p,B,A,rfl,rfl,e.symm,r,C,D,u⟩⟩
structure Mn(L hm:Nat)(lk:List (Nat × Nat))(dv:Nat × Nat->QN)(da:Nat × Nat->Nat->Nat)(v0:QN)(w:M)(bb:Bool)(gk T:Nat)(pv:QN)(wr:M):Prop where
 out:Out (LZ L hm v0) w wr
 new:w.heap.size<=T
 ne:pv.ownBlock≠some T
 H_:∃l1:List (Nat × Nat),fe w.heap.size wr pv (l1.map (dZ da))/\((bb=false/\l1.Perm lk/\∃cs,wr.heap[T]? =some (N cs 206))\/(bb=true/\∃(p:Nat × Nat) (l2:List (Nat × Nat)) (v:QN),wr.heap[T]? =some (N #[Y p.1,Y p.2,dv p] 206)/\dT wr (dv p) (da p)/\gk=l2.length+1/\(l2++p::l1).Perm lk/\bd wr L hm v l2 dv da/\v.ownBlock=v0.ownBlock))
theorem bd.Qj{l:List (Nat × Nat)}{b:Nat × Nat->QN}{d:Nat × Nat->Nat->Nat}(h:bd w n m v l b d):∀k o,LZ n m v k->w.heap[k]?=some o->ty o≠5:=λk o f a=>by
 rcases f with e|e|e
 .obtain ⟨j,g⟩:=h.row;rw[e,g]at a;cases a;exactλh=>absurd h (by show(286:Nat)≠5;decide)
 .obtain ⟨p,c,i,-⟩:=h.map;rw[e,i]at a;cases a;exact hQ _ _
 .rw [xR h.lB.own e a];decide
theorem bd.Mo{l:List (Nat × Nat)}{a:Nat × Nat->QN}{b:Nat × Nat->Nat->Nat}(h:bd w n m v l a b):∀k,LZ n m v k->k<w.heap.size:=λk d=>by
 rcases d with e|e|e
 .obtain ⟨i,f⟩:=h.row;rw[e];exact Z_ f
 .obtain ⟨j,c,g,-⟩:=h.map;rw[e];exact Z_ g
 .exact (bm h.lB.own e).1
theorem Ho(L B:Nat)(v:QN)(V:List (Nat × Nat))(Z:Nat × Nat->QN)(j:Nat × Nat->Nat->Nat)(w:QL)(h:bd w L B v V Z j)(g7:V.length<=50000):
  aD 133 #[aq L] w λe g8=>∃pv f,aK e pv/\List.Perm f V/\fe w.heap.size g8 pv (f.map (dZ j))/\Out (LZ L B v) w g8:=by
 have c3:=ad (λW E F (h6:bd W L B E F Z j) (H:F.length<=50000)=>EU L B E F Z j W h6 H);have c4:=aA h g7;clear h g7;go_enter func133,ntmps133;go_wp2_with fail;refine(c3 _ v V c4.1 c4.2).mono ?_;rintro e w1 ⟨x,y,g9,h4,h5,h7,rfl,b9⟩;have h8:=ad b9;clear b9;go_wp2_with fail;have c5:∀b,LZ L B v b->b<w.heap.size:=c4.1.Mo;have e8:RH (Mn L B V Z j v w h7 V.length w1.heap.size aU (w1.alloc (ao #[ae x,ae y,.slice g9 h4 h5] 206))):=by
  have b9:=h8.out;have a4:ar w1 (w1.alloc (ao #[ae x,ae y,.slice g9 h4 h5] 206)):=aI aj _;refine⟨b9.1.then a4,b9.1.size,(λe=>by cases e),[],fe.nil _ _,?_⟩;rcases b9.2 with⟨rfl,h0⟩|⟨rfl,p,l3,E,rfl,rfl,e9,g1,g2,g4,g5⟩
  .exact .inl ⟨rfl,by rw[h0],_,QM _ _⟩
  .refine .inr ⟨rfl,p,l3,E,?_,g5.below a4,?_,g1,g2.below a4,g4⟩
   .rw [<-e9];exact QM _ _
   .have:=g1.length_eq;simp at this;omega
 have K:=ad c5;clear c5
 go_loopg [3,4,5] V.length (λgk s3 s4 s5 wr=>∃(T:Nat) (b1:Bool),s4= aq T/\s5=.bool b1/\gk<=50000/\RH (Mn L B V Z j v w b1 gk T s3 wr))
 case atStart=>exact⟨_,_,rfl,rfl,c4.2,e8⟩
 case round=>
  obtain⟨T,b1,rfl,rfl,h9,c6⟩:=hrel;have g:=c6.out.out;have a0:=c6.new;obtain⟨f,M,d⟩:=c6.H_;cases b1
  case false=>
   have O:List.Perm f V:=by
    rcases d with⟨_,h,_⟩|⟨e,_⟩
    .exact h
    .cases e
   have f0:=aM O M g;obtain⟨i3,i4,e,-⟩:=M.yq;subst e;clear O M g d c6 a0;go_wp2;go_ret;exact⟨_,f,rfl,f0.1,f0.2.1,f0.2.2⟩
  case true=>
   obtain⟨p,F,E,c7,P,c8,l,q,r⟩:∃(p:Nat × Nat) (F:List (Nat × Nat)) (E:QN),wr.heap[T]?=some (ao #[ae p.1,ae p.2,Z p] 206)/\dT wr (Z p) (j p)/\gk=F.length+1/\(F++p::f).Perm V/\bd wr L B E F Z j/\E.ownBlock=v.ownBlock:=by
    rcases d with⟨e,_⟩|⟨_,h⟩
    .cases e
    .exact h
   obtain⟨s,z⟩:=p;obtain⟨a5,a6,a7,a8⟩:=P.form;simp only at c7;rw[a8]at c7;obtain⟨us,a9,D,c9⟩:=M;have a1:f.length<=50000:=by have:=l.length_eq;have:=c4.2;simp only[RE,SQ]at*;omega
   obtain⟨N,e7⟩:=ah ((f.map (dZ j)).length);rw[e7]at a9 D;have i0:N<=50000:=by rw[<-e7,RL];exact a1
   obtain⟨d0,d1,e,-⟩:=av D;subst e;have i1:=g.size;have R:∀b,(SF d0 N d1).ownBlock=some b->w.heap.size<=b:=λb c0=>(bm D c0).2;have a2:∀(w5:QL),Out (λb=>(SF d0 N d1).ownBlock=some b) wr w5->bd w5 L B E F Z j:=λw5 G=>q.out G (λe=>by have:=R _ e;have:=K.out L (.inl rfl);omega) (λe=>by have:=R _ e;have:=K.out B (.inr (.inl rfl));omega) (λk b0 e=>by have:=R _ e;have:=K.out k (.inr (.inr (r▸b0)));omega) λk o e G=>by rw[xR D e G];decide
   have f1:=ad a2;have f2:=ad c6.ne;clear a2 R;have c:=ad (And.intro g (And.intro c7 (And.intro P (And.intro c8 (And.intro l (And.intro q (And.intro r (And.intro a9 (And.intro D (And.intro c9 (And.intro e7 (And.intro a8 a0))))))))))));obtain⟨t0,t1,t2⟩:=cr c7;obtain⟨i2,f3,f4,f5,f6⟩:=SN zU;clear g c7 P l q r a9 D c9 e7 a8 a1 d;go_wp2_with(first|(at_builtin;refine aT _ rfl _ _ 162 rfl w.heap.size 206 i2 (.agg #[ae 0,ae 0,aU]) 3 40 YH f3 f4 f5 f6 rfl ai (.slice d0 N d1) N _ rfl (aP (aI aj _) c.2.2.2.2.2.2.2.2.1) (ag wr.heap.size 0) 1 1 [ae s,ae z,.slice (some (ag a5 a6)) 128 a7] rfl rfl (SI (cs:= #[ae s,ae z,.slice (some (ag a5 a6)) 128 a7]) (t:=206) (fr:=(0,0)) (QM wr _)) (by intro u c1;simp at c1;rcases c1 with rfl|rfl|rfl<;>rfl) aa (by unfold UT;omega) aa aQ ?_;intro v2 w4 Q C;obtain⟨f7,b2,rfl,-⟩:=av Q;have b3:=C.heap ((RG wr (ao #[ae s,ae z,.slice (some (ag a5 a6)) 128 a7] 206) T t2).trans c.2.1) f2;have d2:Out (λb=>(SF d0 N d1).ownBlock=some b) wr w4:=C.out (Out.af (aI aj _)) λ_ h _=>h;have c2:=aS Q C b3 d2;obtain⟨t3,t4,t5⟩:=cr b3;clear Q C b3 d2));obtain⟨w5,d3,b4,b5⟩:=nH w4 (ao #[ae s,ae z,.slice (some (ag a5 a6)) 128 a7] 206);have b6:Out (λb=>(SF d0 N d1).ownBlock=some b) wr w5:=c2.2.2.2.then b4;have d4:=f1.out w5 b6;obtain⟨a,d5⟩:=ah w4.heap.size;rw[d5]at b5;have H:F.length<=50000:=aa;have I:=eM b4 b5 b6 d4 d5 H;rw[d3];clear d3 b4 b5 b6 d4 H t0 t1 t2 t3;refine(c3 w5 E F I.2.2.2.1 I.2.2.2.2.2).mono ?_;rintro e w6 ⟨x2,y2,d6,d7,d8,f8,rfl,fg⟩;have S:¬LZ L B E a:=λe=>by have h1:=c.1.size;have h2:=c2.2.2.2.size;have h3:=K.out a (by rcases e with e|e|e;exact .inl e;exact .inr (.inl e);exact .inr (.inr (c.2.2.2.2.2.2.1▸e)));omega
   have b7:=fg.1.heap I.2.1 S;have X:=aM fg b7 S;obtain⟨t0,t1,t2⟩:=cr b7;clear fg b7 S;rw[I.2.2.2.2.1];go_wp2;obtain⟨W7,Y⟩:=ah (((w6.setCell (ag a 0) (ae x2)).setCell (ag a 1) (ae y2)).setCell (ag a 2) (.slice d6 d7 d8));have J:Out (λb=>b=a) w6 W7:=by rw[<-Y];exact LK w6 a _ _ _
   have d9:W7.heap[a]?=some (ao #[ae x2,ae y2,.slice d6 d7 d8] 206):=by rw[<-Y];exact heap_setCell_same _ a 2 _ 206 _ (heap_setCell_same _ a 1 _ 206 _ (heap_setCell_same w6 a 0 _ 206 _ X.2.1))
   rw[Y];clear Y;have A:=c2.1;have f9:w4.heap.size=a:=I.2.2.2.2.1;have a3:∀b,LZ L B E b->LZ L B v b:=λb e=>by
    rcases e with e|e|e
    .exact .inl e
    .exact .inr (.inl e)
    .exact .inr (.inr (c.2.2.2.2.2.2.1▸e))
   have U:∀b,(SF f7 (N+1) b2).ownBlock=some b->w.heap.size<=b/\b<a:=λb c0=>⟨(bm A c0).2,f9▸(bm A c0).1⟩;have g0:(f.map (dZ j))++ [dZ j (s,z)] =(f++ [(s,z)]).map (dZ j):=by rw[SR];rfl
   have e0:fe w.heap.size w4 (.slice f7 (N+1) b2) ((f++ [(s,z)]).map (dZ j)):=by
    rw[<-g0];have g3:dT (wr.alloc (ao #[ae s,ae z,.slice (some (ag a5 a6)) 128 a7] 206)) (.slice (some (ag a5 a6)) 128 a7) (j (s,z)):=by have:=c.2.2.1;rw[c.2.2.2.2.2.2.2.2.2.2.2.1]at this;exact this.below (aI aj _)
    refine fe.push (us:=us) (us':= [.slice (some (ag a5 a6)) 128 a7]) (n:=N) (m:=1) (by rw[c.2.2.2.2.2.2.2.1,c.2.2.2.2.2.2.2.2.2.2.1]) rfl c.2.2.2.2.2.2.2.2.2.2.1.symm rfl (aP (aI aj _) c.2.2.2.2.2.2.2.2.1) (λi p u O c1=>(c.2.2.2.2.2.2.2.2.2.1 i p u O c1).below (aI aj _)) (λi p u O c1=>?_) A c2.2.1;obtain⟨e1,e2⟩:=RC.1 O;obtain⟨e3,e4⟩:=RC.1 c1;have e5:i=0:=by simp at e1;exact e1
    subst e5;simp at e2 e4;rw[<-e2,<-e4];exact g3
   have e6:fe w.heap.size W7 (.slice f7 (N+1) b2) ((f++ [(s,z)]).map (dZ j)):=by
    refine((e0.below I.1).out X.1.1 (λk b0 e=>?_) (I.2.2.2.1.Qj)).out J (λk b0 e=>?_) λk o e G=>?_
    .have:=(U k b0).1;have:=K.out k (a3 k e);omega
    .have:=(U k b0).2;have:k=a:=e;omega
    .rw [show k=a from e,X.2.1]at G;cases G;exactλh=>absurd h (by show(206:Nat)≠5;decide)
   have b8:Out (LZ L B v) w W7:=((c.1.trans I.2.2.1 λb c0 e=>by have:=(bm c.2.2.2.2.2.2.2.2.1 e).2;omega).trans X.1.1 λb _ e=>a3 b e).trans J λb c0 e=>by have e2:b=a:=e;have:=c.1.size;have:=c2.2.2.2.size;omega
   have g6:w.heap.size<=a:=by have:=c.1.size;have:=c2.2.2.2.size;omega
   go_roundg F.length
   case rel=>
    refine⟨a,f8,rfl,rfl,I.2.2.2.2.2,b8,g6,(λe=>by have:=(U a e).2;omega),f++ [(s,z)],e6,?_⟩;rcases X.1.2 with⟨rfl,h0⟩|⟨rfl,p,l3,v3,rfl,rfl,e9,g1,g2,g4,g5⟩
    .refine .inl ⟨rfl,?_,_,d9⟩;have O:=c.2.2.2.2.1;rw[h0]at O;exact(YZ.trans (by simpa using O))
    .refine .inr ⟨rfl,p,l3,v3,by rw[<-e9];exact d9,g5.out J λk o e G=>?_,?_,?_,g2.out J ?_ ?_ ?_ ?_,g4.trans c.2.2.2.2.2.2.1⟩
     .rw [show k=a from e,X.2.1]at G;cases G;exactλh=>absurd h (by show(206:Nat)≠5;decide)
     .have:=g1.length_eq;simp at this;omega
     .have O:=c.2.2.2.2.1;refine List.Perm.trans ?_ O;have h1:(l3++p::(f++ [(s,z)])).Perm ((l3++ [p])++(s,z)::f):=by rw[TK];refine List.Perm.append_left _ ?_;show(p::(f++ [(s,z)])).Perm (p::(s,z)::f);exact List.Perm.cons _ YZ
      exact h1.trans (List.Perm.append_right _ g1)
     .exact λe=>X.2.2 (.inl e.symm)
     .exact λe=>X.2.2 (.inr (.inl e.symm))
     .exact λk b0 e=>by have e2:k=a:=e;exact X.2.2 (.inr (.inr (by rw[<-e2,<-g4];exact b0)))
     .exact λk o e G=>by rw[show k=a from e,X.2.1]at G;cases G;exactλh=>absurd h (by show(206:Nat)≠5;decide)
   case measure=>have:=c.2.2.2.1;omega
def bu:List Pt->Nat × Nat->Option (Nat->Nat)
 | [],_=>none
 |p::l,q=>match bu l q with
  |some f=>some f
  |none=>if ga p=q then some p.2.2 else none
theorem kN:∀(l:List Pt) (p:Pt) (q:Nat × Nat),bu (l++ [p]) q=if ga p=q then some p.2.2 else bu l q
 | [],p,q=>by show(match bu [] q with|some f=>some f|none=>_)=_;rfl
 |r::l,p,q=>by
  show(match bu (l++ [p]) q with|some f=>some f|none=>if ga r=q then some r.2.2 else none)=_;rw[kN l p q];by_cases e:ga p=q
  .rw [ak e,ak e]
  .rw [al e,al e];rfl
theorem rN{q:Nat × Nat}:(∃p,p∈l/\ga p=q)↔bu l q≠none:=by
 induction l with
 |nil=>exact⟨λ⟨p,h,_⟩=>absurd h aJ,λh=>absurd rfl h⟩
 |cons r l a=>
  unfold bu;cases h:bu l q with
  |some f=>rw[h]at a;obtain⟨p,h1,b⟩:=a.2 aJ;exact⟨λ_=>aJ,λ_=>⟨p,SY _ h1,b⟩⟩
  |none=>
   rw[h]at a;constructor
   .rintro ⟨p,h1,b⟩;rcases UR.1 h1 with rfl|h1
    .simp [b]
    .exact absurd rfl (a.1 ⟨p,h1,b⟩)
   .intro h1;by_cases e:ga r=q
    .exact ⟨r,SO,e⟩
    .simp [e]at h1
structure kO(w0:M)(L:Nat)(ps:List Pt)(wr:M):Prop where
 du:ar w0 wr
 new:w0.heap.size<=L
 lift:∃hm v lk dv da,bd wr L hm v lk dv da/\(∀q,q∈lk↔bu ps q≠none)/\(∀q,q∈lk->bu ps q=some (da q))/\lk.length<=ps.length/\w0.heap.size<=hm/\∀x,v.ownBlock=some x->w0.heap.size<=x
 c0:wr.cell? (R L 0)=some (Y 0)
theorem kO.next{d wr W j:M}{p:Pt}{c:List (Nat × Nat)}{k:Nat × Nat->Nat->Nat}(h:kO d n l wr)(y:∀q,q∈c↔bu l q≠none)(z:∀q,q∈c->bu l q=some (k q))(o:c.length<=l.length)(r:d.heap.size<=m)(s:∀x,v.ownBlock=some x->d.heap.size<=x)(t:ar wr W)(A:n<wr.heap.size)(f:pb n m v c k (ga p) p.2.2 W j):kO d n (l++ [p]) j:=by
 obtain⟨B,u,g,w,C,D,E,F⟩:=f;have b:=via h.du t;have a:∀q,q∈u↔q∈c\/q=ga p:=λq=>by
  rw[w.mem_iff];by_cases e:ga p∈c
  .rw [ak e];exact⟨.inl,λh=>h.elim id λh=>by rw[h];exact e⟩
  .rw [al e,TV,TC]
 refine⟨b.trans (E.below (λx _ e=>?_) b.size),h.new,⟨m,B,u,g,_,C,λq=>?_,λq f=>?_,?_,r,λx i=>(F x i).elim (s x) λi=>QO b.size i⟩,?_⟩
 .rcases e with e|e|e
  .rw [e];exact h.new
  .rw [e];exact r
  .exact s x e
 .rw [a,kN];by_cases e:ga p=q
  .rw [ak e];exact⟨λ_=>aJ,λ_=>.inr e.symm⟩
  .rw [al e,<-y q];exact⟨λh=>h.elim id λh=>absurd h.symm e,.inl⟩
 .rw [kN];by_cases e:ga p=q
  .rw [ak e,ak e.symm]
  .rw [al e,al λh=>e h.symm];exact z q (((a q).1 f).elim id λh=>absurd h.symm e)
 .rw [w.length_eq,RE];split
  .omega
  .rw [RE];simp;omega
 .rw [D,(kp t n A).1,h.c0]
theorem EV{p:Pt}{u:QN}(h:kO w n l z)(b:ar z W)(m:cN W u 128 p.2.2)(a:p.1<=15)(o:p.2.1<=4095)(B:l.length<100000):
  aD 132 #[H n,.agg #[Y p.1,Y p.2.1,u]] W λe d=>aK e (aG 0)/\kO w n (l++ [p]) d:=by
 obtain⟨f,v,c,g,i,C,q,r,s,t,x⟩:=h.lift;have j:n<z.heap.size:=QY z _ h.c0;have y:W.cell? (R n 0)=some (Y 0):=by rw[(kp b n j).1,h.c0]
 have A:bd W n f v c g i:=C.below b;by_cases e:(p.1,p.2.1)∈c
 .refine (Df n f v c g i p.1 p.2.1 u p.2.2 W A y m a o e J).mono ?_;rintro e d ⟨rfl,k⟩;exact⟨rfl,h.next q r s t x b j k⟩
 .refine (uP n f v c g i p.1 p.2.1 u p.2.2 W A y m a o e J).mono ?_;rintro e d ⟨rfl,k⟩;exact⟨rfl,h.next q r s t x b j k⟩
section
open Go.Shelf
def Bd(S:dj)(N t k:Nat):Nat->Nat:=S ((t+k)%N)
def bl:List bY->Nat
 | [] =>0
 |P::l=>2*P.N+1+bl l
theorem iq:∀l a:List bY,bl (l++a)=bl l+bl a
 | [],a=>by simp[bl]
 |P::l,a=>by show 2*P.N+1+bl (l++a)=2*P.N+1+bl l+bl a;rw[iq l a];omega
theorem ir(l:List bY)(P:bY):bl (l++ [P])=bl l+(2*P.N+1):=by rw[iq];rfl
theorem jQ:∀l:List bY,l.length<=bl l
 | [] =>QP _
 |P::l=>by have:=jQ l;show l.length+1<=2*P.N+1+bl l;omega
def pQ(S:dj)(N ep t sq:Nat)(L:List bY):Prop:=
 ∀i P,L[i]?=some P->bJ (Bd S N ((t+bl (L.take i))%N)) ep (sq+i) (N-bl (L.take i)) P
def lR(S:dj)(N ep t sq:Nat)(L:List bY):Prop:=
 ∀P,¬bJ (Bd S N ((t+bl L)%N)) ep (sq+L.length) (N-bl L) P
variable {S:dj} {N ep t sq:Nat} {L:List bY}
theorem pQ.nil:pQ S N ep t sq []:=λi P h=>by simp at h
theorem pQ.snoc(h:pQ S N ep t sq L){P:bY}(c:bJ (Bd S N ((t+bl L)%N)) ep (sq+L.length) (N-bl L) P):pQ S N ep t sq (L++ [P]):=by
 intro i Q a;by_cases d:i<L.length
 .rw [RN d]at a;have:=h i Q a;rw[XM J];exact this
 .rw [RK J]at a;obtain⟨e,b⟩:=RC.1 a;have f:i=L.length:=by simp at e;omega
  subst f;simp at b;subst b;rw[List.take_left' rfl];exact c
def jy:Nat->List QN->List QN
 |_,[] => []
 |q,u::a=>.int .u64 (q:Nat)::u::jy (q+1) a
theorem pR:∀(q:Nat) (a:List QN) (u:QN),jy q (a++ [u])=jy q a++ [.int .u64 (q+a.length:Nat),u]
 |q,[],u=>rfl
 |q,v::a,u=>by show _::_::jy (q+1) (a++ [u])=_::_::(jy (q+1) a++_);rw[pR (q+1) a u,SQ,show q+1+a.length=q+(a.length+1)by omega]
theorem rO:∀(q:Nat) (a:List QN) (i:Nat) (u:QN),a[i]?=some u->(jy q a)[i*2]?=some (.int .u64 (q+i:Nat))/\(jy q a)[i*2+1]?=some u
 |q,[],i,u,h=>by simp at h
 |q,v::a,0,u,h=>by simp at h;subst h;exact⟨rfl,rfl⟩
 |q,v::a,i+1,u,h=>by have b:=rO (q+1) a i u (by simpa using h);rw[show q+1+i=q+(i+1)by omega]at b;rw[show(i+1)*2=i*2+1+1 by omega];exact b
def mU(B:Nat)(w:M)(v:QN)(q:Nat)(L:List (List Pt)):Prop:=
 ∃us:List QN,us.length=L.length/\w.ownsRow B 204 2 v L.length (jy q us)/\∀(i:Nat) (l:List Pt) (u:QN),L[i]?=some l->us[i]?=some u->fc w u l
theorem mU.nil(B:Nat)(w:M)(q:Nat):mU B w aU q []:=⟨[],rfl,SS _ _ _ _,λi l u h=>by simp at h⟩
theorem mU.below{B q:Nat}{w a:M}{v:QN}{L:List (List Pt)}(h:mU B w v q L)(b:ar w a):mU B a v q L:=by obtain⟨c,d,e,f⟩:=h;exact⟨c,d,aP b e,λi l u g j=>(f i l u g j).below b⟩
theorem mU.wide{B a q:Nat}{w:M}{v:QN}{L:List (List Pt)}(h:mU B w v q L)(b:a<=B):mU a w v q L:=by obtain⟨c,d,e,f⟩:=h;exact⟨c,d,cu e b,f⟩
theorem mU.out{B q:Nat}{S:Nat->Prop}{w w1:M}{v:QN}{L:List (List Pt)}(h:mU B w v q L)(a:Out S w w1)(b:∀k,v.ownBlock=some k->¬S k)(c:∀k o,S k->w.heap[k]?=some o->ty o≠5/\ty o≠206):mU B w1 v q L:=by obtain⟨d,e,f,g⟩:=h;exact⟨d,e,a.own f b,λi l u j m=>(g i l u j m).out a c⟩
theorem mU.low{B q k:Nat}{w:M}{v:QN}{L:List (List Pt)}(h:mU B w v q L)(a:v.ownBlock=some k):B<=k:=by obtain⟨c,d,b,e⟩:=h;exact(bm b a).2
theorem mU.push{B s q:Nat}{W d:M}{lv a u:QN}{L:List (List Pt)}{l:List Pt}{us:List QN}(f:us.length=L.length)(h:W.ownsRow B 204 2 lv L.length (jy q us))(w:∀(i:Nat) (p:List Pt) (u:QN),L[i]?=some p->us[i]?=some u->fc W u p)(x:fc W u l)(y:d.ownsRow B 204 2 a (L.length+1) (jy q us++ [.int .u64 (q+L.length:Nat),u]))(z:nI s W lv L.length 1 a d):mU B d a q (L++ [l]):=by
 obtain⟨j,A⟩:=z.ty h;have m:∀k o,lv.ownBlock=some k->aZ W k o->ty o≠5/\ty o≠206:=λk o e g=>by rw[A k o e g];decide
 refine⟨us++ [u],by simp[f],?_,λi p v b c=>?_⟩
 .rw [pR,RE,f];exact y
 .by_cases C:i<L.length
  .rw [RN C]at b;rw[RN J]at c;exact(w i p v b c).out j m
  .rw [RK J]at b;rw[RK J,f]at c;obtain⟨D,n⟩:=RC.1 b;obtain⟨F,r⟩:=RC.1 c;have E:i-L.length=0:=by simp at D;omega
   simp only[E,QS]at n r;subst n;subst r;exact x.out j m
def kP:Prop:=∀(b o c N t a ep sq:Nat) (F:dj) (w:M),1<=N->N<=4096->t<N->N*128<=c->a<=N->(∀k,k<N->dT w (ID b o c N t k) (F k)/\∀j,j<128->F k j<256)->
  aD 274 #[.slice (some (R b o)) (N*128) c,Y t,Y a,bj ep,bj sq] w (Ko F ep sq a w)
end
section
section
variable {P:Program} {ops:Array Oper} {Q:Exit->Act->QL->Prop} {md:Region.Mode} {S:QL->Prop} {St:List Nat}
def et(P:Program)(md:Region.Mode)(ops:Array Oper)(Q:Exit->Act->M->Prop)(S:M->Prop)(St:List Nat):Nat->Array Bool->Act->M->Prop
 |0,listed,a,w=>VD md ops listed= []/\Q .normal a w
 |fuel+1,listed,a,w=>
  (VD md ops listed= []->Q .normal a w)/\
  ∀i∈VD md ops listed,wpOp P ops Q i (λc b=>(St.contains i=true\/(S w->S b))/\et P md ops Q S St fuel (listed.setIfInBounds i true) c b) a w
theorem pS:∀(fuel:Nat) (listed:Array Bool) (a:Act) (w:M),et P md ops Q S St fuel listed a w->wpAny P md ops Q fuel listed a w
 |0,_,_,_,h=>h
 |fuel+1,_,_,_,h=>⟨h.1,λi b=>wpOp_mono (λc d e=>pS fuel _ c d e.2) (h.2 i b)⟩
def xS(md:Region.Mode)(ops:Array Oper)(St:List Nat)(i:Nat):Bool:=
 St.all λj=>match ops[j]? with
  |some o=>o.after.any λe=>XR md e&&e.on==i
  |none=>false
theorem Be{i j:Nat}{listed:Array Bool}(h:xS md ops St i=true)(l:St.contains j=true)(m:i∈VD md ops listed):j∉VD md ops listed:=by
 intro n;obtain⟨_,o,p,b⟩:=mem_ready.1 n;have g:=WO.1 h j (by simpa using l);simp only[p]at g;obtain⟨e,q,d⟩:=Array.any_eq_true'.1 g;simp only[VX,beq_iff_eq]at d;have c:=b e q d.1;rw[d.2]at c;have k:=(mem_ready.1 m).1;rcases ZJ i listed.size with f|f
 .simp [f]at k c;rw[k]at c;cases c
 .simp [XB f]at c
theorem tl{i:Nat}{oi:Oper}{v:QN}(E:ops[i]?=some oi)(l:∀(j:Nat) (o:Oper) s b,ops[j]?=some o->o.op≠ .select s b)(U:∀c a w,Q (.panic c) (a.put oi.dst v) w->Q (.panic c) a w)(V:xS md ops St i=true):
  ∀(fuel:Nat) (listed:Array Bool) (a:Act) (w:QL),
   (∀j p,ops[j]?=some p->j≠i->listed.getD j true=false->(∀e∈p.after,XR md e=true->e.on≠i)->oi.apart ops p=true)->
   i∈VD md ops listed->YieldsIf P ops S oi v a->S w->
   et P md ops Q S St fuel (listed.setIfInBounds i true) (a.put oi.dst v) w->et P md ops Q S St (fuel+1) listed a w:=by
 intro fuel;induction fuel with
 |zero=>
  intro listed a w _ m B C H;refine⟨λh=>(by rw[h]at m;cases m),λj t=>?_⟩;by_cases d:j=i
  .subst d;exact B.wpOp E C ⟨.inr id,H⟩
  .have:=ready_mono t d;rw[H.1]at this;cases this
 |succ fuel W=>
  intro listed a w f m B C H;refine⟨λh=>(by rw[h]at m;cases m),λj t=>?_⟩;by_cases d:j=i
  .subst d;exact B.wpOp E C ⟨.inr id,H⟩
  .have q:=H.2 j (ready_mono t d);obtain⟨n,p,r,u⟩:=mem_ready.1 t;have F:¬St.contains j=true:=λe=>Be V e m t;have x:∀e∈p.after,XR md e=true->e.on≠i:=λe X Z G=>by
    have q:=u e X Z;have T:=(mem_ready.1 m).1;rw[G]at q;rcases ZJ i listed.size with K|K
    .simp [K]at T q;rw[T]at q;cases q
    .simp [XB K]at q
   have N:=wpOp_putIf r (f j p r d n x) (λs b=>l i oi s b E) (λs b=>l j p s b r) U B q;have g:∀k y,ops[k]?=some y->k≠i->(listed.setIfInBounds j true).getD k true=false->
     (∀e∈y.after,XR md e=true->e.on≠i)->oi.apart ops y=true:=λk y M L z O=>by
    refine f k y M L ?_ O;by_cases A:j=k
    .subst A;exact n
    .rw [getD_set_ne true A]at z;exact z
   refine wpOp_mono (λR I D=>⟨D.2.1,W (listed.setIfInBounds j true) R I g (ready_mono m (Ne.symm d)) D.1 (D.2.1.resolve_left F C) ?_⟩) N;rw[Array.setIfInBounds_comm _ _ d];exact D.2.2
theorem kl{i:Nat}{oi:Oper}{v:QN}(C:ops[i]?=some oi)(l:∀(j:Nat) (o:Oper) s b,ops[j]?=some o->o.op≠ .select s b)(O:∀c a w,Q (.panic c) (a.put oi.dst v) w->Q (.panic c) a w):
  ∀(fuel:Nat) (listed:Array Bool) (a:Act) (w:M),
   (∀j n,ops[j]?=some n->j≠i->listed.getD j true=false->(∀e∈n.after,XR md e=true->e.on≠i)->oi.apart ops n=true)->
   i∈VD md ops listed->YieldsIf P ops (λ_=>True) oi v a->
   et P md ops Q S St fuel (listed.setIfInBounds i true) (a.put oi.dst v) w->et P md ops Q S St (fuel+1) listed a w:=by
 intro fuel;induction fuel with
 |zero=>
  intro listed a w _ p A H;refine⟨λh=>(by rw[h]at p;cases p),λj B=>?_⟩;by_cases d:j=i
  .subst d;exact A.wpOp C trivial ⟨.inr id,H⟩
  .have:=ready_mono B d;rw[H.1]at this;cases this
 |succ fuel T=>
  intro listed a w f p A H;refine⟨λh=>(by rw[h]at p;cases p),λj B=>?_⟩;by_cases d:j=i
  .subst d;exact A.wpOp C trivial ⟨.inr id,H⟩
  .have q:=H.2 j (ready_mono B d);obtain⟨m,n,r,t⟩:=mem_ready.1 B;have u:∀e∈n.after,XR md e=true->e.on≠i:=λe U V D=>by
    have q:=t e U V;have L:=(mem_ready.1 p).1;rw[D]at q;rcases ZJ i listed.size with E|E
    .simp [E]at L q;rw[L]at q;cases q
    .simp [XB E]at q
   have W:=wpOp_putIf r (f j n r d m u) (λs b=>l i oi s b C) (λs b=>l j n s b r) O A q;have g:∀k x,ops[k]?=some x->k≠i->(listed.setIfInBounds j true).getD k true=false->
     (∀e∈x.after,XR md e=true->e.on≠i)->oi.apart ops x=true:=λk x X F y G=>by
    refine f k x X F ?_ G;by_cases z:j=k
    .subst z;exact m
    .rw [getD_set_ne true z]at y;exact y
   refine wpOp_mono (λZ N K=>⟨K.2.1,T (listed.setIfInBounds j true) Z N g (ready_mono p (Ne.symm d)) K.1 ?_⟩) W;rw[Array.setIfInBounds_comm _ _ d];exact K.2.2
section
variable {i:Nat} {oi:Oper} {v:QN} {fuel:Nat} {listed:Array Bool} {a:Act} {w:QL}
theorem On(b:ops[i]?=some oi)(d:∀w,S w->(execOp a.eval oi).run P w=.ok (.value v) w)(e:S w)(h:et P md ops Q S St fuel (listed.setIfInBounds i true) (a.put oi.dst v) w)(f:YO ops=true:=by kernel_rfl)(g:Region.free md ops listed i=true:=by kernel_rfl)(j:(VD md ops listed).contains i=true:=by kernel_rfl)(k:xS md ops St i=true:=by kernel_rfl)(l:VT oi (yielded ops a.tmps)=true:=by kernel_rfl)(m:∀c a w,Q (.panic c) (a.put oi.dst v) w->Q (.panic c) a w:=by exactλ_ _ _ h=>h):et P md ops Q S St (fuel+1) listed a w:=
 tl b (YX f) m k fuel listed a w (Region.free_spec b g) (by simpa using j) (.inl ⟨l,d⟩) e h
theorem qg(b:ops[i]?=some oi)(d:∀w,True->(execOp a.eval oi).run P w=.ok (.value v) w)(h:et P md ops Q S St fuel (listed.setIfInBounds i true) (a.put oi.dst v) w)(e:YO ops=true:=by kernel_rfl)(f:Region.free md ops listed i=true:=by kernel_rfl)(g:(VD md ops listed).contains i=true:=by kernel_rfl)(j:VT oi (yielded ops a.tmps)=true:=by kernel_rfl)(k:∀c a w,Q (.panic c) (a.put oi.dst v) w->Q (.panic c) a w:=by exactλ_ _ _ h=>h):et P md ops Q S St (fuel+1) listed a w:=
 kl b (YX e) k fuel listed a w (Region.free_spec b f) (by simpa using g) (.inl ⟨j,d⟩) h
theorem BD(b:ops[i]?=some oi)(h:et P md ops Q S St fuel (listed.setIfInBounds i true) (a.put oi.dst undef) w)(d:YO ops=true:=by kernel_rfl)(e:Region.free md ops listed i=true:=by kernel_rfl)(f:(VD md ops listed).contains i=true:=by kernel_rfl)(g:VT oi (yielded ops a.tmps)=false:=by kernel_rfl)(j:∀c a w,Q (.panic c) (a.put oi.dst undef) w->Q (.panic c) a w:=by exactλ_ _ _ h=>h):et P md ops Q S St (fuel+1) listed a w:=
 kl b (YX d) j fuel listed a w (Region.free_spec b e) (by simpa using f) (.inr ⟨g,rfl⟩) h
end
theorem gN{i:Nat}{o:Oper}{fuel:Nat}{listed:Array Bool}{a:Act}{w:M}(e:VD md ops listed= [i])(f:ops[i]?=some o)(h:∀b:Act->M->Prop,(∀d c,(St.contains i=true\/(S w->S c))->et P md ops Q S St fuel (listed.setIfInBounds i true) d c->b d c)->if VT o (yielded ops a.tmps)=true then Oper.wp P o a w b Q else b (a.put o.dst undef) w):
  et P md ops Q S St (fuel+1) listed a w:=by
 refine⟨λg=>absurd (e▸g) aJ,?_⟩;rw[e];intro j k;obtain rfl:j=i:=by simpa using k
 exact wpOp_step f λb l=>h b λd c m n=>l d c ⟨m,n⟩
theorem nC{listed:Array Bool}{a:Act}{w:M}(b:VD md ops listed= [])(h:Q .normal a w):
  ∀fuel,et P md ops Q S St fuel listed a w
 |0=>⟨b,h⟩
 |_+1=>⟨λ_=>h,by rw[b];simp⟩
theorem nD{id:Nat}{a:Act}{w:M}(b:P.follows .mixedOrders=true)(h:et P .any ops Q S St ops.size (Array.replicate ops.size false) a w.drew):(Code.region id ops true).wp P Q a w:=
 wp_region_any b (pS _ _ _ _ h)
end
end
section
open Go.Shelf
theorem Hp(p:kP)(b o f N t d ep sq:Nat)(F:dj)(w:M)(q:1<=N)(i:N<=4096)(s:t<N)(h:N*128<=f)(g:d<=N)(u:∀k,k<N->dT w (ID b o f N t k) (F k)/\∀j,j<128->F k j<256):
  aD 274 #[.slice (some (R b o)) (N*128) f,Y t,Y d,bj ep,bj sq] w λe l=>∃a n c r,aK e (.tuple #[.agg #[bj sq,.slice a n c],.bool r])/\ar w l/\
   ((r=true/\∃P,bJ F ep sq d P/\fe w.heap.size l (.slice a n c) (bL P P.N))\/(r=false/\∀P,¬bJ F ep sq d P)):=by
 refine(p b o f N t d ep sq F w q i s h g u).mono ?_;rintro e l ⟨m,a,n,c,⟨P,h1,rfl,v⟩|⟨h1,rfl⟩⟩
 .exact ⟨a,n,c,true,rfl,m,.inl ⟨rfl,P,h1,v⟩⟩
 .exact ⟨a,n,c,false,rfl,m,.inr ⟨rfl,h1⟩⟩
def Mq(S:dj)(N ep t sq:Nat)(w:M)(e:SG)(b:M):Prop:=
 ar w b/\∃L v,pQ S N ep t sq L/\lR S N ep t sq L/\bl L<=N/\(∃a c,v=.slice a L.length c)/\
  aK e (.tuple #[.agg #[v,.int .u64 (sq+L.length:Nat),Y ((t+bl L)%N:Nat),Y (bl L:Nat)],aG 0])/\mU w.heap.size b v sq (L.map λP=>bL P P.N)
variable {S:dj} {N ep t sq F:Nat} {w wr:QL} {L:List bY}
structure EW(S:dj)(N ep t sq F:Nat)(w:M)(L:List bY)(wr:M):Prop where
 l_:pQ S N ep t sq L
 used:bl L<=N
 du:ar w wr
 aL:∃a c,wr.heap[F]? =some (ao #[.slice a L.length c,.int .u64 (sq+L.length:Nat),Y ((t+bl L)%N:Nat),Y (bl L:Nat)] 279)/\mU (F+1) wr (.slice a L.length c) sq (L.map fun P=>bL P P.N)
theorem Oo:(prog.info? 204).map (λi=>(i.zero,i.size,i.bytes))=some (some (.agg #[.int .u64 0,aU]),2,32):=aE
theorem EW.end(h:EW S N ep t sq F w L wr)(q:lR S N ep t sq L)(hF:w.heap.size<=F)(v:sq+L.length<9223372036854775808){D:Nat}(f:w.heap.size<=D)(r:D<F){a:Option TF}{c:Nat}(i:mU (F+1) wr (.slice a L.length c) sq (L.map λP=>bL P P.N))(o:Array QN)(s:wr.heap[D]?=some (ao o 279))(j l m n:QN):
  Mq S N ep t sq w (.returned (.tuple #[.agg #[.slice a L.length c,.int .u64 (sq+L.length:Nat),Y ((t+bl L)%N:Nat),Y (bl L:Nat)],aG 0])) ((((wr.setCell (R D 0) j).setCell (R D 1) l).setCell (R D 2) m).setCell (R D 3) n):=by
 refine⟨(((h.du.setCell (p:=R D 0) f _).setCell (p:=R D 1) f _).setCell (p:=R D 2) f _).setCell (p:=R D 3) f _,L,_,h.l_,q,h.used,⟨a,c,rfl⟩,rfl,?_⟩;have d:Out (λk=>k=D) wr ((((wr.setCell (R D 0) j).setCell (R D 1) l).setCell (R D 2) m).setCell (R D 3) n):=
  ((((Out.refl (λk=>k=D) wr).setCell (p:=R D 0) (λ_=>rfl) _).setCell (p:=R D 1) (λ_=>rfl) _).setCell (p:=R D 2) (λ_=>rfl) _).setCell (p:=R D 3) (λ_=>rfl) _
 refine(i.out d (λk u e=>?_) λk b e g=>?_).wide J
 .have:=i.low u;omega
 .rw [e,s]at g;cases g;exact⟨λh=>absurd h (by show(279:Nat)≠5;decide),λh=>absurd h (by show(279:Nat)≠206;decide)⟩
def Kp(S:dj)(N ep b q c:Nat)(wr:M)(T:Nat)(r:Bool)(v:QN)(a:M):Prop:=
 wr.heap.size<=T/\a.heap[T]?=some (ao #[bj q,v] 204)/\ar wr a/\((r=true/\∃P,bJ (Bd S N b) ep q c P/\fc a v (bL P P.N))\/(r=false/\∀P,¬bJ (Bd S N b) ep q c P))
theorem Kp.fresh{b q c W:Nat}{r:Bool}{v:QN}{a:M}(d:ar wr a)(h:(r=true/\∃P,bJ (Bd S N b) ep q c P/\fe W a v (bL P P.N))\/(r=false/\∀P,¬bJ (Bd S N b) ep q c P)):
  Kp S N ep b q c wr a.heap.size r v (a.alloc (ao #[bj q,v] 204)):=
 ⟨d.size,QM _ _,aI d _,h.imp (λ⟨e,P,f,g⟩=>⟨e,P,f,g.yq.below (aI aj _)⟩) id⟩
theorem Kp.wg{b q c W T:Nat}{r:Bool}{v x y:QN}{a:M}(i:ar wr a)(f:a.heap[T]?=some (ao #[x,y] 204))(d:wr.heap.size<=T)(h:(r=true/\∃P,bJ (Bd S N b) ep q c P/\fe W a v (bL P P.N))\/(r=false/\∀P,¬bJ (Bd S N b) ep q c P)):
  Kp S N ep b q c wr T r v ((a.setCell (R T 0) (bj q)).setCell (R T 1) v):=by
 refine⟨d,?_,(i.setCell (p:=R T 0) d _).setCell (p:=R T 1) d _,h.imp (λ⟨e,P,j,l⟩=>⟨e,P,j,l.yq.out (((Out.refl (λk=>k=T) a).setCell (p:=R T 0) (λ_=>rfl) _).setCell (p:=R T 1) (λ_=>rfl) _) λk o e g=>?_⟩) id⟩
 .exact heap_setCell_same _ _ 1 _ 204 _ (heap_setCell_same a T 0 _ 204 _ f)
 .rw [e,f]at g;cases g;exact⟨λh=>absurd h (by show(204:Nat)≠5;decide),λh=>absurd h (by show(204:Nat)≠206;decide)⟩
theorem Hq(o4:kP)(b o X N t ep sq:Nat)(S:dj)(w:QL)(o5:5<=N)(l7:N<=2048)(o6:t<N)(d6:N*128<=X)(l8:cI ep sq)(l9:∀k,k<N->dT w (.slice (some ⟨b,o+k*128,none⟩) 128 (X-k*128)) (S k)/\∀j,j<128->S k j<256):
  aD 194 #[.slice (some ⟨b,o,none⟩) (N*128) X,.agg #[bj ep,bj sq,ae t]] w (Mq S N ep t sq w):=by
 have b6:=ad (λW=>vQ (some ⟨b,o,none⟩) N X W aa);have m0:=ad (λW=>mf ep sq t W l8 aa);have g9:=ad (λh0 d7 m3 W (h1:h0<N) (h2:d7<=N) (h3:ar w W)=>Hp o4 b o X N h0 d7 ep m3 (Bd S N h0) W aa aa h1 d6 h2 λk _=>⟨(l9 ((h0+k)%N) (SB _ aa)).1.below h3,(l9 ((h0+k)%N) (SB _ aa)).2⟩);obtain⟨n,o1⟩:=ah (N*128);have e0:((n:Nat):Int).tmod 128=0:=by have:n%128=0:=aa;exact(show((n:Nat):Int).tmod ((128:Nat):Int)=((n%128:Nat):Int)from SK _ _).trans (by rw[this];rfl)
 have e1:decide ((N:Int)<5)=false:=decide_eq_false aa;have e2:decide ((2048:Int)<(N:Int))=false:=decide_eq_false aa;have e4:decide (N<=t)=false:=decide_eq_false aa;have h4:=aS l8 o6 o5 l7;rw[o1]at b6 g9|-;clear l9 l8 d6 o1;obtain⟨m4,h5⟩:=ah ((w.alloc (ao #[bj ep,bj sq,ae t] 156)).alloc (ao #[aU,.int .u64 0,ae 0,ae 0] 279));have h6:ar w m4:=by rw[<-h5];exact aI (aI aj _) _
 have b7:m4.heap[w.heap.size]?=some (ao #[bj ep,bj sq,ae t] 156):=by rw[<-h5];exact(RG _ _ _ aJ).trans (QM _ _)
 have b8:m4.heap[w.heap.size+1]?=some (ao #[aU,.int .u64 0,ae 0,ae 0] 279):=by rw[<-h5];have:=QM (w.alloc (ao #[bj ep,bj sq,ae t] 156)) (ao #[aU,.int .u64 0,ae 0,ae 0] 279);rwa[TG]at this
 obtain⟨D,m5⟩:=ah w.heap.size;rw[m5]at b7 b8;obtain⟨a0,a1,Z⟩:=cr b7;obtain⟨b0,b1,b2⟩:=cr b8;have l4:=aA h5 m5;have h8:=aM b7 b8 h6;clear h5 b7 b8 h6 m5;go_enter func194,ntmps194;go_wp2_with fail
 try simp only[l4.out.1,l4.out.2]
 go_step3;go_wp2_with(first|(go_at_call 149;refine(m0 _).mono ?_;rintro e w1 ⟨g1,c1,rfl,-,b9⟩;obtain⟨k0,k1,k2⟩:=kp b9 D dI;obtain⟨k3,k4,k5⟩:=kp b9 (D+1) dI;have H:=ad b9;clear b9));go_region_held3(λC=>C.cell? ⟨D,2,none⟩=some (ae t)) ((simp[*,go_sem];done)) (first|(go_at_call 273;refine(b6 _).mono ?_;rintro e w2 ⟨rfl,rfl⟩));go_wp2_with fail;go_step3;go_wp2_with fail;obtain⟨d9,c0⟩:=ah ((w1.alloc (ao #[aU,bj sq,ae t,ae 0] 279)).drew);have G:ar w1 d9:=by rw[<-c0];exact(ct (aI aj _) 1)
 have e3:ar w d9:=h8.2.2.trans ((H.trans (G.mono H.size)).mono h8.2.2.size);have f3:d9.heap[w1.heap.size]?=some (ao #[aU,bj sq,ae t,ae 0] 279):=by rw[<-c0];exact QM _ _
 obtain⟨F,hF⟩:=ah w1.heap.size;rw[c0,hF];rw[hF]at f3;have h9:w.heap.size<=F:=by rw[<-hF];exact QO h8.2.2.size H.size
 have i0:d9.heap[D]?=some (ao #[bj ep,bj sq,ae t] 156):=(G.block D k2).trans ((H.block D Z).trans h8.1);have i1:d9.heap[D+1]?=some (ao #[aU,.int .u64 0,ae 0,ae 0] 279):=(G.block (D+1) k5).trans ((H.block (D+1) b2).trans h8.2.1);have i2:D<F/\D+1<F:=by rw[<-hF];exact⟨k2,k5⟩
 have f:=bX i0 i1 i2 h9 e3;have m6:RH (EW S N ep t sq F w [] d9):=⟨pQ.nil,QX _,e3,none,0,by rw[f3];simp[bl,SL h4.out.2.1],mU.nil _ _ _⟩;clear c0 G e3 f3 hF h9 i0 i1 i2 a0 Z b2 k0 k2 k3 k5 H;go_loopw [10] (λi3 wr=>∃L:List bY,RH (EW S N ep t sq F w L wr)/\RH (SM F d9 wr)) (λ_ wr=>N-(match wr.cell? ⟨F,3,none⟩with|some (.int _ x)=>x.toNat|_=>0))
 case atStart=>exact⟨[],m6,aj⟩
 case round=>
  obtain⟨L,R,f4⟩:=hrel;obtain⟨a,c,c3,f5⟩:=R.aL;have f6:=R.used;have I:=jQ L;obtain⟨K,i4⟩:=ah L.length;obtain⟨u,c4⟩:=ah (bl L);obtain⟨E,c5⟩:=ah ((t+u)%N);obtain⟨q,m7⟩:=ah (sq+K);have i5:E<N:=by rw[<-c5];exact SB _ aa
  have d:=bX i4 c4 c5 m7 i5;rw[i4,c4,c5,m7]at c3;rw[i4]at f5;rw[c4]at f6 I;rw[i4]at I;have c6:=ad f5;have o7:=h4.1.2;have i6:q<9223372036854775808:=by have:=h4.2.2.2;omega
  have f8:=(f4.block D f.2.2.1.1).trans f.1;have f9:=(f4.block (D+1) f.2.2.1.2).trans f.2.1;have M:=aM c3 f8 f9;obtain⟨f0,f1,f2⟩:=cr c3;obtain⟨d0,d1,d2⟩:=cr f8;obtain⟨x0,x1,x2⟩:=cr f9;have o8:K<=2048:=by have:=h4.2.2.2;omega
  clear i4 c4 c5 m7 c3 f8 f9 f5 I;by_cases i7:q<=4611686018427387904
  .have j1:(q:Int)<=4611686018427387904:=aa;obtain⟨l5,i8⟩:=ah (N-u);have e5:QQ.wrap ((N:Int)-(u:Int))=(l5:Int):=by have:=h4.2.2.2;go_arith
   have m8:=ad (λW (o9:ar wr W)=>g9.out E l5 q W i5 aa (R.du.trans (o9.mono R.du.size)));have g3:=ad i8;clear i8;go_wp2_with fail;go_cut [10,11] (λi3 m9 p0=>∃(T:Nat) (r:Bool) (Z:Option TF) (O c2:Nat),i3= aq T/\m9=.bool r/\RH (Kp S N ep E q l5 wr T r (.slice Z O c2) p0))
   case first=>
    go_region_held3(λC=>C.cell? ⟨F,1,none⟩=some (bj q)/\C.cell? ⟨F,2,none⟩=some (ae E)/\C.cell? ⟨F,3,none⟩=some (ae u)/\C.cell? ⟨D,0,none⟩=some (bj ep)) ((simp[*,go_sem];done)) (first
     |(go_at_call 273;refine(b6 _).mono ?_;rintro e w2 ⟨rfl,rfl⟩)
     |(go_at_call 274;refine(m8 _ bC).mono ?_;rintro e w3 ⟨Z,O,c2,r,rfl,Y,i9⟩
       (try(have h7:=(Y.block _ dI).trans (QM wr (ao #[.int .u64 0,aU] 204));obtain⟨c7,f7,z7⟩:=cr h7;have H7:=ad h7;clear h7))
       obtain⟨k0,k1,k2⟩:=kp Y F dI;obtain⟨k3,k4,k5⟩:=kp Y D dI;have j0:RH (ar wr w3):=via bC Y;have j2:=ad i9;clear Y i9))
    all_goals go_wp2
    all_goals go_meet
    all_goals first
     |exact⟨_,_,_,_,_,rfl,rfl,Kp.wg j0 H7 (QP _) j2⟩
     |exact⟨_,_,_,_,_,rfl,rfl,Kp.fresh j0 j2⟩
   case rest=>
    rename_i n0;refine n0 _ _ ?_;obtain⟨T,r,Z,O,c2,rfl,rfl,z⟩:=hcut;have c8:=z.2.2.1;have J:=(c8.block F f2).trans M.1;have a3:=(c8.block D d2).trans M.2.1;have a4:=(c8.block (D+1) x2).trans M.2.2;have y:=aM J a3 a4;clear f0 f1 f2 d0 d2 x0 x1 x2;obtain⟨f0,f1,f2⟩:=cr J;obtain⟨d0,d1,d2⟩:=cr a3;obtain⟨x0,x1,x2⟩:=cr a4;obtain⟨t0,t1,t2⟩:=cr z.2.1;clear c8 J a3 a4;cases r
    case false=>
     have n1:RH (lR S N ep t sq L):=λP l6=>by
      rcases z.2.2.2 with⟨e,_⟩|⟨_,h⟩
      .cases e
      .rw [d.1,d.2.1,d.2.2.1,d.2.2.2.1,g3.out]at l6;exact h P l6
     have n3:RH (EW S N ep t sq F w L wc):=⟨R.l_,R.used,R.du.trans (z.2.2.1.mono R.du.size),a,c,by rw[d.1,d.2.1,d.2.2.1,d.2.2.2.1];exact y.1,by rw[d.1];exact c6.below z.2.2.1⟩;go_wp2;refine RB (v:=.tuple #[.agg #[.slice a K c,bj q,ae E,ae u],aG 0]) (by rw[UP rfl];simp[go_sem, *]) rfl ?_;have j3:=n3.end n1 f.2.2.2.1 (by rw[d.1,d.2.2.2.1];exact i6) (D:=D+1) (by rw[<-l4.2];omega) f.2.2.1.2 (a:=a) (c:=c) (by rw[d.1];exact c6.below z.2.2.1) _ y.2.2 (.slice a K c) (bj q) (ae E) (ae u);rw[d.1,d.2.1,d.2.2.1,d.2.2.2.1]at j3;exact j3
    case true=>
     obtain⟨P,Q,a5⟩:∃P,bJ (Bd S N E) ep q l5 P/\fc wc (.slice Z O c2) (bL P P.N):=by
      rcases z.2.2.2 with⟨_,h⟩|⟨e,_⟩
      .exact h
      .cases e
     have fg:O=P.N:=by obtain⟨_,_,e,_⟩:=a5;cases e;exact cT _ _
     have g8:=aM Q a5 fg;have a6:=Q.room;have j4:=Q.cA;obtain⟨y3,g4⟩:=ah (2*O+1);obtain⟨y2,j5⟩:=ah (2*O);have e6:QQ.wrap (2*(O:Int))=(y2:Int):=bf;have e7:QQ.wrap ((y2:Int)+1)=(y3:Int):=bf;have o2:=aA g4 j5;clear Q a5 fg a6 j4 g4 j5;obtain⟨us,A,g5,j6⟩:=c6.below z.2.2.1;rw[RL,d.1]at A g5;have a7:=aM A g5 j6;clear A g5 j6;obtain⟨p1,n4,n5,n6,n7⟩:=SN Oo;go_wp2_with(first|(at_builtin;refine aT _ rfl _ _ 197 rfl (F+1) 204 p1 (.agg #[.int .u64 0,aU]) 2 32 underlying197 n4 n5 n6 n7 rfl ai (.slice a K c) K _ rfl (aP (aI aj _) a7.2.1) ⟨wc.heap.size,0,none⟩ 1 1 [bj q,.slice Z O c2] rfl rfl (SI (cs:= #[bj q,.slice Z O c2]) (t:=204) (fr:=(0,0)) (QM wc _)) (by intro u c4;simp at c4;rcases c4 with rfl|rfl<;>rfl) aa (by unfold UT;omega) aa aQ ?_));intro p8 C a8 a9;obtain⟨j7,j8,rfl,-⟩:=av a8;have B:ar wc (wc.alloc (ao #[bj q,.slice Z O c2] 204)):=aI aj _;have j9:∀k,(SF a K c).ownBlock=some k->F+1<=k:=λk n8=>(bm a7.2.1 n8).2;have b3:SM (F+1) (wc.alloc (ao #[bj q,.slice Z O c2] 204)) C:=a9.below aj aQ j9;have d8:RH (mU (F+1) C (.slice j7 (K+1) j8) sq ((L++ [P]).map λP=>bL P P.N)):=by
      show mU _ _ _ _ _;rw[SR];have c9:(L.map λP=>bL P P.N).length=K:=by rw[RL,d.1]
      refine mU.push (us:=us) (u:=.slice Z O c2) (s:=wc.heap.size+1) (W:=wc.alloc (ao #[bj q,.slice Z O c2] 204)) (lv:=.slice a K c) (by rw[a7.1,c9]) (by rw[c9];exact aP B a7.2.1) (λi p u p2 c4=>(a7.2.2 i p u p2 c4).below B) (g8.2.1.below B) (by rw[c9,d.2.2.2.1];exact a8) (by rw[c9];exact a9)
     have g0:=(b3.block F aa).trans ((B.block F f2).trans y.1);have g1:=(b3.block D (by have:=f.2.2.1.1;omega)).trans ((B.block D d2).trans y.2.1);have g2:=(b3.block (D+1) (by have:=f.2.2.1.2;omega)).trans ((B.block (D+1) x2).trans y.2.2);have k6:=bX g0 g1 g2 b3 B;clear f0 f1 f2 d0 d2 x0 x1 x2 t0 a8 a9 j9 b3 B;obtain⟨f0,f1,f2⟩:=cr g0;clear g0 g1 g2;obtain⟨q1,d3⟩:=ah (q+1);obtain⟨u1,A⟩:=ah (u+y3);obtain⟨m1,k7⟩:=ah (E+y3);obtain⟨m2,b4⟩:=ah (m1%N);have k8:y3<=5000:=by have h1:=g8.1.cA;have h2:=o2.1;have h3:=g8.2.2;omega
     have e8:VY.wrap ((q:Int)+1)=(q1:Int):=bf;have e9:QQ.wrap ((u:Int)+(y3:Int))=(u1:Int):=bf;have p3:QQ.wrap ((E:Int)+(y3:Int))=(m1:Int):=bf;have p4:(m1:Int).tmod (N:Int)=(m2:Int):=by rw[<-b4];exact SK _ _
     have p5:¬N=0:=aa;have p6:=aS d3 A k7 b4;clear d3 A k7 b4 k8;go_wp2_with fail;obtain⟨W9,d4⟩:=ah ((C.setCell ⟨F,0,none⟩ (.slice j7 (K+1) j8)).drew);have g6:W9.heap[F]?=some (ao #[.slice j7 (K+1) j8,bj q,ae E,ae u] 279):=by rw[<-d4];exact heap_setCell_same C F 0 _ 279 _ k6.1
     have k9:=aA g6 d4;clear f0 f1 f2;obtain⟨f0,f1,f2⟩:=cr g6;have d5:W9.cell? ⟨F,1,none⟩=some (bj q)/\W9.cell? ⟨F,2,none⟩=some (ae E)/\W9.cell? ⟨F,3,none⟩=some (ae u):=⟨f0 1,f0 2,f0 3⟩;refine nD (S:=λV=>V.cell? ⟨F,1,none⟩=some (bj q)/\V.cell? ⟨F,2,none⟩=some (ae E)/\V.cell? ⟨F,3,none⟩=some (ae u)) (St:= [15,17,19]) aE ?_;rw[d4];clear g6 d4;refine qg (i:=0) (v:=.pointer (some ⟨F,1,none⟩)) rfl (λV _=>?_) ?_
     .go_simp
     simp only[SC,QU,QS,QT,QR,QV,QW];refine On (i:=1) (v:= bj q) rfl (λV ⟨h1,h2,h3⟩=>?_) d5 ?_
     .go_simp
     simp only[SC,QU,QS,QT,QR,QV,QW];refine qg (i:=2) (v:= bj q1) rfl (λV _=>?_) ?_
     .go_simp
     simp only[SC,QU,QS,QT,QR,QV,QW];refine qg (i:=3) (v:=.pointer (some ⟨F,3,none⟩)) rfl (λV _=>?_) ?_
     .go_simp
     simp only[SC,QU,QS,QT,QR,QV,QW];refine On (i:=4) (v:= ae u) rfl (λV ⟨h1,h2,h3⟩=>?_) d5 ?_
     .go_simp
     simp only[SC,QU,QS,QT,QR,QV,QW];refine qg (i:=5) (v:= ae y3) rfl (λV _=>?_) ?_
     .go_simp
     simp only[SC,QU,QS,QT,QR,QV,QW];refine qg (i:=6) (v:= ae u1) rfl (λV _=>?_) ?_
     .go_simp
     simp only[SC,QU,QS,QT,QR,QV,QW];refine qg (i:=7) (v:=.pointer (some ⟨F,2,none⟩)) rfl (λV _=>?_) ?_
     .go_simp
     simp only[SC,QU,QS,QT,QR,QV,QW];refine On (i:=8) (v:= ae E) rfl (λV ⟨h1,h2,h3⟩=>?_) d5 ?_
     .go_simp
     simp only[SC,QU,QS,QT,QR,QV,QW];refine qg (i:=9) (v:= ae y3) rfl (λV _=>?_) ?_
     .go_simp
     simp only[SC,QU,QS,QT,QR,QV,QW];refine qg (i:=10) (v:= ae m1) rfl (λV _=>?_) ?_
     .go_simp
     simp only[SC,QU,QS,QT,QR,QV,QW];refine qg (i:=11) (v:=.slice (some ⟨b,o,none⟩) n X) rfl (λV _=>?_) ?_
     .go_simp
     simp only[SC,QU,QS,QT,QR,QV,QW];refine qg (i:=14) (v:=.pointer (some ⟨F,1,none⟩)) rfl (λV _=>?_) ?_
     .go_simp
     simp only[SC,QU,QS,QT,QR,QV,QW];refine gN (i:=12) aE rfl (λn9 l=>?_);rw[ak aE];have m:=ad l;clear l;go_simp;refine(b6 _).mono ?_;rintro e w2 ⟨rfl,rfl⟩;refine m _ _ (.inr λ_=>d5) ?_;clear m
     try simp only[SC,QU,QS,QT,QR,QV,QW]
     refine qg (i:=13) (v:= ae m2) rfl (λV _=>?_) ?_
     .go_simp
     simp only[SC,QU,QS,QT,QR,QV,QW];refine gN (i:=15) aE rfl (λn9 l=>?_);rw[ak aE];have m:=ad l;clear l;go_simp;refine m _ _ (.inl rfl) ?_;clear m
     try simp only[SC,QU,QS,QT,QR,QV,QW]
     refine qg (i:=16) (v:=.pointer (some ⟨F,3,none⟩)) rfl (λV _=>?_) ?_
     .go_simp
     simp only[SC,QU,QS,QT,QR,QV,QW];refine gN (i:=17) aE rfl (λn9 l=>?_);rw[ak aE];have m:=ad l;clear l;go_simp;refine m _ _ (.inl rfl) ?_;clear m
     try simp only[SC,QU,QS,QT,QR,QV,QW]
     refine qg (i:=18) (v:=.pointer (some ⟨F,2,none⟩)) rfl (λV _=>?_) ?_
     .go_simp
     simp only[SC,QU,QS,QT,QR,QV,QW];refine gN (i:=19) aE rfl (λn9 l=>?_);rw[ak aE];have m:=ad l;clear l;go_simp;refine m _ _ (.inl rfl) ?_;clear m
     try simp only[SC,QU,QS,QT,QR,QV,QW]
     refine nC aE ?_ _;go_wp2;have o0:Out (λk=>k=F) C W9:=by rw[<-k9.2];exact((Out.refl (λk=>k=F) C).setCell (p:=⟨F,0,none⟩) (λ_=>rfl) _).drew
     obtain⟨b5,U⟩:=ah (((W9.setCell ⟨F,1,none⟩ (bj q1)).setCell ⟨F,3,none⟩ (ae u1)).setCell ⟨F,2,none⟩ (ae m2));have l0:Out (λk=>k=F) C b5:=by rw[<-U];exact((o0.setCell (p:=⟨F,1,none⟩) (λ_=>rfl) _).setCell (p:=⟨F,3,none⟩) (λ_=>rfl) _).setCell (p:=⟨F,2,none⟩) (λ_=>rfl) _
     have l1:b5.heap[F]?=some (ao #[.slice j7 (K+1) j8,bj q1,ae m2,ae u1] 279):=by rw[<-U];exact heap_setCell_same _ F 2 _ 279 _ (heap_setCell_same _ F 3 _ 279 _ (heap_setCell_same W9 F 1 _ 279 _ k9.1))
     rw[U];clear U;have p7:=Z_ M.1;have l2:SM F wr b5:=by have h1:SM F wr wc:=z.2.2.1.mono aa;have h2:SM F wc C:=(k6.2.2.2.2.mono (TY (Z_ y.1))).trans (k6.2.2.2.1.mono aa);have h3:SM F C b5:=l0.below (λk _ e=>by have:k=F:=e;omega) (TY (Z_ k6.1));exact(h1.trans h2).trans h3
     have a6:=g8.1.room;have fg:=g8.2.2;have g4:=o2.1;have g7:=p6.out;have o3:=g3.out;have l3:(L++ [P]).length=K+1:=by rw[RE,d.1];rfl
     have A:bl (L++ [P])=u1:=by rw[ir,d.2.1];omega
     have b4:(t+u1)%N=m2:=by rw[<-g7.2.2.2,<-g7.2.2.1,<-d.2.2.1,Nat.mod_add_mod,UZ,g7.2.1]
     have d3:sq+(K+1)=q1:=by have:=d.2.2.2.1;omega
     refine⟨⟨L++ [P],⟨R.l_.snoc ?_,by rw[A];omega,R.du.trans (l2.mono f.2.2.2.1),j7,j8,?_,?_⟩,f4.trans l2⟩,?_⟩
     .rw [d.1,d.2.1,d.2.2.1,d.2.2.2.1,g3.out];exact g8.1
     .rw [l3,A,b4,d3];exact l1
     .rw [l3];refine d8.out.out l0 (λk n8 e=>?_) λk b e g=>?_
      .have:=d8.out.low n8;have:k=F:=e;omega
      .rw [show k=F from e,k6.1]at g;cases g;exact⟨λh=>absurd h (by show(279:Nat)≠5;decide),λh=>absurd h (by show(279:Nat)≠206;decide)⟩
     .have g1:b5.cell? ⟨F,3,none⟩=some (ae u1):=(cr l1).1 3;have g2:wr.cell? ⟨F,3,none⟩=some (ae u):=(cr M.1).1 3;rw[g1,g2];simp only[Int.toNat_natCast];omega
  .have j1:¬(q:Int)<=4611686018427387904:=aa;have n1:RH (lR S N ep t sq L):=λP l6=>by have:=l6.c.2.2;rw[d.1,d.2.2.2.1]at this;exact i7 this
   clear i7;go_wp2;refine RB (v:=.tuple #[.agg #[.slice a K c,bj q,ae E,ae u],aG 0]) (by rw[UP rfl];simp[go_sem, *]) rfl ?_;have j3:=R.end n1 f.2.2.2.1 (by rw[d.1,d.2.2.2.1];exact i6) (D:=D+1) (by rw[<-l4.2];omega) f.2.2.1.2 (a:=a) (c:=c) (by rw[d.1];exact c6) _ M.2.2 (.slice a K c) (bj q) (ae E) (ae u);rw[d.1,d.2.1,d.2.2.1,d.2.2.2.1]at j3;exact j3
end
def wh:List Nat:= [364,117]
def vR[Lo](p S:Nat)(f:aO)(q:Nat)(b:Array QN)(w:M)(e:SG)(a:M):Prop:=
 aK e (.tuple #[])/\fK a p 128 f q/\a.heap[S]?=some (N b 117)/\Fr wh aF w a
theorem lT[Lo]{p S q o:Nat}(j:fK W p 128 f q)(i:Fr jW aF w W)(k:w.heap[S]?=some (N A 117))(l:Lo.lo<=S):
  fK (W.setCell (R S o) v) p 128 f q/\(W.setCell (R S o) v).heap[S]?=some (N (A.setIfInBounds o v) 117)/\Fr wh aF w (W.setCell (R S o) v):=by
 have a:=i.hp k rfl;obtain⟨g,c,m,b,d,n,h,r⟩:=j;have s:p≠S:=λe=>by rw[e,a]at b;cases b
 have t:g≠S:=λe=>by rw[e,a]at h;cases h
 exact⟨⟨g,c,m,(RZ _ _ _ _ s).trans b,d,n,(RZ _ _ _ _ t).trans h,r⟩,heap_setCell_same W S o _ 117 v a,(i.wide wh rfl).set (p:=R S o) a rfl l _⟩
theorem EX[Lo](n o i l p S q:Nat)(f:aO)(r:Array QN)(x:QN)(W:QL)(s:xr n o)(A:r[o]?=some x)(B:fK W p 128 f q)(P:q+8<=128)(Q:∀k,k<128->f k<256)(m:W.heap[S]?=some (ao r 117))(t:Lo.lo<=p)(u:Lo.lo<=S)(c:W.heap[i]?=some (ao #[.func (.func 220) #[] #[]] 318))(d:W.heap[l]?=some (ao #[.func (.func n) #[] #[]] 321)):
  aD 281 #[aq p,aq S,aq i,aq l] W (vR p S f (q+8) (r.setIfInBounds o (.int .u64 (dp (λj=>f (q+j)) 8:Nat))) W):=by
 have C:=ad (λD (T:ar W D)=>th D p 128 q f (B.below T) t P ai Q);obtain⟨Z,f1,H⟩:=cr c;obtain⟨N,f2,M⟩:=cr d;have R:=s.1;have U:∀a w,(UY 220 a).run prog w=.ok (.enter 220 a) w:=λ_ _=>rfl;have V:=ad (λW=>s.2 S W);have I:¬i=S:=λe=>by rw[e,m]at c;cases c
 have Y:¬l=S:=λe=>by rw[e,m]at d;cases d
 have b:=bX m A u c d;obtain⟨y,E⟩:=ah (dp (λj=>f (q+j)) 8);simp only[E]at C|-;clear m A B s c d E;go_enter func281,ntmps281;go_region_held3(λF=>F.cell? ⟨i,0,none⟩=some (.func (.func 220) #[] #[])/\F.cell? ⟨l,0,none⟩=some (.func (.func n) #[] #[])) ((simp[*,go_sem];done)) (first|(go_at_call 220;refine(C _ bC).mono ?_;rintro e z ⟨rfl,G,K⟩;have g:RH (fK z p 128 f (q+8)/\Fr jW aF W z):=⟨G,(Fr.af bC).tr K⟩;have h:=g.2.hp b.1 rfl;obtain⟨L,J,s3⟩:=cr h;have c3:z.cell? ⟨S,o,none⟩=some x:=(L o).trans b.2.1;have b3:=(cr (g.2.hp b.2.2.2.1 rfl)).1 0;have b4:=(cr (g.2.hp b.2.2.2.2 rfl)).1 0;clear G K h L)|(refine(V _).mono ?_;rintro e w4 ⟨rfl,rfl⟩));have O:=lT (o:=o) (v:= bj y) g.1 g.2 b.1 b.2.2.1;have X:=ad O;clear O;go_wp2;go_end0;exact⟨rfl,X⟩
theorem Kq[Lo](n o i j p S q:Nat)(f:aO)(r:Array QN)(x:QN)(W:QL)(s:xr n o)(B:r[o]?=some x)(C:fK W p 128 f q)(Q:q+1<=128)(D:∀k,k<128->f k<256)(l:W.heap[S]?=some (ao r 117))(t:Lo.lo<=p)(u:Lo.lo<=S)(c:W.heap[i]?=some (ao #[.func (.func 226) #[] #[]] 325))(d:W.heap[j]?=some (ao #[.func (.func n) #[] #[]] 327)):
  aD 284 #[aq p,aq S,aq i,aq j] W (vR p S f (q+1) (r.setIfInBounds o (ae (f q:Nat))) W):=by
 have E:=ad (λF (m:ar W F)=>xI F p 128 q f (C.below m) t Q ai D);obtain⟨X,f1,Z⟩:=cr c;obtain⟨H,f2,N⟩:=cr d;have M:=s.1;have T:∀a w,(UY 226 a).run prog w=.ok (.enter 226 a) w:=λ_ _=>rfl;have U:=ad (λW=>s.2 S W);have R:¬i=S:=λe=>by rw[e,l]at c;cases c
 have I:¬j=S:=λe=>by rw[e,l]at d;cases d
 have b:=bX l B u c d;have m:=D q aa;obtain⟨y,z⟩:=ah (f q);simp only[z]at E|-;rw[z]at m;have Y:QQ.wrap ((y:Nat):Int)=(y:Nat):=bf;clear l B C s c d z m;go_enter func284,ntmps284;go_region_held3(λG=>G.cell? ⟨i,0,none⟩=some (.func (.func 226) #[] #[])/\G.cell? ⟨j,0,none⟩=some (.func (.func n) #[] #[])) ((simp[*,go_sem];done)) (first|(go_at_call 226;refine(E _ bC).mono ?_;rintro e A ⟨rfl,K,L⟩;have g:RH (fK A p 128 f (q+1)/\Fr jW aF W A):=⟨K,(Fr.af bC).tr L⟩;have h:=g.2.hp b.1 rfl;obtain⟨O,J,s3⟩:=cr h;have c3:A.cell? ⟨S,o,none⟩=some x:=(O o).trans b.2.1;have b3:=(cr (g.2.hp b.2.2.2.1 rfl)).1 0;have b4:=(cr (g.2.hp b.2.2.2.2 rfl)).1 0;clear K L h O)|(refine(U _).mono ?_;rintro e w4 ⟨rfl,rfl⟩));have P:=lT (o:=o) (v:= ae y) g.1 g.2 b.1 b.2.2.1;have V:=ad P;clear P;go_wp2;go_end0;exact⟨rfl,V⟩
theorem EY[Lo](r o i l p S q:Nat)(f:aO)(s:Array QN)(x:QN)(W:QL)(t:xr r o)(C:s[o]?=some x)(D:fK W p 128 f q)(T:q+2<=128)(E:∀k,k<128->f k<256)(m:W.heap[S]?=some (ao s 117))(u:Lo.lo<=p)(z:Lo.lo<=S)(c:W.heap[i]?=some (ao #[.func (.func 235) #[] #[]] 332))(d:W.heap[l]?=some (ao #[.func (.func r) #[] #[]] 327)):
  aD 286 #[aq p,aq S,aq i,aq l] W (vR p S f (q+2) (s.setIfInBounds o (ae (dp (λj=>f (q+j)) 2:Nat))) W):=by
 have F:=ad (λG (n:ar W G)=>Hk G p 128 q f (D.below n) u T ai E);obtain⟨Z,f1,H⟩:=cr c;obtain⟨N,f2,M⟩:=cr d;have R:=t.1;have U:∀a w,(UY 235 a).run prog w=.ok (.enter 235 a) w:=λ_ _=>rfl;have V:=ad (λW=>t.2 S W);have I:¬i=S:=λe=>by rw[e,m]at c;cases c
 have Y:¬l=S:=λe=>by rw[e,m]at d;cases d
 have b:=bX m C z c d;have n:dp (λj=>f (q+j)) 2<256^2:=gH λj J=>E _ aa;obtain⟨y,A⟩:=ah (dp (λj=>f (q+j)) 2);simp only[A]at F|-;rw[A]at n;have e1:QQ.wrap ((y:Nat):Int)=(y:Nat):=bf;clear m C D t c d A n;go_enter func286,ntmps286;go_region_held3(λK=>K.cell? ⟨i,0,none⟩=some (.func (.func 235) #[] #[])/\K.cell? ⟨l,0,none⟩=some (.func (.func r) #[] #[])) ((simp[*,go_sem];done)) (first|(go_at_call 235;refine(F _ bC).mono ?_;rintro e B ⟨rfl,L,O⟩;have g:RH (fK B p 128 f (q+2)/\Fr jW aF W B):=⟨L,(Fr.af bC).tr O⟩;have h:=g.2.hp b.1 rfl;obtain⟨P,s2,s3⟩:=cr h;have c3:B.cell? ⟨S,o,none⟩=some x:=(P o).trans b.2.1;have b3:=(cr (g.2.hp b.2.2.2.1 rfl)).1 0;have b4:=(cr (g.2.hp b.2.2.2.2 rfl)).1 0;clear L O h P)|(refine(V _).mono ?_;rintro e w4 ⟨rfl,rfl⟩));have Q:=lT (o:=o) (v:= ae y) g.1 g.2 b.1 b.2.2.1;have X:=ad Q;clear Q;go_wp2;go_end0;exact⟨rfl,X⟩
theorem EZ[Lo](p S:Nat)(f:aO)(g:Array QN)(W:M)(k:fK W p 128 f 0)(l:aZ W S (N g 117))(b:Lo.lo<=p):
  aD 216 #[H p,H S] W (vR p S f 8 g W):=by
 have m:=I (pt W);have n:=I (λh (c:ar W h)=>zd h p 128 0 8 f (k.below c) b ai ai ai);have o:=I l;go_enter func216,ntmps216;go_wp2_with(first|(go_at_call 215;refine m.mono ?_;rintro e t ⟨⟨v,rfl,a,q,rfl,-⟩,c⟩;have i:=I c)|(go_at_call 217;refine(n _ i).mono ?_;rintro e j ⟨⟨v,rfl⟩,r,s⟩;have d:RH (fK j p 128 f 8/\Fr jW aF W j):=⟨r,(Fr.af i).tr s⟩));go_end0;exact⟨rfl,d.1,d.2.hp o rfl,d.2.wide wh rfl⟩
theorem Hr[Lo](p S q:Nat)(c a:Bool)(f:aO)(g:Array QN)(s t:QN)(W:M)(z:f q=(if c=true then 1 else 0)+(if a=true then 2 else 0))(h:g[8]?=some s)(i:g[9]?=some t)(A:fK W p 128 f q)(B:q+1<=128)(C:∀k,k<128->f k<256)(D:aZ W S (N g 117))(j:Lo.lo<=p)(l:Lo.lo<=S):
  aD 232 #[H p,H S] W (vR p S f (q+1) ((g.setIfInBounds 8 (.bool c)).setIfInBounds 9 (.bool a)) W):=by
 have u:=I (xI W p 128 q f A j B ai C);rw[z]at u;have d:=aS D h i l;have m:∀b,fK b p 128 f (q+1)->Fr jW aF W b->vR p S f (q+1) ((g.setIfInBounds 8 (.bool c)).setIfInBounds 9 (.bool a)) W (.returned (.tuple #[])) ((b.setCell (R S 8) (.bool c)).setCell (R S 9) (.bool a)):=λb E F=>by obtain⟨G,K,L⟩:=lT (o:=8) (v:=.bool c) E F d.1 d.2.2.2;obtain⟨O,P,Q⟩:=lT (o:=9) (v:=.bool a) G (Fr.refl jW aF _) K d.2.2.2;exact⟨rfl,O,P,L.tr Q⟩
 have n:=I m;cases c<;>cases a
 all_goals
  go_enter func232,ntmps232;go_wp2_with(first|(go_at_call 226;refine u.mono ?_;rintro e b ⟨rfl,T,w⟩;have x:=aA T w;have r:=w.hp d.1 rfl;obtain⟨y,U,V⟩:=cr r;have X:b.cell? (R S 8)=some s:=(y 8).trans d.2.1;have Z:b.cell? (R S 9)=some t:=(y 9).trans d.2.2.1));go_end0;exact n _ x.1 x.2
theorem Bf(x:Nat)(w:M):aD 288 #[bs x] w λe a=>aK e (.bool (decide (x≠0)))/\w=a:=by
 by_cases h:x=0
 .subst h;go_enter func288,ntmps288;go_wp2;go_ret;exact⟨rfl,rfl⟩
 .have b:¬(x:Int)=0:=J;go_enter func288,ntmps288;go_wp2;go_ret;exact⟨by simp[h],rfl⟩
theorem xT(g o n c:Nat)(w:M)(m:n<=1000)(h:∀k,k<n->w.cell? ⟨g,o+k,none⟩=some (.int .u8 0)):
  aD 287 #[.slice (some (R g o)) n c,.func (.func 288) #[] #[]] w λe i=>aK e (Y (-1))/\w=i:=by
 have j:=I h;have p:∀a w,(UY 288 a).run prog w=.ok (.enter 288 a) w:=λ_ _=>rfl;go_enter func287,ntmps287;go_wp2_with fail;go_loopw [5,8] (λq d wr=>∃k:Nat,k<=n/\d= Y k/\wr=w) (λ_ d _=>n-(intOf d).toNat)
 case atStart=>exact⟨0,QX _,rfl,rfl⟩
 case round=>
  obtain⟨k,r,rfl,f⟩:=hrel;subst f;by_cases b:k<n
  .have s:(k:Int)<(n:Int):=J;have t:(0:Int)<=(k:Int):=J;have u:=j.out k b;have l:=I (Bf 0 wr);go_wp2_with(first|(refine l.mono ?_;rintro e v ⟨rfl,rfl⟩));exact⟨⟨k+1,b,by go_num,by first|rfl|trivial⟩,by first|(simp[intOf];done)|(simp[intOf];omega)⟩
  .obtain rfl:k=n:=J;go_wp2_with fail;go_ret;exact⟨rfl,rfl⟩
theorem xU[Lo](w:M)(p n q k:Nat)(f:aO)(h:fK w p n f q)(u:Lo.lo<=p)(v:1<=k)(l:k<=1000)(x:q+k<=n)(y:n<=1000000)(z:∀j,j<k->f (q+j)=0):aD 241 #[H p,Y k] w λe o=>aK e (.tuple #[])/\fK o p n f (q+k)/\Fr jW aF w o:=by have A:=I (tf w p n q k f h v x y);have B:=I (λW (a:ar w W) g c (b:Array QN) d (i:aZ w g (.cells b 5 d)) (m:∀k,k<n->b[k]?=some (.int .u8 (f k)))=>xT g q k (c-q) W l (λj C=>((RD W g _ b 5 d ((a.block _ (Z_ i)).trans i)).trans (m _ J)).trans (by rw[z j C];rfl)));have r:=aA h u;have O:QQ.wrap ((q:Int)+k)=((q+k:Nat):Int):=bf;go_enter func241,ntmps241;go_wp2_with(first|(go_at_call 279;refine A.mono ?_;rintro e D ⟨⟨g,c,P,rfl,b,d,i,m⟩,a⟩;have E:=I (B D a g c b d i m);have s:=I (r.1.below a);have t:=I (λF=>Fr.reader s F r.2);have G:=I a;obtain⟨Q,S,-,K,-⟩:=id s;obtain⟨T,U,V⟩:=cr K)|(go_at_call 287;refine E.mono ?_;rintro e X ⟨rfl,L⟩;subst L));go_end0;exact⟨rfl,(t _).1,(Fr.af G).tr (t _).2⟩
theorem xV[Lo](p S q:Nat)(f:aO)(c:Array QN)(W:M)(d:∀j,j<2->f (q+j)=0)(g:fK W p 128 f q)(h:q+2<=128)(i:aZ W S (N c 117))(a:Lo.lo<=p):
  aD 240 #[H p,H S] W (vR p S f (q+2) c W):=by
 have k:=I (xU W p 128 q 2 f g a ai ai h ai d);have l:=I i;go_enter func240,ntmps240;go_wp2_with(first|(go_at_call 241;refine k.mono ?_;rintro e o ⟨rfl,m,n⟩;have b:=aA m n));go_end0;exact⟨rfl,b.1,b.2.hp l rfl,b.2.wide wh rfl⟩
theorem fK.fr[Lo](h:fK w m n f k)(a:Fr T aF w W)(b:T.contains 364=false)(d:T.contains 5=false):fK W m n f k:=by obtain⟨g,c,e,i,j,l,o,p⟩:=h;exact⟨g,c,e,a.hp i b,j,l,a.hp o d,p⟩
theorem nI.Oq[Lo](e:nI i W v n m x w)(f:W.ownsRow j t r v n L)(s:Lo.lo<=j)(u:t<1000000):Fr [t] aF W w:=by
 have b:=e.out (S:=λk=>v.ownBlock=some k) (Out.refl _ _) λ_ h _=>h;refine⟨b.os,b.tape,b.output,b.size,λk o c d _=>b.heap c λa=>?_⟩;rcases f.2 with⟨rfl,_⟩|⟨g,l,p,rfl,y,q,_⟩
 .cases a
 .cases a;rw[q]at c;obtain rfl:=RT c;rcases d with h|h
  .exact absurd (show[t].contains t=false from h) aJ
  .have z:g<Lo.lo:=h;omega
structure MQ[Lo](p S q:Nat)(f st:aO)(cs:Array QN)(W:M)(k:Nat)(wr:M)(v:QN):Prop where
 rd:fK wr p 128 f (q+k)
 aL:wr.heap[S]? =some (N (cs.setIfInBounds 10 v) 117)
 own:wr.ownsRow W.heap.size 122 1 v k (bM k fun j=> .int .u8 (st j:Nat))
 bU:Fr wh aF W wr
theorem Bg[Lo](p S q M:Nat)(f m:aO)(D E F G K L O P Q d:QN)(W:QL)(c5:M<=16)(I:∀j,j<M->f (q+j)=m j)(b5:fK W p 128 f q)(b6:q+M<=128)(b7:∀k,k<128->f k<256)(b1:W.heap[S]?=some (ao #[D,E,F,G,ae M,K,L,O,P,Q,aU,d] 117))(Y:Lo.lo<=p)(J:Lo.lo<=S):
  aD 243 #[aq p,aq S] W λe r=>aK e (.tuple #[])/\∃v,MQ p S q f m #[D,E,F,G,ae M,K,L,O,P,Q,aU,d] W M r v:=by
 obtain⟨b8,b9,a0,a1,a2⟩:=SN oB;have b2:min (M:Int) 16=(M:Int):=aa;have H0:RH (MQ p S q f m #[D,E,F,G,ae M,K,L,O,P,Q,aU,d] W 0 W aU):=⟨b5,b1,SS _ _ _ _,Fr.refl _ _ _⟩;obtain⟨s0,s1,s2⟩:=cr b1;have n:=eM b7 I Y J b6 s2;go_enter func243,ntmps243;go_wp2_with fail;go_loopw [10] (λz wr=>∃(k:Nat) (v:QN),k<=M/\z= ae k/\RH (MQ p S q f m #[D,E,F,G,ae M,K,L,O,P,Q,aU,d] W k wr v)) (λz _=>M-(intOf z).toNat)
 case atStart=>exact⟨0,_,QX _,rfl,H0⟩
 case round=>
  obtain⟨k,v,b3,rfl,s⟩:=hrel;by_cases T:k<M
  .have j1:(k:Int)<(M:Int):=aa;obtain⟨N,R,rfl,-⟩:=av s.own;have a3:=n.2.1 k T;have a4:=ad (λW1 (c0:ar wr W1)=>xI W1 p 128 (q+k) f (s.rd.below c0) n.2.2.1 (by have:=n.2.2.2.2.1;omega) ai n.1);rw[a3]at a4;have a5:(SF N k R).ownBlock≠some S:=λe=>by have:=(s.own.lt S e).1;have:=n.2.2.2.2.2;omega
   have w:=s.aL;obtain⟨t0,t1,t2⟩:=cr w;have U:=aM w a5 T;obtain⟨y,b4⟩:=ah (m k);simp only[b4]at a4;have c1:=ad b4;go_wp2_with fail
   go_region_law (first|(refine db _ rfl (.tmp 16) (.tmp 19) 115 rfl W.heap.size 122 b8 (.int .u8 0) 1 1 underlying115 b9 a0 a1 a2 rfl ai (.slice N k R) k (bM k λj=>.int .u8 (m j:Nat)) (by simp[WH]) A (ag x.heap.size 0) 1 1 [bs y] (by simp[WH]) rfl (SI (cs:= #[bs y]) (t:=122) (fr:=(0,0)) (QM x _)) (by intro u c2;rw[TC.1 c2];rfl) aa (by unfold UT;omega) aa V ?_;intro c6 r a b;obtain⟨i,l,rfl,-⟩:=av a;obtain⟨c7,c8,c9⟩:=cr (b.heap X U.2.1))|(go_simp;go_at_call 226;refine(a4 _ bC).mono ?_;rintro e x ⟨rfl,q1,q2⟩;have Z:RH (fK x p 128 f (q+k+1)/\Fr jW aF wr x):=⟨q1,(Fr.af bC).tr q2⟩;have A:RH ((x.alloc (ao #[bs y] 122)).ownsRow W.heap.size 122 1 (.slice N k R) k (bM k λj=>.int .u8 (m j:Nat))):=(Z.2.own s.own rfl λ_ _ h=>h).alloc _;have V:RH (W.heap.size<=(x.alloc (ao #[bs y] 122)).heap.size):=(by show _<=_;rw[TG];have:=s.bU.size;have:=Z.2.size;omega);have C:=ad (Z.2.hp U.1 rfl);have X:RH ((x.alloc (ao #[bs y] 122)).heap[S]?=some (ao (#[D,E,F,G,ae M,K,L,O,P,Q,aU,d].setIfInBounds 10 (.slice N k R)) 117)):=(RG _ _ _ (Z_ C)).trans C;obtain⟨r0,r1,r2⟩:=cr C))
   all_goals
    have a6:Lo.lo<=W.heap.size:=QO n.2.2.2.1 (TY n.2.2.2.2.2);have a7:=b.Oq A a6 ai;have a8:=b.below (B:=W.heap.size) aj V λk b3=>(A.lt k b3).1;have o:=b.heap X U.2.1;have c3:=heap_setCell_same r S 10 _ 117 (.slice i (k+1) l) o;have a9:(SF i (k+1) l).ownBlock≠some S:=λe=>by have:=(a.lt S e).1;have:=n.2.2.2.2.2;omega
    have H:(bM k λj=>SU .u8 (m j:Nat))++ [bs y] =bM (k+1) λj=>.int .u8 (m j:Nat):=by unfold bM;rw[UW,SR,<-c1.out];rfl
    rw[H]at a;have h1:fK r p 128 f (q+k+1):=(Z.1.below (aI aj _)).fr a7 rfl rfl;have h2:Fr wh aF W (x.alloc (ao #[bs y] 122)):=(s.bU.tr (Z.2.wide wh rfl)).alloc _;have h3:Fr wh aF W r:=h2.low a8 (QP _);have h4:Fr wh aF W (r.setCell (ag S 10) (.slice i (k+1) l)):=h3.set (p:=ag S 10) o rfl n.2.2.2.1 _;have h5:fK (r.setCell (ag S 10) (.slice i (k+1) l)) p 128 f (q+(k+1)):=by
     obtain⟨g,c,g1,g2,b0,fr,g3,g4⟩:=h1;have e1:p≠S:=λe=>by rw[e,o]at g2;cases g2
     have e2:g≠S:=λe=>by rw[e,o]at g3;cases g3
     exact⟨g,c,g1,(RZ _ _ _ _ e1).trans g2,b0,fr,(RZ _ _ _ _ e2).trans g3,g4⟩
    have c4:RH (MQ p S q f m #[D,E,F,G,ae M,K,L,O,P,Q,aU,d] W (k+1) (r.setCell (ag S 10) (.slice i (k+1) l)) (.slice i (k+1) l)):=⟨h5,by rw[c3];rfl,YB a a9 _,h4⟩;go_wp2_with fail;exact⟨⟨k+1,_,U.2.2,by go_num,c4⟩,by have:=U.2.2;first|(simp[intOf];done)|(simp[intOf];omega)⟩
  .obtain rfl:k=M:=aa;go_wp2_with fail;go_end0;exact⟨rfl,_,s⟩
structure KU(b:By)(k:Nat)(v:Dv):Prop where
 slot:k<b.N
 dv:b.dv k=some v
 mL:v.fO=false/\v.d.failed=false
 lit:b.bq=false/\b.aY=none
theorem KU.rd(h:KU b k U):b.op k bS=(b,0):=by
 obtain⟨o,i,a,c⟩:=b;obtain⟨p,d,⟨l,m⟩,f,g⟩:=h;simp only at d f g;subst f;subst g;have n:U.use=U:=Dv.hM l;simp only[By.op,By.out,d,n,bS,m,By.tick,By.put];simp;funext j;by_cases e:j=k
 .subst e;simp[d]
 .simp [e]
theorem pT[Lo](B k d:Nat)(b:By)(v:Dv)(w:M)(h:aB w B b)(f:KU b k v)(r:d<v.d.n):
  aD 185 #[H B,Y k,Y d] w λe j=>(∃l,aK e (.tuple #[l,aG 0])/\dT j l (v.d.view d))/\aB j B b/\Fr TB aF w j:=by
 refine(mq B k d b w h f.slot λu i=>by rw[f.dv]at i;cases i;exact r).mono ?_;rintro e j ⟨a,n,c,rfl,m,s,p⟩;rw[f.rd]at m p|-;obtain⟨u,i,E,q,t⟩:=p rfl;rw[f.dv]at i;cases i;rw[Dv.hM f.mL.1]at q;obtain⟨F,G,x,y⟩:=q;cases x;obtain⟨g,o,z,A,rfl,C,D⟩:=y.resolve_left ai;exact⟨⟨_,rfl,g,o,c,z,A,rfl,t,C,D⟩,m,s⟩
theorem Bh(v:QN)(f:aO)(a b t:Nat)(w:M)(h:dT w v f)(l:∀k,k<128->f k<256)(c:(⟨a,b,t⟩:Ck).ok)(g:aC f (aW a b t)):
  aD 193 #[v] w λe i=>aK e (.tuple #[.agg #[bj a,bj b,Y t],aG 0])/\ar w i:=by
 refine(Ki v f w h l).mono ?_;rintro e i ⟨p,k,rfl,m,⟨rfl,d,n⟩|⟨_,d⟩⟩
 .have o:=Ck.cF d n;have j:=Ck.cF c (show aC f (Ck.enc ⟨a,b,t⟩)from g);rw[o]at j;subst j;exact⟨rfl,m⟩
 .exact absurd g (d ⟨a,b,t⟩ c)
theorem xW(N:Nat)(S:dj)(p:Nat)(h:p*128=N):(az N λj=>S (j/128) (j%128))++az 128 (S p)=az (N+128) λj=>S (j/128) (j%128):=by
 apply TZ;intro j;by_cases a:j<N
 .rw [RN (by rw[aH];exact a),a' _ _ _ a,a' _ _ _ J]
 .by_cases b:j<N+128
  .rw [RK (by rw[aH];omega),aH,a' _ _ _ J,a' _ _ _ b,show j/128=p by omega,show j%128=j-N by omega]
  .rw [RO (by rw[RE,aH,aH];omega),RO (by rw[aH];omega)]
def E_[Lo](B J:Nat)(b:By)(S:dj)(N g t d:Nat)(w:M)(e:SG)(f:M):Prop:=
 ∃W r a c L,aK e (.tuple #[H W,.slice a L.length c,aG 0])/\pQ S N g t d L/\lR S N g t d L/\bl L<=N/\mU w.heap.size f (.slice a L.length c) d (L.map λP=>bL P P.N)/\
  aB f B b/\bG f W r B J ⟨g,d+L.length,true,none,0,N,t,bl L⟩/\Fr TB aF w f/\w.heap.size<=W/\w.heap.size<=r
structure Mr[Lo](B:Nat)(b:By)(S:dj)(w w3:M)(p:Nat)(v:QN)(wr:M):Prop where
 own:wr.ownsRow w3.heap.size 5 1 v (p*128) (az (p*128) fun j=>S (j/128) (j%128))
 cg:aB wr B b
 bU:Fr TB aF w3 wr
theorem Hs[Lo](d1:kP)(B J N o z t:Nat)(b:By)(v:Dv)(S:dj)(w:QL)(h:aB w B b)(g9:KU b J v)(d2:5<=N)(O:N<=2048)(a0:2+N<=v.d.n)(P:v.d.eG)(a1:cI o z)(g4:t<N)(h0:aC (v.d.view 1) (aW o z t))(d3:∀k,k<N->S k=v.d.view (2+k)):
  aD 129 #[aq B,ae J,ae N] w (E_ B J b S N o t z w):=by
 have d4:=h.lo;have d5:=h.lt;have d6:=ad (λW=>ux N W d2 O);have a2:=ad (λa3 (h8:a3<v.d.n) W (h9:aB W B b)=>pT B J a3 b v W h9 g9 h8);have d7:=ad (λc8 W (i0:dT W c8 (v.d.view 1))=>Bh c8 _ o z t W i0 (λk a4=>Dk.lG P 1 k a4) ⟨a1,show t<2048 by omega⟩ h0);have d8:=ad (λu W (i1:u<=N)=>uu N t u W d2 O g4 i1);have A:=jY d4 d5 a0 P a1 g4 d3;have i2:=ad h;have e3:decide ((N:Int)<=(t:Int))=false:=decide_eq_false aa;have i3:decide (N<=t)=false:=decide_eq_false aa;obtain⟨i4,d9,e0,e1,e2⟩:=SN j';clear a0;go_enter func129,ntmps129;go_wp2_with(first|(go_at_call 83;refine(d6 _).mono ?_;rintro e w1 ⟨rfl,rfl⟩)|(go_at_call 185;refine(a2 1 (by have:=A.2.2.1;omega) w i2).mono ?_;rintro e w2 ⟨⟨c8,rfl,e4⟩,a6,e6⟩;have H2:=aM e4 a6 e6)|(go_at_call 193;refine(d7 c8 w2 H2.1).mono ?_;rintro e w3 ⟨rfl,e7⟩;have H3:=ad e7));obtain⟨q,r⟩:=ah (w3.alloc (ao #[bj o,bj z,ae t] 156));have U:ar w2 q:=by rw[<-r];exact aI H3 _
 have V:aZ q w3.heap.size (ao #[bj o,bj z,ae t] 156):=by rw[<-r];exact QM _ _
 obtain⟨C,c9⟩:=ah w3.heap.size;rw[c9]at V;have a7:Fr TB aF w q:=H2.2.2.then U;have H4:=bX r c9 V a7 (show w.heap.size<=C by rw[<-c9];exact QO H2.2.2.size H3.size);have e8:RH (Mr B b S w q 0 aU q):=⟨by rw[WI];exact SS _ _ _ _,H2.2.1.below U,Fr.refl _ _ _⟩;clear r U V c9 a7;rw[H4.1,H4.2.1];go_loopw [12,44] (λa i wr=>∃p:Nat,i= ae p/\p<=N/\RH (Mr B b S w q p a wr)) (λ_ i _=>N-(intOf i).toNat)
 case atStart=>exact⟨0,rfl,QX _,e8⟩
 case round=>
  rename_i i5 i6;obtain⟨p,rfl,j2,D⟩:=hrel;have c:=D.own;obtain⟨g7,a8,rfl,-⟩:=av c;have X:=D.bU.hp H4.2.2.1 rfl;by_cases E:p<N
  .have i7:(p:Int)<(N:Int):=aa;obtain⟨Q,e9⟩:=ah (p*128);obtain⟨P2,Z⟩:=ah (2+p);have e5:QQ.wrap (2+(p:Int))=(P2:Int):=bf;have a9:=ad (a2 P2 (by have:=A.2.2.1;omega) wr D.cg);rw[<-Z,<-d3 p E,Z]at a9;have d0:=aM e9 E X;have i8:Q<=262144:=aa;rw[e9];clear e9 Z;go_wp2_with(first
    |(go_at_call 185;refine a9.mono ?_;rintro e d ⟨⟨i9,rfl,b0⟩,F,s⟩
      obtain⟨b5,o5,c5,f0,f1,rfl,j0,m,b1⟩:=b0;have f2:RH (∀j u,(az 128 (S p))[j]?=some u->d.cell? (((ag b5 o5):TF).add j)=some u):=λj u H=>by
       by_cases b2:j<128
       .rw [a' _ _ _ b2]at H;rw[iK,<-H];exact(RD d b5 (o5+j) f0 5 f1 m).trans (b1 j b2)
       .rw [RO (by rw[aH];omega)]at H;cases H
      have f:=s.own D.own rfl λ_ _ h=>h;rw[d0.1]at f;have g:=aM f F s;have b3:q.heap.size<=d.heap.size:=QO D.bU.size s.size;clear f F s m b1)
    |(at_builtin;refine aT _ rfl _ _ 41 rfl q.heap.size 5 i4 (.int .u8 0) 1 1 UX d9 e0 e1 e2 rfl ai (.slice g7 Q a8) Q _ rfl g.1 (ag b5 o5) 128 _ (az 128 (S p)) rfl (by rw[aH]) f2 (df _ _) ai (by unfold UT;omega) aa b3 ?_;intro j3 w6 c b4;obtain⟨j4,j1,rfl,-⟩:=av c;have f3:=aA c b4))
   have f4:Lo.lo<=q.heap.size:=QO (QO A.1 (TY A.2.1)) H4.2.2.2.1.size;have f5:SM q.heap.size d w6:=f3.2.below aj b3 λk a4=>(bm g.1 a4).2;have f6:=d0.2.1;refine⟨⟨p+1,by go_num,f6,⟨?_,g.2.1.fn (f3.2.Oq g.1 f4 ai) rfl,(D.bU.tr g.2.2).low f5 (QP _)⟩⟩,by simp[intOf];omega⟩;rw[show(p+1)*128=Q+128 by have:=d0.1;omega,<-xW Q S p d0.1];exact f3.1
  .obtain rfl:p=N:=aa;obtain⟨g5,rfl⟩:∃g5,g7=some (ag g5 0):=by rcases av c with⟨j5,j6,e,h⟩;cases e;exact h.resolve_left aa
   have G:∀k,k<p->dT wr (.slice (some ⟨g5,0+k*128,none⟩) 128 (a8-k*128)) (S k)/\∀j,j<128->S k j<256:=λk a4=>by
    refine⟨?_,λj H=>by rw[d3 k a4];exact Dk.lG P _ _ H⟩;rcases c.2 with⟨h,_⟩|⟨g6,c6,b6,e,h1,h2,h3,h4,h5,h6⟩
    .cases h
    .cases e;refine⟨g5,0+k*128,a8-k*128,b6,_,rfl,aa,h2,λj H=>?_⟩;have h7:=congrArg (λl:List QN=>l[k*128+j]?) h6;simp only[TT]at h7;rw[ak aa,a' _ _ _ aa,show(k*128+j)/128=k by omega,show(k*128+j)%128=j by omega]at h7;rw[RQ,<-UG];exact h7
   have K:p*128<=a8:=by
    rcases c.2 with⟨h,_⟩|⟨g6,c6,b6,e,h1,h2,h3,_⟩
    .cases h
    .cases e;omega
   have b7:=ad (Hq d1 g5 0 a8 p t o z S wr d2 O A.2.2.2.2.2.1 K A.2.2.2.2.1 G);have f7:=aM X D.cg D.bU;obtain⟨n,a0⟩:=ah (p*128);rw[a0]at b7|-;obtain⟨c0,c1,c2⟩:=cr X;clear G K a0;go_wp2_with(first|(go_at_call 194;refine b7.mono ?_;rintro e d ⟨m,L,j7,q1,q2,q3,⟨a5,c5,rfl⟩,rfl,q4⟩;have g:=bX m q1 q2 q3 q4;obtain⟨k0,k1,k2⟩:=kp m C c2;obtain⟨q8,M⟩:=ah (z+L.length);obtain⟨m8,b8⟩:=ah ((t+bl L)%p);obtain⟨u8,x⟩:=ah (bl L);obtain⟨l8,R⟩:=ah L.length;have H8:=aM M x R;rw[M,b8,x,R];rw[x]at q3;clear M b8 x R)|(go_at_call 84;refine(d8 u8 _ q3).mono ?_;rintro e w7 ⟨rfl,f8,I⟩;obtain⟨k3,k4,k5⟩:=kp I C dI;have h7:=(I.block _ dI).trans (QM d (ao #[.slice a5 l8 c5,bj q8,ae m8,ae u8] 279));obtain⟨k6,k7,k8⟩:=cr h7;have H7:=aM f8 I h7));go_region_held3(λf9=>f9.cell? (ag C 0)=some (bj o)/\f9.cell? (ag d.heap.size 1)=some (bj q8)/\f9.cell? (ag d.heap.size 0)=some (.slice a5 l8 c5)) ((simp[*,go_sem];done)) (first|fail)
   all_goals go_wp2
   have g0:(d.alloc (ao #[.slice a5 l8 c5,bj q8,ae m8,ae u8] 279)).heap.size=d.heap.size+1:=aJ;have g8:=H7.1;rw[g0]at g8;have g1:ar d (d.alloc (ao #[.slice a5 l8 c5,bj q8,ae m8,ae u8] 279)):=aI aj _;obtain⟨W9,Y⟩:=ah ((w7.alloc (ao #[aq B,ae J,bj o,.pointer (some ⟨d.heap.size+1,0,none⟩),bj q8,.bool true,.pointer none,aG 0] 153)).drew);have b9:ar w7 W9:=by rw[<-Y];exact aV (aI aj _)
   have g2:aZ W9 w7.heap.size (ao #[aq B,ae J,bj o,.pointer (some ⟨d.heap.size+1,0,none⟩),bj q8,.bool true,.pointer none,aG 0] 153):=by rw[<-Y];exact QM w7 _
   have y:ar d w7:=g1.trans (H7.2.1.mono aJ);have c3:ar d W9:=y.trans (b9.mono y.size);have c4:ar wr W9:=g.1.trans (c3.mono g.1.size);have c7:w.heap.size<=wr.heap.size:=QO H4.2.2.2.1.size f7.2.2.size;have f:w.heap.size<=d.heap.size:=QO c7 g.1.size;have g3:=QO A.1 (TY A.2.1);rw[Y];go_ret3;refine⟨w7.heap.size,d.heap.size+1,a5,c5,L,by rw[H8.2.2];rfl,g.2.1,g.2.2.1,g.2.2.2.1,(g.2.2.2.2.wide c7).below c3,f7.2.1.below c4,⟨none,?_,?_,rfl,?_⟩,(H4.2.2.2.1.tr f7.2.2).then c4,QO f y.size,aa⟩
   .rw [H8.1];exact g2
   .rw [H8.2.1];exact g8.fr (T:= []) (Fr.af b9) rfl
   .exact ⟨QO (QO g3 f) y.size,aa⟩
abbrev qz(g:au)(u:Su)(a:QN):Array QN:= #[.bool true,bj u.id,bj u.ev,bj u.sf,Y u.rl,Y g.M,Y g.c,Y g.s,Y u.N,.bool u.lz,.bool u.lost,a,Y u.cur]
abbrev nS:Array QN:= #[.bool false,.int .u64 0,.int .u64 0,.int .u64 0,Y 0,Y 0,Y 0,Y 0,Y 0,.bool false,.bool false,aU,Y 0]
def Su.sl(u:Su)(k:Nat):Su:={u with rl:=k}
structure mV(w:QL)(b cap:Nat)(g:au)(u:Su)(hs:Nat->Bool):Prop where
 cap:g.M+1<=cap
 aL:∃cs fr,w.heap[b]? =some (.cells cs 265 fr)/\∀k,k<=g.M->∃sv,(hs k=true->kh w sv g.M u.st)/\∀(j:Nat) (x:QN),(if hs k=true then qz g (u.sl k) sv else nS)[j]? =some x->cs[k*13+j]? =some x
theorem mV.below{a:Nat->Bool}(h:mV w n m g u a)(b:ar w W):mV W n m g u a:=by obtain⟨d,f,i,c,j⟩:=h;refine⟨d,f,i,(b.block n (Z_ c)).trans c,λk l=>?_⟩;obtain⟨o,p,q⟩:=j k l;exact⟨o,λe=>(p e).below b,q⟩
theorem Su.IE(h:u.ok g)(a:k<=g.M):(u.sl k).ok g:=⟨h.bZ,h.id,h.ev,a,h.ring,h.st,h.one,h.cur⟩
theorem tn{d e f g x4 i k l o p a b c:QN}(h:∀(j:Nat) (x:QN),(#[d,e,f,g,x4,i,k,l,o,p,a,b,c]:Array QN)[j]?=some x->w.cell? ⟨n,m+j,none⟩=some x):
  w.cell? (R n m)=some d/\w.cell? ⟨n,m+1,none⟩=some e/\w.cell? ⟨n,m+2,none⟩=some f/\w.cell? ⟨n,m+3,none⟩=some g/\w.cell? ⟨n,m+4,none⟩=some x4/\w.cell? ⟨n,m+5,none⟩=some i/\w.cell? ⟨n,m+6,none⟩=some k/\w.cell? ⟨n,m+7,none⟩=some l/\w.cell? ⟨n,m+8,none⟩=some o/\w.cell? ⟨n,m+9,none⟩=some p/\w.cell? ⟨n,m+10,none⟩=some a/\w.cell? ⟨n,m+11,none⟩=some b/\w.cell? ⟨n,m+12,none⟩=some c:=
 ⟨h 0 _ rfl,h 1 _ rfl,h 2 _ rfl,h 3 _ rfl,h 4 _ rfl,h 5 _ rfl,h 6 _ rfl,h 7 _ rfl,h 8 _ rfl,h 9 _ rfl,h 10 _ rfl,h 11 _ rfl,h 12 _ rfl⟩
theorem mW(b i q k:Nat)(g:au)(u:Su)(s:Nat->Bool)(w:QL)(h:mV w b i g u s)(t:u.ok g)(F:k<=g.M)(G:aZ w q (ao #[a_ b (g.M+1) i] 190)):
  aD 265 #[ae k,aq q] w λe Q=>aK e (.bool (s k))/\ar w Q:=by
 obtain⟨l,S,T,m,U⟩:=h;obtain⟨v,c,V⟩:=U k F;have K:=t.bZ.m16;have W:=t.bZ.m3;obtain⟨X,x1,Z⟩:=cr G;have a:=λj x e=>(RD w b (k*13+j) S 265 T m).trans (V j x e);have H:QQ.wrap (((g.M+1:Nat):Int)-1)=(g.M:Int):=bf;have N:(k:Int)<((g.M+1:Nat):Int):=aa;obtain⟨n,L⟩:=ah (g.M+1);rw[L]at X H N l;have O:=aA G L;have M:=ad t;cases d:s k
 case false=>rw[d]at a;obtain⟨R,I,Y,c3,c4,c5,J,c7,c8,c9,y,z,A⟩:=tn a;go_enter func265,ntmps265;go_wp2;go_ret;exact⟨rfl,aI aj _⟩
 case true=>
  rw[d]at a;obtain⟨R,I,Y,c3,c4,c5,J,c7,c8,c9,y,z,A⟩:=tn a;have c:=c d;obtain⟨B,C⟩:=ah (w.alloc (ao (qz g (u.sl k) v) 265));have f:ar w B:=by rw[<-C];exact aI aj _
  have o:aZ B w.heap.size (ao (qz g (u.sl k) v) 265):=by rw[<-C];exact QM _ _
  obtain⟨D,P⟩:=ah w.heap.size;rw[P]at o;have E:=ad (rq g (u.sl k) v B (c.below f) (Su.IE M F));obtain⟨s1,s2,s3,s4,s5,rfl,s6⟩:=c;have p:=(f.block q Z).trans O.1;rw[O.2]at p;obtain⟨y0,y1,y2⟩:=cr p;obtain⟨d0,d1,d2⟩:=cr o;have r:=aM C P f;go_enter func265,ntmps265;go_wp2_with fail
  try rw[r.1,r.2.1]
  refine E.mono ?_;rintro e w1 ⟨rfl,m⟩;obtain⟨k0,k1,k2⟩:=kp m D d2;obtain⟨k3,k4,k5⟩:=kp m q y2;have a0:=ad m;have e3:(u.sl k).rl=k:=rfl;go_wp2;go_ret;exact⟨aJ,r.2.2.trans (a0.mono r.2.2.size)⟩
theorem vS(b a:Nat)(g:au)(u:Su)(f:Nat->Bool)(w:QL)(h:mV w b a g u f)(i:u.ok g):
  aD 187 #[a_ b (g.M+1) a] w λe c=>∃d,aK e (.func (.func 265) #[] #[H d])/\ar w c/\c.heap[d]?=some (N #[a_ b (g.M+1) a] 190):=by
 go_enter func187,ntmps187;go_wp2;go_ret;exact⟨_,rfl,aI aj _,QM _ _⟩
theorem E'(v:QN)(n:Nat)(s:aO)(w:M)(h:kh w v n s)(V:1<=n)(fg:n<=1000):
  aD 143 #[v] w λe m=>(∃b c d,aK e (a_ b n c)/\n<=c/\w.heap.size<=b/\m.heap[b]?=some (ao d 122)/\d.size=c/\∀k,k<n->d[k]?=some (.int .u8 (s k:Nat)))/\ar w m:=by
 obtain⟨b,o,f,d,D,rfl,E,G,K⟩:=h;have p:=aA G K;obtain⟨L,O,t,x,y⟩:=SN oB;have F:=λw=>Lib.run_eql_slice_nil (P:=prog) w 115 122 (some (R b o)) n f 0 0 underlying115;go_enter func143,ntmps143;go_wp2_with(first|(at_builtin;refine wpList_append_own _ rfl _ _ 115 rfl w.heap.size 122 L (.int .u8 0) 1 1 underlying115 O t x y rfl ai _ 0 [] rfl (World.ownsRow_made w #[] 0 (QP _) ai rfl) (R b o) n f (bM n λk=>.int .u8 (s k:Nat)) rfl (by rw[bF,UI]) ?c1 ?c2 ?c3 ?c4 ?c5 ?_))
 case c1=>
  intro q u r;by_cases a:q<n
  .rw [cc _ _ _ a]at r;rw[iK,ZG _ _ _ (QY w _ ((RD w b (o+q) d 122 D p.1).trans (p.2 q a))),(RD w b (o+q) d 122 D p.1).trans (p.2 q a)];exact r
  .rw [RO (by rw[bF];omega)]at r;cases r
 case c2=>intro u Q;obtain⟨k,-,rfl⟩:=SA.1 Q;rfl
 case c3=>unfold UT;omega
 case c4=>omega
 case c5=>simp
 intro W m i z _;have j:ar w m:=(aI aj _).grown z aJ (λk A=>by simp[XA]at A;omega);go_wp2;go_ret;refine⟨?_,j⟩;rcases i.2 with⟨_,X⟩|⟨g,c,B,rfl,S,T,Z,H,N,U⟩
 .omega
 .refine ⟨g,c,B,aJ,J,S,T,J,λk A=>?_⟩;have C:=congrArg (λl:List QN=>l[k]?) U;simp only[VE,cc _ _ _ A,TT]at C;rw[ak J]at C;rw[<-UG];exact C
theorem Ht(g:au)(u:Su)(k j:Nat)(c a:QN)(w:M):aD 190 #[.agg (dr g (u.sl k) c),.agg (dr g (u.sl j) a)] w λe d=>aK e dU/\ar w d:=by obtain⟨h,i,l⟩:=g;obtain⟨id,m,n,o,N,p,b,q,f⟩:=u;simp only[Su.sl];go_enter func190,ntmps190;go_wp2_with fail;go_ret;exact⟨rfl,aI (aI aj _) _⟩
def hP(g:au)(u:Su):List (Nat × QN)->List QN
 | [] => []
 |p::l=>(dr g (u.sl p.1) p.2).toList++hP g u l
theorem pU(g:au)(u:Su):∀(l:List (Nat × QN)) (p:Nat × QN),hP g u (l++ [p])=hP g u l++(dr g (u.sl p.1) p.2).toList
 | [],p=>by simp[hP]
 |q::l,p=>by show _++hP g u (l++ [p])=(_++hP g u l)++_;rw[pU g u l p,TK]
theorem rP(g:au)(u:Su):∀(l:List (Nat × QN)) (i:Nat) (p:Nat × QN),l[i]?=some p->∀(j:Nat) (x:QN),(dr g (u.sl p.1) p.2)[j]?=some x->(hP g u l)[i*12+j]?=some x
 | [],i,p,h,_,_,_=>by simp at h
 |q::l,0,p,h,j,x,a=>by simp at h;subst h;have b:j<12:=(RM.1 a).1;show((dr g (u.sl q.1) q.2).toList++hP g u l)[0*12+j]?=_;rw[WI,RQ,RN (by simpa using b),UG];exact a
 |q::l,i+1,p,h,j,x,a=>by have c:=rP g u l i p (by simpa using h) j x a;show((dr g (u.sl q.1) q.2).toList++hP g u l)[(i+1)*12+j]?=_;rw[RK aQ,show(i+1)*12+j-(dr g (u.sl q.1) q.2).toList.length=i*12+j by simp;omega];exact c
def xX(B:Nat)(w:M)(v:QN)(g:au)(u:Su)(l:List (Nat × QN)):Prop:=w.ownsRow B 117 12 v l.length (hP g u l)
theorem Ot:(prog.info? 117).map (λi=>(i.zero,i.size,i.bytes))=some (some (.agg #[.int .u64 0,.int .u64 0,.int .u64 0,Y 0,Y 0,Y 0,Y 0,Y 0,.bool false,.bool false,aU,Y 0]),12,104):=aE
theorem xX.cell{l:List (Nat × QN)}(h:xX n w (a_ m l.length k) g u l){p:Nat × QN}(a:l[i]?=some p)(j:Nat)(x:QN)(b:(dr g (u.sl p.1) p.2)[j]?=some x):w.cell? ⟨m,i*12+j,none⟩=some x:=by have c:=h.cells (g:=m) rfl (i*12+j) x (rP g u l i p a j x b);rwa[iK,RQ]at c
theorem tq{b o:Nat}{x0 x1 x2 x3 x4 x5 x6 x7 x8 x9 x10 x11:QN}(h:∀(j:Nat) (x:QN),(#[x0,x1,x2,x3,x4,x5,x6,x7,x8,x9,x10,x11]:Array QN)[j]?=some x->w.cell? ⟨b,o+j,none⟩=some x):
  w.cell? (R b o)=some x0/\w.cell? ⟨b,o+1,none⟩=some x1/\w.cell? ⟨b,o+2,none⟩=some x2/\w.cell? ⟨b,o+3,none⟩=some x3/\w.cell? ⟨b,o+4,none⟩=some x4/\w.cell? ⟨b,o+5,none⟩=some x5/\w.cell? ⟨b,o+6,none⟩=some x6/\w.cell? ⟨b,o+7,none⟩=some x7/\w.cell? ⟨b,o+8,none⟩=some x8/\w.cell? ⟨b,o+9,none⟩=some x9/\w.cell? ⟨b,o+10,none⟩=some x10/\w.cell? ⟨b,o+11,none⟩=some x11:=
 ⟨h 0 _ rfl,h 1 _ rfl,h 2 _ rfl,h 3 _ rfl,h 4 _ rfl,h 5 _ rfl,h 6 _ rfl,h 7 _ rfl,h 8 _ rfl,h 9 _ rfl,h 10 _ rfl,h 11 _ rfl⟩
theorem Fa(B c b d k:Nat)(g:au)(u:Su)(f:Nat × QN)(l:List (Nat × QN))(p:QN)(w:M)(h:xX B w (a_ b (l.length+1) d) g u (f::l))(q:aZ w c (N #[a_ b (l.length+1) d] 269)):
  aD 189 #[.agg (dr g (u.sl k) p),H c] w λe r=>aK e iD/\ar w r:=by
 obtain⟨s,G,K⟩:=cr q;have a:=h.cell (i:=0) rfl;simp only[WI]at a;obtain⟨t,v,x,c3,c4,c5,y,z,A,C,j,m⟩:=tq a;have o:=I (λW=>Ht g u k f.1 p f.2 W);obtain⟨n,D⟩:=ah (l.length+1);rw[D]at s;have L:(0:Int)<(n:Int):=J;have O:=QY w _ t;simp only[RQ]at v x c3 c4 c5 y z A C j m;go_enter func189,ntmps189;go_wp2_with fail
 go_region_with (first|(go_at_call 190;refine(o _).mono ?_;rintro e P ⟨rfl,E⟩))
 all_goals
  have F:=I E
 all_goals go_wp2
 all_goals go_ret
 all_goals exact⟨rfl,(ct (aI aj _) 1:ar w _).trans (F.mono aJ)⟩
theorem Fb(B c b a:Nat)(g:au)(u:Su)(o:Nat × QN)(l:List (Nat × QN))(w:M)(h:xX B w (a_ b (l.length+1) a) g u (o::l))(v:aZ w c (ao #[a_ b (l.length+1) a] 269))(Q:l.length<=100):
  aD 266 #[a_ b (l.length+1) a,.func (.func 189) #[] #[aq c]] w λe C=>aK e (Y (-1))/\ar w C:=by
 have D:=I (λk E W (d:ar w W)=>Fa B c b a k g u o l E W (aP d h) ((d.block c (Z_ v)).trans v));have F:=I (λi p (q:(o::l)[i]?=some p) W (d:ar w W)=>tq λj x G=>xX.cell (aP d h) q j x G);obtain⟨n,y⟩:=ah (l.length+1);rw[y];have K:=I y;have r:n<=101:=J;go_enter func266,ntmps266;go_wp2;go_loopw [8] (λi wr=>∃k:Nat,i= Y k/\k<=n/\RH (ar w wr)) (λi _=>n-(intOf i).toNat)
 case atStart=>exact⟨0,rfl,QX _,aj⟩
 case round=>
  obtain⟨k,rfl,S,f⟩:=hrel;by_cases m:k<n
  .have z:(k:Int)<(n:Int):=J;obtain⟨p,q⟩:∃p,(o::l)[k]?=some p:=⟨_,RA (by rw[SQ,K.out];exact m)⟩;obtain⟨T,U,V,c3,c4,c5,X,Z,H,N,L,O⟩:=F.out k p q wr f;have s:=I (D p.1 p.2 wr f);have A:=I m;go_wp2_with(first|(go_at_call 189;refine s.mono ?_;rintro e P ⟨rfl,d⟩;have t:RH (ar w P):=f.trans (d.mono f.size)));exact⟨⟨k+1,by go_num,A,t⟩,by have:=A.out;simp[intOf];omega⟩
  .obtain rfl:k=n:=J;go_wp2;go_ret;exact⟨rfl,f⟩
theorem Kr(B c b a:Nat)(g:au)(u:Su)(d:Nat × QN)(l:List (Nat × QN))(w:M)(h:xX B w (a_ b (l.length+1) a) g u (d::l))(f:aZ w c (N #[a_ b (l.length+1) a] 269))(i:l.length<=100):
  aD 188 #[a_ b (l.length+1) a,.func (.func 189) #[] #[H c]] w λe j=>aK e iD/\ar w j:=by
 have k:=I (Fb B c b a g u d l w h f i);go_enter func188,ntmps188;go_wp2_with(first|(go_at_call 266;refine k.mono ?_;rintro e o ⟨rfl,m⟩;have n:=I m));go_ret;exact⟨rfl,n⟩
def jX(a:Nat->Bool):Nat->Nat
 |0=>0
 |k+1=>jX a k+if a k=true then 0 else 1
theorem Ks{a:Nat->Bool}(h:a k=true):jX a (k+1)=jX a k:=by show jX a k+_=_;rw[ak h,VU]
theorem Kt{a:Nat->Bool}(h:a k=false):jX a (k+1)=jX a k+1:=by show jX a k+_=_;rw[al (by rw[h];decide)]
theorem zi(a:Nat->Bool):∀k,jX a k<=k
 |0=>QP _
 |k+1=>by have:=zi a k;unfold jX;split<;>omega
theorem vT{hs:Nat->Bool}{aw:Option Nat}:∀{k:Nat},(∀j,j<k->hs j=false->aw=some j)->jX hs k<=1/\((∀j,j<k->aw≠some j)->jX hs k=0)
 |0,_=>⟨QX _,λ_=>rfl⟩
 |k+1,h=>by
  obtain⟨d,a⟩:=vT (k:=k) λj b=>h j J;unfold jX;cases f:hs k
  case true=>simp only[if_true,VU];exact⟨d,λe=>a λj b=>e j J⟩
  case false=>
   have e:=h k J f;have g:=a λj b c=>by rw[e]at c;cases c;omega
   rw[g];exact⟨aJ,λi=>absurd e (i k J)⟩
abbrev ts(g:au)(u:Su)(a:QN)(b c:Bool):Array QN:= #[bj u.id,bj u.ev,bj u.sf,Y u.rl,Y g.M,Y g.c,Y g.s,Y u.N,.bool u.lz,.bool u.lost,a,Y u.cur,.bool b,.bool c]
structure Hu(D sb c:Nat)(g:au)(u:Su)(hs:Nat->Bool)(w:QL)(k:Nat)(wr:QL):Prop where
 aL:∃ch,wr.heap[D]? =some (N (ts g u (a_ sb g.M c) ch true) 194)
 uY:∃cs,wr.heap[sb]? =some (N cs 122)/\∀m,m<g.M->cs[m]? =some (.int .u8 (if m<k/\hs m=false then 2 else 1:Nat))
 du:ar w wr
theorem Bi(D o c b y L:Nat)(g:au)(u B:Su)(f:Nat->Bool)(t w:QL)(h0:Hu D o c g u f t 0 w)(x:mV t b y g B f)(C:B.ok g)(O:g.M<=c)(b0:t.heap[L]?=some (ao #[a_ b (g.M+1) y] 190))(a0:u.sf<=B.ev)(b6:t.heap.size<=D)(a1:t.heap.size<=o):
  aD 192 #[aq D,a_ b (g.M+1) y,.func (.func 265) #[] #[aq L]] w λe I=>aK e (ae (jX f g.M:Nat))/\Hu D o c g u f t g.M I:=by
 have P:=C.bZ.m16;have a2:=C.bZ.m3;have Q:=ad (λk W (F:k<=g.M) (G:ar t W)=>mW b y L k g B f W (x.below G) C F ((G.block L (Z_ b0)).trans b0));have T:RH (∀k W,k<=g.M->f k=true->ar t W->W.cell? ⟨b,k*13+2,none⟩=some (bj B.ev)/\b<W.heap.size):=λk W F b7 G=>by obtain⟨h1,Y,b8,K,U⟩:=x;obtain⟨c4,h4,h5⟩:=U k F;rw[ak b7]at h5;have h6:=(G.block b (Z_ K)).trans K;exact⟨(RD W b (k*13+2) Y 265 b8 h6).trans (h5 2 _ rfl),Z_ h6⟩
 have a3:=ad h0;have a4:=aS b6 a1 a0 O;obtain⟨b9,d⟩:=h0.aL;obtain⟨c0,l,-⟩:=h0.uY;have a5:RH (D≠o):=λe=>by rw[e,l]at d;exact absurd (VF (RT d)).2.1 ai
 obtain⟨d0,d1,d2⟩:=cr d;obtain⟨n,b1⟩:=ah (g.M+1);obtain⟨M,E⟩:=ah g.M;rw[b1];have c1:=aA b1 E;rw[E]at P a2 d0 Q T|-;go_enter func192,ntmps192;go_wp2;go_loopw [7,17] (λa i wr=>∃k:Nat,a= ae (jX f k:Nat)/\i= ae k/\k<=M/\RH (Hu D o c g u f t k wr)) (λ_ i _=>M-(intOf i).toNat)
 case atStart=>exact⟨0,rfl,rfl,QX _,a3⟩
 case round=>
  obtain⟨k,rfl,rfl,F,q⟩:=hrel;obtain⟨c2,d⟩:=q.aL;obtain⟨Y,l,X⟩:=q.uY;rw[E]at d;obtain⟨d0,d1,d2⟩:=cr d;obtain⟨y0,y1,y2⟩:=cr l;by_cases Z:k<M
  .have b2:(k:Int)<(M:Int):=aa;have y3:=(y0 k).trans (X k (by rw[E];exact Z));rw[al aa]at y3;have A:=aS Z d l X;have J:=ad (λW (G:ar t W)=>Q.out k W F G);have c3:(u.sf:Int)<=(B.ev:Int):=by have:=a4.2.2.1;omega
   obtain⟨N,b3⟩:=ah (jX f k);have b4:N<=16:=by have:=zi f k;omega
   have b5:=ad b3;have c5:(k:Int)<(n:Int):=by have:=c1.1;omega
   rw[b3];cases r:f k
   case true=>
    obtain⟨v1,v2⟩:=T.out k wr F r q.du;rw[r]at J;have s:=ad r;go_wp2_with fail;go_region_held3(λI=>I.cell? (ag D 2)=some (bj u.sf)/\I.cell? ⟨b,k*13+2,none⟩=some (bj B.ev)) ((simp[*,go_sem];done)) (first|(go_at_call 265;refine(J _ (q.du.trans (Below.mono (by go_grown:ar wr _) q.du.size))).mono ?_;rintro e H ⟨rfl,x⟩;obtain⟨k0,k1,k2⟩:=kp x D dI;obtain⟨k3,k4,k5⟩:=kp x b dI;have j:RH (ar wr H):=via bC x))
    all_goals go_wp2
    have z:=A.1;refine⟨⟨k+1,by rw[Ks s.out,b5.out],by go_num,z,⟨c2,?_⟩,⟨Y,?_,λm a6=>?_⟩,q.du.trans (j.mono q.du.size)⟩,by simp[intOf];omega⟩
    .rw [E];exact(j.block D d2).trans A.2.1
    .exact (j.block o y2).trans A.2.2.1
    .have K:=A.2.2.2 m a6;rw[K];by_cases e:m=k
     .subst e;simp[s.out]
     .have U:(m<k+1/\f m=false)↔(m<k/\f m=false):=⟨λh=>⟨aa,h.2⟩,λh=>⟨aa,h.2⟩⟩;simp only[U]
   case false=>
    rw[r]at J;have s:=ad r;go_wp2_with fail;refine nD (S:=λ_=>True) (St:= []) aE ?_;refine qg (i:=0) (v:=.int .u8 1) rfl (λV _=>by go_simp) ?_;simp only[SC,QU,QS,QT,QR,QV,QW];refine qg (i:=1) (v:=.bool true) rfl (λV _=>by go_simp) ?_;simp only[SC,QU,QS,QT,QR,QV,QW];refine qg (i:=2) (v:=.bool true) rfl (λV _=>by go_simp) ?_;simp only[SC,QU,QS,QT,QR,QV,QW];refine qg (i:=3) (v:=.func (.func 265) #[] #[aq L]) rfl (λV _=>by go_simp) ?_;simp only[SC,QU,QS,QT,QR,QV,QW];refine qg (i:=4) (v:= ae k) rfl (λV _=>by go_simp) ?_;simp only[SC,QU,QS,QT,QR,QV,QW];refine gN (i:=5) aE rfl (λc6 a7=>?_);rw[ak aE];have a8:=ad a7;go_simp;refine(J _ (q.du.trans ((ct aj 1:ar wr wr.drew).mono q.du.size))).mono ?_;rintro e H ⟨rfl,x⟩;obtain⟨k0,k1,k2⟩:=kp x D d2;obtain⟨k3,k4,k5⟩:=kp x o y2;have j:RH (ar wr H):=(ct aj 1:ar wr wr.drew).trans x;refine a8 _ _ (.inr λ_=>trivial) ?_
    try simp only[SC,QU,QS,QT,QR,QV,QW]
    refine qg (i:=6) (v:=.bool false) rfl (λV _=>by go_simp) ?_;simp only[SC,QU,QS,QT,QR,QV,QW];refine qg (i:=7) (v:=.bool false) rfl (λV _=>by go_simp) ?_;simp only[SC,QU,QS,QT,QR,QV,QW];refine BD (i:=8) rfl ?_;refine BD (i:=9) rfl ?_;refine BD (i:=10) rfl ?_;refine BD (i:=11) rfl ?_;refine BD (i:=12) rfl ?_;refine BD (i:=13) rfl ?_;refine BD (i:=14) rfl ?_;refine BD (i:=15) rfl ?_;refine BD (i:=16) rfl ?_;refine BD (i:=17) rfl ?_;refine BD (i:=18) rfl ?_;refine BD (i:=19) rfl ?_;simp only[SC,QU,QS,QT,QR,QV,QW];refine qg (i:=20) (v:=.bool false) rfl (λV _=>by go_simp) ?_;simp only[SC,QU,QS,QT,QR,QV,QW];refine qg (i:=21) (v:=.bool false) rfl (λV _=>by go_simp) ?_;simp only[SC,QU,QS,QT,QR,QV,QW];refine nC aE ?_ _;have n1:=a5.out;have n2:=Ne.symm n1;go_wp2;have z:=A.1;have g1:=(j.block D d2).trans A.2.1;have g2:=(j.block o y2).trans A.2.2.1;have R:=A.2.2.2;have a9:=(RM.1 (R k (by rw[E];exact z))).1;refine⟨⟨k+1,by rw[Kt s.out,b5.out];go_num,by go_num,z,⟨true,?_⟩,⟨Y.setIfInBounds k (.int .u8 2),?_,λm a6=>?_⟩,?_⟩,by simp[intOf];omega⟩
    .rw [E];exact heap_setCell_same _ D 12 _ 194 dU ((RW H (ag o k) D _ n1).trans g1)
    .exact (RW _ (ag D 12) o _ n2).trans (heap_setCell_same H o k _ 122 (.int .u8 2) g2)
    .have K:=R m a6;by_cases e:m=k
     .subst e;simp[s.out,a9]
     .have U:(m<k+1/\f m=false)↔(m<k/\f m=false):=⟨λh=>⟨aa,h.2⟩,λh=>⟨aa,h.2⟩⟩;rw[Array.getElem?_setIfInBounds_ne (Ne.symm e),K];simp only[U]
    .exact ((q.du.trans (j.mono q.du.size)).setCell (p:=ag o k) a4.2.1 _).setCell (p:=ag D 12) a4.1 _
  .obtain rfl:k=M:=aa;go_wp2;go_ret;exact⟨rfl,q⟩
abbrev Bj:Array QN:= #[.int .u64 0,.int .u64 0,.int .u64 0,Y 0,Y 0,Y 0,Y 0,Y 0,.bool false,.bool false,aU,Y 0,.bool false,.bool false]
structure Ps(c7:Nat)(g:au)(u:Su)(hs:Nat->Bool)(w7:M)(k ev:Nat)(wr:M):Prop where
 du:SM c7 w7 wr
 H_:∃l v,wr.heap[c7]? =some (N #[v] 269)/\xX (c7+1) wr v g u l/\l.length<=k/\((l= []/\ev=0)\/(l≠[]/\ev=u.ev))/\∀j,j<k->hs j=true->l≠[]
theorem Bk(w:M)(D:Nat)(e f g h x4 i j l m n a b c d:QN):Out (λk=>k=D) w ((((((((((((((w.setCell (R D 0) e).setCell (R D 1) f).setCell (R D 2) g).setCell (R D 3) h).setCell (R D 4) x4).setCell (R D 5) i).setCell (R D 6) j).setCell (R D 7) l).setCell (R D 8) m).setCell (R D 9) n).setCell (R D 10) a).setCell (R D 11) b).setCell (R D 12) c).setCell (R D 13) d):=
 ((((((((((((((Out.refl (λk=>k=D) w).setCell (p:=R D 0) (λ_=>rfl) _).setCell (p:=R D 1) (λ_=>rfl) _).setCell (p:=R D 2) (λ_=>rfl) _).setCell (p:=R D 3) (λ_=>rfl) _).setCell (p:=R D 4) (λ_=>rfl) _).setCell (p:=R D 5) (λ_=>rfl) _).setCell (p:=R D 6) (λ_=>rfl) _).setCell (p:=R D 7) (λ_=>rfl) _).setCell (p:=R D 8) (λ_=>rfl) _).setCell (p:=R D 9) (λ_=>rfl) _).setCell (p:=R D 10) (λ_=>rfl) _).setCell (p:=R D 11) (λ_=>rfl) _).setCell (p:=R D 12) (λ_=>rfl) _).setCell (p:=R D 13) (λ_=>rfl) _
def Ou(g:au)(u:Su)(f:Nat->Bool)(w:QL)(e:SG)(b:QL):Prop:=
 ∃a c h d,aK e (.tuple #[.agg (ts g (u.sl 0) (a_ a g.M c) h true),aG 0])/\ar w b/\g.M<=c/\w.heap.size<=a/\b.heap[a]?=some (N d 122)/\∀m,m<g.M->d[m]?=some (.int .u8 (if f m=false then 2 else 1:Nat))
theorem Bl(b Q:Nat)(g:au)(u:Su)(hs:Nat->Bool)(aw:Option Nat)(w:QL)(o1:mV w b Q g u hs)(j5:u.ok g)(j6:u.lost=false)(g2:∀m,m<g.M->u.st m=1)(o2:hs g.M=true)(g3:∀m,m<g.M->hs m=false->aw=some m):
  aD 128 #[a_ b (g.M+1) Q] w (Ou g u hs w):=by
 have o3:=j5.bZ.m16;have p3:=j5.bZ.m3;obtain⟨M,o4⟩:=ah g.M;obtain⟨g4,g5⟩:=ah ((w.alloc (ao Bj 194)).alloc (ao Bj 194));have e6:ar w g4:=by rw[<-g5];exact aI (aI aj _) _
 have e7:aZ g4 w.heap.size (ao Bj 194):=by rw[<-g5];exact fX _ _ _
 have e9:aZ g4 (w.heap.size+1) (ao Bj 194):=by rw[<-g5];exact fg _ _ _
 have g6:=ad (vS b Q g u hs g4 (o1.below e6) j5);have B:=eM o1 j5 j6 g2 o2 g3;have g7:=aS g5 e6 e7 e9;obtain⟨a0,a1,a2⟩:=cr e7;obtain⟨b0,b1,b2⟩:=cr e9;obtain⟨n,k4⟩:=ah (g.M+1);rw[k4]at g6|-;have e1:¬(n:Int)<4:=aa;have e2:¬(17:Int)<(n:Int):=aa;have p4:decide ((n:Int)<4)=false:=decide_eq_false e1;have p5:decide ((17:Int)<(n:Int))=false:=decide_eq_false e2;have e3:QQ.wrap ((n:Int)-1)=(M:Int):=bf;have J:=aA k4 o4;clear g5 e6 e7 e9 j6 g2 o2 g3 k4 o4;go_enter func128,ntmps128;go_wp2_with fail;rw[show(w.alloc (ao Bj 194)).alloc (ao Bj 194)=g4 from g7.1];refine g6.mono ?_;rintro e w1 ⟨b7,rfl,S,z⟩;obtain⟨w7,g8,a3,g9⟩:=nH w1 (ao #[aU] 269);obtain⟨d,h7⟩:=ah w1.heap.size;rw[h7]at g9 a3;have H7:RH (Ps d g u hs w7 0 0 w7):=⟨aj,[],_,g9,SS _ _ _ _,QP _,.inl ⟨rfl,rfl⟩,λj j7=>aa⟩;have a4:ar w w1:=g7.2.1.trans (S.mono g7.2.1.size);have d6:ar w w7:=a4.trans (a3.mono (by rw[<-h7];exact a4.size));have h0:=(a3.block w.heap.size (by rw[<-h7];exact RS a2 S.size)).trans ((S.block w.heap.size a2).trans g7.2.2.1);have h3:=(a3.block (w.heap.size+1) (by rw[<-h7];exact RS b2 S.size)).trans ((S.block (w.heap.size+1) b2).trans g7.2.2.2);have h4:=(a3.block b7 (by rw[<-h7];exact Z_ z)).trans z;have A:=jY g8 h7 d6 h0 h3 h4 (show w.heap.size+1<d/\b7<d by rw[<-h7];exact⟨RS b2 S.size,Z_ z⟩);clear g8 h7 a4 d6;go_wp2_with fail;rw[A.1,A.2.1];go_loopw [8,30] (λa i wr=>∃k f8:Nat,a= bj f8/\i= ae k/\k<=n/\RH (Ps d g u hs w7 k f8 wr)) (λ_ i _=>n-(intOf i).toNat)
 case atStart=>exact⟨0,0,rfl,rfl,QX _,H7⟩
 case round=>
  obtain⟨k,f8,rfl,rfl,r2,f9⟩:=hrel;obtain⟨l,v,D,K,h5,d7,d8⟩:=f9.H_;have T:ar w wr:=A.2.2.1.trans (f9.du.mono (by have:=A.2.2.2.2.2.2.1;omega));have z:=(f9.du.block b7 A.2.2.2.2.2.2.2).trans A.2.2.2.2.2.1;have h6:=aA T z;by_cases k5:k<n
  .have o5:(k:Int)<(n:Int):=aa;have f0:k<=g.M:=by have:=J.1;omega
   have b8:=ad (mW b Q b7 k g u hs wr (B.1.below T) B.2.1 f0 (by rw[J.1];exact z));obtain⟨h8,g0,rfl,-⟩:=av K;have E:=jY D K h5 d7 d8 k5 f0;obtain⟨p0,p1,p2⟩:=cr D;clear T f0;cases U:hs k
   case true=>
    rw[U]at b8;go_wp2_with(first|(go_at_call 265;refine b8.mono ?_;rintro e L ⟨rfl,F⟩;have f:=ad F;obtain⟨k0,k1,k2⟩:=kp F d p2));have a5:ar w L:=h6.1.trans (f.mono h6.1.size);obtain⟨-,cs,fr,X,f1⟩:=B.1.below a5;obtain⟨p6,C,G⟩:=f1 k E.2.2.2.2.2.2;rw[ak U]at G;have C:=C U;obtain⟨R,I,Y,s4,s5,rfl,s6⟩:=C;obtain⟨c0,c1,c2,c3,c4,c5,c6,p7,c8,c9,p8,p9,q0⟩:=tn λj x e=>(RD L b (k*13+j) cs 265 fr X).trans (G j x e);have h9:=Z_ X;have a6:RH ((L.alloc (ao (dr g (u.sl k) (.slice (some (ag R I)) g.M Y)) 117)).drew.ownsRow (d+1) 117 12 (.slice h8 l.length g0) l.length (hP g u l)):=
     aP (ct aj 1) (aP (aI aj _) (aP f E.2.1))
    have i0:RH (aZ L d (ao #[.slice h8 l.length g0] 269)):=(f.block d p2).trans E.1;have O:RH (∀x,x<=d->(SF h8 l.length g0).ownBlock≠some x):=λx i1 e=>by have:=(bm E.2.1 e).2;omega
    have k6:RH (cs[k*13+2]?=some (bj u.ev)):=G 2 _ rfl;have i2:RH (b<d):=by have h1:=A.2.2.2.2.2.2.1;obtain⟨-,q1,q2,k7,-⟩:=B.1;have h2:=Z_ k7;show b<d;omega
    have i3:l.length<=17:=by have:=E.2.2.1;have:=J.1;omega
    have k8:=bX X a5 U G s6;obtain⟨q3,k9,l0,l1,l2⟩:=SN Ot;obtain⟨f2,Z⟩:=ah l.length;rw[Z]at a6 i3 p0 i0 O;have l3:=ad Z;clear a5 Z
    go_region_law (refine db _ rfl (.tmp 36) (.tmp 42) 269 rfl (d+1) 117 q3 (.agg #[.int .u64 0,.int .u64 0,.int .u64 0,ae 0,ae 0,ae 0,ae 0,ae 0,.bool false,.bool false,aU,ae 0]) 12 104 underlying269 k9 l0 l1 l2 rfl ai (.slice h8 f2 g0) f2 (hP g u l) (by simp[WH]) a6.out (ag L.heap.size 0) 1 1 (dr g (u.sl k) (.slice (some (ag R I)) g.M Y)).toList (by simp[WH]) rfl (SI (cs:=dr g (u.sl k) (.slice (some (ag R I)) g.M Y)) (t:=117) (fr:=(0,0)) (QM L _)) (by intro x i1;simp at i1;rcases i1 with rfl|rfl|rfl|rfl|rfl|rfl|rfl|rfl|rfl|rfl|rfl|rfl<;>rfl) aa (by unfold UT;omega) aa aQ ?_;intro r3 b9 d9 a7;obtain⟨f3,f4,rfl,-⟩:=av d9;have q7:=a7.heap ((RG L (ao (dr g (u.sl k) (.slice (some (ag R I)) g.M Y)) 117) _ k2).trans i0) (O d (QP _));have o6:=a7.heap ((RG L (ao (dr g (u.sl k) (.slice (some (ag R I)) g.M Y)) 117) _ h9).trans k8.1) (O b (TY i2));obtain⟨m0,m1,m2⟩:=cr q7;have r4:=(RD b9 b (k*13+2) cs 265 fr o6).trans k6)
    all_goals
     have a8:RH (b9.ownsRow (d+1) 117 12 (.slice f3 (f2+1) f4) (f2+1) (hP g u (l++ [(k,.slice (some (ag R I)) g.M Y)]))):=by show World.ownsRow _ _ _ _ _ _ _;rw[pU];exact d9
     have l4:RH (SM d L b9):=a7.below ((aV (aI (SV L.heap.size L) _)).mono (TY k2)) aQ λx i1=>by have:=O.out x;by_cases e:x<=d;exact absurd i1 (this e);omega
     have q4:=aA q7 o6;have n1:¬b=d:=by have:=i2.out;omega
     go_wp2;have q5:max (f8:Int) (u.ev:Int)=((u.ev:Nat):Int):=by rcases E.2.2.2.1 with⟨_,h⟩|⟨_,h⟩<;>omega
     have l5:=E.2.2.2.2.2.1;have l6:Out (λx=>x=d) b9 (b9.setCell (ag d 0) (.slice f3 (f2+1) f4)):=(Out.refl (λx=>x=d) b9).setCell (p:=ag d 0) (λ_=>rfl) _;refine⟨⟨k+1,u.ev,by rw[q5],by go_num,l5,(f9.du.trans (f.mono (TY p2))).trans (l4.out.setCell (p:=ag d 0) (QP _) _),l++ [(k,.slice (some (ag R I)) g.M Y)],_,heap_setCell_same b9 d 0 _ 269 (.slice f3 (f2+1) f4) q4.1,?_,?_,.inr ⟨aJ,rfl⟩,λ_ _ _=>aJ⟩,by simp[intOf];omega⟩
     .show World.ownsRow _ _ _ _ _ _ _;rw[RE,l3.out];exact l6.own a8.out λq q6 e=>by have:=(bm a8.out q6).2;have:q=d:=e;omega
     .rw [RE];have:=E.2.2.1;simp;omega
   case false=>
    rw[U]at b8;go_wp2_with(first|(go_at_call 265;refine b8.mono ?_;rintro e L ⟨rfl,F⟩;have f:=ad F;obtain⟨k0,k1,k2⟩:=kp F d p2));have l7:=aP f E.2.1;refine⟨⟨k+1,f8,rfl,by go_num,E.2.2.2.2.2.1,f9.du.trans (f.mono (TY p2)),l,_,(f.block d p2).trans E.1,l7,by have:=E.2.2.1;omega,E.2.2.2.1,λj j7 f5=>?_⟩,by have:=E.2.2.2.2.2.1;simp[intOf];omega⟩;by_cases e:j=k
    .subst e;rw[U]at f5;cases f5
    .exact E.2.2.2.2.1 j aa f5
  .obtain rfl:k=n:=aa;have l8:M<k:=by have:=J.1;have:=J.2;omega
   have i4:=d8 M l8 (by rw[<-J.2];exact B.2.2.2.2.1);have l9:f8=u.ev:=by
    rcases d7 with⟨h,_⟩|⟨_,h⟩
    .exact absurd h i4
    .exact h
   subst l9;obtain⟨p0,m3,rfl⟩:=List.exists_cons_of_ne_nil i4;obtain⟨h8,g0,rfl,m4⟩:=av K;obtain⟨q8,rfl⟩:=m4.resolve_left aJ;have a9:m3.length<=100:=by simp at h5;omega
   have e0:=ad (λW (b3:ar wr W)=>Kr (d+1) d q8 g0 g u p0 m3 W (aP b3 K) ((b3.block d (Z_ D)).trans D) a9);have m5:RH (∀W,ar wr W->aD 265 #[ae M,aq b7] W λe b9=>aK e dU/\ar W b9):=λW b3=>by have h:=mW b Q b7 g.M g u hs W ((B.1.below T).below b3) B.2.1 (QP _) ((b3.block b7 (Z_ z)).trans (by rw[J.1];exact z));rw[B.2.2.2.2.1]at h;rw[<-J.2];exact h
   have f6:=(f9.du.block w.heap.size (by have:=A.2.2.2.2.2.2.1;omega)).trans A.2.2.2.1;have g1:=aS D T f6 z;obtain⟨f2,Z⟩:=ah m3.length;simp only[SQ,Z]at D e0;obtain⟨c0,c1,c2⟩:=cr D;obtain⟨d0,d1,d2⟩:=cr f6;clear T a9 f6 Z;go_wp2_with(first|(go_at_call 188;refine(e0 _ (by first|exact aj|go_grown)).mono ?_;rintro e L ⟨rfl,F⟩;have f:RH (ar wr L):=F));refine(m5 _ f).mono ?_;rintro e H ⟨rfl,m6⟩;have P:ar wr H:=f.trans (m6.mono f.size);have y:ar w H:=g1.2.1.trans (P.mono g1.2.1.size);obtain⟨-,cs,fr,X,f1⟩:=B.1.below y;obtain⟨p6,C,G⟩:=f1 g.M (QP _);rw[ak B.2.2.2.2.1,J.2]at G;have C:=C B.2.2.2.2.1;have i5:=ad C;obtain⟨R,I,Y,s4,s5,rfl,s6⟩:=C;obtain⟨j8,j9⟩:=ah (H.alloc (ao (ts g (u.sl M) (.slice (some (ag R I)) g.M Y) false true) 194));have b4:ar H j8:=by rw[<-j9];exact aI aj _
   have d3:aZ j8 H.heap.size (ao (ts g (u.sl M) (.slice (some (ag R I)) g.M Y) false true) 194):=by rw[<-j9];exact QM _ _
   have h9:=Z_ X;obtain⟨z0,z1,z2,z3,z4,z5,z6,z7,z8,z9,q9,r0⟩:=tq (w:=H) (b:=b) (o:=M*13+1) (x0:=.int .u64 ((u.sl M).id:Nat)) (x1:=.int .u64 ((u.sl M).ev:Nat)) (x2:=.int .u64 ((u.sl M).sf:Nat)) (x3:= ae ((u.sl M).rl:Nat)) (x4:= ae g.M) (x5:= ae g.c) (x6:= ae g.s) (x7:= ae ((u.sl M).N:Nat)) (x8:=.bool (u.sl M).lz) (x9:=.bool (u.sl M).lost) (x10:=.slice (some (ag R I)) g.M Y) (x11:= ae ((u.sl M).cur:Nat))
    λj x j7=>by have m7:j<12:=(RM.1 j7).1;have:=(RD H b (M*13+(1+j)) cs 265 fr X).trans (G (1+j) x (by rw[<-j7];match j,m7 with|0,_=>rfl|1,_=>rfl|2,_=>rfl|3,_=>rfl|4,_=>rfl|5,_=>rfl|6,_=>rfl|7,_=>rfl|8,_=>rfl|9,_=>rfl|10,_=>rfl|11,_=>rfl));rwa[<-UZ]at this
   obtain⟨V,hV⟩:=ah H.heap.size;rw[hV]at d3;have m8:=ad (E' _ g.M u.st j8 (i5.below b4) aa aa);have b5:=eM j9 hV (y.trans (b4.mono y.size)) d3 (i5.below b4) s6;obtain⟨v0,v1,v2⟩:=cr d3;have i6:=(P.block w.heap.size (Z_ g1.2.2.1)).trans g1.2.2.1;have r:=bX (B.1.below y) ((P.block b7 (Z_ g1.2.2.2)).trans g1.2.2.2) y i6 b4;clear P y j9 b4 d3 hV;go_wp2_with fail;rw[show H.alloc (ao (ts g (u.sl M) (.slice (some (ag R I)) g.M Y) false true) 194)=j8 from b5.1,b5.2.1];refine m8.mono ?_;rintro e d4 ⟨⟨N,c,m9,rfl,n0,i7,i8,o7,i9⟩,b6⟩;obtain⟨k0,k1,k2⟩:=kp b6 V v2;have j0:=(b6.block V v2).trans b5.2.2.2.1;have s:=eM j0 b6 n0 i7 i8 i9;have n3:(u.sl M).lost=false:=B.2.2.1;go_wp2_with fail;obtain⟨W,b3⟩:=ah ((((d4.setCell (ag V 10) (a_ N g.M c)).setCell (ag V 3) (ae 0)).setCell (ag V 9) iD).setCell (ag V 1) (bj u.ev));have d5:N≠V:=by have:=s.2.2.2.1;omega
   have j1:=b5.2.1;have j2:Hu V N c g (u.sl 0) hs H 0 W:=by
    refine⟨⟨false,?_⟩,⟨m9,?_,λm j3=>?_⟩,?_⟩
    .have h1:=heap_setCell_same _ V 1 _ 194 (bj u.ev) (heap_setCell_same _ V 9 _ 194 iD (heap_setCell_same _ V 3 _ 194 (ae 0) (heap_setCell_same d4 V 10 _ 194 (a_ N g.M c) s.1)));rw[b3]at h1;rw[h1];have j6:(u.sl 0).lost=false:=B.2.2.1;unfold ts;rw[j6];rfl
    .rw [<-b3];exact(RW _ (ag V 1) N _ d5).trans ((RW _ (ag V 9) N _ d5).trans ((RW _ (ag V 3) N _ d5).trans ((RW d4 (ag V 10) N _ d5).trans s.2.2.2.2.1)))
    .rw [s.2.2.2.2.2 m j3,B.2.2.2.1 m j3,al aa]
    .rw [<-b3];have h1:ar H d4:=r.2.2.2.2.trans (s.2.1.mono r.2.2.2.2.size);have k3:H.heap.size<=V:=RY j1;exact(((h1.setCell (p:=ag V 10) k3 _).setCell (p:=ag V 3) k3 _).setCell (p:=ag V 9) k3 _).setCell (p:=ag V 1) k3 _
   have f7:=ad (Bi V N c b Q b7 g (u.sl 0) u hs H W j2 r.1 B.2.1 s.2.2.1 (by rw[J.1];exact r.2.1) B.2.1.ev.2.1 (RY j1) (by have:=s.2.2.2.1;have:=r.2.2.2.2.size;omega));rw[J.1]at f7;rw[b3];have e4:=(vT (hs:=hs) (aw:=aw) (k:=g.M) B.2.2.2.2.2).1;obtain⟨r1,j4⟩:=ah (jX hs g.M);rw[j4]at f7 e4;have e8:¬(1:Int)<(r1:Int):=aa;clear j2 b3 j4 e4;refine f7.mono ?_;rintro e n4 ⟨rfl,hF⟩;obtain⟨n5,n6⟩:=hF.aL;obtain⟨n7,n8,n9⟩:=hF.uY;have o8:=(hF.du.block w.heap.size (by have:=Z_ r.2.2.2.1;omega)).trans r.2.2.2.1;obtain⟨v0,v1,v2⟩:=cr n6;obtain⟨d0,d1,d2⟩:=cr o8;have n1:¬w.heap.size=V:=by have:=Z_ r.2.2.2.1;omega
   have n2:¬w.heap.size=N:=λe=>by have h:=r.2.2.2.1;have:=s.2.2.2.1;have:=r.2.2.2.2.size;have:=Z_ h;omega
   have o0:=aM hF n8 n9;clear o8;go_wp2;refine RB (v:=.tuple #[.agg (ts g (u.sl 0) (a_ N g.M c) n5 true),aG 0]) (by rw[UP rfl];simp[go_sem, *]) rfl ?_;have o9:=Bk n4 w.heap.size (.int .u64 ((u.sl 0).id:Nat)) (.int .u64 ((u.sl 0).ev:Nat)) (.int .u64 ((u.sl 0).sf:Nat)) (ae ((u.sl 0).rl:Nat)) (ae g.M) (ae g.c) (ae g.s) (ae ((u.sl 0).N:Nat)) (.bool (u.sl 0).lz) (.bool (u.sl 0).lost) (a_ N g.M c) (ae ((u.sl 0).cur:Nat)) (.bool n5) dU;have e5:=r.2.2.1.trans (o0.1.du.mono r.2.2.1.size);refine⟨N,c,n5,n7,rfl,e5.trans (o9.below (λk _ e=>RY e.symm) e5.size),s.2.2.1,?_,o9.heap o0.2.1 (λe=>n2 e.symm),λm j3=>?_⟩
   .have:=s.2.2.2.1;have:=b5.2.2.1.size;omega
   .have h:=o0.2.2 m j3;rw[h];simp[j3]
section
theorem Bm(g:au){k:Nat}(h:k<13):gb g k<=gb g (k+1):=by
 match k,h with
 |0,_=>show 0<=8;omega
 |1,_=>show 8<=16;omega
 |2,_=>show 16<=24;omega
 |3,_=>show 24<=32;omega
 |4,_=>show 32<=33;omega
 |5,_=>show 33<=34;omega
 |6,_=>show 34<=35;omega
 |7,_=>show 35<=36;omega
 |8,_=>show 36<=38;omega
 |9,_=>show 38<=40;omega
 |10,_=>show 40<=42;omega
 |11,_=>show 42<=44;omega
 |12,_=>show 44<=44+g.M;omega
theorem tt(g:au){a:Nat}:∀{b:Nat},a<=b->b<=13->gb g a<=gb g b
 |0,h,_=>by obtain rfl:a=0:=J;exact QP _
 |b+1,h,c=>by
  by_cases e:a=b+1
  .subst e;exact QP _
  .exact QO (tt g (b:=b) J J) (Bm g J)
theorem zj(g:au)(u:Su){j i:Nat}(a:gb g j+i<gb g (j+1)):∀{n:Nat},j<n->n<=13->qq g u n (gb g j+i)=xu g u j i
 |n+1,h,c=>by
  unfold qq;by_cases e:j=n
  .subst e;exact jq
  .rw [cW (RS a (tt g J J))];exact zj g u a J J
theorem pV{g:au}{u:Su}{f:aO}(c:aC f (fQ g u))(h:g.M<=16){j i:Nat}(d:j<13)(e:gb g j+i<gb g (j+1)):f (gb g j+i)=xu g u j i:=by have k:=tt g (a:=j+1) (b:=13) J (QP _);have l:gb g 13=44+g.M:=rfl;rw[c _ J];unfold fQ;rw[cW J,cW J];unfold ki;rw[cW J];exact zj g u e d (QP _)
def lU(g:au)(u:Su)(k:Nat)(sv:QN):Array QN:= #[.int .u64 (if 1<k then u.id else 0:Nat),.int .u64 (if 2<k then u.ev else 0:Nat),.int .u64 (if 3<k then u.sf else 0:Nat),Y (if 4<k then u.rl else 0:Nat),Y (if 5<k then g.M else 0:Nat),Y (if 6<k then g.c else 0:Nat),Y (if 8<k then g.s else 0:Nat),Y (if 9<k then u.N else 0:Nat),.bool (if 7<k then u.lz else false),.bool (if 7<k then u.lost else false),sv,Y (if 10<k then u.cur else 0:Nat)]
structure gO[Lo](p S:Nat)(g:au)(u:Su)(f:aO)(W0:QL)(k:Nat)(wr:QL)(sv:QN):Prop where
 rd:fK wr p 128 f (gb g k)
 aL:wr.heap[S]? =some (N (lU g u k sv) 117)
 none:k<13->sv= aU
 own:13<=k->wr.ownsRow W0.heap.size 122 1 sv g.M (bM g.M fun j=> .int .u8 (u.st j:Nat))
 bU:Fr wh aF W0 wr
structure jz[Lo](p S:Nat)(g:au)(u:Su)(f:aO):Prop where
 ok:u.ok g
 eq:aC f (fQ g u)
 lt:∀k,k<128->f k<256
 lp:Lo.lo<=p
 lS:Lo.lo<=S
section
variable [Lo] {p S:Nat} {g:au} {u:Su} {f:aO} {W0 W:QL} {sv:QN}
theorem gO.fS{k q:Nat}{c:Array QN}{e:SG}{d:M}(i:gO p S g u f W0 k W sv)(s:k+1<13)(h:vR p S f q c W e d)(j:q=gb g (k+1))(l:c=lU g u (k+1) sv):aK e (.tuple #[])/\∃a,gO p S g u f W0 (k+1) d a:=by obtain⟨m,n,o,r⟩:=h;exact⟨m,sv,by rw[<-j];exact n,by rw[<-l];exact o,λ_=>i.none J,λh=>J,i.bU.tr r⟩
theorem jz.num{k n x:Nat}(H:jz p S g u f)(a:k<13)(e:gb g k+n<=gb g (k+1))(c:x<256^n)(d:xu g u k=leB x):dp (λj=>f (gb g k+j)) n=x:=
 e_ (λj h=>by rw[pV H.eq H.ok.bZ.m16 a J,d]) c
theorem jz.one{k x:Nat}(H:jz p S g u f)(a:k<13)(e:gb g k+1<=gb g (k+1))(c:x<256)(d:xu g u k=leB x):f (gb g k)=x:=by have h:=pV H.eq H.ok.bZ.m16 (j:=k) (i:=0) a J;rw[VU,d]at h;rw[h];unfold leB;rw[Nat.pow_zero,Nat.div_one,SL c]
def dP(p S:Nat)(g:au)(u:Su)(f:aO)(W0 W:M)(b:aO)(k:Nat)[Lo]:Prop:=
 ∃c h,(DC b)[2*k+1]?=some (.func (.func c) #[] h)/\(∀a w,(UY c a).run prog w=.ok (.enter c a) w)/\aD c (#[aq p,aq S] ++h) W λe i=>aK e (.tuple #[])/\∃d,gO p S g u f W0 (k+1) i d
variable {F:Nat} {b:aO} (H:jz p S g u f) (hF:fV W F b)
include H hF
theorem Ov(a:gO p S g u f W0 0 W sv):dP p S g u f W0 W b 0:=by have _:=hF;refine⟨216,#[],rfl,RP func216 aE rfl,?_⟩;exact(EZ p S f (lU g u 0 sv) W a.rd a.aL H.lp).mono λe c h=>a.fS ai h rfl rfl
theorem Ow(a:gO p S g u f W0 1 W sv):dP p S g u f W0 W b 1:=by have d:=jz.num H (k:=1) (n:=8) (x:=u.id) ai (by show 8+8<=16;omega) (by have:=H.ok.id;omega) rfl;refine⟨281,#[.pointer (some ⟨b 1+1,0,none⟩),.pointer (some ⟨b 1+2,0,none⟩)],rfl,RP func281 aE rfl,?_⟩;refine(EX 221 0 (b 1+1) (b 1+2) p S 8 f (lU g u 1 sv) _ W Ik rfl a.rd ai H.lt a.aL H.lp H.lS hF.f1.b2 hF.f1.b3).mono λe i h=>?_;exact a.fS ai h rfl (by have c:dp (λj=>f (8+j)) 8=u.id:=d;rw[c];rfl)
theorem Ox(a:gO p S g u f W0 2 W sv):dP p S g u f W0 W b 2:=by have d:=jz.num H (k:=2) (n:=8) (x:=u.ev) ai (by show 16+8<=24;omega) (by have:=H.ok.ev;omega) rfl;refine⟨281,#[.pointer (some ⟨b 2+1,0,none⟩),.pointer (some ⟨b 2+2,0,none⟩)],rfl,RP func281 aE rfl,?_⟩;refine(EX 222 1 (b 2+1) (b 2+2) p S 16 f (lU g u 2 sv) _ W Il rfl a.rd ai H.lt a.aL H.lp H.lS hF.f2.b2 hF.f2.b3).mono λe i h=>?_;exact a.fS ai h rfl (by have c:dp (λj=>f (16+j)) 8=u.ev:=d;rw[c];rfl)
theorem Oy(a:gO p S g u f W0 3 W sv):dP p S g u f W0 W b 3:=by have d:=jz.num H (k:=3) (n:=8) (x:=u.sf) ai (by show 24+8<=32;omega) (by have:=H.ok.ev;omega) rfl;refine⟨281,#[.pointer (some ⟨b 3+1,0,none⟩),.pointer (some ⟨b 3+2,0,none⟩)],rfl,RP func281 aE rfl,?_⟩;refine(EX 223 2 (b 3+1) (b 3+2) p S 24 f (lU g u 3 sv) _ W Im rfl a.rd ai H.lt a.aL H.lp H.lS hF.f3.b2 hF.f3.b3).mono λe i h=>?_;exact a.fS ai h rfl (by have c:dp (λj=>f (24+j)) 8=u.sf:=d;rw[c];rfl)
theorem Oz(a:gO p S g u f W0 4 W sv):dP p S g u f W0 W b 4:=by have d:=H.ok.bZ;have i:=jz.one H (k:=4) (x:=u.rl) ai (by show 32+1<=33;omega) (by have:=H.ok.rl;have:=d.m16;omega) rfl;refine⟨284,#[.pointer (some ⟨b 4+1,0,none⟩),.pointer (some ⟨b 4+2,0,none⟩)],rfl,RP func284 aE rfl,?_⟩;refine(Kq 227 3 (b 4+1) (b 4+2) p S 32 f (lU g u 4 sv) _ W Io rfl a.rd ai H.lt a.aL H.lp H.lS hF.f4.b2 hF.f4.b3).mono λe j h=>?_;exact a.fS ai h rfl (by have c:f 32=u.rl:=i;rw[c];rfl)
theorem OA(a:gO p S g u f W0 5 W sv):dP p S g u f W0 W b 5:=by have d:=H.ok.bZ;have i:=jz.one H (k:=5) (x:=g.M) ai (by show 33+1<=34;omega) (by have:=d.m16;omega) rfl;refine⟨284,#[.pointer (some ⟨b 5+1,0,none⟩),.pointer (some ⟨b 5+2,0,none⟩)],rfl,RP func284 aE rfl,?_⟩;refine(Kq 228 4 (b 5+1) (b 5+2) p S 33 f (lU g u 5 sv) _ W Ip rfl a.rd ai H.lt a.aL H.lp H.lS hF.f5.b2 hF.f5.b3).mono λe j h=>?_;exact a.fS ai h rfl (by have c:f 33=g.M:=i;rw[c];rfl)
theorem OB(a:gO p S g u f W0 6 W sv):dP p S g u f W0 W b 6:=by have d:=H.ok.bZ;have i:=jz.one H (k:=6) (x:=g.c) ai (by show 34+1<=35;omega) (by have:=d.qd;omega) rfl;refine⟨284,#[.pointer (some ⟨b 6+1,0,none⟩),.pointer (some ⟨b 6+2,0,none⟩)],rfl,RP func284 aE rfl,?_⟩;refine(Kq 229 5 (b 6+1) (b 6+2) p S 34 f (lU g u 6 sv) _ W Iq rfl a.rd ai H.lt a.aL H.lp H.lS hF.f6.b2 hF.f6.b3).mono λe j h=>?_;exact a.fS ai h rfl (by have c:f 34=g.c:=i;rw[c];rfl)
theorem OC(a:gO p S g u f W0 7 W sv):dP p S g u f W0 W b 7:=by have _:=hF;have c:=jz.one H (k:=7) (x:=jo u) ai (by show 35+1<=36;omega) (by unfold jo;split<;>split<;>decide) rfl;refine⟨232,#[],rfl,RP func232 aE rfl,?_⟩;exact(Hr p S 35 u.lz u.lost f (lU g u 7 sv) _ _ W c rfl rfl a.rd ai H.lt a.aL H.lp H.lS).mono λe d h=>a.fS ai h rfl rfl
theorem OD(a:gO p S g u f W0 8 W sv):dP p S g u f W0 W b 8:=by have d:=H.ok.bZ;have i:=jz.num H (k:=8) (n:=2) (x:=g.s) ai (by show 36+2<=38;omega) (by have:=d.gP;omega) rfl;refine⟨286,#[.pointer (some ⟨b 8+1,0,none⟩),.pointer (some ⟨b 8+2,0,none⟩)],rfl,RP func286 aE rfl,?_⟩;refine(EY 236 6 (b 8+1) (b 8+2) p S 36 f (lU g u 8 sv) _ W Ir rfl a.rd ai H.lt a.aL H.lp H.lS hF.f8.b2 hF.f8.b3).mono λe l h=>?_;exact a.fS ai h rfl (by have c:dp (λj=>f (36+j)) 2=g.s:=i;rw[c];rfl)
theorem OE(a:gO p S g u f W0 9 W sv):dP p S g u f W0 W b 9:=by have d:=jz.num H (k:=9) (n:=2) (x:=u.N) ai (by show 38+2<=40;omega) (by have:=H.ok.ring;omega) rfl;refine⟨286,#[.pointer (some ⟨b 9+1,0,none⟩),.pointer (some ⟨b 9+2,0,none⟩)],rfl,RP func286 aE rfl,?_⟩;refine(EY 237 7 (b 9+1) (b 9+2) p S 38 f (lU g u 9 sv) _ W Is rfl a.rd ai H.lt a.aL H.lp H.lS hF.f9.b2 hF.f9.b3).mono λe i h=>?_;exact a.fS ai h rfl (by have c:dp (λj=>f (38+j)) 2=u.N:=d;rw[c];rfl)
theorem Mt(a:gO p S g u f W0 10 W sv):dP p S g u f W0 W b 10:=by have d:=H.ok.bZ;have i:=jz.num H (k:=10) (n:=2) (x:=u.cur) ai (by show 40+2<=42;omega) (by have:=H.ok.cur.1;have:=d.gP;omega) rfl;refine⟨286,#[.pointer (some ⟨b 10+1,0,none⟩),.pointer (some ⟨b 10+2,0,none⟩)],rfl,RP func286 aE rfl,?_⟩;refine(EY 238 11 (b 10+1) (b 10+2) p S 40 f (lU g u 10 sv) _ W It rfl a.rd ai H.lt a.aL H.lp H.lS hF.f10.b2 hF.f10.b3).mono λe l h=>?_;exact a.fS ai h rfl (by have c:dp (λj=>f (40+j)) 2=u.cur:=i;rw[c];rfl)
theorem Mu(a:gO p S g u f W0 11 W sv):dP p S g u f W0 W b 11:=by have _:=hF;refine⟨240,#[],rfl,RP func240 aE rfl,?_⟩;exact(xV p S 42 f (lU g u 11 sv) W (λj d=>by have h:=pV H.eq H.ok.bZ.m16 (j:=11) (i:=j) ai (by show 42+j<44;omega);have c:f (42+j)=leB 0 j:=h;rw[c];unfold leB;rw[Nat.zero_div]) a.rd ai a.aL H.lp).mono λe k h=>a.fS ai h rfl rfl
theorem Mv(a:gO p S g u f W0 12 W sv):dP p S g u f W0 W b 12:=by have _:=hF;have c:=H.ok.bZ;obtain rfl:=a.none ai;refine⟨243,#[],rfl,RP func243 aE rfl,?_⟩;refine(Bg p S 44 g.M f u.st _ _ _ _ _ _ _ _ _ _ W c.m16 (λj d=>by have h:=pV H.eq c.m16 (j:=12) (i:=j) ai (by show 44+j<44+g.M;omega);have k:f (44+j)=u.st j%256:=h;rw[k];have:=H.ok.st j d;omega) a.rd (by have:=c.m16;omega) H.lt a.aL H.lp H.lS).mono λe r h=>?_;obtain⟨l,v,m,n,o,q⟩:=h;exact⟨l,v,m,by rw[n];rfl,λh=>J,λ_=>cu o a.bU.size,a.bU.tr q⟩
end
end
theorem fV.fr[Lo](h:fV w n f)(a:Fr T aF w W)(b:[238,316,318,321,323,325,327,330,332].all (λt=> !T.contains t)=true):fV W n f:=by
 simp only[List.all_cons,List.all_nil,VX,Bool.not_eq_true']at b;obtain⟨t1,t2,t3,t4,t5,t6,t7,t8,t9,-⟩:=b;exact⟨a.hp h.aL t1,⟨a.hp h.f1.b1 t2,a.hp h.f1.b2 t3,a.hp h.f1.b3 t4⟩,⟨a.hp h.f2.b1 t2,a.hp h.f2.b2 t3,a.hp h.f2.b3 t4⟩,⟨a.hp h.f3.b1 t2,a.hp h.f3.b2 t3,a.hp h.f3.b3 t4⟩,
  ⟨a.hp h.f4.b1 t5,a.hp h.f4.b2 t6,a.hp h.f4.b3 t7⟩,⟨a.hp h.f5.b1 t5,a.hp h.f5.b2 t6,a.hp h.f5.b3 t7⟩,⟨a.hp h.f6.b1 t5,a.hp h.f6.b2 t6,a.hp h.f6.b3 t7⟩,
  ⟨a.hp h.f8.b1 t8,a.hp h.f8.b2 t9,a.hp h.f8.b3 t7⟩,⟨a.hp h.f9.b1 t8,a.hp h.f9.b2 t9,a.hp h.f9.b3 t7⟩,⟨a.hp h.f10.b1 t8,a.hp h.f10.b2 t9,a.hp h.f10.b3 t7⟩⟩
theorem gO.below[Lo](h:gO n m g u f w k W v)(a:ar W z):gO n m g u f w k z v:=
 ⟨h.rd.below a,(a.block _ (Z_ h.aL)).trans h.aL,h.none,λb=>aP a (h.own b),h.bU.then a⟩
theorem zk[Lo]{b:aO}(H:jz n m g u f)(hF:fV W i b)(c:k<13)(a:gO n m g u f w k W v):dP n m g u f w W b k:=by
 match k,c,a with
 |0,_,a=>exact Ov H hF a
 |1,_,a=>exact Ow H hF a
 |2,_,a=>exact Ox H hF a
 |3,_,a=>exact Oy H hF a
 |4,_,a=>exact Oz H hF a
 |5,_,a=>exact OA H hF a
 |6,_,a=>exact OB H hF a
 |7,_,a=>exact OC H hF a
 |8,_,a=>exact OD H hF a
 |9,_,a=>exact OE H hF a
 |10,_,a=>exact Mt H hF a
 |11,_,a=>exact Mu H hF a
 |12,_,a=>exact Mv H hF a
theorem Bn(v d:QN)(f m:aO)(w:M)(h:dT w v f)(i:lX w d 8 m)(j:∀k,k<128->f k<256)(l:∀k,k<8->f k=m k):aD 261 #[v,d] w λe q=>aK e dU/\ar w q:=by obtain⟨b,o,a,r,s,rfl,n,t,u⟩:=h;have x:∀k,k<128->w.cell? ⟨b,o+k,none⟩=some (.int .u8 (f k)):=λk c=>(RD w b _ r 5 s t).trans (u k c);have p:=mg (.slice (some (R b o)) 8 a) d 8 8 f m w ⟨_,_,rfl,.inr ⟨b,o,rfl,λk c=>x k J⟩⟩ i (λk c=>j k J) (λk c=>by rw[<-l k c];exact j k J);rw[iZ l]at p;have g:=I p;obtain⟨y,z,rfl,-⟩:=i;have A:(8:Int)<=(a:Int):=J;go_enter func261,ntmps261;go_wp2_with(first|(go_at_call 264;refine g.mono ?_;rintro e B ⟨rfl,rfl⟩));go_ret;exact⟨rfl,aj⟩
theorem Hv(a:aC f (fQ g u)):dp (λk=>f (124+(0+k))) 4=dD 0 124 f:=by
 have c:∀k,k<124->f k=ki g u k:=λk b=>by rw[a k J];unfold fQ;rw[cW J,cW b]
 rw[hL c];refine e_ (λk b=>?_) (gT _ _ _ ai λk _=>lE g u k);rw[RQ,a (124+k) J];unfold fQ;rw[cW J,jq]
theorem Ku(b:aO)(h:k<13):∃a c,(DC b)[k*2]?=some (.func (.func a) #[] c):=by
 match k,h with
 |0,_=>exact⟨_,_,rfl⟩
 |1,_=>exact⟨_,_,rfl⟩
 |2,_=>exact⟨_,_,rfl⟩
 |3,_=>exact⟨_,_,rfl⟩
 |4,_=>exact⟨_,_,rfl⟩
 |5,_=>exact⟨_,_,rfl⟩
 |6,_=>exact⟨_,_,rfl⟩
 |7,_=>exact⟨_,_,rfl⟩
 |8,_=>exact⟨_,_,rfl⟩
 |9,_=>exact⟨_,_,rfl⟩
 |10,_=>exact⟨_,_,rfl⟩
 |11,_=>exact⟨_,_,rfl⟩
 |12,_=>exact⟨_,_,rfl⟩
theorem Bo(w:M)(D:Nat)(c d e f x4 g h i j l a b:QN):Out (λk=>k=D) w ((((((((((((w.setCell (R D 0) c).setCell (R D 1) d).setCell (R D 2) e).setCell (R D 3) f).setCell (R D 4) x4).setCell (R D 5) g).setCell (R D 6) h).setCell (R D 7) i).setCell (R D 8) j).setCell (R D 9) l).setCell (R D 10) a).setCell (R D 11) b):=
 (((((((((((((Out.refl (λk=>k=D) w).setCell (p:=R D 0) (λ_=>rfl) _).setCell (p:=R D 1) (λ_=>rfl) _).setCell (p:=R D 2) (λ_=>rfl) _).setCell (p:=R D 3) (λ_=>rfl) _).setCell (p:=R D 4) (λ_=>rfl) _).setCell (p:=R D 5) (λ_=>rfl) _).setCell (p:=R D 6) (λ_=>rfl) _).setCell (p:=R D 7) (λ_=>rfl) _).setCell (p:=R D 8) (λ_=>rfl) _).setCell (p:=R D 9) (λ_=>rfl) _).setCell (p:=R D 10) (λ_=>rfl) _).setCell (p:=R D 11) (λ_=>rfl) _)
def IF(g:au)(u:Su)(w:QL)(e:SG)(d:QL):Prop:=
 ∃a,aK e (.tuple #[.agg (dr g u a),aG 0])/\kh d a g.M u.st/\ar w d/\∃b c,a= a_ b g.M c/\w.heap.size<=b
abbrev Fc:Array QN:= #[.int .u64 0,.int .u64 0,.int .u64 0,Y 0,Y 0,Y 0,Y 0,Y 0,.bool false,.bool false,aU,Y 0]
theorem Hw(v:QN)(f:aO)(g:au)(u:Su)(w:QL)(h:dT w v f)(h6:∀k,k<128->f k<256)(e7:u.ok g)(e9:aC f (fQ g u)):aD 186 #[v] w (IF g u w):=by
 obtain⟨l,e8⟩:=ah (w.alloc (ao Fc 117));have X:ar w l:=by rw[<-e8];exact aI aj _
 have Z:aZ l w.heap.size (ao Fc 117):=by rw[<-e8];exact QM _ _
 obtain⟨D,H⟩:=ah w.heap.size;rw[H]at Z
 letI:Lo:=⟨l.heap.size⟩
 have q:=Hv e9;have a7:=e7.bZ.m16;have j0:=e7.bZ.m3;have Q:∀k,k<8->f k=hh k:=λk a5=>by have h:=pV e9 a7 (j:=0) (i:=k) ai (by show 0+k<8;omega);have h0:gb g 0+k=k:=RQ k;rw[h0]at h;exact h
 have L:=h.below X;have h7:=ad L;obtain⟨b,o,r,h8,h9,rfl,i0,h3,h4⟩:=id L;have f0:=ad (λv2 W (a:ar l W) (h2:lX W v2 8 hh)=>Bn _ v2 f hh W (L.below a) h2 h6 Q);have f1:=ad pt;have m:=bX X Z h6 e7 e9;have N:=aA e8 H;have c1:¬r=124:=aa;have c2:(124:Int)<=(r:Int):=aa;clear e8 H Z X L h Q e7;go_enter func186,ntmps186;go_wp2_with fail
 try simp only[N.out.1,N.out.2]
 go_wp2_with(first|(go_at_call 215;refine(f1 _).mono ?_;rintro e w1 ⟨⟨v2,rfl,a8⟩,a9⟩;have f2:=ad a8;have b0:=ad a9;clear a8 a9)|(go_at_call 261;refine(f0 _ _ b0 f2).mono ?_;rintro e w2 ⟨rfl,b1⟩;have M:=ad (via b0 b1);clear b1));have H4:RH (∀W,ar l W->cN W (.slice (some ⟨b,o+124,none⟩) 4 (r-124)) 4 λk=>f (124+k)):=λW a=>⟨_,_,rfl,.inr ⟨b,o+124,h8,h9,rfl,(a.block _ (Z_ h3)).trans h3,λk a5=>by rw[UZ];exact h4 _ aa⟩⟩;have b2:RH (∀W,Fr jW aF l W->lX W (.slice (some (ag b o)) 124 r) 124 f):=λW a=>⟨_,_,rfl,.inr ⟨b,o,rfl,λk a5=>(RD W b _ h8 5 h9 (a.hp h3 rfl)).trans (h4 _ aa)⟩⟩;have R:=ad (λW (a:Fr jW aF l W)=>jC 124 _ f W (b2 W a) (λk a5=>m.2.2.1 k aa) ai);have b3:=ad (λW (a:ar w2 W)=>lP W _ 4 _ (H4 W (via M a)) ai ai);obtain⟨x,f3⟩:=ah (dD 0 124 f);rw[f3]at q;simp only[f3]at R;have f4:=ad (λp1 W (I:fK W p1 4 (λk=>f (124+k)) 0) (j3:Lo.lo<=p1)=>gX W p1 4 0 _ I j3 ai ai λj i5=>m.2.2.1 _ aa);simp only[q]at f4;clear h3 h4 f3 q;go_region_held3(λ_=>True) ((simp[*,go_sem];done)) (first|(go_at_call 262;refine(b3 _ bC).mono ?_;rintro e w3 ⟨p1,rfl,I,b4,b5⟩;have b6:=ad I;have b7:RH (ar l w3):=via (via M bC) b5;have b8:RH (Lo.lo<=p1):=QO (via M bC:ar l _).size b4;clear I b4 b5)|(go_at_call 263;refine(f4 p1 _ (b6.below bC) b8).mono ?_;rintro e w4 ⟨rfl,-,q2⟩;have s:RH (Fr jW aF l w4):=(Fr.af (via b7 bC)).tr q2;clear q2)|(go_at_call 160;refine(R _ (by first|exact s|exact s.tr (Fr.af bC))).mono ?_;rintro e w5 ⟨rfl,a⟩;have b9:RH (Fr jW aF l w5):=(by first|exact s.tr (Fr.af a)|exact s.tr (Fr.af (via bC a)));clear a));obtain⟨S,L⟩:=ah w5.heap.size;obtain⟨w6,O⟩:=ah (w5.alloc (ao Fc 117));have c0:aZ w6 S (ao Fc 117):=by rw[<-O,<-L];exact QM _ _
 have c3:Fr jW aF l w6:=by rw[<-O];exact b9.alloc _
 have c4:Lo.lo<=S:=by rw[<-L];exact b9.size
 have P:=aM c0 c3 c4;have c7:=aA O L;clear c0 c3 c4 O L R b3 f4 b6 b7 b8 s;have T:=ad (λW (a:Fr jW aF l W)=>lP W _ 128 f (h7.fr a rfl).eG ai ai);go_wp2_with fail
 try simp only[c7.out.1,c7.out.2]
 go_wp2_with(first|(go_at_call 262;refine(T _ P.2.1).mono ?_;rintro e w7 ⟨p,rfl,I,b4,c8⟩;have Y:=aM I (QO P.2.1.size b4) c8;clear I b4 c8)|(go_at_call 155;refine(ru w7).mono ?_;rintro e w8 ⟨F,j4,rfl,hF,c9⟩;have J:=aA hF c9;clear hF c9));have d0:RH (jz p S g u f):=⟨m.2.2.2.1,m.2.2.2.2,m.2.2.1,Y.2.1,P.2.2⟩;have f5:RH (gO p S g u f w8 0 w8 aU):=by have a:ar w6 w8:=via Y.2.2 J.2;exact⟨Y.1.below J.2,(a.block _ (Z_ P.1)).trans P.1,λ_=>rfl,λh=>aa,Fr.refl _ _ _⟩
 clear T;go_loopw [32] (λa0 wr=>∃(k:Nat) (f6:QN),k<=13/\a0= ae k/\RH (gO p S g u f w8 k wr f6)) (λa0 _=>13-(intOf a0).toNat)
 case atStart=>exact⟨0,_,ai,rfl,f5⟩
 case round=>
  obtain⟨k,f6,a5,rfl,U⟩:=hrel;have t:=J.1.fr U.bU rfl;obtain⟨t0,t1,t2⟩:=cr t.aL;by_cases y:k<13
  .have j1:(k:Int)<13:=aa;have j2:(0:Int)<=(k:Int):=aa;obtain⟨i6,i7,d1⟩:=Ku j4 y;have c5:wr.cell? ⟨F,k*2,none⟩=some (.func (.func i6) #[] i7):=(t0 _).trans d1;obtain⟨f7,f8,a1,-,-⟩:=zk d0 t y U;have c6:wr.cell? ⟨F,k*2+1,none⟩=some (.func (.func f7) #[] f8):=(t0 _).trans (by rw[VL];exact a1);have d2:RH (ar wr (wr.alloc (ao #[.func (.func i6) #[] i7,.func (.func f7) #[] f8] 238))):=aI aj _;obtain⟨f9,g0,d3,j9,z⟩:=zk d0 (t.below d2) y (U.below d2);have d4:=d3.symm.trans a1;have A:=RT d4;have e1:f9=f7:=by cases A;rfl
   have e2:g0=f8:=by cases A;rfl
   subst e1 e2;have d5:=ad z;have d6:=ad y;clear d1 a1 d3 d4 A z t0 t y;go_wp2_with fail;refine d5.mono ?_;rintro e w9 ⟨rfl,g1,d7⟩;have H9:=ad d7;clear d7 d5;go_wp2_with fail;exact⟨⟨k+1,g1,d6,by go_num,H9⟩,by have:=d6.out;first|(simp[intOf];done)|(simp[intOf];omega)⟩
  .obtain rfl:k=13:=aa;have C:aZ wr S (ao (dr g u f6) 117):=U.aL;have c:=U.own (QP _);obtain⟨k3,a6,rfl,a2,g2⟩:=eX c;obtain⟨G,rfl⟩:=g2.resolve_left aa;have E:kh wr (a_ G g.M a6) g.M u.st:=by
    rcases c.2 with⟨g3,_⟩|⟨k4,d8,j5,g3,a,i8,i1,i2,i3,i4⟩
    .cases g3
    .cases g3;refine⟨_,0,_,_,_,rfl,a2,i8,λj i5=>?_⟩;have K:=(bx c (k:=j) (by rw[cc _ _ _ i5])).1;rw[(cr i8).1 j]at K;rw[RQ];exact K
   have g4:=ad (kE g u _ wr E m.2.2.2.1);have d9:=aM E C (c.lt G rfl).1;obtain⟨s0,s1,s2⟩:=cr C;have e0:aZ wr D (ao Fc 117):=by have K:Fr wh aF l wr:=((P.2.1.wide wh rfl).then (via Y.2.2 J.2)).tr U.bU;exact K.block D _ m.2.1 (.inr (Z_ m.2.1)) id
   obtain⟨r0,r1,r2⟩:=cr e0;clear C c E e0 t0 t;go_wp2_with(first|(go_at_call 88;refine g4.mono ?_;rintro e n ⟨j6,g5,rfl,a3,d⟩;have V:=ad d;have e3:=ad (mg (a_ j6 128 g5) (.slice (some (ag b o)) 128 r) 128 128 (fQ g u) f n (oC a3) ((h7.fr (((P.2.1.wide wh rfl).then (via Y.2.2 J.2)).tr U.bU) rfl).below d).BH (λk _=>nZ _ _ k) m.2.2.1);obtain⟨k0,k1,k2⟩:=kp d S s2;obtain⟨l0,l1,l2⟩:=kp d D r2;clear a3 d));have e4:qG 128 128 (fQ g u) f=true:=iZ λk a5=>(m.2.2.2.2 k a5).symm;rw[e4]at e3;clear e4;have e5:RH (ar w n):=by have K:Fr wh aF l n:=(((P.2.1.wide wh rfl).then (via Y.2.2 J.2)).tr U.bU).then V;have h2:=K.under (QP _);exact m.1.trans (h2.mono m.1.size)
   have a4:RH (kh n (a_ G g.M a6) g.M u.st/\¬G=D/\w.heap.size<=G):=by have K:=d9.2.2;have h2:w8.heap.size<=G:=K;have h3:l.heap.size<=w8.heap.size:=QO P.2.1.size (via Y.2.2 J.2).size;have h4:=Z_ m.2.1;have h5:=m.1.size;exact⟨d9.1.below V,aa,aa⟩
   go_wp2_with(first|(go_at_call 264;refine e3.mono ?_;rintro e j7 ⟨rfl,i9⟩;rw[i9];clear i9));have a3:=Bo n D (bj u.id) (bj u.ev) (bj u.sf) (ae u.rl) (ae g.M) (ae g.c) (ae g.s) (ae u.N) (.bool u.lz) (.bool u.lost) (a_ G g.M a6) (ae u.cur);have e6:∀g6,Out (λk=>k=D) n g6->IF g u w (.returned (.tuple #[.agg (dr g u (a_ G g.M a6)),aG 0])) g6:=λg6 a3=>by refine⟨_,rfl,?_,e5.trans (a3.below (B:=w.heap.size) (λk _ e=>by have e:k=D:=e;have:=N.2;omega) e5.size),G,a6,rfl,a4.2.2⟩;obtain⟨k5,k6,d8,g7,g8,e,j8,K,h2⟩:=a4.1;cases e;exact⟨_,_,_,g7,g8,rfl,j8,a3.heap K (λe=>a4.2.1 e),h2⟩
   refine RB (v:=.tuple #[.agg (dr g u (a_ G g.M a6)),aG 0]) ?_ rfl (e6 _ a3);rw[UP rfl];simp[go_sem, *]
theorem Fe(h:b.dv k=none)(d:b.bq=false)(e:b.aY=none):b.op k bS=(b,51):=by obtain⟨g,f,a,c⟩:=b;simp only at h d e;subst d;subst e;simp[By.op,By.out,h,By.tick]
theorem vU[Lo](B k d:Nat)(b:By)(w:M)(h:aB w B b)(l:k<b.N)(g:b.dv k=none)(m:b.bq=false)(o:b.aY=none):
  aD 185 #[H B,Y k,Y d] w λe f=>(∃a n c,aK e (.tuple #[.slice a n c,aG 51]))/\aB f B b/\Fr TB aF w f:=by
 refine(mq B k d b w h l λu i=>by rw[g]at i;cases i).mono ?_;rintro e f ⟨a,n,c,rfl,j,p,-⟩;rw[Fe g m o]at j|-;exact⟨⟨a,n,c,rfl⟩,j,p⟩
structure Pu(g:au)(u:Su)(hs:Nat->Bool)(b:By)(k:Nat):Prop where
 some:hs k=true->∃v,KU b k v/\v.d.eG/\aC (v.d.view 0) (fQ g (u.sl k))/\(k<g.M->1+g.R<=v.d.n)/\(k=g.M->2+u.N<=v.d.n)
 none:hs k=false->b.dv k=none
structure xY[Lo](B:Nat)(b:By)(g:au)(u:Su)(hs:Nat->Bool)(w:QL)(k:Nat)(v:QN)(wr:QL):Prop where
 H_:∃xs,wr.ownsRow w.heap.size 265 13 v k xs/\∀i,i<k->∃sv,(hs i=true->kh wr sv g.M u.st)/\∀(j:Nat) (x:QN),(if hs i=true then qz g (u.sl i) sv else nS)[j]? =some x->xs[i*13+j]? =some x
 cg:aB wr B b
 bU:Fr TB aF w wr
theorem OF:(prog.info? 265).map (λi=>(i.zero,i.size,i.bytes))=some (some (.agg nS),13,112):=aE
theorem xY.push[Lo]{l:Nat->Bool}{w wr c s:QL}{v y:Option TF}{sv:QN}(V:xY n b g u l w k (.slice v k m) wr)(d:c.ownsRow w.heap.size 265 13 (.slice v k m) k L)(z:∀i,i<k->∃sv,(l i=true->kh c sv g.M u.st)/\∀(j:Nat) (x:QN),(if l i=true then qz g (u.sl i) sv else nS)[j]?=some x->L[i*13+j]?=some x)(B:aB c n b)(o:Fr TB aF w c)(D:l k=true->kh c sv g.M u.st)(P:A=if l k=true then qz g (u.sl k) sv else nS)(E:Lo.lo<=w.heap.size)(p:s.ownsRow w.heap.size 265 13 (.slice y (k+1) r) (k+1) (L++A.toList))(a:nI C c (.slice v k m) k 1 (.slice y (k+1) r) s):xY n b g u l w (k+1) (.slice y (k+1) r) s:=by
 have f:=a.Oq d E ai;have F:SM w.heap.size c s:=a.below aj o.size λq Q=>(bm d Q).2;have K:L.length=k*13:=d.1;refine⟨⟨L++A.toList,p,λi S=>?_⟩,B.fn f rfl,o.low F (QP _)⟩;by_cases e:i=k
 .subst e;refine⟨sv,λh=>(D h).fr f rfl,λj x t=>?_⟩;rw[RK J,show i*13+j-L.length=j by omega,UG,P];exact t
 .obtain ⟨G,T,U⟩:=z i J;refine⟨G,λh=>(T h).fr f rfl,λj x t=>?_⟩;have O:j<13:=by have:=(RM.1 t).1;split at this<;>exact this
  rw[RN J];exact U j x t
theorem xY.OG[Lo]{l:Nat->Bool}(h:xY n b g u l w (g.M+1) (a_ m (g.M+1) i) W):mV W m i g u l:=by
 obtain⟨⟨xs,r,s⟩,-,-⟩:=h;rcases r.2 with⟨e,_⟩|⟨q,c,d,e,B,t,v,C,D,y⟩
 .cases e
 .cases e;refine⟨v,d,_,t,λk E=>?_⟩;obtain⟨z,A,f⟩:=s k J;refine⟨z,A,λj x o=>?_⟩;have p:j<13:=by have:=(RM.1 o).1;split at this<;>exact this
  have a:=f j x o;rw[<-y,TT,ak J,UG]at a;exact a
def Kv(D:Nat):List QN->Nat->M->M
 | [],_,w=>w
 |x::xs,i,w=>Kv D xs (i+1) (w.setCell ⟨D,i,none⟩ x)
theorem vV(D:Nat):∀(xs:List QN) (i:Nat) (w:M),Out (λk=>k=D) w (Kv D xs i w)
 | [],_,w=>Out.refl (λk=>k=D) w
 |x::xs,i,w=>((Out.refl (λk=>k=D) w).setCell (p:=R D i) (λ_=>rfl) x).tr (vV D xs (i+1) (w.setCell (R D i) x))
def OH[Lo](B:Nat)(b:By)(g:au)(u:Su)(f:Nat->Bool)(w:QL)(e:SG)(c:QL):Prop:=
 ∃d a,aK e (.tuple #[a_ d (g.M+1) a,aG 0])/\mV c d a g u f/\aB c B b/\Fr TB aF w c
theorem xZ[Lo](B:Nat)(b:By)(g:au)(u:Su)(a9:Nat->Bool)(w:QL)(h:aB w B b)(f4:b.N=g.M+1)(f5:u.ok g)(h8:b.bq=false)(h9:b.aY=none)(b9:∀k,k<=g.M->Pu g u a9 b k):
  aD 127 #[aq B] w (OH B b g u a9 w):=by
 have f6:=h.lo;have f7:=h.lt;have i0:=f5.bZ.m16;have X:RH (∀W,aB W B b->aD 49 #[aq B] W λe f8=>aK e (ae ((g.M+1:Nat)))/\W=f8):=λW f9=>by obtain⟨S,g0,i6,i7,r,wc,f,C⟩:=f9;have:=lj C;rwa[f4]at this
 have g1:=ad (λW=>jn f5.bZ W);have y:=jY f6 f7 f4 f5 h8 h9 b9;have i1:=ad h;obtain⟨n,g2⟩:=ah (g.M+1);have e7:=ad g2;rw[g2]at X;obtain⟨g3,b0,b1,b2,b3⟩:=SN OF;have i2:n<=17:=aa;have e0:QQ.wrap ((n:Int)-1)=(g.M:Int):=bf;clear f4 h8 h9 b9 g2;go_enter func127,ntmps127;go_wp2_with(first|(go_at_call 49;refine(X _ i1).mono ?_;rintro e w1 ⟨rfl,rfl⟩));have g4:RH (xY B b g u a9 w 0 aU w):=⟨⟨[],SS _ _ _ _,λi b8=>aa⟩,i1,Fr.refl _ _ _⟩;go_loopw [4,14] (λa i wr=>∃k:Nat,i= ae k/\k<=n/\RH (xY B b g u a9 w k a wr)) (λ_ i _=>n-(intOf i).toNat)
 case atStart=>exact⟨0,rfl,QX _,g4⟩
 case round=>
  rename_i s4 i8;obtain⟨k,rfl,j8,E⟩:=hrel;obtain⟨xs,c,g5⟩:=E.H_;obtain⟨e8,c0,rfl,g6⟩:=av c;by_cases c1:k<n
  .have i9:(k:Int)<(n:Int):=aa;have G:k<=g.M:=by have:=e7.out;omega
   have V:=aS c g5 c1 G;have a0:=y.2.2.2.2.2.2 k G;obtain⟨e9,K⟩:=ah (wr.alloc (ao nS 265));have Z:ar wr e9:=by rw[<-K];exact aI aj _
   have H:aZ e9 wr.heap.size (ao nS 265):=by rw[<-K];exact QM _ _
   obtain⟨T,f0⟩:=ah wr.heap.size;rw[f0]at H;have m:=aS K f0 Z H;have a1:=E.cg.below Z;cases N:a9 k
   case false=>
    have b4:=ad (vU B k 0 b e9 a1 (by rw[y.2.2.1];omega) (a0.none N) y.2.2.2.2.1 y.2.2.2.2.2.1);have z:=ad N;clear K Z H f0 G;go_wp2_with fail;rw[m.1];refine b4.mono ?_;rintro e w5 ⟨⟨a5,n5,c5,rfl⟩,b5,o⟩;have M:=o.hp m.2.2.2 rfl;have b6:=o.own (aP m.2.2.1 V.1) rfl λ_ _ h=>h;have A:=aS b5 o M b6;obtain⟨x0,x1,x2⟩:=cr M;have j0:w.heap.size<=w5.heap.size:=QO (QO E.bU.size m.2.2.1.size) o.size;rw[m.2.1];go_wp2_with(first|(at_builtin;refine aT _ rfl _ _ 190 rfl w.heap.size 265 g3 (.agg nS) 13 112 underlying190 b0 b1 b2 b3 rfl ai (.slice e8 k c0) k _ rfl (aP (aI aj _) A.2.2.2) (ag w5.heap.size 0) 1 1 nS.toList rfl rfl (SI (cs:=nS) (t:=265) (fr:=(0,0)) (QM w5 _)) (by intro x C;simp at C;rcases C with rfl|rfl|rfl|rfl|rfl|rfl|rfl|rfl|rfl|rfl|rfl|rfl|rfl<;>rfl) aa (by unfold UT;omega) aa aQ ?_;intro i3 w6 c p;obtain⟨i4,c2,rfl,-⟩:=av c;have a2:=aA c p));have c3:Lo.lo<=w.heap.size:=QO y.1 (TY y.2.1);have L:=V.2.2.1;refine⟨⟨k+1,by go_num,L,E.push (sv:= aU) (aP (aI aj _) A.2.2.2) (λi b8=>?_) (A.1.below (aI aj _)) ((E.bU.then m.2.2.1).tr (A.2.1.alloc _)) (λe=>?_) (by rw[z.out];rfl) c3 a2.1 a2.2⟩,by simp[intOf];omega⟩
    .obtain ⟨sv,h1,h2⟩:=V.2.1 i b8;exact⟨sv,λe=>(((h1 e).below m.2.2.1).fr A.2.1 rfl).below (aI aj _),h2⟩
    .rw [z.out]at e;cases e
   case true=>
    obtain⟨v,O,c4,c6,c7,c8⟩:=a0.some N;have fX:0<v.d.n:=by
     by_cases e:k=g.M
     .have:=c8 e;omega
     .have:=c7 aa;omega
    have b4:=ad (pT B k 0 b v e9 a1 O fX);have g7:=ad (λsv W (a9:dT W sv (v.d.view 0))=>Hw sv _ g (u.sl k) W a9 (λj j1=>Dk.lG c4 0 j j1) (Su.IE y.2.2.2.1 G) c6);have c9:RH (∀W,aB W B b->aD 51 #[aq B,ae k] W λe f8=>aK e (ae v.d.n)/\W=f8):=λW f9=>by obtain⟨S,g0,i6,i7,r,wc,f,C⟩:=f9;exact sA C k O.slot v O.dv
    have z:=aM N c7 c8;clear K Z H f0 G fX;go_wp2_with fail;rw[m.1];refine b4.mono ?_;rintro e w5 ⟨⟨g8,rfl,d3⟩,b5,o⟩;have g9:=ad (g7 g8 w5 d3);have M:=o.hp m.2.2.2 rfl;have b6:=o.own (aP m.2.2.1 V.1) rfl λ_ _ h=>h;have A:=aS b5 o M b6;rw[m.2.1];go_wp2_with fail;refine g9.mono ?_;rintro e w6 ⟨sv,rfl,d4,d5,F,cs,rfl,j2⟩;obtain⟨w7,P⟩:=ah (w6.alloc (ao (dr g (u.sl k) (a_ F g.M cs)) 117));have b7:ar w5 w7:=by rw[<-P];exact aI d5 _
    have R:aZ w7 w6.heap.size (ao (dr g (u.sl k) (a_ F g.M cs)) 117):=by rw[<-P];exact QM _ _
    have a3:kh w7 (a_ F g.M cs) g.M (u.sl k).st:=by rw[<-P];exact d4.below (aI aj _)
    obtain⟨D,h0⟩:=ah w6.heap.size;rw[h0]at R;have a4:=(b7.block T (Z_ A.2.2.1)).trans A.2.2.1;have Q:=eM P h0 b7 R a3 a4;obtain⟨d0,d1,d2⟩:=cr R;obtain⟨x0,x1,x2⟩:=cr a4;have j3:¬T=D:=by have:=Z_ A.2.2.1;have:=d5.size;omega
    clear P b7 R a3 h0;go_wp2_with fail;rw[Q.1,Q.2.1];refine(g1 _).mono ?_;rintro e w8 ⟨rfl,d⟩;obtain⟨k0,k1,k2⟩:=kp d D d2;obtain⟨k3,k4,k5⟩:=kp d T x2;have d6:=(A.1.below Q.2.2.1).below d;have U:=ad d6;have j9:=au.g_ y.2.2.2.1.bZ;have d7:=(d.block T x2).trans Q.2.2.2.2.2;have o9:=vV T [.bool true,.int .u64 ((u.sl k).id:Nat),.int .u64 ((u.sl k).ev:Nat),.int .u64 ((u.sl k).sf:Nat),ae ((u.sl k).rl:Nat),ae g.M,ae g.c,ae g.s,ae ((u.sl k).N:Nat),.bool (u.sl k).lz,.bool (u.sl k).lost,a_ F g.M cs,ae ((u.sl k).cur:Nat)] 0 w8;obtain⟨I,Y⟩:=ah (((((((((((((w8.setCell (ag T 0) dU).setCell (ag T 1) (.int .u64 ((u.sl k).id:Nat))).setCell (ag T 2) (.int .u64 ((u.sl k).ev:Nat))).setCell (ag T 3) (.int .u64 ((u.sl k).sf:Nat))).setCell (ag T 4) (ae ((u.sl k).rl:Nat))).setCell (ag T 5) (ae g.M)).setCell (ag T 6) (ae g.c)).setCell (ag T 7) (ae g.s)).setCell (ag T 8) (ae ((u.sl k).N:Nat))).setCell (ag T 9) (.bool (u.sl k).lz)).setCell (ag T 10) (.bool (u.sl k).lost)).setCell (ag T 11) (a_ F g.M cs)).setCell (ag T 12) (ae ((u.sl k).cur:Nat)));simp only[Kv,RQ,Nat.reduceAdd]at o9;rw[Y]at o9;have h3:=aP d (aP Q.2.2.1 A.2.2.2);have d8:∀q,(SF e8 k c0).ownBlock=some q->¬q=T:=λq i5=>by have:=(bm V.1 i5).1;have:=m.2.1;omega
    have h4:=o9.own h3 d8;have d9:Out (λq=>q=T) w5 I:=(Out.af (Q.2.2.1.trans (d.mono Q.2.2.1.size))).tr o9;have j4:w.heap.size<=I.heap.size:=QO (QO (QO (QO E.bU.size m.2.2.1.size) A.2.1.size) (QO Q.2.2.1.size d.size)) o9.size;have h5:I.heap.size=w8.heap.size:=by rw[<-Y];simp
    have a6:kh I (a_ F g.M cs) g.M u.st:=by obtain⟨q1,q2,q3,q4,q5,q6,q7,q8,q9⟩:=Q.2.2.2.2.1.below d;refine⟨q1,q2,q3,q4,q5,q6,q7,o9.heap q8 λe=>?_,q9⟩;have e2:q1=T:=e;rw[e2,d7]at q8;exact absurd (VF (RT q8)).2.1 ai
    have e1:Fr TB aF w I:=((((E.bU.then m.2.2.1).tr A.2.1).then Q.2.2.1).then d).out o9 λq i5 e=>by have e2:q=T:=e;have:=m.2.1;have:=E.bU.size;omega
    have e3:Lo.lo<=T:=by have:=m.2.1;have:=E.bU.size;have:=y.1;have:=y.2.1;omega
    have e4:=jg o9 d7 e3;have a7:aB I B b:=U.fn e4 rfl;have a8:∀l,kh wr l g.M u.st->kh I l g.M u.st:=λl h=>(((((h.below m.2.2.1).fr A.2.1 rfl).below Q.2.2.1).below d).fr e4 rfl);have s:=HP Y h4 d9 a6 h5 e1 a7 a8;clear e3 a7 a8;clear Y d8 d9 a6;by_cases e5:k=g.M
    .have fI:2+u.N<=v.d.n:=z.2.2 e5;subst e5;have j5:=y.2.2.2.1.ring.2;obtain⟨R1,J⟩:=ah (2+(u.sl g.M).N);have e6:2+u.N=R1:=J;have f2:QQ.wrap (2+((u.sl g.M).N:Int))=(R1:Int):=bf;have j6:QQ.wrap (1+(g.R:Int))=((1+g.R:Nat):Int):=bf;have f3:(R1:Int)<=(v.d.n:Int):=aa;clear fI J e6;go_wp2_with(first|(go_at_call 49;refine(X _ U).mono ?_;rintro e w9 ⟨rfl,rfl⟩)|(go_at_call 51;refine(c9 _ U).mono ?_;rintro e w9 ⟨rfl,rfl⟩)|(at_builtin;rw[s.1];refine aT _ rfl _ _ 190 rfl w.heap.size 265 g3 (.agg nS) 13 112 underlying190 b0 b1 b2 b3 rfl ai (.slice e8 g.M c0) g.M _ rfl (aP (aI aj _) s.2.1) (ag w8.heap.size 0) 1 1 (qz g (u.sl g.M) (a_ F g.M cs)).toList (by simp[WH]) rfl (SI (cs:=qz g (u.sl g.M) (a_ F g.M cs)) (t:=265) (fr:=(0,0)) (by rw[<-s.2.2.2.2.1];exact QM I _)) (by intro x C;simp at C;rcases C with rfl|rfl|rfl|rfl|rfl|rfl|rfl|rfl|rfl|rfl|rfl|rfl|rfl<;>rfl) aa (by unfold UT;omega) aa aQ ?_;intro i3 h6 c p;obtain⟨i4,c2,rfl,-⟩:=av c;have a2:=aA c p));have L:=V.2.2.1;refine⟨⟨g.M+1,by go_num,L,E.push (sv:= a_ F g.M cs) (aP (aI aj _) s.2.1) (λi b8=>?_) (s.2.2.2.2.2.2.1.below (aI aj _)) (s.2.2.2.2.2.1.alloc _) (λ_=>s.2.2.2.1.below (aI aj _)) (by rw[z.1];rfl) (QO y.1 (TY y.2.1)) a2.1 a2.2⟩,by simp[intOf];omega⟩;obtain⟨l,h1,h2⟩:=V.2.1 i b8;exact⟨l,λe=>(s.2.2.2.2.2.2.2 l (h1 e)).below (aI aj _),h2⟩
    .have fI:1+g.R<=v.d.n:=z.2.1 (by have:=V.2.2.2;omega);have f1:¬(k:Int)=(g.M:Int):=aa;obtain⟨R1,J⟩:=ah (1+g.R);have f2:QQ.wrap (1+(g.R:Int))=(R1:Int):=bf;have f3:(R1:Int)<=(v.d.n:Int):=aa;clear fI J;go_wp2_with(first|(go_at_call 49;refine(X _ U).mono ?_;rintro e w9 ⟨rfl,rfl⟩)|(go_at_call 51;refine(c9 _ U).mono ?_;rintro e w9 ⟨rfl,rfl⟩)|(at_builtin;rw[s.1];refine aT _ rfl _ _ 190 rfl w.heap.size 265 g3 (.agg nS) 13 112 underlying190 b0 b1 b2 b3 rfl ai (.slice e8 k c0) k _ rfl (aP (aI aj _) s.2.1) (ag w8.heap.size 0) 1 1 (qz g (u.sl k) (a_ F g.M cs)).toList (by simp[WH]) rfl (SI (cs:=qz g (u.sl k) (a_ F g.M cs)) (t:=265) (fr:=(0,0)) (by rw[<-s.2.2.2.2.1];exact QM I _)) (by intro x C;simp at C;rcases C with rfl|rfl|rfl|rfl|rfl|rfl|rfl|rfl|rfl|rfl|rfl|rfl|rfl<;>rfl) aa (by unfold UT;omega) aa aQ ?_;intro i3 h6 c p;obtain⟨i4,c2,rfl,-⟩:=av c;have a2:=aA c p));have L:=V.2.2.1;refine⟨⟨k+1,by go_num,L,E.push (sv:= a_ F g.M cs) (aP (aI aj _) s.2.1) (λi b8=>?_) (s.2.2.2.2.2.2.1.below (aI aj _)) (s.2.2.2.2.2.1.alloc _) (λ_=>s.2.2.2.1.below (aI aj _)) (by rw[z.1];rfl) (QO y.1 (TY y.2.1)) a2.1 a2.2⟩,by simp[intOf];omega⟩;obtain⟨l,h1,h2⟩:=V.2.1 i b8;exact⟨l,λe=>(s.2.2.2.2.2.2.2 l (h1 e)).below (aI aj _),h2⟩
  .obtain rfl:k=n:=aa;obtain⟨j7,rfl⟩:=g6.resolve_left (by have:=e7.out;omega);have h7:=E;go_wp2;go_ret2;have h:=h7.out;rw[<-e7.out]at h;exact⟨j7,c0,by rw[e7.out];rfl,h.OG,h.cg,h.bU⟩
theorem tu(A h:Nat)(f g:Array QN)(Q:M->Prop)(w:M)(E:∀d w,(UY h d).run prog w=.ok (.enter h d) w)(q:aD h (f++g) w λe i=>(∃s:Int,aK e (.agg #[Y s,aG 0]))/\Q i)(r:∀a b,Q a->ar a b->Q b):
  aD 134 #[H A,.func (.func h) f g] w λe i=>aK e (.tuple #[])/\Q i:=by
 have t:=I q;have u:=I r;go_enter func134,ntmps134;go_wp2_with fail;refine t.mono ?_;rintro e j ⟨⟨s,rfl⟩,v⟩;have x:=I v;go_wp2_with fail;obtain⟨n,k⟩:=ah (j.alloc (N #[Y s,aG 0] 172));have o:=QM j (N #[Y s,aG 0] 172);have p:=I (u _ _ x (aI aj (N #[Y s,aG 0] 172)));rw[k]at o p|-;obtain⟨y,z,B⟩:=cr o;obtain⟨c,l⟩:=ah j.heap.size;rw[l]at y z B|-;go_loopw [4] (λC wr=>C= H c/\RH (wr=n)) (λ_ _=>0)
 case atStart=>exact⟨rfl,rfl⟩
 case round=>obtain⟨rfl,D⟩:=hrel;have m:wr=n:=D;subst m;go_wp2_with fail;go_end0;exact⟨rfl,p⟩
theorem Hx[Lo](C c A R B:Nat)(D:Array QN)(E:Option TF)(g:au)(F:Nat)(d:Ro)(b:By)(l:List Pt)(pv:QN)(w:QL)(L:aZ w C (ao #[aq A] 71))(q:aZ w c (ao #[pv] 162))(O:aZ w A (ao D 120))(P:D[13]?=some (aq R))(h:ff w R B E g F d)(r:aB w B b)(Q:fc w pv l)(S:g.ok)(T:b.N=g.M+1)(U:∀p,p∈l->p.1<g.M/\p.2.1<g.R)(f:(l.map ga).Nodup)(i:l.length<=50000)(a:∀m v,m<g.M->b.dv m=some v->1+g.R<=v.d.n/\v.d.cn+l.length<1000000000000):
  aD 135 #[aq C,aq c] w (LL B b d l w):=by
 have s:=ad (λW (t:ar w W)=>uS R B E g F d b l pv W (h.below t) (r.below t) (Q.below t) S T U f i a);obtain⟨Y,J,a2⟩:=cr L;obtain⟨b0,b1,b2⟩:=cr q;obtain⟨d0,d1,d2⟩:=cr O;have d13:=(d0 13).trans P;have V:=r.lo;have X:=r.lt;have Z:Lo.lo<=w.heap.size:=aa;have H:=aA Z (show ar w w from aj);go_enter func135,ntmps135;go_wp2_with fail
 go_region_with (first|(go_at_call 136;refine(s _ bC).mono ?_;rintro e N ⟨u,x,rfl,y,j⟩;obtain⟨G,K,k⟩:=cj (b.run ((fM d u).map ha)).2.1 (b.run ((fM d u).map ha)).2.2;rw[k];have n:=j.hp (QM w (ao #[ae 0,aG 0] 172)) rfl;obtain⟨q1,q2,q3⟩:=cr n))
 all_goals
  have o:=bX x k y j n;go_wp2
 all_goals
  have z:Fr TB aF w N:=(Fr.af (aV (aI aj _))).tr o.2.2.2.1;obtain⟨M,I,-⟩:=cl z o.2.2.1 o.2.2.2.2 (QP _) H.1 (ae G) (.int .u16 K);refine RB (v:=.agg #[ae G,.int .u16 K]) (by simp[RV,results135,go_sem];go_simp) rfl ⟨u,o.1,by rw[o.2.1],I,M⟩
def Mw[Lo](W r B J:Nat)(x:Wl)(b:By)(w:M)(e:SG)(a:M):Prop:=
 ∃s:Int,aK e (.agg #[Y s,.int .u16 ((b.ck J (aW (x.ep+1) x.nx ((x.t+x.u)%x.N))).2:Nat)])/\aB a B (b.ck J (aW (x.ep+1) x.nx ((x.t+x.u)%x.N))).1/\bG a W r B J (x.qm (x.ep+1) (b.ck J (aW (x.ep+1) x.nx ((x.t+x.u)%x.N))).2)/\Fr fT aF w a
theorem Hy[Lo](i j W r B:Nat)(Z:bg)(g:au)(u:Su)(n:Bool)(x:Wl)(b:By)(w:QL)(o:w.heap[i]?=some (ao #[aq Z.A] 71))(q:w.heap[j]?=some (ao #[aq W] 112))(G:lY w Z g u n)(K:bG w W r B g.M x)(h:aB w B b)(L:g.M<b.N)(O:cI (x.ep+1) x.nx)(s:∀v,b.dv g.M=some v->2+x.N<=v.d.n/\v.d.cn<1000000000000)(t:x.bad=0)(y:x.sure=true):
  aD 138 #[aq i,aq j] w (Mw W r B g.M x b w):=by
 have c:=ad (λV (hV:ar w V)=>Aa W r B g.M x b V (K.fr (T:= []) (Fr.af hV) rfl rfl rfl rfl) (h.below hV) L O s t y);have P:=ad (λV (hV:ar w V)=>eb Z g u n V (G.fr (T:= []) (Fr.af hV) rfl rfl));obtain⟨M,R,Q⟩:=cr o;obtain⟨I,Y,S⟩:=cr q;have U:=h.lo;have X:=h.lt;have H:=ad (show Lo.lo<=w.heap.size by omega);have d:=aA o q;clear s t y;unfold Mw;obtain⟨E,z⟩:=ah (b.ck g.M (aW (x.ep+1) x.nx ((x.t+x.u)%x.N)));rw[z]at c|-;obtain⟨N,A⟩:=E;clear z;go_enter func138,ntmps138;go_wp2_with fail;go_region_held3(λC=>C.cell? ⟨i,0,none⟩=some (aq Z.A)/\C.cell? ⟨j,0,none⟩=some (aq W)) ((simp[*,go_sem];done)) (first|(go_at_call 107;refine(P _ bC).mono ?_;rintro e J ⟨rfl,rfl⟩)|(go_at_call 139;refine(c _ bC).mono ?_;rintro e D ⟨rfl,k,l,a⟩;have f:=a.hp (QM w (ao #[ae 0,aG 0] 172)) rfl;obtain⟨q1,q2,q3⟩:=cr f;obtain⟨r0,-,-⟩:=cr (a.hp ((RG w (ao #[ae 0,aG 0] 172) i Q).trans d.1) rfl);obtain⟨r1,-,-⟩:=cr (a.hp ((RG w (ao #[ae 0,aG 0] 172) j S).trans d.2) rfl)))
 all_goals go_wp2
 have m:Fr fT aF w D:=(Fr.af (aV (aI aj _))).tr a;have F:=jg (ni D w.heap.size (ae g.M) (aG A)) f H;refine RB (v:=.agg #[ae g.M,aG A]) (by simp[RV,results138,go_sem];go_simp) rfl ⟨_,rfl,k.fn F rfl,l.fr F rfl rfl rfl rfl,(m.new (p:=⟨w.heap.size,0,none⟩) (QP _) _).new (p:=⟨w.heap.size,1,none⟩) (QP _) _⟩
theorem Hz(j:g.ok)(a r:Nat)(w:QL)(k:a<g.M)(l:r<g.R):
  aD 131 #[g.V,Y a,Y r] w λe c=>(∃(x:Int) (y:Bool),aK e (.tuple #[Y x,.bool y,aG 0]))/\ar w c:=by
 have h:=au.fZ j;have b:(r:Int)<(g.s:Nat)*(g.c:Nat):=by
  have:((g.R:Nat):Int)=(g.s:Nat)*(g.c:Nat):=by unfold au.R;rw[TS]
  omega
 by_cases i:tA (g.M:Nat) (g.c:Nat) a r=(g.M:Nat)-1
 .exact (yd (g.M:Nat) (g.c:Nat) (g.s:Nat) a r w h J J J b i).mono λe c ⟨d,f⟩=>⟨⟨_,_,d⟩,f⟩
 .exact (ye (g.M:Nat) (g.c:Nat) (g.s:Nat) a r w h J J J b i).mono λe c ⟨d,f⟩=>⟨⟨_,_,d⟩,f⟩
def cb(L:List bY):List Pt:=(L.map λP=>bL P P.N).flatten
theorem jA:∀L:List bY,(cb L).length<=bl L
 | [] =>QP _
 |P::l=>by have:=jA l;have e:cb (P::l)=bL P P.N++cb l:=rfl;rw[e,RE,cT];show P.N+(cb l).length<=2*P.N+1+bl l;omega
theorem gp(L:List bY)(P:bY):cb (L++ [P])=cb L++bL P P.N:=by simp[cb]
theorem mX{L:List bY}{P:bY}(h:L[i]?=some P):cb (L.take (i+1))=cb (L.take i)++bL P P.N:=by rw[UQ,h];exact gp _ _
theorem qA{L:List bY}{p:Pt}(h:p∈cb (L.take i)):p∈cb L:=by
 have:cb L=cb (L.take i)++cb (L.drop i):=by
  conv=>lhs;rw[<-XJ i L]
  unfold cb;rw[SR,List.flatten_append]
 rw[this];exact ZM _ h
structure BF(ps l:List Pt):Prop where
 mB:(l.map ga).Nodup
 val:∀p,p∈l->bu ps (ga p)=some p.2.2
 all:∀q,bu ps q≠none->q∈l.map ga
 len:l.length<=ps.length
theorem BF.perm{b l c:List Pt}(h:BF b l)(a:c.Perm l):BF b c:=
 ⟨(a.map ga).nodup_iff.2 h.mB,λp d=>h.val p (a.mem_iff.1 d),λq e=>(a.map ga).mem_iff.2 (h.all q e),by rw[a.length_eq];exact h.len⟩
theorem pW{a:Nat × Nat->Nat->Nat}:∀l:List (Nat × Nat),(l.map (dZ a)).map ga=l
 | [] =>rfl
 |q::l=>by rw[UC,UC,pW l];rfl
theorem BF.of{e a:List (Nat × Nat)}{f:Nat × Nat->Nat->Nat}(g:∀q,q∈a↔bu l q≠none)(h:∀q,q∈a->bu l q=some (f q))(i:a.Nodup)(b:a.length<=l.length)(c:e.Perm a):BF l (e.map (dZ f)):=by refine⟨by rw[pW];exact c.nodup_iff.2 i,λp j=>?_,λq d=>by rw[pW];exact c.mem_iff.2 ((g q).2 d),by rw[RL,c.length_eq];exact b⟩;obtain⟨q,d,rfl⟩:=SA.1 j;exact h q (c.mem_iff.1 d)
theorem lV:∀{b:List Pt} {q:Nat × Nat} {f:aO},bu b q=some f->∃p,p∈b/\ga p=q/\p.2.2=f
 | [],q,f,h=>by cases h
 |p::l,q,f,h=>by
  unfold bu at h;cases a:bu l q with
  |some g=>rw[a]at h;cases h;obtain⟨c,d,i,j⟩:=lV a;exact⟨c,SY _ d,i,j⟩
  |none=>
   rw[a]at h;by_cases e:ga p=q
   .simp [e]at h;exact⟨p,SO,e,h⟩
   .simp [e]at h
theorem BF.mem{e l:List Pt}(h:BF e l){p:Pt}(i:p∈l):p∈e:=by
 obtain⟨f,j,d,g⟩:=lV (h.val p i);have:f=p:=by obtain⟨a,b,c⟩:=f;obtain⟨x,y,z⟩:=p;simp only[ga,Prod.mk.injEq]at d;simp only at g;rw[d.1,d.2,g]
 exact this▸j
structure Rm(g:au)(N C:Nat)(b:By):Prop where
 dd:b.N=g.M+1
 mem:∀m v,m<g.M->b.dv m=some v->1+g.R<=v.d.n/\v.d.cn+C<1000000000000
 gB:∀v,b.dv g.M=some v->2+N<=v.d.n/\v.d.cn+C<1000000000000
theorem Rm.run(h:Rm g n C b){l:List fL}(f:∀a,a∈l->LX a)(r:k+l.length<=C):Rm g n k (b.run l).1:=by
 refine⟨by rw[By.fU];exact h.dd,λm v i c=>?_,λv c=>?_⟩
 .obtain ⟨d,e,j,o⟩:=By.gw f c;obtain⟨p,q⟩:=h.mem m d i e;omega
 .obtain ⟨d,e,j,o⟩:=By.gw f c;obtain⟨p,q⟩:=h.gB d e;omega
theorem Rm.NQ(h:Rm g n C b)(c:200<=C):KP b:=λk v d a=>by
 by_cases e:k=g.M
 .subst e;have:=h.gB v a;omega
 .have:=h.mem k v (by have:=h.dd;omega) a;omega
def Su.zl(u:Su)(a:Nat->Bool):Su:={u.sl 0 with st:=λm=>if a m=false then 2 else 1}
def Ff(g:au)(u:Su):Ro:=(⟨u.lz,λ_=>none,[],false⟩:Ro).marks g u g.M
def cR(g:au)(u:Su):Ro:=(Ff g u).marks g u.told g.M
def Mx(g:au)(u:Su)(b:By):=b.run (eC g u.tell)
def KV(g:au)(u:Su)(b:By)(l:List Pt):=(Mx g u b).1.run ((fM (cR g u) l).map ha)
def Fg(g:au)(u:Su)(b:By)(l:List Pt):=(KV g u b l).1.run ((oX g (cR g u)).map di)
def BG(g:au)(u:Su)(b:By)(l:List Pt)(x:Wl):=(Fg g u b l).1.ck g.M (aW (x.ep+1) x.nx ((x.t+x.u)%x.N))
structure Kw(g:au)(u:Su)(b:By)(l:List Pt)(x:Wl):Prop where
 e1:(Mx g u b).2.2=0
 e2:(KV g u b l).2.2=0
 e3:(Fg g u b l).2.2=0
 e4:(BG g u b l x).2=0
abbrev HA(a t b N:Nat)(L:List bY):Wl:=⟨a,b+L.length,true,none,0,N,t,bl L⟩
def Kx[Lo](B:Nat)(b:By)(g:au)(u:Su)(S:dj)(a t c:Nat)(w:M)(e:SG)(d:M):Prop:=
 ∃(Z:bg) (L:List bY) (l:List Pt),aK e (.tuple #[H Z.A,aG 0])/\Z.B=B/\Z.N=u.N/\Z.lz=u.lz/\pQ S u.N a t c L/\lR S u.N a t c L/\bl L<=u.N/\BF (cb L) l/\
  cY d Z g ⟨(BG g u b l (HA a t c u.N L)).1,(HA a t c u.N L).cy (a+1),cR g u⟩ u.told false/\Fr mI aF w d
theorem Fr.Pv[Lo](a:Out S w W)(d:∀k o,S k->w.heap[k]?=some o->T.contains (ty o)=true/\Lo.lo<=k):Fr T aF w W:=
 ⟨a.os,a.tape,a.output,a.size,λk o c b _=>(a.block k (Z_ c) λe=>by
  obtain⟨f,g⟩:=d k o e c;rcases b with b|b
  .rw [f]at b;cases b
  .omega).trans c⟩
theorem all_nil(L a:Nat)(v:QN)(b:Nat × Nat->QN)(c:Nat × Nat->Nat->Nat)(w:M)(h:bd w L a v [] b c):
  aD 133 #[aq L] w λe d=>aK e aU/\Out (λk=>k=L) w d:=by
 have f:=I (rf L v w h.Gw);go_enter func133,ntmps133;go_wp2_with fail;refine f.mono ?_;rintro e g ⟨rfl,i⟩;have j:=I (show Out (λk=>k=L) w (g.alloc (N #[Y 0,Y 0,aU] 206))from i.then (aI aj _));go_wp2_with fail;go_loopw [3,4,5] (λl _ m wr=>l= aU/\m=.bool false/\RH (Out (λk=>k=L) w wr)) (λ_ _ _ _=>0)
 case atStart=>exact⟨rfl,rfl,j⟩
 case round=>obtain⟨rfl,rfl,H⟩:=hrel;go_wp2_with fail;go_ret;exact⟨rfl,H⟩
theorem Ky[Lo](L d:Nat)(v:QN)(j:List (Nat × Nat))(s:Nat × Nat->QN)(t:Nat × Nat->Nat->Nat)(w:M)(h:bd w L d v j s t)(D:j.length<=50000)(m:∀k,LZ L d v k->Lo.lo<=k):
  aD 133 #[H L] w λe n=>∃pv y,aK e pv/\List.Perm y j/\fe w.heap.size n pv (y.map (dZ t))/\Out (LZ L d v) w n/\Fr [286,289,1000002] aF w n:=by
 by_cases e:j= []
 .subst e;refine(all_nil L d v s t w h).mono ?_;rintro e n ⟨rfl,r⟩;refine⟨_,[],rfl,YG _,fe.nil _ _,r.mono λk _ l=>.inl l,Fr.Pv r λk o l a=>?_⟩;subst l;obtain⟨E,z⟩:=h.row;rw[z]at a;cases a;exact⟨rfl,m _ (.inl rfl)⟩
 .refine (Ho L d v j s t w h D).mono ?_;rintro _ n ⟨pv,y,rfl,F,G,r⟩;refine⟨pv,y,rfl,F,G,r,Fr.Pv r λk o l a=>⟨?_,m k l⟩⟩;rcases l with f|f|f
  .subst f;obtain⟨E,z⟩:=h.row;rw[z]at a;cases a;rfl
  .subst f;obtain⟨C,c,K,O,X,P⟩:=h.map;rw[K]at a;cases a;obtain⟨p,Q⟩:=WR j e;have this:(b_ p C.toList 0).map (·.2)=some (s p):=(P p).trans (ak Q);cases d:b_ p C.toList 0 with
   |none=>rw[d]at this;cases this
   |some x=>obtain⟨i,u⟩:=x;obtain⟨e,S,_,_⟩:=jj p _ i u d;have g:=RF S;obtain⟨q,T⟩:=O e g;rw[Dh g q T];rfl
  .have U:=h.lB.own;rcases U.2 with⟨A,-⟩|⟨b,V,W,A,-,B,-⟩
   .rw [A]at f;cases f
   .rw [A]at f;cases f;rw[B]at a;cases a;rfl
section
variable [Lo] {Z:bg} {g:au} {u:Su} {yg:Bool} {c6 c7 c18:Nat} {w:QL}
theorem OI{b:By}{x:Wl}{d:Ro}{l:List Pt}{pv:QN}(h:cY w Z g ⟨b,x,d⟩ u yg)(y:aZ w c6 (ao #[H Z.A] 71))(r:aZ w c18 (ao #[pv] 162))(z:fc w pv l)(A:g.ok)(B:b.N=g.M+1)(C:∀p,p∈l->p.1<g.M/\p.2.1<g.R)(j:(l.map ga).Nodup)(k:l.length<=50000)(f:∀m v,m<g.M->b.dv m=some v->1+g.R<=v.d.n/\v.d.cn+l.length<1000000000000)(D:∀c:List Pt,c.Perm l->(b.run ((fM d c).map ha)).2.2=0):
  aD 134 #[H Z.A,.func (.func 135) #[] #[H c6,H c18]] w λe i=>aK e (.tuple #[])/\∃c:List Pt,c.Perm l/\cY i Z g ⟨(b.run ((fM d c).map ha)).1,x,d⟩ u yg/\Fr TB aF w i:=by
 obtain⟨E,-,F⟩:=h.arr.aL;have G:=Hx c6 c18 Z.A Z.R Z.B _ (some (ag Z.W 0)) g Z.fb d b l pv w y r F rfl h.rs.row h.rs.cg z A B C j k f;refine tu Z.A 135 #[] #[H c6,H c18] (λi=>∃c:List Pt,c.Perm l/\cY i Z g ⟨(b.run ((fM d c).map ha)).1,x,d⟩ u yg/\Fr TB aF w i) w (RP func135 aE rfl) (G.mono λe i ⟨c,o,s,t,q⟩=>?_) λa L ⟨c,o,s,t⟩ n=>⟨c,o,s.below n,t.then n⟩;have K:=D c o;refine⟨⟨0,?_⟩,c,o,⟨h.arr.fr q rfl rfl,⟨h.rs.row.fr q rfl rfl rfl rfl,t,bG.fr h.rs.kc q rfl rfl rfl rfl,h.rs.lo⟩⟩,q⟩;rw[s,K];rfl
theorem OJ{s:Rs}{C:Nat}(h:cY w Z g s u yg)(hF:Fit g C s)(f:(s.b.run ((oX g s.ro).map di)).2.2=0):
  aD 134 #[H Z.A,.func (.func 137) #[H Z.R] #[]] w λe c=>aK e (.tuple #[])/\cY c Z g {s with b:=(s.b.run ((oX g s.ro).map di)).1} u yg/\Fr iH aF w c:=by
 have p:=ph Z.R Z.B Z.W Z.r g Z.fb s C w h.rs hF;refine tu Z.A 137 #[H Z.R] #[] (λc=>cY c Z g {s with b:=(s.b.run ((oX g s.ro).map di)).1} u yg/\Fr iH aF w c) w (RP func137 aE rfl) (p.mono λe c ⟨m,k,q,⟨n,r,t⟩,i,j,o⟩=>?_) λa v ⟨i,j⟩ d=>⟨i.below d,j.then d⟩;rw[n]at f;have f:q=0:=f;subst f;have l:m={s with b:=m.b}:=by rw[<-r,<-t]
 refine⟨⟨0,by rw[i];rfl⟩,⟨h.arr.fr o rfl rfl,?_⟩,o⟩;rw[n,<-l];exact j
theorem OK{s:Rs}(h:cY w Z g s u yg)(n:aZ w c6 (ao #[H Z.A] 71))(o:aZ w c7 (ao #[H Z.W] 112))(p:g.M<s.b.N)(i:cI (s.x.ep+1) s.x.nx)(q:∀v,s.b.dv g.M=some v->2+s.x.N<=v.d.n/\v.d.cn<1000000000000)(r:s.x.bad=0)(t:s.x.sure=true)(y:(s.b.ck g.M (aW (s.x.ep+1) s.x.nx ((s.x.t+s.x.u)%s.x.N))).2=0):
  aD 134 #[H Z.A,.func (.func 138) #[] #[H c6,H c7]] w λe c=>aK e (.tuple #[])/\cY c Z g {s with b:=(s.b.ck g.M (aW (s.x.ep+1) s.x.nx ((s.x.t+s.x.u)%s.x.N))).1,x:=s.x.cy (s.x.ep+1)} u yg/\Fr fT aF w c:=by
 have i:=Hy c6 c7 Z.W Z.r Z.B Z g u yg s.x s.b w n o h.arr h.rs.kc h.rs.cg p i q r t;refine tu Z.A 138 #[] #[H c6,H c7] (λc=>cY c Z g {s with b:=(s.b.ck g.M (aW (s.x.ep+1) s.x.nx ((s.x.t+s.x.u)%s.x.N))).1,x:=s.x.cy (s.x.ep+1)} u yg/\Fr fT aF w c) w (RP func138 aE rfl) (i.mono λe c ⟨k,f,j,m,l⟩=>?_) λa z ⟨f,j⟩ d=>⟨f.below d,j.then d⟩;rw[y]at f m;exact⟨⟨k,f⟩,⟨h.arr.fr l rfl rfl,⟨h.rs.row.fr l rfl rfl rfl rfl,j,m,h.rs.lo⟩⟩,l⟩
end
theorem mV.fr[Lo]{a:Nat->Bool}(h:mV w n m g u a)(b:Fr T aF w W)(d:T.contains 265=false)(f:T.contains 122=false):mV W n m g u a:=by obtain⟨c,i,j,l,o⟩:=h;refine⟨c,i,j,b.hp l d,λk p=>?_⟩;obtain⟨q,r,s⟩:=o k p;exact⟨q,λe=>(r e).fr b f,s⟩
abbrev My(B:Nat)(g:au)(u:Su)(a c:Nat)(b d:Option TF):Array QN:= #[H B,bj u.id,bj u.ev,bj u.sf,Y u.rl,Y g.M,Y g.c,Y g.s,Y u.N,.bool u.lz,.bool u.lost,a_ a g.M c,Y u.cur,.pointer b,.pointer d,.bool false,aG 0,.bool true,.bool true]
structure Qk[Lo](w:QL)(B:Nat)(b:By)(g:au)(u:Su)(hs:Nat->Bool)(D A c6 sb c:Nat)(w4:QL):Prop where
 d:w4.heap[D]? =some (N #[aG 0] 35)
 a:w4.heap[A]? =some (N (My B g (u.sl 0) sb c none none) 120)
 ptr:w4.heap[c6]? =some (N #[H A] 71)
 uY:∃cs,w4.heap[sb]? =some (N cs 122)/\∀m,m<g.M->cs[m]? =some (.int .u8 (if hs m=false then 2 else 1:Nat))
 cg:aB w4 B b
 bU:Fr TB aF w w4
 cap:g.M<=c
 new:w.heap.size<=D/\w.heap.size<=A/\w.heap.size<=c6/\w.heap.size<=sb
theorem E_.base[Lo]{e:SG}(h:E_ n m b F k i j C W e z)(d:ar w W):E_ n m b F k i j C w e z:=by obtain⟨f,r,a,c,L,g,l,o,p,q,s,t,u,x,v⟩:=h;have:=d.size;exact⟨f,r,a,c,L,g,l,o,p,q.wide this,s,t,(Fr.af d).tr u,J,J⟩
theorem HC{b a:Array QN}{f c:Nat × Nat}(h:w.heap[n]?=some (.cells b k f))(d:w.heap[m]?=some (.cells a i c))(g:k≠i):¬n=m:=λe=>by rw[e,d]at h;exact g (VF (RT h)).2.1.symm
theorem vW(A:Nat)(a:Array QN)(M:Nat)(w:QL)(h:aZ w A (N a 120))(b:a[5]?=some (Y M)):
  aD 107 #[H A] w λe c=>aK e (Y M)/\w=c:=by
 obtain⟨k,f,z⟩:=cr h;have d:=(k 5).trans b;go_enter func107,ntmps107;go_wp2;go_ret;exact⟨rfl,rfl⟩
theorem mU.xb{L:List (List Pt)}(h:mU n w v m L)(b:w.heap[p.block]?=some O)(c:ty O≠204/\ty O≠5/\ty O≠206)(x:QN):mU n (w.setCell p x) v m L:=by
 refine h.out (S:=λk=>k=p.block) ((Out.refl (λk=>k=p.block) w).setCell (p:=p) (λ_=>rfl) x) (λk d e=>?_) λk l e a=>?_
 .subst e;obtain⟨o,-,a,-⟩:=h;rcases a.2 with⟨rfl,-⟩|⟨g,f,i,rfl,-,j,-⟩
  .cases d
  .cases d;rw[j]at b;cases b;exact c.1 rfl
 .subst e;rw[b]at a;cases a;exact c.2
theorem kO.below(h:kO w n l z)(a:ar z W):kO w n l W:=by obtain⟨b,v,c,d,e,f,g⟩:=h.lift;exact⟨h.du.trans (a.mono h.du.size),h.new,⟨b,v,c,d,e,f.below a,g⟩,((kp a n (QY _ _ h.c0)).1 0).trans h.c0⟩
theorem Fr.Mz[Lo](h:Fr T aF w W)(a:Out S W z)(d:∀k,k<w.heap.size->¬S k):Fr T aF w z:=
 ⟨a.os.trans h.os,a.tape.trans h.tape,a.output.trans h.output,QO h.size a.size,λk o b e f=>by have c:=h.block k o b e f;exact(a.block k (Z_ c) (d k (Z_ b))).trans c⟩
theorem Fr.Ql[Lo](h:Fr T aF w W)(a:Fr T S W z)(d:∀k,k<w.heap.size->¬S k):Fr T aF w z:=
 ⟨a.os.trans h.os,a.tape.trans h.tape,a.output.trans h.output,QO h.size a.size,λk o b c e=>a.block k o (h.block k o b c e) c (d k (Z_ b))⟩
theorem Su.x_{b:Nat->Bool}(a:u.ok g)(c:∀m,m<g.M->u.st m=1):(u.zl b).ok g:=by
 refine⟨a.bZ,a.id,a.ev,QX _,a.ring,λm _=>?_,λm k _ _ d _=>?_,a.cur.1,λe=>?_⟩
 .show (if b m=false then 2 else 1)=1\/(if b m=false then 2 else 1)=2\/_;split<;>simp
 .have d:(if b m=false then 2 else 1)=3:=d;split at d<;>omega
 .obtain ⟨m,f,h⟩:=a.cur.2 e;rw[c m f]at h;omega
structure Qm[Lo](B:Nat)(b:By)(g:au)(u:Su)(S:dj)(ep t sq:Nat)(w0 w4:QL)(D T W r cL:Nat)(a:Option TF)(L:List bY)(wx:QL):Prop where
 l_:pQ S u.N ep t sq L/\lR S u.N ep t sq L/\bl L<=u.N
 Qn:mU w4.heap.size wx (.slice a L.length cL) sq (L.map fun P=>bL P P.N)
 cg:aB wx B b
 kc:bG wx W r B g.M (HA ep t sq u.N L)
 bU:Fr (35::TB) aF w4 wx
 OL:Fr TB aF w0 wx
 tp:wx.heap[T]? =some (ao #[H W] 112)
 d:wx.heap[D]? =some (ao #[aG 0] 35)
 new:w4.heap.size<=T/\w4.heap.size<=W/\w4.heap.size<=r
theorem x_[Lo](N3:kP)(B:Nat)(b:By)(g:au)(u:Su)(i6:Nat->Bool)(R3:Option Nat)(S:dj)(b8 t Y:Nat)(v:Dv)(w:QL)(h:aB w B b)(b9:u.ok g)(i9:u.lost=false)(F5:∀m,m<g.M->u.st m=1)(S6:b.bq=false)(S7:b.aY=none)(N4:∀k,k<=g.M->Pu g u i6 b k)(S8:i6 g.M=true)(N5:∀m,m<g.M->i6 m=false->R3=some m)(q0:KU b g.M v)(N6:v.d.eG)(i2:cI b8 Y)(N7:t<u.N)(S9:aC (v.d.view 1) (aW b8 Y t))(T0:∀k,k<u.N->S k=v.d.view (2+k))(M6:Rm g u.N 10000 b)(F6:u.ev<4000000000000000000)(F7:b8<4000000000000000000/\Y<4000000000000000000)(R4:∀L l,pQ S u.N b8 t Y L->lR S u.N b8 t Y L->bl L<=u.N->BF (cb L) l->Kw g (u.zl i6) b l (HA b8 t Y u.N L))(F8:∀L p,pQ S u.N b8 t Y L->lR S u.N b8 t Y L->p∈cb L->p.1<g.M/\p.2.1<g.R):
  aD 72 #[aq B] w (Kx B b g (u.zl i6) S b8 t Y w):=by
 have T1:=h.lo;have j0:=h.lt;have T2:=b9.bZ.m3;have R5:=b9.bZ.m16;have F3:=M6.dd;have N8:RH (∀W,aB W B b->aD 49 #[aq B] W λe E=>aK e (ae ((g.M+1:Nat)))/\W=E):=λW N9=>by obtain⟨S,d6,U9,V0,r,wc,f,F9⟩:=N9;have:=lj F9;rwa[F3]at this
 obtain⟨D,R6⟩:=ah w.heap.size;obtain⟨w1,r6⟩:=ah (w.alloc (ao #[aG 0] 35));have r7:ar w w1:=by rw[<-r6];exact aI aj _
 have G0:aZ w1 D (ao #[aG 0] 35):=by rw[<-r6,<-R6];exact QM _ _
 have O0:=ad (xZ B b g u i6 w1 (h.below r7) F3 b9 S6 S7 N4);have O1:=ad (λW M7 d6 (T3:mV W M7 d6 g u i6)=>Bl M7 d6 g u i6 R3 W T3 b9 i9 F5 S8 N5);have O2:=ad (λA r0 W (B6:aZ W A (ao r0 120)) (h5:r0[5]?=some (ae g.M))=>vW A r0 g.M W B6 h5);have O3:=ad (λW (N9:aB W B b)=>Hs N3 B g.M u.N b8 Y t b v S W N9 q0 b9.ring.1 b9.ring.2 ((M6.gB v q0.dv).1) N6 i2 N7 S9 T0);have r8:=aM r7 G0 (h.below r7);have f5:=aA r6 R6;have H:=ad (show Lo.lo<=D by omega);have e1:decide (((g.M+1:Nat):Int)<4)=false:=decide_eq_false aa;have T4:decide (g.M+1<4)=false:=decide_eq_false aa;clear r7 G0 r6
 go_enter_defers func72,ntmps72
 go_wp2_with fail;rw[f5.1];obtain⟨d0,d1,d2⟩:=cr r8.2.1;go_wp2_with(first|(go_at_call 49;refine(N8 _ r8.2.2).mono ?_;rintro e w2 ⟨rfl,rfl⟩)|(go_at_call 127;refine O0.mono ?_;rintro e w2 ⟨M7,d6,rfl,b3⟩;have H2:=ad b3;have B7:=Fr.hp b3.2.2 r8.2.1 rfl;have r9:=ad B7;clear b3 d0 d1 d2;obtain⟨d0,d1,d2⟩:=cr B7;clear B7)|(go_at_call 128;have B8:=(Fr.refl [35] aF w2).set (p:=ag D 0) r9 rfl H (aG 0);refine(O1 _ M7 d6 (H2.1.fr B8 rfl rfl)).mono ?_;rintro e w3 ⟨g6,c,R7,r0,rfl,b3⟩;have B9:=(b3.1.block D (by rw[SE];exact Z_ r9)).trans (heap_setCell_same w2 D 0 _ 35 (aG 0) r9);have H3:=aM B8 B9 b3;clear b3 d0 d1 d2 B8;obtain⟨d0,d1,d2⟩:=cr B9;clear B9));obtain⟨w4,j5⟩:=ah ((((w3.setCell (ag D 0) (aG 0)).alloc (ao (ts g (u.sl 0) (a_ g6 g.M c) R7 true) 194)).alloc (ao (My B g (u.sl 0) g6 c none none) 120)).alloc (ao #[.pointer (some ⟨w3.heap.size+1,0,none⟩)] 71));rw[j5];obtain⟨A,B6⟩:=ah (w3.heap.size+1);have F:RH (Qk w B b g u i6 D A (A+1) g6 c w4):=by
  obtain⟨q1,q2,q3,q4,q5,q6⟩:=H3.out;have G1:Fr TB aF w w2:=(Fr.af r8.1).tr H2.2.2;have G2:w.heap.size<=D:=RY f5.2;have d7:Fr TB aF w w3:=(G1.new (p:=ag D 0) G2 (aG 0)).then q3;have O4:=(Fr.refl [35] aF w3).set (p:=ag D 0) q2 rfl H (aG 0);have s0:SM (w3.setCell (ag D 0) (aG 0)).heap.size (w3.setCell (ag D 0) (aG 0)) w4:=by rw[<-j5];exact aI (aI (aI aj _) _) _
  have v2:(w3.setCell (ag D 0) (aG 0)).heap.size=w3.heap.size:=SE _ _ _;have T5:D<w2.heap.size:=Z_ r9;rw[SE]at q5;obtain⟨O5,e1,e2⟩:∃r0,aZ w3 g6 (ao r0 122)/\∀m,m<g.M->r0[m]?=some (.int .u8 (if i6 m=false then 2 else 1:Nat)):=⟨_,q6⟩;have O6:=Z_ q2;refine⟨(s0.block D (by rw[v2];exact O6)).trans (heap_setCell_same w3 D 0 _ 35 (aG 0) q2),?_,?_,⟨O5,(s0.block g6 (by rw[v2];exact Z_ e1)).trans ((RW w3 (ag D 0) g6 (aG 0) (by show g6≠D;omega)).trans e1),e2⟩,?_,(d7.new (p:=ag D 0) G2 (aG 0)).then s0,q4,?_⟩
  .rw [<-j5,<-B6,<-v2];exact(RG _ _ _ aJ).trans (fg _ _ _)
  .rw [<-j5,<-B6,show w3.heap.size+1+1=(((w3.setCell (ag D 0) (aG 0)).alloc (ao (ts g (u.sl 0) (a_ g6 g.M c) R7 true) 194)).alloc (ao (My B g (u.sl 0) g6 c none none) 120)).heap.size by simp];exact QM _ _
  .exact (((H2.2.1.fn q1 rfl).below q3).fn O4 rfl).below s0
  .have:=d7.size;omega
 rw[show w3.heap.size+1+1=A+1 by rw[B6]]
 try rw[B6]
 clear d0 d1 d2 j5 B6;obtain⟨d0,d1,d2⟩:=cr F.d;obtain⟨J,a1,a2⟩:=cr F.a;obtain⟨N,p1,p2⟩:=cr F.ptr;have a8:w4.cell? (ag A 8)=some (ae u.N):=J 8;clear J;have n1:¬D=A:=HC F.d F.a ai;have n2:¬A=D:=λe=>n1 e.symm;have n3:¬D=A+1:=HC F.d F.ptr ai;have n4:¬A+1=D:=λe=>n3 e.symm;have l1:=Z_ F.ptr;have l2:=Z_ F.a;have l3:=Z_ F.d;have n5:¬w4.heap.size=A+1:=ZI l1;have n6:¬A+1=w4.heap.size:=XQ l1;have n7:¬w4.heap.size=A:=ZI l2;have n8:¬A=w4.heap.size:=XQ l2;have n9:¬w4.heap.size=D:=ZI l3;have O7:¬D=w4.heap.size:=XQ l3;have G3:=ad (λW (G:ar w4 W)=>O2.out A _ W ((G.block A (Z_ F.a)).trans F.a) rfl);have G4:RH (∀W,ar w4 W->aD 129 #[aq B,ae g.M,ae u.N] W λe E=>E_ B g.M b S u.N b8 t Y w4 e E/\Fr TB aF W E):=λW G=>(O3 W (F.cg.below G)).mono λe E b3=>⟨b3.base G,by obtain⟨_,_,_,_,_,_,_,_,_,_,_,_,q,_⟩:=b3;exact q⟩;go_cut [7,8]from 78 to 188 (λs7 s8 T6=>∃(T W r F4:Nat) (a:Option TF) (L:List bY),s7= aq T/\s8=.slice a L.length F4/\RH (Qm B b g u S b8 t Y w w4 D T W r F4 a L T6))
 case first=>
  go_region_held3(λE=>E.cell? ⟨A+1,0,none⟩=some (aq A)/\E.cell? (ag A 8)=some (ae u.N)) ((simp[*,go_sem];done)) (first|(go_at_call 107;refine(G3 _ bC).mono ?_;rintro e w5 ⟨rfl,rfl⟩)|(go_at_call 129;refine(G4 _ bC).mono ?_;rintro e w6 ⟨⟨W,r,a,F4,L,rfl,b3⟩,G5⟩;(try(have h7:=Fr.hp G5 (QM _ (ao #[.pointer none] 112)) rfl;obtain⟨c7,f7,z7⟩:=cr h7;have H7:=ad h7;clear h7));have j6:=b3.2.2.2.2.2.2.1;have a6:w6.cell? (ag A 8)=some (ae u.N):=(cr (Fr.hp j6 F.a rfl)).1 8;have a7:=Z_ (Fr.hp j6 F.a rfl);obtain⟨p3,p4,p5⟩:=cr (Fr.hp j6 F.ptr rfl);obtain⟨d3,d4,d5⟩:=cr (Fr.hp j6 F.d rfl);have m1:¬w6.heap.size=A+1:=ZI p5;have m2:¬A+1=w6.heap.size:=XQ p5;have m3:¬w6.heap.size=A:=ZI a7;have m4:¬A=w6.heap.size:=XQ a7;have m5:¬w6.heap.size=D:=ZI d5;have m6:¬D=w6.heap.size:=XQ d5;clear N p1 p2 d0 d1 d2 a1 a2 a8;have H6:=ad b3;clear b3 j6 G5))
  all_goals go_wp2
  all_goals go_meet
  all_goals(obtain⟨q1,q2,q3,q4,q5,q6,q7,q8,q9⟩:=H6.out;have s1:=Fr.hp q7 F.d rfl;have G6:Lo.lo<=D:=H.out;have f1:=(Fr.refl [35] aF w6).set (p:=ag D 0) s1 rfl G6 (aG 0))
  .have G:=(aI aj (ao #[aq W] 112):SM (w6.setCell (ag D 0) (aG 0)).heap.size (w6.setCell (ag D 0) (aG 0)) _);have v2:(w6.setCell (ag D 0) (aG 0)).heap.size=w6.heap.size:=SE _ _ _;refine⟨_,W,r,F4,a,L,rfl,rfl,⟨q1,q2,q3⟩,(q4.xb (p:=ag D 0) s1 ai _).below G,(aB.fr q5 f1 rfl λ_ _ h=>h.elim).below G,bG.fr (T:= []) (bG.fr q6 f1 rfl rfl rfl rfl) (Fr.af G) rfl rfl rfl rfl,((q7.wide (35::TB) rfl).tr (f1.wide (35::TB) rfl)).then G,((F.bU.tr q7).new (p:=ag D 0) F.new.1 _).then G,?_,(G.block D (by rw[v2];exact d5)).trans (heap_setCell_same w6 D 0 _ 35 _ s1),q7.size,q8,q9⟩;have:=QM (w6.setCell (ag D 0) (aG 0)) (ao #[aq W] 112);rwa[v2]at this
  all_goals
   have f2:=(Fr.refl [112] aF w6).set (p:=ag w4.heap.size 0) H7 rfl (QO H (TY l3)) (aq W);have T7:=heap_setCell_same w6 w4.heap.size 0 _ 112 (aq W) H7;have C0:=(RW w6 (ag w4.heap.size 0) D (aq W) O7).trans s1;have f3:=(Fr.refl [35] aF _).set (p:=ag D 0) C0 rfl G6 (aG 0);refine⟨_,W,r,F4,a,L,rfl,rfl,⟨q1,q2,q3⟩,((q4.xb (p:=ag w4.heap.size 0) H7 ai _).xb (p:=ag D 0) C0 ai _),aB.fr (aB.fr q5 f2 rfl λ_ _ h=>h.elim) f3 rfl λ_ _ h=>h.elim,bG.fr (bG.fr q6 f2 rfl rfl rfl rfl) f3 rfl rfl rfl rfl,(((q7.wide (35::TB) rfl).new (p:=ag w4.heap.size 0) (QP _) _)).tr (f3.wide (35::TB) rfl),(((F.bU.tr q7).new (p:=ag w4.heap.size 0) F.bU.size _)).new (p:=ag D 0) F.new.1 _,?_,heap_setCell_same _ D 0 _ 35 _ C0,QP _,q8,q9⟩;exact(RW _ (ag D 0) w4.heap.size (aG 0) n9).trans T7
 case rest=>
  rename_i T8;refine T8 _ _ ?_;obtain⟨T,W,r,F4,V1,L,rfl,rfl,z⟩:=hcut;have s2:=ad (Fr.hp z.bU F.a rfl);have G7:=ad (Fr.hp z.bU F.ptr rfl);obtain⟨d3,d4,d5⟩:=cr z.d;obtain⟨a3,a4,a5⟩:=cr s2;obtain⟨p3,p4,p5⟩:=cr G7;obtain⟨t3,t4,t5⟩:=cr z.tp;clear d0 d1 d2 a1 a2 a8 N p1 p2 G3 G4;have O8:=ad (λW=>yI W);go_wp2_with(first|(go_at_call 130;refine(O8 _).mono ?_;rintro e w7 ⟨r3,C1,rfl,G8,G9,H0,O9,f6⟩;have P0:=ad f6;have H1:RH (kO wc r3 [] w7):=⟨f6,H0,⟨C1,_,[],_,_,G8,λq=>⟨λe=>(by cases e),λe=>absurd rfl e⟩,λq e=>(by cases e),QP _,O9,λx e=>(by cases e)⟩,G9⟩;obtain⟨d0,d1,d2⟩:=kp f6 D d5;obtain⟨J,a1,a2⟩:=kp f6 A a5;obtain⟨N,p1,p2⟩:=kp f6 (A+1) p5;obtain⟨t0,t1,t2⟩:=kp f6 T t5;clear f6 G8 G9));obtain⟨C2,s3⟩:=ah L.length;rw[s3];have s4:=ad s3;have T9:C2<=2048:=by rw[<-s3];exact QO (jQ L) (QO z.l_.2.2 b9.ring.2)
  clear s3;go_loopw [102] (λj7 wr=>∃i:Nat,i<=C2/\j7= ae i/\RH (kO wc r3 (cb (L.take i)) wr)) (λj7 _=>C2-(intOf j7).toNat)
  case atStart=>exact⟨0,QX _,rfl,H1⟩
  case round=>
   obtain⟨i,V2,rfl,M8⟩:=hrel;clear H1 P0 d0 d1 d2 J a1 a2 N p1 p2 t0 t1 t2;obtain⟨d9,rfl⟩:∃d9:QL,d9=wr:=⟨_,rfl⟩;have d:=M8.du;obtain⟨d0,d1,d2⟩:=kp d D d5;obtain⟨J,a1,a2⟩:=kp d A a5;obtain⟨N,p1,p2⟩:=kp d (A+1) p5;obtain⟨t0,t1,t2⟩:=kp d T t5;by_cases j0:i<C2
   .obtain ⟨P,P1⟩:∃P,L[i]?=some P:=⟨_,RA (by rw[s4.out];exact j0)⟩;have s5:=ad P1;obtain⟨H8,H9,U,v4⟩:=z.Qn;have C3:i<H8.length:=by rw[H9,RL,s4.out];exact j0
    obtain⟨f1,f2⟩:=rO Y H8 i H8[i] (RA C3);have I0:=v4 i _ _ (by rw[RU,P1];rfl) (RA C3);rw[RL,s4.out]at U;rcases U.2 with⟨-,e⟩|⟨R8,d6,U0,e1,-,C4,-,-,P2,I1⟩
    .omega
    cases e1;obtain⟨V3,I2⟩:=ah (H8[i] );rw[I2]at f2 I0;have P3:∀k v,k<C2*2->(jy Y H8)[k]?=some v->d9.cell? (ag R8 k)=some v:=λk v e0 e=>by rw[(kp d R8 (Z_ C4)).1 k,(cr C4).1 k,<-UG];rwa[<-I1,List.getElem?_take_of_lt e0]at e
    have x1:=P3 _ _ aa f1;have x2:=P3 _ _ aa f2;obtain⟨C5,C6,rfl,P4,v5⟩:=I0;obtain⟨v6,s6⟩:=ah ((bL P P.N).length);rw[s6]at x2 P4;have C7:=ad s6;have P5:=ad v5;have U1:v6<=1023:=by rw[<-s6,cT];exact(z.l_.1 i P s5).cA.2
    have j1:(i:Int)<(C2:Int):=aa;have j2:(0:Int)<=(i:Int):=aa;have I3:=ad j0;clear P3 f1 f2 v4 U C4 I1 v5 s6 I2 P1 j0 H9 C3 P2;go_wp2_with fail;obtain⟨w8,C8⟩:=ah (d9.alloc (ao #[.int .u64 ((Y:Int)+i),.slice C5 v6 C6] 204));rw[C8];have I4:RH (kO wc r3 (cb (L.take i)++(bL P P.N).take 0) w8):=by rw[List.take_zero,UK,<-C8];exact M8.below (aI aj _)
    clear C8 d0 d1 d2 J a1 a2 N p1 p2 t0 t1 t2 x1 x2 d;go_loopw [109] (λj8 wr=>∃j:Nat,j<=v6/\j8= ae j/\RH (kO wc r3 (cb (L.take i)++(bL P P.N).take j) wr)) (λj8 _=>v6-(intOf j8).toNat)
    case atStart=>exact⟨0,QX _,rfl,I4⟩
    case round=>
     obtain⟨j,V4,rfl,M9⟩:=hrel;clear I4;obtain⟨i7,rfl⟩:∃i7:QL,i7=wr:=⟨_,rfl⟩;have d:=M9.du;obtain⟨d0,d1,d2⟩:=kp d D d5;obtain⟨J,a1,a2⟩:=kp d A a5;obtain⟨N,p1,p2⟩:=kp d (A+1) p5;obtain⟨t0,t1,t2⟩:=kp d T t5;by_cases I5:j<v6
     .obtain ⟨p,g7⟩:∃p,(bL P P.N)[j]?=some p:=⟨_,RA (by rw[C7.out];exact I5)⟩;rcases P5.out with e|⟨N0,P6,r0,V5,rfl,j9,I6⟩
      .rw [e]at g7;simp at g7
      obtain⟨e1,e2,v3,e3,C9⟩:=I6 j p g7;have s9:=kp d N0 (Z_ j9);have x1:i7.cell? ⟨N0,P6+j*3,none⟩=some (ae p.1):=by rw[s9.1,RD _ _ _ _ _ _ j9];exact e1
      have x2:i7.cell? ⟨N0,P6+j*3+1,none⟩=some (ae p.2.1):=by rw[s9.1,RD _ _ _ _ _ _ j9];exact e2
      have x3:i7.cell? ⟨N0,P6+j*3+2,none⟩=some v3:=by rw[s9.1,RD _ _ _ _ _ _ j9];exact e3
      have v7:p∈cb L:=qA (i:=i+1) (by rw[mX s5.out];exact ZC _ (RF g7));obtain⟨r1,r2⟩:=F8 L p z.l_.1 z.l_.2.1 v7;obtain⟨D0,D1,P7⟩:=C9.eG.form;subst P7;have t6:=aS C9 g7 r1 r2;have D2:=ad (λW=>show aD 131 #[.agg #[ae g.M,ae g.c,ae g.s],ae p.1,ae p.2.1] W _ from Hz b9.bZ p.1 p.2.1 W r1 r2);obtain⟨P8,D3⟩:=ah p.1;obtain⟨P9,D4⟩:=ah p.2.1;rw[D3]at x1 D2;rw[D4]at x2 D2;have I7:=aA D3 D4;have j3:(j:Int)<(v6:Int):=aa;have j4:(0:Int)<=(j:Int):=aa;have I8:=ad I5;clear j9 I6 e1 e2 e3 C9 g7 v7 r1 r2 D3 D4 s9;go_wp2_with fail;obtain⟨w9,I9,t7,D5⟩:=nH i7 (ao #[ae P8,ae P9,.slice D0 128 D1] 206);rw[I9];obtain⟨X,D6⟩:=ah i7.heap.size;rw[D6]at D5;rw[D6];have D7:=aA t7 D6;obtain⟨y0,y1,y2⟩:=cr D5;obtain⟨y3,y4,y5⟩:=kp t7 A a2;obtain⟨y6,y7,y8⟩:=kp t7 (A+1) p2;have z5:w9.cell? (ag A 5)=some (ae g.M):=by rw[y3,J,a3];rfl
      have z6:w9.cell? (ag A 6)=some (ae g.c):=by rw[y3,J,a3];rfl
      have z7:w9.cell? (ag A 7)=some (ae g.s):=by rw[y3,J,a3];rfl
      have z8:w9.cell? ⟨A+1,0,none⟩=some (aq A):=by rw[y6,N,p3];rfl
      have z9:w9.cell? (ag X 0)=some (ae P8):=by rw[y0];rfl
      have U2:w9.cell? (ag X 1)=some (ae P9):=by rw[y0];rfl
      have U3:w9.cell? (ag X 2)=some (.slice D0 128 D1):=by rw[y0];rfl
      clear I9 t7 D5 D6 y0 y1 y3 y4 y6 y7 d0 d1 d2 J a1 a2 N p1 p2 t0 t1 t2 x1 x2 x3 d;go_region_held3(λE=>E.cell? ⟨A+1,0,none⟩=some (aq A)/\E.cell? (ag A 5)=some (ae g.M)/\E.cell? (ag A 6)=some (ae g.c)/\E.cell? (ag A 7)=some (ae g.s)/\E.cell? (ag X 0)=some (ae P8)/\E.cell? (ag X 1)=some (ae P9)) ((simp[*,go_sem];done)) (first
       |(go_at_call 131;refine(D2 _).mono ?_;rintro e O ⟨⟨x,y,rfl⟩,f8⟩;have n:ar w9 O:=by first|exact f8|exact via (ct aj _) f8
         obtain⟨k0,k1,k2⟩:=kp n A y5;obtain⟨k3,k4,k5⟩:=kp n (A+1) y8;obtain⟨k6,k7,k8⟩:=kp n X y2;have s:=ad n;clear f8 n))
      have J0:=ad (λW (G:ar w9 W)=>EV (p:=p) (u:=.slice D0 128 D1) M9 (D7.1.trans (G.mono D7.1.size)) ((((t6.1.eG).below M9.du).below D7.1).below G) (by have:=t6.2.2.1;omega) (by have:=t6.2.2.2;have:=au.g_ b9.bZ;omega) (by
       have D8:=jA L;have h1:(cb (L.take i)).length+v6<=(cb L).length:=by
        have:=s5.out;have e1:=mX this;have e2:cb L=cb (L.take (i+1))++cb (L.drop (i+1)):=by
         conv=>lhs;rw[<-XJ (i+1) L]
         unfold cb;rw[SR,List.flatten_append]
        rw[e2,e1,RE,RE,C7.out];omega
       have:=z.l_.2.2;have:=b9.ring.2;rw[RE,VN];omega))
      rw[I7.1,I7.2]at J0;go_wp2_with(first|(go_at_call 132;refine(J0 _ (by first|exact s|exact s.trans ((ct aj _).mono s.size))).mono ?_;rintro e f9 ⟨rfl,b3⟩;have a9:=ad b3;clear b3));have Q0:(bL P P.N).take (j+1)=(bL P P.N).take j++ [p]:=by rw[UQ,t6.2.1];rfl
      have Q1:RH (kO wc r3 (cb (L.take i)++(bL P P.N).take (j+1)) f9):=by rw[Q0,<-TK];exact a9
      exact⟨⟨j+1,I8,by go_num,Q1⟩,by have:=I8.out;simp[intOf];omega⟩
     .obtain rfl:j=v6:=aa;have Q1:RH (kO wc r3 (cb (L.take (i+1))) i7):=by have:=M9.out;rw[<-C7.out,UN,<-mX s5.out]at this;exact this
      clear d0 d1 d2 J a1 a2 N p1 p2 t0 t1 t2 d;go_wp2_with fail;exact⟨⟨i+1,I3,by go_num,Q1⟩,by have:=I3.out;simp[intOf];omega⟩
   .obtain rfl:i=C2:=aa;have U4:RH (kO wc r3 (cb L) d9):=by have:=M8.out;rw[<-s4.out,UN]at this;exact this
    clear M8;go_wp2_with fail;obtain⟨d8,g0⟩:=ah (d9.setCell (ag A 14) (aq W));have D9:aZ d9 A (ao (My B g (u.sl 0) g6 c none none) 120):=(d.block A a5).trans s2;have J1:aZ d8 A (ao (My B g (u.sl 0) g6 c none (some (ag W 0))) 120):=by rw[<-g0];exact heap_setCell_same d9 A 14 _ 120 _ D9
    have J2:Fr [120] aF d9 d8:=by rw[<-g0];exact(Fr.refl [120] aF d9).set (p:=ag A 14) D9 rfl (QO (QO (by rw[f5.2];exact H) (QP _)) F.new.2.1) _
    have J3:Out (λk=>k=A) d9 d8:=by rw[<-g0];exact(Out.refl (λk=>k=A) d9).setCell (p:=ag A 14) (λ_=>rfl) _
    have Q2:d8.heap.size=d9.heap.size:=by rw[<-g0];exact SE _ _ _
    have t8:∀k o,k≠A->aZ d9 k o->aZ d8 k o:=λk o e0 e=>by rw[<-g0];exact(RW d9 (ag A 14) k _ e0).trans e
    rw[g0];have M:=aS J1 J2 Q2 J3;have t9:=ad (t8 D _ n1 ((d.block D d5).trans z.d));have J4:=ad (t8 (A+1) _ aa ((d.block (A+1) p5).trans G7));have u0:=ad (t8 T _ (λe=>by have:=z.tp;rw[e,s2.out]at this;cases this) ((d.block T t5).trans z.tp));clear g0 D9 J1 J2 t8 J3 d0 d1 d2 J a1 a2 N p1 p2 t0 t1 t2;obtain⟨d0,d1,d2⟩:=cr t9;obtain⟨J,a1,a2⟩:=cr M.1;obtain⟨N,p1,p2⟩:=cr J4;obtain⟨t0,t1,t2⟩:=cr u0;have z0:d8.cell? ⟨A+1,0,none⟩=some (aq A):=N 0;have z1:d8.cell? (ag T 0)=some (aq W):=t0 0;have z2:d8.cell? (ag A 5)=some (ae g.M):=J 5;have z3:d8.cell? (ag A 6)=some (ae g.c):=J 6;have z4:d8.cell? (ag A 7)=some (ae g.s):=J 7;have z5:d8.cell? (ag A 9)=some (.bool u.lz):=J 9;have z6:d8.cell? (ag A 13)=some (.pointer none):=J 13;have z7:d8.cell? (ag D 0)=some (aG 0):=d0 0;have v8:aB d8 B b:=aB.fr (z.cg.below d) M.2.1 rfl λ_ _ h=>h.elim;have Q3:RH (∀V,ar d8 V->aD 57 #[aq B,.agg #[ae g.M,ae g.c,ae g.s],aq W,.bool u.lz] V (IB B (some (ag W 0)) g u.lz V)):=λV G=>yY B (some (ag W 0)) g u.lz b V (v8.below G) b9.bZ F3;have o1:¬T=A:=HC u0 M.1 ai;have o2:¬A=T:=λe=>o1 e.symm;have o3:¬T=D:=HC u0 t9 ai;have o4:¬D=T:=λe=>o3 e.symm;clear J N t0 d0;go_region_held3(λE=>E.cell? ⟨A+1,0,none⟩=some (aq A)/\E.cell? (ag T 0)=some (aq W)/\E.cell? (ag A 5)=some (ae g.M)/\E.cell? (ag A 6)=some (ae g.c)/\E.cell? (ag A 7)=some (ae g.s)/\E.cell? (ag A 9)=some (.bool u.lz)) ((simp[*,go_sem];done)) (first
     |(go_at_call 57;refine(Q3 _ bC).mono ?_;rintro e O ⟨R,v9,rfl,J5,J6,u1,f8⟩;have n:ar d8 O:=by first|exact f8|exact via bC f8
       obtain⟨k0,k1,k2⟩:=kp n A a2;obtain⟨k3,k4,k5⟩:=kp n (A+1) p2;obtain⟨k6,k7,k8⟩:=kp n T t2;obtain⟨k9,Q4,U5⟩:=kp n D d2;have s:=aS J5 J6 u1 n;clear f8 n J5 J6 u1))
    obtain⟨i8,e4⟩:=ah ((O.setCell (ag A 13) (aq R)).setCell (ag D 0) (aG 0));obtain⟨Z,N1⟩:∃Z:bg,Z=⟨A,B,R,W,r,v9,g6,u.N,u.lz⟩:=⟨_,rfl⟩;obtain⟨C,e5⟩:=ah (u.zl i6);have w0:Fr mI aF w O:=((((z.OL.then d).wide mI rfl).tr (M.2.1.wide mI rfl)).then s.2.2.2);have l0:=(s.2.2.2.block A a2).trans M.1;have x0:=(s.2.2.2.block D d2).trans t9;have e6:=heap_setCell_same O A 13 _ 120 (aq R) l0;have b5:=(RW O (ag A 13) D (aq R) n1).trans x0;have u2:aZ i8 A (ao (BB Z g C c true) 120):=by rw[<-e4,N1,<-e5];exact(RW _ (ag D 0) A (aG 0) n2).trans e6
    have E0:aZ i8 D (ao #[aG 0] 35):=by rw[<-e4];exact heap_setCell_same _ D 0 _ 35 _ b5
    have u3:∀k o,k≠A->k≠D->aZ O k o->aZ i8 k o:=λk o h1 h2 e=>by rw[<-e4];exact(RW _ (ag D 0) k (aG 0) h2).trans ((RW O (ag A 13) k _ h1).trans e)
    have l4:Fr [35,120] aF O i8:=by rw[<-e4];exact((Fr.refl [35,120] aF O).set (p:=ag A 13) l0 rfl (QO (by rw[f5.2];exact H) F.new.2.1) _).set (p:=ag D 0) b5 rfl H _
    have J7:Out (λk=>k=A\/k=D) O i8:=by rw[<-e4];exact((Out.refl (λk=>k=A\/k=D) O).setCell (p:=ag A 13) (λ_=>.inl rfl) _).setCell (p:=ag D 0) (λ_=>.inr rfl) _
    have J8:Fr mI aF w i8:=by rw[<-e4];exact(w0.new (p:=ag A 13) F.new.2.1 _).new (p:=ag D 0) F.new.1 _
    rw[e4];clear e4 l0 x0 e6 b5 w0;have u4:Lo.lo<=d8.heap.size:=QO H (TY d2);have E1:d8.heap.size<=R:=s.2.1;have E2:d8.heap.size<=v9:=s.2.2.1;have Q5:Lo.lo<=A:=QO (by rw[f5.2];exact H) F.new.2.1;have Q6:Lo.lo<=g6:=QO (by rw[f5.2];exact H) F.new.2.2.2;obtain⟨x,F9⟩:=ah (HA b8 t Y u.N L);have E3:cY i8 Z g ⟨b,x,⟨u.lz,λ_=>none,[],false⟩⟩ C true:=by
     subst N1;refine⟨⟨⟨c,F.cap,u2⟩,?_,Q5,Q6⟩,⟨s.1.fr l4 rfl rfl rfl rfl,aB.fr (v8.below s.2.2.2) l4 rfl λ_ _ h=>h.elim,?_,QO u4 E1,QO u4 E2⟩⟩
     .obtain ⟨r0,e1,e2⟩:=F.uY;refine⟨r0,l4.hp ((s.2.2.2.block _ ?_).trans (M.2.1.hp ((d.block _ (Z_ (z.bU.hp e1 rfl))).trans (z.bU.hp e1 rfl)) rfl)) rfl,λm C1=>by rw[e2 m C1,<-e5];rfl⟩;exact Z_ (M.2.1.hp ((d.block _ (Z_ (z.bU.hp e1 rfl))).trans (z.bU.hp e1 rfl)) rfl)
     .rw [<-F9];exact bG.fr (bG.fr (T:= []) (bG.fr (bG.fr (T:= []) z.kc (Fr.af d) rfl rfl rfl rfl) M.2.1 rfl rfl rfl rfl) (Fr.af s.2.2.2) rfl rfl rfl rfl) l4 rfl rfl rfl rfl
    have E4:C.ok g:=by rw[<-e5];exact Su.x_ b9 F5
    have I:RH (Z.A=A/\Z.B=B/\Z.R=R/\Z.W=W/\Z.r=r/\Z.fb=v9/\Z.sb=g6/\Z.N=u.N/\Z.lz=u.lz):=by subst N1;exact⟨rfl,rfl,rfl,rfl,rfl,rfl,rfl,rfl,rfl⟩
    have R9:RH (aD 58 #[aq A] i8 (LS Z g (Ff g C) i8)):=by have:=nY Z g _ C true i8 E3 E4;rw[I.1]at this;rw[<-e5];rw[<-e5]at this;exact this
    have r4:=aM E3 E4 e5;have u5:=bX u2 E0 u3 J7 J8;have E5:=u3 (A+1) _ aa aa ((s.2.2.2.block _ p2).trans J4);have J9:=u3 T _ o1 o3 ((s.2.2.2.block _ t2).trans u0);have K0:=aA E5 J9;have e7:=aS u4 E1 E2 F9;obtain⟨c0,c1,c2⟩:=cr E0;obtain⟨c3,c4,c5⟩:=cr E5;obtain⟨c6,c7,c8⟩:=cr u2;have c9:i8.cell? (ag A 2)=some (bj u.ev):=by rw[c6,<-e5];rfl
    have U6:∀(S0:Fn) (first d6:Array QN) (w:QL),(Instr.makeFunc S0 first d6).run prog w=.ok (.func S0 first d6) w:=λ_ _ _ _=>rfl;clear E3 E4 u2 E0 u3 J7 J8 E5 J9 u4 E1 E2 l4 F9 N1 e5 c6 k0 k1 k3 k4 k6 k7 k9 Q4 z0 z1 z2 z3 z4 z5 z6 z7;have e2:¬(4611686018427387904:Int)<=(u.ev:Nat):=aa;go_wp2_with fail;refine R9.mono ?_;rintro e f9 ⟨rfl,K1,g1⟩;have K2:d9.heap.size<=v9:=by have:=M.2.2.1;have:=e7.2.2.1;omega
    have K3:=d.size;have g2:Z.fb=v9:=I.2.2.2.2.2.1;rw[g2]at g1;have l5:∀k o,k<d9.heap.size->aZ i8 k o->aZ f9 k o:=λk o e0 e=>(g1.block k (Z_ e) aa).trans e;have b5:=l5 D _ aa u5.2.1;have e6:=l5 A _ aa u5.1;have x9:=l5 (A+1) _ aa K0.1;have y9:=l5 T _ aa K0.2;obtain⟨E6,Q7,Q8,S1,N2,Q9,K4,K5,A0,K6,U⟩:=U4.lift;have u6:=Q9.Mo;have E7:∀k,LZ r3 E6 Q7 k->wc.heap.size<=k:=λk e0=>by
     rcases e0 with e|e|e
     .rw [e];exact H0
     .rw [e];exact K6
     .exact U k e
    have l6:bd f9 r3 E6 Q7 Q8 S1 N2:=by
     refine bd.out (bd.out (bd.below (bd.out Q9 M.2.2.2 aa aa (λk e0 e=>by have:=U k e0;omega) λk o e r5=>?_) s.2.2.2) u5.2.2.2.1 aa aa (λk e0 e=>by have:=U k e0;omega) λk o e r5=>?_) g1 (λe=>by have:=u6 _ (.inl rfl);omega) (λe=>by have:=u6 _ (.inr (.inl rfl));omega) (λk e0 e=>by have:=u6 _ (.inr (.inr e0));omega) λk o e r5=>?_
     .rw [e,(d.block A a5).trans s2.out]at r5;cases r5;exactλh=>absurd h (by show(120:Nat)≠5;decide)
     .rcases e with e|e
      .rw [e,(s.2.2.2.block A a2).trans M.1]at r5;cases r5;exactλh=>absurd h (by show(120:Nat)≠5;decide)
      .rw [e,(s.2.2.2.block D d2).trans t9.out]at r5;cases r5;exactλh=>absurd h (by show(35:Nat)≠5;decide)
     .have:=r4.1.rs.row.fy;rw[g2]at this;rw[e,this]at r5;cases r5;exactλh=>absurd h (by show(3:Nat)≠5;decide)
    have D8:Q8.length<=2048:=by have:=jA L;have:=z.l_.2.2;have:=b9.ring.2;omega
    have A1:cY f9 Z g ⟨b,x,Ff g C⟩ C true:=by have b3:=r4.1;refine⟨lY.out b3.arr (by rw[g2];exact g1) b3.rs.row.fy b3.rs.lo.2,?_⟩;exact cq.mark b3.rs K1 (by rw[g2];exact g1)
    have A2:Fr mI aF w f9:=u5.2.2.2.2.Mz g1 λk e0 e=>by have:=e7.2.2.1;have:=F.new;omega
    have A3:=ad (Ky r3 E6 Q7 Q8 S1 N2 f9 l6 aa λk e0=>by have:=E7 k e0;have:=H.out;omega);have a9:=HQ A1 A2 K4 K5 A0 l6.mB E7 e6 K2;have i3:=aM b5 x9 y9;clear c0 c1 c2 c3 c4 c5 c7 c8 c9 K1 g1 l5 b5 e6 x9 y9 Q9 K4 K5 A0 K6 U u6 E7 l6 D8 A1 A2 g2 R9;obtain⟨d0,d1,d2⟩:=cr i3.1;obtain⟨N,p1,p2⟩:=cr i3.2.1;obtain⟨t0,t1,t2⟩:=cr i3.2.2;go_wp2_with fail;refine A3.mono ?_;rintro e g3 ⟨pv,l1,rfl,K7,u7,K8,i4⟩;obtain⟨C5,C6,R0⟩:∃a c,pv=.slice a (l1.map (dZ N2)).length c:=by obtain⟨a,c,h,-⟩:=u7.yq;exact⟨a,c,h⟩
    subst R0;obtain⟨l,E8⟩:=ah (l1.map (dZ N2));rw[E8]at u7|-;have l7:BF (cb L) l:=by rw[<-E8];exact BF.of a9.2.2.1 a9.2.2.2.1 a9.2.2.2.2.2.1 a9.2.2.2.2.1 K7
    have l8:=a9.1.fr i4 rfl;have A4:Fr mI aF w g3:=a9.2.1.Mz K8 λk e0 e=>by have:=a9.2.2.2.2.2.2.1 k e;have:=z.OL.size;omega
    have K9:RH (∀V,ar g3 V->aD 121 #[aq A] V (Pa Z g ⟨b,x,Ff g C⟩ C true V)):=λV G=>by have h0:=(R4 L l z.l_.1 z.l_.2.1 z.l_.2.2 l7).e1;rw[r4.2.2]at h0;have:=ju Z g ⟨b,x,Ff g C⟩ C true V (l8.below G) r4.2.1 (by rw[<-r4.2.2];show u.ev<_;omega) (by rw[<-r4.2.2];exact i9) (M6.NQ aa) F3 h0;rwa[I.1]at this
    obtain⟨X,D6⟩:=ah g3.heap.size;have L0:=QM g3 (ao #[.slice C5 l.length C6] 162);have g8:v9<g3.heap.size:=RS (by have:=Z_ a9.1.rs.row.fy;rwa[I.2.2.2.2.2.1]at this) i4.size;have K:=jY l7 l8 A4 u7.yq D6 L0 g8;have b6:=aM (i4.hp i3.1 rfl) (i4.hp i3.2.1 rfl) (i4.hp i3.2.2 rfl);have A5:=aA F6 F7;have L1:RH (True/\cI b8 Y):=⟨trivial,i2⟩;clear d0 d1 d2 N p1 p2 t0 t1 t2 E8 l7 l8 A4 u7 K7 K8 i4 A3 L0 g8 D6 F6 F7 e2;obtain⟨d0,d1,d2⟩:=cr b6.1;obtain⟨N,p1,p2⟩:=cr b6.2.1;obtain⟨t0,t1,t2⟩:=cr b6.2.2;obtain⟨L2,L3⟩:=ah l.length;rw[L3]at K|-;go_wp2_with fail;refine(K9 _ (by first|exact aI aj _|exact aI (ct aj _) _)).mono ?_;rintro e l9 ⟨rfl,e8,g9⟩;obtain⟨i7,u8⟩:=ah (g3.alloc (ao #[.slice C5 L2 C6] 162));have g4:ar g3 i7:=by rw[<-u8];exact aI aj _
    rw[u8]at g9;have L4:aZ i7 X (ao #[.slice C5 L2 C6] 162):=by rw[<-u8,<-K.2.2.2.2.1];exact K.2.2.2.2.2.1
    have g8:v9<X:=by rw[<-K.2.2.2.2.1];exact K.2.2.2.2.2.2
    have g2:Z.fb=v9:=I.2.2.2.2.2.1;have R1:=M.2.2.1;have u1:=a9.2.2.2.2.2.2.2.2;have K3:=d.size;have E9:=K.2.1.below g4;have d7:Fr ed aF i7 l9:=g9.a.wide E9.rs.row.fy E9.rs.lo.2;have A6:Fr mI aF w l9:=(K.2.2.1.then g4).Ql g9.a λk e0 e=>by have:=z.OL.size;omega
    have L5:fc l9 (.slice C5 L2 C6) l:=(K.2.2.2.1.fr (T:= []) (Fr.af g4) rfl rfl).fr d7 rfl rfl;have m0:=aS e8 A6 L5 (d7.hp L4 rfl);have b0:=aM (d7.hp ((g4.block D d2).trans b6.1) rfl) (d7.hp ((g4.block _ p2).trans b6.2.1) rfl) (d7.hp ((g4.block _ t2).trans b6.2.2) rfl);clear d0 d1 d2 N p1 p2 t0 t1 t2 u8 g4 L4 g8 g2 R1 u1 K3 E9 d7 A6 L5 e8 g9 K9;obtain⟨d0,d1,d2⟩:=cr b0.1;obtain⟨N,p1,p2⟩:=cr b0.2.1;obtain⟨t0,t1,t2⟩:=cr b0.2.2;have m7:∀l2:List Pt,l2.Perm l->Kw g C b l2 x:=λl2 g7=>by have:=R4 L l2 z.l_.1 z.l_.2.1 z.l_.2.2 (K.1.perm g7);rwa[r4.2.2,e7.2.2.2]at this
    have D8:L2<=2048:=by rw[<-L3];have:=K.1.len;have:=jA L;have:=z.l_.2.2;have:=b9.ring.2;omega
    have u9:Rm g u.N 9000 (Mx g C b).1:=M6.run (λa L6=>by
     obtain⟨k,-,rfl|rfl⟩:=gK L6
     .exact sQ _ _ _
     .exact yS _) (by
     have:=lI b9.bZ C.tell g.M (QP _);unfold eC;simp only[RE,RL,SQ,WG];omega)
    have e8:cY l9 Z g ⟨(Mx g C b).1,x,cR g C⟩ C.told true:=m0.1;have L7:RH (∀V,ar l9 V->aD 134 #[aq A,.func (.func 135) #[] #[.pointer (some ⟨A+1,0,none⟩),aq X]] V λe E=>aK e (.tuple #[])/\∃l2:List Pt,l2.Perm l/\cY E Z g ⟨(KV g C b l2).1,x,cR g C⟩ C.told true/\Fr TB aF V E):=λV G=>by have:=OI (c6:=A+1) (c18:=X) (pv:=.slice C5 L2 C6) (l:=l) (e8.below G) ((G.block _ p2).trans (by rw[I.1];exact b0.2.1)) ((G.block _ (Z_ m0.2.2.2)).trans m0.2.2.2) (m0.2.2.1.fr (T:= []) (Fr.af G) rfl rfl) b9.bZ u9.dd (λp g7=>F8 L p z.l_.1 z.l_.2.1 (K.1.mem g7)) K.1.mB aa (λm v C1 q0=>by have:=u9.mem m v C1 q0;omega) λl2 g7=>(m7 l2 g7).e2;rw[I.1]at this;exact this
    have L8:=ad m7;have L9:=ad u9;clear m7 u9 e8;go_wp2_with fail;rw[K.2.2.2.2.1];refine(L7 _ (by first|exact aj|exact ct aj _)).mono ?_;rintro e m8 ⟨rfl,l2,v0,A7,h6⟩;have i2:=L8.out l2 v0;have m9:Rm g u.N 6000 (KV g C b l2).1:=L9.run (λa L6=>gv a L6) (by rw[RL];have h1:(fM (cR g C) l2).length<=l2.length:=VS _ _;have h2:=v0.length_eq;omega);have n0:cI (b8+1) (Y+L.length)/\Y+L.length<4500000000000000000:=by have h1:=A5.2;have h2:1<=Y:=L1.out.2.2.1;have h3:=jQ L;have h4:=z.l_.2.2;have h5:=b9.ring.2;exact⟨⟨aa,aa,aa⟩,aa⟩
    have g5:x.ep=b8/\x.nx=Y+L.length/\x.bad=0/\x.sure=true/\x.N=u.N:=by rw[<-e7.2.2.2];exact⟨rfl,rfl,rfl,rfl,rfl⟩
    have M0:Fit g 0 ⟨(KV g C b l2).1,x,cR g C⟩:=by
     refine⟨b9.bZ,m9.dd,λm v C1 q0=>?_,λv q0=>?_,g5.2.2.1,⟨?_,?_,?_⟩,QX _,λp g7=>(by cases g7),List.nodup_nil⟩
     .have:=m9.mem m v C1 q0;exact⟨this.1,aa⟩
     .have:=m9.gB v q0;exact⟨by rw[g5.2.2.2.2];exact this.1,aa⟩
     .show x.ep+0<=_;rw[g5.1];have:=A5.2.1;omega
     .show 1<=x.nx;rw[g5.2.1];exact n0.1.2.1
     .show x.nx+0<=_;rw[g5.2.1];omega
    have o0:=h6.hp b0.1 rfl;have o5:=h6.hp b0.2.1 rfl;have o6:=h6.hp b0.2.2 rfl;have A8:Fr mI aF w m8:=m0.2.1.tr (h6.wide mI rfl);have M1:RH (∀V,ar m8 V->aD 134 #[aq A,.func (.func 137) #[aq R] #[]] V λe E=>aK e (.tuple #[])/\cY E Z g ⟨(Fg g C b l2).1,x,cR g C⟩ C.told true/\Fr iH aF V E):=λV G=>by have:=OJ (A7.below G) M0 i2.e3;rw[I.1,I.2.2.1]at this;exact this
    obtain⟨S2,F0,h8⟩:=A7.arr.aL;rw[I.1]at h8;have b4:=II v0 i2 m9 n0 g5 A8 o0 o5 o6 h8;clear d0 d1 d2 N p1 p2 t0 t1 t2 v0 i2 m9 n0 g5 M0 A8 F0;obtain⟨d0,d1,d2⟩:=cr o0;obtain⟨N,p1,p2⟩:=cr o5;obtain⟨t0,t1,t2⟩:=cr o6;obtain⟨J,a1,a2⟩:=cr h8;have z0:m8.cell? ⟨A+1,0,none⟩=some (aq A):=N 0;have z1:m8.cell? (ag A 13)=some (aq R):=by rw[J,<-I.2.2.1];rfl
    clear N J d0 t0 o0 o5 o6 h8 L7 L8 L9;go_wp2_with fail;go_region_held3(λE=>E.cell? ⟨A+1,0,none⟩=some (aq A)/\E.cell? (ag A 13)=some (aq R)) ((simp[*,go_sem];done)) (first
     |(go_at_call 134;refine(M1 _ bC).mono ?_;rintro e o7 ⟨rfl,o8,F1⟩;have o9:Fr iH aF m8 o7:=by first|exact F1|exact(Fr.af (ct aj _)).tr F1
       have p6:=o9.hp b4.2.2.2.2.2.2.2.1 rfl;obtain⟨S3,p7,h9⟩:=o8.arr.aL;rw[I.1]at h9;obtain⟨k0,k1,k2⟩:=cr p6;obtain⟨k3,k4,k5⟩:=cr h9;have y0:o7.cell? ⟨A+1,0,none⟩=some (aq A):=k0 0;have y1:o7.cell? (ag A 13)=some (aq R):=by rw[k3,<-I.2.2.1];rfl
       have e9:=bX o8 o9 p6 p7 h9;clear k0 k3 F1 o9 o8 p6 h9 p7))
    have M2:Rm g u.N 5000 (Fg g C b l2).1:=b4.2.2.1.run (λa L6=>w_ a L6) (by rw[RL];have:=sH b9.bZ (cR g C);omega);have f0:=e9.2.1.hp b4.2.2.2.2.2.2.2.2.1 rfl;have A9:=e9.2.1.hp b4.2.2.2.2.2.2.1 rfl;have B0:Fr mI aF w o7:=b4.2.2.2.2.2.1.tr (e9.2.1.wide mI rfl);have M3:RH (∀V,ar o7 V->aD 134 #[aq A,.func (.func 138) #[] #[.pointer (some ⟨A+1,0,none⟩),aq T]] V λe E=>aK e (.tuple #[])/\cY E Z g ⟨(BG g C b l2 x).1,x.cy (b8+1),cR g C⟩ C.told true/\Fr fT aF V E):=λV G=>by obtain⟨x1,x2,x3,x4,x5⟩:=b4.2.2.2.2.1;have:=OK (c6:=A+1) (c7:=T) (e9.1.below G) ((G.block _ (Z_ e9.2.2.1)).trans (by rw[I.1];exact e9.2.2.1)) ((G.block _ (Z_ f0)).trans (by rw[I.2.2.2.1];exact f0)) (by show g.M<(Fg g C b l2).1.N;rw[M2.dd];omega) (by show cI (x.ep+1) x.nx;rw[x1,x2];exact b4.2.2.2.1.1) (λv q0=>by have:=M2.gB v q0;exact⟨by show 2+x.N<=_;rw[x5];exact this.1,aa⟩) x3 x4 b4.2.1.e4;rw[I.1]at this;rw[<-x1];exact this
    have F2:=aM f0 A9 B0;clear y0 y1 z0 z1 k1 k4 a1 p1 t1 d1 M1 A9;obtain⟨d0,d1,d3⟩:=cr F2.2.1;obtain⟨N,p1,p3⟩:=cr e9.2.2.1;obtain⟨t0,t1,t3⟩:=cr f0;clear f0 B0;go_wp2_with fail;refine(M3 _ (by first|exact aj|exact ct aj _)).mono ?_;rintro e v1 ⟨rfl,b1,i0⟩;have b7:=i0.hp F2.2.1 rfl;have B1:=i0.hp e9.2.2.1 rfl;have f4:Fr mI aF w v1:=F2.2.2.tr (i0.wide mI rfl);obtain⟨S4,p8,b2⟩:=b1.arr.aL;have Q:=b2;rw[I.1]at Q;obtain⟨y3,y4,y5⟩:=cr Q;obtain⟨y6,y7,y8⟩:=cr B1;obtain⟨x6,x7,x8⟩:=cr b7;have U7:=bX b1 p8 b2 f4 b7;have S5:v1.cell? (ag A 18)=some dU:=by rw[y3];rfl
    clear d0 d1 d3 N p1 p3 t0 t1 t3 b1 i0 f4 b2 Q p8 b7 B1 y3 M3;go_wp2_with fail;have i5:∃W,(v1.setCell (ag A 18) iD).setCell (ag D 0) (aG 0)=W:=⟨_,rfl⟩;obtain⟨W,i5⟩:=i5;obtain⟨b1,M4,b2,f4,b7⟩:=U7.out;have i1:=b1.set M4 b2 18 iD (u':=C.told) (yg':=false) rfl rfl;rw[I.1]at i1;have p9:=i1.2.1.hp b7 rfl;have B2:aZ W D (ao #[aG 0] 35):=by rw[<-i5];exact heap_setCell_same _ _ _ _ _ _ p9
    have B3:Fr [35] aF (v1.setCell (ag A 18) iD) W:=by rw[<-i5];exact(Fr.refl _ _ _).set (p:=ag D 0) p9 rfl H _
    have B4:=i1.1.fr B3 rfl;have B5:Fr mI aF w W:=by have Q:=b2;rw[I.1]at Q;have:=f4.set (p:=ag A 18) Q rfl (by have:=b1.arr.lo.1;rwa[I.1]at this) iD;rw[<-i5];exact this.new (p:=ag D 0) (RY f5.2) _
    have c0:W.cell? (ag D 0)=some (aG 0):=(cr B2).1 0;have M5:Kx B b g (u.zl i6) S b8 t Y w (.returned (.tuple #[aq A,aG 0])) W:=by
     have F3:C.N=u.N:=by rw[<-r4.2.2];rfl
     have v2:C.lz=u.lz:=by rw[<-r4.2.2];rfl
     rw[r4.2.2];unfold Kx;rw[F3,v2];refine⟨Z,L,l2,by rw[I.1],I.2.1,I.2.2.2.2.2.2.2.1,I.2.2.2.2.2.2.2.2,z.l_.1,z.l_.2.1,z.l_.2.2,K.1.perm (by first|exact b4.1|exact b4.1.symm),?_,B5⟩;rw[show(HA b8 t Y u.N L)=x from e7.2.2.2];exact B4
    clear i1 p9 B2 B3 B4 B5 b1 b2 f4 b7 M4;rw[i5];refine XI (f:=98) (args:= #[aq D]) aJ (by simp[go_sem]) ?_;refine(cM (ag D 0) _).mono ?_;rintro e u' U8 ⟨rfl,rfl,R2⟩;rw[R2];simp[Leaves,settle,RV,results72,go_sem,c0];exact M5
section
def Dk.nE(d:Dk)(a:Nat)(P:(Nat->Nat)->Prop):Prop:=P (d.f_ a)/\∀i,i<d.cn->d.cat i=a->P (d.bQ i)
variable {d:Dk} {a b:Nat} {P Q:(Nat->Nat)->Prop} {f:aO}
theorem Dk.nE.mono(h:d.nE a P)(q:∀f,P f->Q f):d.nE a Q:=⟨q _ h.1,λi c e=>q _ (h.2 i c e)⟩
theorem Dk.nE.view(h:d.nE a P):P (d.view a):=by
 rcases d.px a with e|⟨i,c,g,e⟩
 .rw [e];exact h.1
 .rw [e];exact h.2 i c g
theorem Dk.nE.wr(h:d.nE a P)(e:a=b->P f):(d.wr b f).nE a P:=by
 refine⟨h.1,λi g j=>?_⟩;have k:i<d.cn+1:=g;have c:(if i=d.cn then b else d.cat i)=a:=j;show P (if i=d.cn then f else d.bQ i);by_cases q:i=d.cn
 .rw [ak q]at c|-;exact e c.symm
 .rw [al q]at c|-;exact h.2 i J c
theorem Dk.nE.clean(c:d.cn=0)(h:P (d.view a)):d.nE a P:=⟨by rw[<-Dk.jr c];exact h,λi e=>J⟩
theorem Dk.nE.fl(h:P (d.view a)):(d.settled λ_=>true).nE a P:=⟨by rw[Dk.jt];exact h,λi c=>absurd c (SD _)⟩
theorem nF{g:dj}{cat:aO}{c:dj}{kp:Nat->Bool}(h:P (g a)):∀n,(∀i,i<n->cat i=a->P (c i))->P (bH g cat c kp n a)
 |0,_=>h
 |n+1,j=>by
  have k:=nF (kp:=kp) h n λi l=>j i J;unfold bH;split
  .show P (if a=cat n then c n else bH g cat c kp n a);split
   .exact j n (TX n) (by rename_i e;exact e.symm)
   .exact k
  .exact k
theorem Dk.nE.cut(h:d.nE a P)(kp:Nat->Bool):P ((d.settled kp).view a):=by rw[Dk.jr rfl];exact nF h.1 _ h.2
def JD(N t:Nat)(M W:Nat->(Nat->Nat)->Prop)(d:Dk):Prop:=∀q,q<N->d.nE (2+(t+q)%N) (M q)/\W q (d.view (2+(t+q)%N))
variable {N t:Nat} {M W M' W':Nat->(Nat->Nat)->Prop}
theorem Fh{x y:Nat}(i:x<N)(j:y<N)(e:(t+x)%N=(t+y)%N):x=y:=by
 have c:=WW (t+x) N;have k:=WW (t+y) N;rw[e]at c;have g:(t+x)/N=(t+y)/N:=by
  rcases Nat.lt_trichotomy ((t+x)/N) ((t+y)/N)with h|h|h
  .have:=Nat.mul_le_mul_left N (show(t+x)/N+1<=(t+y)/N by omega);rw[Nat.mul_succ]at this;omega
  .exact h
  .have:=Nat.mul_le_mul_left N (show(t+y)/N+1<=(t+x)/N by omega);rw[Nat.mul_succ]at this;omega
 rw[g]at c;omega
theorem JD.mono(h:JD N t M W d)(e:∀q f,q<N->M q f->M' q f)(g:∀q f,q<N->W q f->W' q f):JD N t M' W' d:=λq c=>⟨(h q c).1.mono λf=>e q f c,g q _ c (h q c).2⟩
theorem JD.wr(h:JD N t M W d){c:Nat}(i:c<N)(l:∀q f,q<N->M q f->M' q f)(m:M' c f)(n:∀q f,q<N->q≠c->W q f->W' q f)(j:W' c f):JD N t M' W' (d.wr (2+(t+c)%N) f):=λq g=>by
 have e:2+(t+q)%N=2+(t+c)%N->q=c:=λe=>Fh (t:=t) g i J;refine⟨((h q g).1.mono λf=>l q f g).wr λk=>by rw[e k];exact m,?_⟩;rw[Dk.eD];by_cases q:q=c
 .rw [q,ak rfl];exact j
 .rw [al λk=>q (e k)];exact n _ _ g q (h _ g).2
theorem JD.else(h:JD N t M W d)(g:a<2):JD N t M W (d.wr a f):=λq c=>by refine⟨(h q c).1.wr λe=>J,?_⟩;rw[Dk.eD,al J];exact(h q c).2
theorem Dk.lW(d:Dk)(a:Nat):(d.settled λ_=>true).view a=d.view a:=by rw[Dk.jr rfl,Dk.jt]
theorem JD.fl(h:JD N t M W d):JD N t W W (d.settled λ_=>true):=λq c=>⟨.fl (h q c).2,by rw[Dk.lW];exact(h q c).2⟩
theorem JD.nL{P W:(Nat->Nat)->Prop}(h:JD N t (λ_=>P) (λ_=>W) d)(i:t<N){c:Nat}:JD N c (λ_=>P) (λ_=>W) d:=λq j=>by
 have g:(c+q)%N<N:=SB _ J;generalize (c+q)%N=p at g;by_cases e:t<=p
 .have:=h (p-t) J;rwa[show t+(p-t)=p by omega,SL g]at this
 .have:=h (p+N-t) J;rwa[show t+(p+N-t)=p+N by omega,Nat.add_mod_right,SL g]at this
structure km(n:Nat)(f:aO):Prop where
 hd:∀h:Hd,h.ok->aC f h.enc->h.sq<n
 cm:∀h:Cm,h.ok->aC f h.enc->h.sq<n
theorem km.mono{n c:Nat}(h:km n f)(e:n<=c):km c f:=⟨λx a b=>RS (h.hd x a b) e,λx a b=>RS (h.cm x a b) e⟩
theorem km.congr{n:Nat}{c:aO}(h:km n f)(e:aC f c):km n c:=⟨λx a b=>h.hd x a (e.trans b),λx a b=>h.cm x a (e.trans b)⟩
theorem rQ{c:Nat}(h:gI c f):hz f=true:=rI h.Iv
theorem x'{h:Hd}(e:aC f h.enc):gI 1 f:=gI.of ai (λk=>kW _ _ _ _ _ _ k) e
theorem ya{h:Cm}(e:aC f h.enc):gI 2 f:=gI.of ai (λk=>cU (cH _) (cH _) k) e
theorem km.plain{n:Nat}(h:hz f=false):km n f:=
 ⟨λx _ b=>(Bool.noConfusion (h.symm.trans (rQ (x' b)))),λx _ b=>(Bool.noConfusion (h.symm.trans (rQ (ya b))))⟩
theorem km.nu{n:Nat}(f:aO):km n (ei f):=.plain<|by
 rcases vN f with⟨_,h⟩|⟨_,h⟩
 .exact h
 .unfold xK at h;unfold hz;simp only[decide_eq_true_eq,decide_eq_false_iff_not]at h|-;omega
theorem km.head{n:Nat}{h:Hd}(c:h.ok)(e:h.sq<n):km n h.enc:=
 ⟨λx a b=>by rw[<-Hd.cF a b,Hd.cF c (aC.refl _)];exact e,λx _ b=>absurd ((x' (aC.refl h.enc)).kind.symm.trans (ya b).kind) ai⟩
theorem km.tk{n:Nat}{h:Cm}(c:h.ok)(e:h.sq<n):km n h.enc:=
 ⟨λx _ b=>absurd ((ya (aC.refl h.enc)).kind.symm.trans (x' b).kind) ai,λx a b=>by rw[<-Cm.cF a b,Cm.cF c (aC.refl _)];exact e⟩
structure nT(P:bY):Prop where
 ok:P.ok
 n:1<=P.N/\P.N<=1023
theorem nT.wg{P:bY}(h:nT P){e c n j:Nat}(g:cI e c)(i:c<n)(k:j<=2*P.N):km n (bo e c P j):=by
 unfold bo;split
 .exact km.tk (h:=⟨e,c,P.N,fA e c P P.N⟩) ⟨g,h.n,kX e c P P.N⟩ i
 .split
  .exact km.head (h:=kL e c P (j/2)) (eo h.ok g h.n J) i
  .exact km.nu _
structure Bp(P Q:bY):Prop where
 n:P.N=Q.N
 at_:∀i,i<P.N->P.me i=Q.me i/\P.row i=Q.row i/\aC (P.da i) (Q.da i)
theorem MA{f h:aO}(e:hz f=hz h)(j:aC (ei f) (ei h)):aC f h:=λk l=>by
 have:=j k l;unfold ei at this;rw[e]at this;by_cases c:hz h=true/\k<4
 .have g:=e.trans c.1;have i:=c.1;unfold hz at g i;simp only[decide_eq_true_eq]at g i;have:k=0\/k=1\/k=2\/k=3:=J;rcases this with rfl|rfl|rfl|rfl<;>omega
 .rwa [al c,al c]at this
theorem bJ.uniq{F:dj}{j k c:Nat}{P Q:bY}(h:bJ F j k c P)(g:bJ F j k c Q):Bp P Q:=by
 have l:∀i,i<P.N->i<Q.N->kL j k P i=kL j k Q i:=λi a b=>by rw[<-Hd.cF (eo h.ok h.c h.cA a) (h.head a),Hd.cF (eo g.ok g.c g.cA b) (g.head b)]
 have n:P.N=Q.N:=congrArg Hd.cA (l 0 h.cA.1 g.cA.1);refine⟨n,λi m=>?_⟩;have e:=l i m J;exact⟨congrArg Hd.me e,congrArg Hd.row e,MA (congrArg Hd.nu e) ((h.data m).symm.trans (g.data J))⟩
theorem Fi{F:dj}{l k j c:Nat}(h:∀x:Hd,x.ok->aC (F 0) x.enc->x.sq=k->x.cA=c)(m:2*c+1<=j->km k (F (2*c)))(P:bY):¬bJ F l k j P:=λg=>by have e:P.N=c:=h _ (eo g.ok g.c g.cA (i:=0) g.cA.1) (g.head g.cA.1) rfl;have:=(m (by rw[<-e];exact g.room)).cm ⟨l,k,P.N,fA l k P P.N⟩ ⟨g.c,g.cA,kX l k P P.N⟩ (by rw[<-e];exact g.tk);exact UA _ this
theorem zm{F:dj}{j g c:Nat}(h:1<=c->km g (F 0))(P:bY):¬bJ F j g c P:=λe=>
 UA _ ((h (by have:=e.room;omega)).hd _ (eo e.ok e.c e.cA (i:=0) e.cA.1) (e.head e.cA.1))
end
section
def gY(ep:Nat):Nat->List bY->Nat->Nat->Nat
 |_,[],_=>zB
 |sq,P::l,q=>if q<=2*P.N then bo ep sq P q else gY ep (sq+1) l (q-(2*P.N+1))
theorem fa{ep:Nat}{P:bY}{j:Nat}(a:j<=2*P.N):∀{L:List bY} {sq i:Nat},L[i]?=some P->gY ep sq L (bl (L.take i)+j)=bo ep (sq+i) P j
 | [],_,_,h=>by simp at h
 |Q::l,sq,0,h=>by simp at h;subst h;show(if 0+j<=2*Q.N then bo ep sq Q (0+j)else _)=_;rw[RQ,ak a];rfl
 |Q::l,sq,i+1,h=>by show(if 2*Q.N+1+bl (l.take i)+j<=2*Q.N then _ else gY ep (sq+1) l (2*Q.N+1+bl (l.take i)+j-(2*Q.N+1)))=_;rw[al J,show 2*Q.N+1+bl (l.take i)+j-(2*Q.N+1)=bl (l.take i)+j by omega,fa a (sq:=sq+1) (show l[i]?=some P from h),show sq+1+i=sq+(i+1)by omega]
theorem mY{L:List bY}{P:bY}{i:Nat}(h:L[i]?=some P):bl (L.take (i+1))=bl (L.take i)+(2*P.N+1):=by rw[UQ,h];exact ir _ _
theorem HD(L:List bY)(i:Nat):bl (L.take i)<=bl L:=by have:=iq (L.take i) (L.drop i);rw[XJ]at this;omega
theorem gZ:∀{L:List bY} {q:Nat},q<bl L->∃i P j,L[i]?=some P/\j<=2*P.N/\q=bl (L.take i)+j
 | [],_,h=>absurd h (SD _)
 |P::l,q,h=>by
  by_cases e:q<=2*P.N
  .exact ⟨0,P,q,rfl,e,by show q=0+q;omega⟩
  .have c:bl (P::l)=2*P.N+1+bl l:=rfl;obtain⟨i,Q,j,a,b,d⟩:=gZ (L:=l) (q:=q-(2*P.N+1)) J;exact⟨i+1,Q,j,a,b,by show q=2*P.N+1+bl (l.take i)+j;omega⟩
variable {S:dj} {N ep t sq:Nat} {L L':List bY}
theorem kQ(S:dj)(N t a j:Nat):Bd S N ((t+a)%N) j=S ((t+(a+j))%N):=by unfold Bd;rw[Nat.mod_add_mod,UZ]
theorem pQ.of(c:∀P,P∈L->nT P)(d:∀i,i<L.length->cI ep (sq+i))(g:bl L<=N)(h:∀q,q<bl L->aC (S ((t+q)%N)) (gY ep sq L q)):pQ S N ep t sq L:=λi P a=>by have k:=mY a;have l:=HD L (i+1);have e:i<L.length:=(RC.1 a).1;have b:=c P (RF a);refine⟨b.ok,b.n,d i e,J,λj f=>?_⟩;rw[kQ,<-fa f a];exact h _ J
theorem pQ.uniq(h:pQ S N ep t sq L)(o:lR S N ep t sq L)(l:pQ S N ep t sq L')(g:lR S N ep t sq L'):dX Bp L L':=by
 have b:∀i,i<=L.length->i<=L'.length->bl (L.take i)=bl (L'.take i)/\∀k P Q,k<i->L[k]?=some P->L'[k]?=some Q->Bp P Q:=by
  intro i;induction i with
  |zero=>exactλ_ _=>⟨rfl,λk P Q m=>absurd m (SD _)⟩
  |succ i p=>
   intro u v;obtain⟨e,q⟩:=p J J;have j:L[i]?=some L[i]:=RA J;have d:L'[i]?=some L'[i]:=RA J;have r:=h i _ j;have a:=l i _ d;rw[<-e]at a;have n:=r.uniq a;refine⟨by rw[mY j,mY d,e,n.n],λk P Q m x y=>?_⟩;by_cases s:k=i
   .subst s;rw[j]at x;rw[d]at y;cases x;cases y;exact n
   .exact q k P Q J x y
 have f:L.length=L'.length:=by
  rcases Nat.lt_trichotomy L.length L'.length with c|c|c
  .have d:L'[L.length]?=some L'[L.length]:=RA c;have a:=l _ _ d;rw[<-(b L.length (QP _) J).1,UN]at a;exact absurd a (o _)
  .exact c
  .have d:L[L'.length]?=some L[L'.length]:=RA c;have a:=h _ _ d;rw[(b L'.length J (QP _)).1,UN]at a;exact absurd a (g _)
 exact⟨f,λi P Q x y=>(b L.length (QP _) J).2 i P Q (RC.1 x).1 x y⟩
def OM(p q:Pt):Prop:=ga p=ga q/\aC p.2.2 q.2.2
def Pw:Option (Nat->Nat)->Option (Nat->Nat)->Prop
 |some f,some h=>aC f h
 |none,none=>True
 |_,_=>False
theorem nG:∀{c d:List Pt} (_:dX OM c d) (x:Nat × Nat),Pw (bu c x) (bu d x)
 | [],[],_,_=>trivial
 | [],_::_,h,_=>absurd h.1 aJ
 |_::_,[],h,_=>absurd h.1 aJ
 |p::c,q::d,h,x=>by
  obtain⟨f,g⟩:=h.tail;have e:=nG g x;unfold bu;cases a:bu c x<;>cases b:bu d x<;>rw[a,b]at e
  .show Pw (if ga p=x then some p.2.2 else none) (if ga q=x then some q.2.2 else none);rw[f.1];split
   .exact f.2
   .trivial
  .exact e.elim
  .exact e.elim
  .exact e
theorem dX.app{α β:Type}{P:α->β->Prop}{a f:List α}{b g:List β}(h:dX P a b)(j:dX P f g):dX P (a++f) (b++g):=by
 refine⟨by rw[RE,RE,h.1,j.1],λi x y c d=>?_⟩;by_cases e:i<a.length
 .rw [RN e]at c;rw[RN (by rw[<-h.1];exact e)]at d;exact h.2 i x y c d
 .rw [RK J]at c;rw[RK (by rw[<-h.1];omega),<-h.1]at d;exact j.2 _ x y c d
theorem Bp.Qo{P Q:bY}(h:Bp P Q):dX OM (bL P P.N) (bL Q Q.N):=by
 refine⟨by rw[cT,cT,h.n],λi x y d e=>?_⟩;have f:i<P.N:=by have:=(RC.1 d).1;rwa[cT]at this
 have g:i<Q.N:=by rw[<-h.n];exact f
 unfold bL at d e;rw[RU,SP f,RJ]at d;rw[RU,SP g,RJ]at e;cases d;cases e;obtain⟨a,b,c⟩:=h.at_ i f;exact⟨by show(P.me i,P.row i)=(Q.me i,Q.row i);rw[a,b],c⟩
theorem pX:∀{L L':List bY},dX Bp L L'->dX OM (cb L) (cb L')
 | [],[],_=>⟨rfl,λi x y a=>by simp[cb]at a⟩
 | [],_::_,h=>absurd h.1 aJ
 |_::_,[],h=>absurd h.1 aJ
 |P::l,Q::d,h=>by obtain⟨b,c⟩:=h.tail;exact b.Qo.app (pX c)
theorem jR:∀(b a:List Pt) (x:Nat × Nat),bu (b++a) x=match bu a x with|some f=>some f|none=>bu b x
 | [],a,x=>by show bu a x=_;cases bu a x<;>rfl
 |p::b,a,x=>by show(match bu (b++a) x with|some f=>some f|none=>if ga p=x then some p.2.2 else none)=_;rw[jR b a x];cases bu a x<;>rfl
end
section
abbrev eW:=Nat->Nat->Nat->Nat
structure Cp where
 t:Nat
 K:(Nat->Nat)->Prop
 KW:(Nat->Nat)->Prop
 M:Nat->(Nat->Nat)->Prop
 W:Nat->(Nat->Nat)->Prop
 kT:Nat->Nat->Prop
 V:eW
structure Kz(g:au)(u:Su)(c:Cp)(k:Nat)(d:Dk):Prop where
 sup:d.nE 0 fun f=>aC f (fQ g (u.sl k))
 row:∀r,r<g.R->¬c.kT k r->d.nE (1+r) fun f=>aC f (c.V k r)
structure Qp(g:au)(u:Su)(N:Nat)(c:Cp)(d:Dk):Prop where
 sup:d.nE 0 fun f=>aC f (fQ g (u.sl g.M))
 ck:d.nE 1 c.K
 kw:c.KW (d.view 1)
 ring:JD N c.t c.M c.W d
def CQ(g:au)(u:Su)(N:Nat)(c:Cp)(k:Nat)(d:Dk):Prop:=(k<g.M->Kz g u c k d)/\(k=g.M->Qp g u N c d)
structure Fd(g:au)(N ep:Nat)(Vs:eW->Prop)(c:Cp)(f:aO)(S:dj)(t sq:Nat)(L:List bY)(V:eW):Prop where
 ck:aC f (aW ep sq t)
 tN:t<N
 cn:cI ep sq
 l_:pQ S N ep t sq L
 Bq:lR S N ep t sq L
 used:bl L<=N
 lim:ep<4000000000000000000/\sq+L.length<4000000000000000000
 vs:Vs V
 ga:∀p,p∈cb L->p.1<g.M/\p.2.1<g.R
 val:∀m r f,bu (cb L) (m,r)=some f->aC f (V m r)
 wg:∀m r,m<g.M->r<g.R->bu (cb L) (m,r)=none->¬c.kT m r/\aC (c.V m r) (V m r)
def Yl(g:au)(N a:Nat)(Vs:eW->Prop)(c:Cp):Prop:=c.t<N/\∀f S,c.K f->(∀q,q<N->c.M q (S ((c.t+q)%N)))->∃t sq L V,Fd g N a Vs c f S t sq L V
def Can(g:au)(u:Su)(N a:Nat)(Vs:eW->Prop)(b:By):Prop:=∃c,qs none (CQ g u N c) b/\Yl g N a Vs c
structure Jl(g:au)(N sq:Nat)(x:Wl)(L:List bY)(Vp V:eW):Prop where
 n:x.N=N
 t:x.t<N
 u:x.u=bl L
 uN:x.u<=N
 nx:x.nx=sq+L.length
 c:cI x.ep x.nx
 lim:x.ep<4000000000000000000/\x.nx<4000000000000000000
 sq:1<=sq
 pk:∀P,P∈L->nT P
 pl:∀p,p∈cb L->p.1<g.M/\p.2.1<g.R
 val:∀m r f,bu (cb L) (m,r)=some f->aC f (V m r)
 sure:x.sure=true->Vp=V
 tail:x.sure=false->∃L' T,L=L'++ [T]/\(∀m r f,bu (cb L') (m,r)=some f->aC f (Vp m r))/\∀m r,m<g.M->r<g.R->bu (bL T T.N) (m,r)=none->aC (Vp m r) (V m r)
def Mp(x:Wl)(sq:Nat)(L:List bY)(P:bY)(q:Nat)(f:aO):Prop:=
 if q<x.u then aC f (gY x.ep sq L q)\/(x.sure=false/\q+1=x.u/\km (x.nx-1) f)else km x.nx f\/(q<x.u+2*P.N/\aC f (bo x.ep x.nx P (q-x.u)))
def Wp(x:Wl)(sq:Nat)(L:List bY)(P:bY)(j q:Nat)(f:aO):Prop:=
 if q<x.u then aC f (gY x.ep sq L q)else if q<x.u+j then aC f (bo x.ep x.nx P (q-x.u))else km x.nx f
def tv(x:Wl)(L:List bY)(m r:Nat):Prop:=bu (cb (if x.sure=true then L else L.dropLast)) (m,r)≠none
def pY(x:Wl)(sq:Nat)(L:List bY)(P:bY)(j:Nat)(Vp:eW):Cp:=⟨x.t,λf=>aC f (aW x.ep sq x.t),λf=>aC f (aW x.ep sq x.t),Mp x sq L P,Wp x sq L P j,tv x L,Vp⟩
variable {g:au} {u:Su} {N sq:Nat} {x:Wl} {L:List bY} {Vp V:eW} {Vs:eW->Prop} {S:dj} {P:bY}
theorem cI.le{a n k:Nat}(h:cI a n)(b:1<=k)(c:k<=n):cI a k:=⟨h.1,b,QO c h.2.2⟩
theorem jS(L:List bY)(T:bY):(L++ [T]).dropLast=L:=aJ
theorem Jl.wg(h:Jl g N sq x L Vp V){q:Nat}{f:aO}(a:Mp x sq L P q f)(c:q<x.u):km x.nx f:=by
 unfold Mp at a;rw[ak c]at a;rcases a with a|⟨-,-,a⟩
 .obtain ⟨i,Q,j,b,d,rfl⟩:=gZ (L:=L) (by rw[<-h.u];exact c);rw[fa d b]at a;have e:i<L.length:=(RC.1 b).1;have:=h.nx;have:=h.sq;exact((h.pk Q (RF b)).wg (h.c.le J J) (show sq+i<x.nx by omega) d).congr a.symm
 .exact a.mono (ZH _ _)
theorem Jl.Bq(h:Jl g N sq x L Vp V)(l:P.N=0\/nT P)(i:P.N≠0->x.u+2*P.N+1<=N)(e:∀q,q<N->Mp x sq L P q (S ((x.t+q)%N))):lR S N x.ep x.t sq L:=by
 intro Q;rw[<-h.u,<-h.nx];by_cases b:P.N=0
 .refine zm (λm=>?_) Q;rw[kQ];have:=e (x.u+0) J;unfold Mp at this;rw[al J]at this;rcases this with a|⟨a,-⟩
  .exact a
  .omega
 .have d:=l.resolve_left b;have i:=i b;refine Fi (c:=P.N) (λy j f o=>?_) (λ_=>?_) Q
  .rw [kQ]at f;have:=e (x.u+0) J;unfold Mp at this;rw[al J]at this;rcases this with a|⟨-,a⟩
   .exact absurd (a.hd y j f) J
   .have n:aC (kL x.ep x.nx P 0).enc y.enc:=by
     have k:=a.symm.trans f;rw[show x.u+0-x.u=2*0 by omega,mh _ _ _ _ d.n.1]at k;exact k
    have:=(Hd.cF (eo d.ok h.c d.n d.n.1) (aC.refl _)).symm.trans (Hd.cF j n);rw[<-this];rfl
  .rw [kQ];have:=e (x.u+2*P.N) J;unfold Mp at this;rw[al J]at this;rcases this with a|⟨a,-⟩
   .exact a
   .omega
theorem nT.Qq(h:nT P){a sq:Nat}(c:cI a sq){f:aO}(d:aC f (bo a sq P 0)){y:Hd}(e:y.ok)(i:aC f y.enc):y.cA=P.N:=by have b:=d.symm.trans i;rw[show(0:Nat)=2*0 by omega,mh _ _ _ _ h.n.1]at b;have:=(Hd.cF (eo h.ok c h.n h.n.1) (aC.refl (kL a sq P 0).enc)).symm.trans (Hd.cF e b);rw[<-this];rfl
theorem Jl.yl(h:Jl g N sq x L Vp V)(Z:P.N=0\/nT P)(B:P.N≠0->x.u+2*P.N+1<=N)(j:Nat)(H:Vs V)(C:x.sure=false->Vs Vp):Yl g N x.ep Vs (pY x sq L P j Vp):=by
 refine⟨h.t,λf S K A=>?_⟩;have a3:=h.u;have D:=h.nx;have M:=h.sq;have R:=h.uN;have l:∀i,i<L.length+1->cI x.ep (sq+i):=λi O=>h.c.le aa aa;by_cases E:(∀q,q<x.u->aC (S ((x.t+q)%N)) (gY x.ep sq L q))
 .refine ⟨x.t,sq,L,V,K,h.t,l 0 aa,pQ.of h.pk (λi O=>l i aa) aa (λq n=>E q aa),h.Bq Z B A,aa,by have:=h.lim;omega,H,h.pl,h.val,λm r I B o=>?_⟩;cases d:x.sure with
  |true=>refine⟨?_,by rw[show(pY x sq L P j Vp).V=Vp from rfl,h.sure d];exact aC.refl _⟩;show¬tv x L m r;unfold tv;rw[d,ak rfl];exactλa=>a o
  |false=>
   obtain⟨k,T,rfl,U,W⟩:=h.tail d;rw[gp,jR]at o;cases v:bu (bL T T.N) (m,r)with
   |some f=>rw[v]at o;cases o
   |none=>rw[v]at o;refine⟨?_,W m r I B v⟩;show¬tv x _ m r;unfold tv;rw[d,al ai,jS];exactλa=>a o
 .
  have d:x.sure=false:=by
   cases d:x.sure with
   |false=>rfl
   |true=>refine absurd (λq n=>?_) E;have:=A q aa;simp only[pY,Mp,ak n,d]at this;exact this.resolve_right λa=>by simp at a
  obtain⟨k,T,rfl,U,W⟩:=h.tail d;have Y:=ir k T;rw[RE,List.length_singleton]at D l;have s:∀q,q+1<x.u->aC (S ((x.t+q)%N)) (gY x.ep sq (k++ [T]) q):=λq n=>by have:=A q aa;simp only[pY,Mp,ak (show q<x.u by omega)]at this;exact this.resolve_right λa=>aa
  have v:=h.pk T (ZC _ (TC.2 rfl));have w:km (x.nx-1) (S ((x.t+(x.u-1))%N)):=by
   have:=A (x.u-1) aa;simp only[pY,Mp,ak (show x.u-1<x.u by omega)]at this;refine(this.resolve_left λa=>E λq n=>?_).2.2;by_cases e:q+1<x.u
   .exact s q e
   .rwa [show q=x.u-1 by omega]
  have F:∀i Q,k[i]?=some Q->(k++ [T])[i]?=some Q:=λi Q n=>by rw[RN (RC.1 n).1];exact n
  have t:∀q,q<bl k->gY x.ep sq (k++ [T]) q=gY x.ep sq k q:=λq n=>by obtain⟨i,Q,j,a,b,rfl⟩:=gZ (L:=k) n;rw[fa b a,<-fa b (F i Q a),XM (by have:=(RC.1 a).1;omega)]
  refine⟨x.t,sq,k,Vp,K,h.t,l 0 aa,pQ.of (λQ J=>h.pk Q (ZM _ J)) (λi O=>l i aa) aa (λq n=>by rw[<-t q n];exact s q aa),λQ=>?_,aa,by have:=h.lim;omega,C d,λp a0=>h.pl p (by rw[gp];exact ZM _ a0),U,λm r _ _ o=>⟨?_,aC.refl _⟩⟩
  .have z:(k++ [T])[k.length]?=some T:=aJ;have G:∀j,j<=2*T.N->gY x.ep sq (k++ [T]) (bl k+j)=bo x.ep (sq+k.length) T j:=λj a1=>by have:=fa (ep:=x.ep) (sq:=sq) a1 z;rwa[List.take_left' rfl]at this
   refine Fi (c:=T.N) (λy a2 X a4=>?_) (λ_=>?_) Q
   .rw [kQ]at X;have:=s (bl k+0) (by have:=v.n;omega);rw[G 0 aa]at this;exact v.Qq (l _ aa) this a2 X
   .rw [kQ,show bl k+2*T.N=x.u-1 by omega,show sq+k.length=x.nx-1 by omega];exact w
  .show ¬tv x _ m r;unfold tv;rw[d,al ai,jS];exactλa=>a o
def KX(x:Wl)(sq:Nat)(L:List bY)(P:bY)(V:eW)(a:aO):Cp:=⟨x.t,λf=>aC f (aW x.ep sq x.t)\/aC f a,λf=>aC f a,Mp x sq L P,Wp x sq L P 0,λ_ _=>False,V⟩
theorem Jl.Qs(h:Jl g N sq x L Vp V)(j:P.N=0)(k:x.sure=true)(l:Vs V):Yl g N x.ep Vs (KX x sq L P V (aW x.ep x.nx ((x.t+x.u)%x.N))):=by
 refine⟨h.t,λf S b d=>?_⟩;rcases b with b|b
 .obtain ⟨t,i,s,v,q⟩:=(h.yl (Vs:=Vs) (.inl j) (λa=>absurd j a) 0 l λa=>by rw[k]at a;cases a).2 f S b d;exact⟨t,i,s,v,q.ck,q.tN,q.cn,q.l_,q.Bq,q.used,q.lim,q.vs,q.ga,q.val,λm r w y z=>⟨λa=>a,by rw[show(KX x sq L P V (aW x.ep x.nx ((x.t+x.u)%x.N))).V=V from rfl,<-h.sure k];exact(q.wg m r w y z).2⟩⟩
 .rw [h.n]at b;have n:0<N:=Nat.lt_of_le_of_lt (QX _) h.t;refine⟨_,_,[],V,b,SB _ n,h.c,pQ.nil,λQ=>zm (λ_=>?_) Q,QX _,h.lim,l,λp A=>by simp[cb]at A,λm r f b=>(by cases b),λm r _ _ _=>⟨λa=>a,aC.refl _⟩⟩;rw[kQ];have c:∀q,q<N->km x.nx (S ((x.t+q)%N)):=λq o=>by
   by_cases e:q<x.u
   .exact h.wg (d q o) e
   .have:=d q o;simp only[KX,Mp,al e]at this;exact this.resolve_right λa=>J
  show km x.nx (S (((x.t+x.u)%N+0)%N));have:=c (x.u%N) (SB _ n);rwa[Nat.add_mod_mod,<-Nat.mod_mod (x.t+x.u) N]at this
end
section
def By.er(b:By):By:={b with aY:=none}
theorem By.pZ{b:By}{k:Nat}{a:Dv->Dv × Nat}(h:(b.op k a).2=0):b.er.op k a=((b.op k a).1.er,0):=by
 unfold By.op at h|-;by_cases d:b.out=true
 .rw [ak d]at h;cases h
 .rw [al d]at h|-;have f:b.er.out=false:=by
   unfold By.out at d|-;show(b.bq||(none:Option Nat)==some 0)=false;cases i:b.bq with
   |true=>rw[i]at d;exact absurd rfl d
   |false=>rfl
  rw[f,al ai];show(match b.dv k with|none=>(b.er.tick,51)|some v=>(b.er.tick.put k (a v.use).1,(a v.use).2))=_;cases e:b.dv k with
  |none=>rw[e]at h;cases h
  |some v=>rw[e]at h;exact Prod.ext rfl h
theorem By.vX{b:By}:∀{l:List fL},(b.run l).2.2=0->(b.run l).2.1=0:=by
 intro l;induction l generalizing b with
 |nil=>exactλ_=>rfl
 |cons a f d=>
  intro h;unfold By.run at h|-;by_cases e:(b.op a.1 a.2).2=0
  .rw [ak e]at h|-;exact d h
  .rw [al e]at h;exact absurd h e
theorem By.p_:∀(l:List fL) {b:By},(b.run l).2.2=0->b.er.run l=((b.run l).1.er,0,0)
 | [],_,_=>rfl
 |a::d,b,h=>by
  unfold By.run at h|-;by_cases e:(b.op a.1 a.2).2=0
  .rw [ak e]at h|-;rw[By.pZ e,ak rfl];exact By.p_ d h
  .rw [al e]at h;exact absurd h e
theorem By.Fj{b:By}{J:Nat}{a:aO}{d:dj}:∀n,(b.dq J a d n).2=0->b.er.dq J a d n=((b.dq J a d n).1.er,0)
 |0,_=>rfl
 |n+1,h=>by
  unfold By.dq at h|-;by_cases e:(b.dq J a d n).2=0
  .rw [ak e]at h|-;rw[By.Fj n e,ak rfl];exact By.pZ h
  .rw [al e]at h;exact absurd h e
theorem By.KA{b:By}{J:Nat}{a:aO}{d:dj}{n:Nat}(h:(b.iF J a d n).2=0):b.er.iF J a d n=((b.iF J a d n).1.er,0):=by
 unfold By.iF at h|-;by_cases e:(b.dq J a d n).2=0
 .rw [ak e]at h|-;rw[By.Fj n e,ak rfl];exact By.pZ h
 .rw [al e]at h;exact absurd h e
theorem By.MB{b:By}{J:Nat}{f:aO}(h:(b.ck J f).2=0):b.er.ck J f=((b.ck J f).1.er,0):=by
 unfold By.ck at h|-;by_cases e:(b.op J (aN 1 f)).2=0
 .rw [ak e]at h|-;rw[By.pZ e,ak rfl];exact By.pZ h
 .rw [al e]at h;exact absurd h e
def Rs.er(s:Rs):Rs:={s with b:=s.b.er}
variable {g:au} {s s':Rs} {k:Nat}
theorem mZ(h:dt s s' k 0):dt s.er s'.er k 0:=by
 obtain⟨l,d,a,f,i⟩:=h;have e:(s.b.run ((fM s.ro l).map ha)).2.2=0:=by rw[a]
 refine⟨l,d,?_,f,i⟩;show s.b.er.run ((fM s.ro l).map ha)=_;have b:=By.vX e;rw[By.p_ _ e,a];rw[a]at b;rw[show k=0 from b];rfl
theorem Br(h:cz s s' k 0):cz s.er s'.er k 0:=by
 unfold cz at h|-;show if s.x.sure=true then _ else _
 split at h
 .rename_i c;rw[ak c];exact mZ h
 .rename_i c;rw[al c];exact⟨by rw[h.1],h.2⟩
theorem rR(h:(s.synced g).2=0):s.er.synced g=((s.synced g).1.er,0):=by
 unfold Rs.synced at h|-;show(if s.x.sure=true then(s.er,0)else _)=_;by_cases c:s.x.sure=true
 .rw [ak c,ak c]
 .rw [al c]at h|-;rw[al c];have e:(s.b.op g.M ba).2=0:=h;have a:s.er.b.op g.M ba=((s.b.op g.M ba).1.er,0):=By.pZ e;rw[a,e];rfl
theorem Bs(h:bV g s s' k 0):bV g s.er s'.er k 0:=by have a:=d' h;unfold bV at h|-;rw[rR a,ak rfl];rw[ak a]at h;exact Br h
theorem p'(h:eA g s s' k 0):eA g s.er s'.er k 0:=by
 obtain⟨a,d,f⟩:=h;have e:(s.b.run ((oX g s.ro).map di)).2.2=0:=by rw[a]
 refine⟨?_,d,f⟩;show s.b.er.run ((oX g s.ro).map di)=_;have b:=By.vX e;rw[By.p_ _ e,a];rw[a]at b;rw[show k=0 from b];rfl
theorem qa(h:gy g s s' k 0):gy g s.er s'.er k 0:=by obtain⟨d,f,a⟩:=h;have e:s.er.nk g s.x.ep=((s.nk g s.x.ep).1.er,0):=By.MB a.symm;refine⟨?_,f,by show 0=(s.er.nk g s.x.ep).2;rw[e]⟩;show s'.er={s.er with b:=(s.er.nk g s.x.ep).1,x:=s.x.qm s.x.ep (s.er.nk g s.x.ep).2};rw[e,d,<-a];rfl
theorem Lit.HE{Q d:Nat->Dk->Prop}{b:By}(h:Lit none Q b){a:fL}(e:a.1<b.N)(f:eT Q d a):((b.op a.1 a.2).2=0/\Lit none d (b.op a.1 a.2).1)\/((b.op a.1 a.2).2=50/\b.aY≠none/\qt none Q (b.op a.1 a.2).1):=by
 rcases h.op e f with q|⟨-,q,-⟩|⟨i,j,l⟩
 .exact .inl q
 .cases q
 .exact .inr ⟨i,by rw[j];simp,l⟩
theorem Lit.HF{Q:Nat->Nat->Dk->Prop}{b:By}{l:List fL}(h:Lit none (Q 0) b)(d:∀i a,l[i]?=some a->a.1<b.N/\eT (Q i) (Q (i+1)) a):
  ((b.run l).2.2=0/\Lit none (Q l.length) (b.run l).1)\/((b.run l).2.2=50/\b.aY≠none/\∃i,i<=l.length/\qt none (Q i) (b.run l).1):=by
 rcases Lit.run l Q b h d with q|⟨-,q,-⟩|q
 .exact .inl q
 .cases q
 .exact .inr q
variable {u:Su} {N:Nat} {c c':Cp}
theorem Kz.else{d:Dk}{r:Nat}{f:aO}(h:Kz g u c k d)(a:c.kT k r):Kz g u c k (d.wr (1+r) f):=
 ⟨h.sup.wr λe=>J,λj b i=>(h.row j b i).wr λe=>absurd a (by rwa[show r=j by omega])⟩
def Cp.le(g:au)(c c':Cp):Prop:=∀m r,m<g.M->r<g.R->¬c'.kT m r->¬c.kT m r/\aC (c.V m r) (c'.V m r)
theorem Cp.le.refl(a:c'.kT=c.kT)(b:c'.V=c.V):Cp.le g c c':=λm r _ _ h=>by rw[a]at h;rw[b];exact⟨h,aC.refl _⟩
theorem Kz.le{d:Dk}(h:Kz g u c k d)(b:k<g.M)(e:Cp.le g c c'):Kz g u c' k d:=
 ⟨h.sup,λr a i=>(h.row r a (e k r b a i).1).mono λf j=>j.trans (e k r b a i).2⟩
theorem zn{q0:Nat}{f:aO}(l:∀j,j<128->f j<256)(m:q0<N)(n:c'.t=c.t)(o:c'.K=c.K)(a:c'.KW=c.KW)(p:∀q f,q<N->c.M q f->c'.M q f)(b:c'.M q0 f)(r:∀q f,q<N->q≠q0->c.W q f->c'.W q f)(i:c'.W q0 f)(t:Cp.le g c c'):
  eT (CQ g u N c) (CQ g u N c') (g.M,aN (2+(c.t+q0)%N) f):=
 dO l (λd h=>⟨λe=>absurd e (UA _),λ_=>by
  obtain⟨v,w,x,y⟩:=h.2 rfl;refine⟨v.wr λe=>J,?_,?_,?_⟩
  .rw [o];exact w.wr λe=>J
  .rw [a,Dk.eD,al J];exact x
  .rw [n];exact y.wr m p b r i⟩)
  λj d z h=>⟨λe=>(h.1 e).le e t,λe=>absurd e z⟩
theorem Fk(n:c'.t=c.t)(i:∀f,c.KW f->c'.K f/\c'.KW f)(l:∀q f,q<N->c.W q f->c'.M q f/\c'.W q f)(o:Cp.le g c c'):eT (CQ g u N c) (CQ g u N c') (di g.M):=
 e' (λd h=>⟨λe=>absurd e (UA _),λ_=>by
  obtain⟨p,v,m,r⟩:=h.2 rfl;refine⟨.fl p.view,.fl (i _ m).1,?_,?_⟩
  .rw [Dk.lW];exact(i _ m).2
  .rw [n];exact r.fl.mono (λq f b a=>(l q f b a).1) λq f b a=>(l q f b a).2⟩)
  λj d t h=>⟨λe=>(h.1 e).le e o,λe=>absurd e t⟩
theorem KB{p:Pt}(a:∀j,j<128->p.2.2 j<256)(b:p.1<g.M)(f:c.kT p.1 p.2.1):eT (CQ g u N c) (CQ g u N c) (ha p):=
 dO a (λd h=>⟨λe=>(h.1 e).else f,λe=>absurd b J⟩) λj d i h=>h
theorem MC{f:aO}(b:∀j,j<128->f j<256)(i:c'.t=c.t)(l:∀f,c.K f->c'.K f)(a:c'.K f/\c'.KW f)(m:∀q f,q<N->c.M q f->c'.M q f)(n:∀q f,q<N->c.W q f->c'.W q f)(o:Cp.le g c c'):eT (CQ g u N c) (CQ g u N c') (g.M,aN 1 f):=
 dO b (λd h=>⟨λe=>absurd e (UA _),λ_=>by
  obtain⟨p,r,w,t⟩:=h.2 rfl;refine⟨p.wr λe=>J,(r.mono l).wr λ_=>a.1,?_,?_⟩
  .rw [Dk.eD,ak rfl];exact a.2
  .rw [i];exact(t.mono m n).else J⟩)
  λj d v h=>⟨λe=>(h.1 e).le e o,λe=>absurd e v⟩
theorem CQ.mono{d:Dk}{j:Nat}(h:CQ g u N c j d)(b:c'.t=c.t)(i:∀f,c.K f->c'.K f)(a:∀f,c.KW f->c'.KW f)(l:∀q f,q<N->c.M q f->c'.M q f)(m:∀q f,q<N->c.W q f->c'.W q f)(n:Cp.le g c c'):CQ g u N c' j d:=
 ⟨λe=>(h.1 e).le e n,λe=>⟨(h.2 e).sup,(h.2 e).ck.mono i,a _ (h.2 e).kw,by rw[b];exact(h.2 e).ring.mono l m⟩⟩
end
section
def bY.no:bY:=⟨0,λ_=>0,λ_=>0,λ_ _=>0⟩
structure Cx(g:au)(u:Su)(N sq:Nat)(s:Rs)(L:List bY)(Vp V:eW):Prop where
 jl:Jl g N sq s.x L Vp V
 lit:Lit none (CQ g u N (pY s.x sq L bY.no 0 Vp)) s.b
 gt:Gt g none V s.er
 wt:∀p,p∈s.ro.wt->bu (cb L) (p.1,p.2.1)≠none
structure ZV(g:au)(u:Su)(N ep:Nat)(Vs:eW->Prop)(b b':By)(er:Nat):Prop where
 er:er=50
 aY:b.aY≠none
 bq:b'.bq=true
 can:Can g u N ep Vs b'
def qh(g:au)(u:Su)(N ep:Nat)(Vs:eW->Prop)(b b':By)(er:Nat)(A:Prop):Prop:=(er=0/\(b.aY=none->b'.aY=none)/\A)\/ZV g u N ep Vs b b' er
variable {g:au} {u:Su} {N sq ep:Nat} {s s':Rs} {L:List bY} {Vp V:eW} {Vs:eW->Prop} {k er:Nat} {c c':Cp} {b b' b1:By} {A B:Prop}
theorem qt.ends(h:qt none (CQ g u N c) b')(a:Yl g N ep Vs c)(d:b.aY≠none)(e:er=50):ZV g u N ep Vs b b' er:=⟨e,d,h.bq,c,h.dev,a⟩
theorem ZV.back(h:ZV g u N ep Vs b1 b' er)(a:b.aY=none->b1.aY=none):ZV g u N ep Vs b b' er:=⟨h.er,λe=>h.aY (a e),h.bq,h.can⟩
theorem qh.mono(h:qh g u N ep Vs b b' er A)(a:A->B):qh g u N ep Vs b b' er B:=h.imp (λ⟨d,e,f⟩=>⟨d,e,a f⟩) id
theorem qh.back(h:qh g u N ep Vs b1 b' er A)(a:b.aY=none->b1.aY=none):qh g u N ep Vs b b' er A:=h.imp (λ⟨d,f,i⟩=>⟨d,λe=>f (a e),i⟩) λh=>h.back a
theorem Yl.le(h:Yl g N ep Vs c)(d:c'.t=c.t)(n:∀f,c'.K f->c.K f)(o:∀q f,q<N->c'.M q f->c.M q f)(p:∀m r,c'.kT m r->c.kT m r)(hV:c'.V=c.V):Yl g N ep Vs c':=by refine⟨by rw[d];exact h.1,λf S v w=>?_⟩;obtain⟨t,sq,L,V,q⟩:=h.2 f S (n f v) λq e=>o q _ e (by rw[<-d];exact w q e);exact⟨t,sq,L,V,q.ck,q.tN,q.cn,q.l_,q.Bq,q.used,q.lim,q.vs,q.ga,q.val,λm r i j l=>⟨λa=>(q.wg m r i j l).1 (p m r a),by rw[hV];exact(q.wg m r i j l).2⟩⟩
theorem Lit.zo{Q a:Nat->Dk->Prop}(h:Lit none Q b)(e:∀j d,Q j d->a j d):Lit none a b:=h.mono λj d _=>e j d
theorem qt.mono{Q a:Nat->Dk->Prop}(h:qt none Q b)(e:∀j d,Q j d->a j d):qt none a b:=⟨h.bq,h.dev.mono λj d _=>e j d⟩
theorem Cx.yl(h:Cx g u N sq s L Vp V)(e:Vs V)(d:s.x.sure=false->Vs Vp):Yl g N s.x.ep Vs (pY s.x sq L bY.no 0 Vp):=h.jl.yl (.inl rfl) (λa=>absurd rfl a) 0 e d
theorem Fl(h:Jl g N sq s.x L Vp V){q:Nat}{f:aO}(a:Wp s.x sq L bY.no 0 q f):km s.x.nx f:=by
 unfold Wp at a;split at a
 .rename_i e;exact h.wg (P:=bY.no) (q:=q) (by unfold Mp;rw[ak e];exact .inl a) e
 .split at a
  .omega
  .exact a
theorem Jl.Px(h:Jl g N sq s.x L Vp V)(l:c.kT=tv s.x L)(n:c.V=Vp)(o:c'.kT=λm r=>bu (cb L) (m,r)≠none)(p:c'.V=V):Cp.le g c c':=λm r q t d=>by
 rw[o]at d;have d:bu (cb L) (m,r)=none:=Decidable.not_not.1 d;rw[l,n,p];unfold tv;cases i:s.x.sure with
 |true=>exact⟨by rw[ak rfl];exactλa=>a d,by rw[h.sure i];exact aC.refl _⟩
 |false=>
  obtain⟨w,T,j,-,v⟩:=h.tail i;rw[j,gp,jR]at d;cases e:bu (bL T T.N) (m,r)with
  |some f=>rw[e]at d;cases d
  |none=>rw[e]at d;exact⟨by rw[al ai,j,jS];exactλa=>a d,v m r q t e⟩
theorem Jl.Fm(h:Jl g N sq s.x L Vp V)(lg:Option (Nat × (Nat->Nat))):Jl g N sq {s.x with sure:=true,lg:=lg,bad:=0} L V V:=
 ⟨h.n,h.t,h.u,h.uN,h.nx,h.c,h.lim,h.sq,h.pk,h.pl,h.val,λ_=>rfl,λe=>by cases e⟩
theorem vY{x:Wl}(h:x.sure=true):tv x L=λm r=>bu (cb L) (m,r)≠none:=by funext m r;unfold tv;rw[ak h]
theorem Cx.sync(h:Cx g u N sq s L Vp V)(w:Vs V)(o:s.x.sure=false->Vs Vp):
  qh g u N s.x.ep Vs s.b (s.synced g).1.b (s.synced g).2 (Cx g u N sq (s.synced g).1 L V V/\(s.synced g).1.x={s.x with sure:=true,bad:=if s.x.sure=true then s.x.bad else 0}/\(s.synced g).1.ro=s.ro):=by
 by_cases j:s.x.sure=true
 .unfold Rs.synced;rw[ak j,ak j];have:=h.jl.sure j;subst this;exact .inl ⟨rfl,λe=>e,h,by rw[<-j],rfl⟩
 .have y:s.x.sure=false:=by simpa using j
  have p:g.M<s.b.N:=by have:=h.gt.gd.N;have:s.b.N=g.M+1:=this;omega
  have v:∀er,er=0->({s.x with bad:=er,sure:=er==0}:Wl)={s.x with sure:=true,bad:=0}:=λer e=>by subst e;rfl
  have l:eT (CQ g u N (pY s.x sq L bY.no 0 Vp)) (CQ g u N (pY {s.x with sure:=true,bad:=0} sq L bY.no 0 V)) (di g.M):=by
   refine Fk rfl (λf d=>⟨d,d⟩) (λq f F d=>⟨?_,d⟩) (h.jl.Px rfl rfl (vY rfl) rfl);show Mp {s.x with sure:=true,bad:=0} sq L bY.no q f;have d:Wp s.x sq L bY.no 0 q f:=d;unfold Wp at d;unfold Mp;show if q<s.x.u then _ else _
   split
   .rename_i e;rw[ak e]at d;exact .inl d
   .rename_i e;rw[al e,al J]at d;exact .inl d
  have r:=h.lit.HE (a:=di g.M) p l;have m:s.synced g=({s with b:=(s.b.op g.M ba).1,x:={s.x with bad:=(s.b.op g.M ba).2,sure:=(s.b.op g.M ba).2==0}},(s.b.op g.M ba).2):=by unfold Rs.synced;rw[al j]
  rcases r with⟨z,C⟩|⟨D,t,E⟩
  .have i:(s.b.op g.M ba).2=0:=z;have n:=(h.gt.sync).2.1;rw[rR (by rw[m];exact i)]at n;rw[m]at n|-;refine .inl ⟨i,λe=>By.cX e,?_,by rw[al j];exact v _ i,rfl⟩;simp only[v _ i]at n|-;exact⟨h.jl.Fm s.x.lg,C,n,h.wt⟩
  .rw [m];exact .inr (qt.ends E (h.yl w o) t D)
theorem kR{C:Nat}(hF:Fit g C s)(n:Lit none (CQ g u N c) s.b)(o:∀p,p∈s.ro.wt->c.kT p.1 p.2.1)(d:dt s s' k er):
  (er=0/\(s.b.aY=none->s'.b.aY=none)/\Lit none (CQ g u N c) s'.b)\/(er=50/\s.b.aY≠none/\qt none (CQ g u N c) s'.b):=by
 obtain⟨l,q,j,x,y⟩:=d;have:=n.HF (Q:=λ_=>CQ g u N c) (l:=(fM s.ro l).map ha) λi a r=>by obtain⟨p,d,rfl⟩:=SA.1 (RF r);have m:p∈s.ro.wt:=q.mem_iff.1 (jM.1 d).1;obtain⟨t,z,v⟩:=hF.wt p m;exact⟨by show p.1<s.b.N;have:=hF.N;omega,KB v t (o p m)⟩
 rw[j]at this;rcases this with⟨f,h⟩|⟨f,h,i,-,w⟩
 .refine .inl ⟨f,λe=>?_,h⟩;have:=By.ec e ((fM s.ro l).map ha);rwa[j]at this
 .exact .inr ⟨f,h,w⟩
theorem Cx.kT(h:Cx g u N sq s L Vp V)(a:s.x.sure=true):∀p,p∈s.ro.wt->tv s.x L p.1 p.2.1:=λp d=>by unfold tv;rw[ak a];exact h.wt p d
theorem Cx.gJ{C:Nat}(hF:Fit g C s)(h:Cx g u N sq s L V V)(l:s.x.sure=true)(n:Vs V)(a:dt s s' k er):qh g u N s.x.ep Vs s.b s'.b er (Cx g u N sq s' L V V/\s'.x=s.x/\s'.ro={s.ro with wt:= []}):=by
 rcases kR hF h.lit (h.kT l) a with⟨d,f,i⟩|⟨d,f,i⟩
 .subst d;obtain⟨o,q,g3⟩:=h.gt.gJ (mZ a);have j:s'.x=s.x:=q;have m:s'.ro={s.ro with wt:= []}:=by
   rcases g3 with g3|g3
   .exact g3.2
   .exact absurd rfl g3.1.gone.ne
  refine .inl ⟨rfl,f,⟨by rw[j];exact h.jl,by rw[j];exact i,o,λp a=>by rw[m]at a;cases a⟩,j,m⟩
 .exact .inr (qt.ends i (h.yl n λe=>by rw[l]at e;cases e) f d)
theorem Cx.settle{C:Nat}(hF:Fit g C s)(h:Cx g u N sq s L Vp V)(d:Vs V)(t:s.x.sure=false->Vs Vp)(f:bV g s s' k er):
  qh g u N s.x.ep Vs s.b s'.b er (Cx g u N sq s' L V V/\s'.x={s.x with sure:=true,bad:=if s.x.sure=true then s.x.bad else 0}/\s'.ro={s.ro with wt:= []}):=by
 unfold bV at f;rcases h.sync d t with⟨x,y,z,l,r⟩|q
 .rw [ak x]at f;unfold cz at f;have n:(s.synced g).1.x.sure=true:=by rw[l]
  rw[ak n]at f;have w:Fit g C (s.synced g).1:=by
   have D:(s.synced g).1.b.N=s.b.N:=by
    unfold Rs.synced;split
    .rfl
    .exact By.fp _ _ _
   have o:∀j v,(s.synced g).1.b.dv j=some v->∃i,s.b.dv j=some i/\v.d.n=i.d.n/\v.d.cn<=i.d.cn:=λj v d=>by
    unfold Rs.synced at d;split at d
    .exact ⟨v,d,rfl,QP _⟩
    .by_cases e:j=g.M
     .subst e;exact By.iA (m:=0) dW d
     .have d:(s.b.op g.M ba).1.dv j=some v:=d;rw[By.dN _ e]at d;exact⟨v,d,rfl,QP _⟩
   refine⟨hF.bZ,D.trans hF.N,λm v E d=>?_,λv d=>?_,?_,?_,by rw[r];exact hF.iG,by rw[r];exact hF.wt,by rw[r];exact hF.mB⟩
   .obtain ⟨i,p,F,G⟩:=o m v d;have:=hF.mem m i E p;omega
   .obtain ⟨i,p,F,G⟩:=o g.M v d;have:=hF.gB i p;rw[l];show 2+s.x.N<=_/\_;omega
   .rw [l];show(if s.x.sure=true then s.x.bad else 0)=0;split
    .exact hF.bad
    .rfl
   .rw [l];exact hF.cA
  have p:(s.synced g).1.x.ep=s.x.ep:=by rw[l]
  have:=z.gJ w n d f;rw[p]at this;exact(this.mono λ⟨a,b,c⟩=>⟨a,b.trans l,by rw[c,r]⟩).back y
 .have K:¬(s.synced g).2=0:=by rw[q.er];decide
  rw[al K]at f;obtain⟨rfl,-,rfl⟩:=f;exact .inr q
theorem Fo(n:Nat)(p:Nat->Bool)(h:∀m,m<n->p m=true):bP n p=UD n:=List.filter_eq_self.2 λm a=>h m (UJ.1 a)
def HG(x:Wl)(sq:Nat)(L:List bY)(V:eW)(i:Nat):Cp:={pY x sq L bY.no 0 V with kT:=λm r=>tv x L m r/\i<=m}
theorem Cx.gg(h:Cx g u N sq s L V V)(H:s.x.sure=true)(W:s.ro.wt= [])(w:Vs V)(q:eA g s s' k er):qh g u N s.x.ep Vs s.b s'.b er (Cx g u N sq s' L V V/\Lit none (CQ g u N (HG s.x sq L V g.M)) s'.b/\s'.x=s.x/\s'.ro=s.ro):=by
 obtain⟨G,F,K⟩:=q;have x:∀m r,s.ro.down m r=false:=λm r=>by
  cases e:s.ro.down m r with
  |false=>rfl
  |true=>have:=h.gt.gd.dn m r e;cases this
 have y:oX g s.ro=UD g.M:=Fo _ _ λm _=>by rw[x];rfl
 have M:s.b.N=g.M+1:=h.gt.gd.N;have n:qs none (el g s.ro (λ_ _=>True) s.ro.eU V λ_=>True) s.b:=h.gt.gd.dev;have z:Lit none (λk d=>el g s.ro (λ_ _=>True) s.ro.eU V (λ_=>True) k d/\CQ g u N (HG s.x sq L V 0) k d) s.b:=
  ⟨h.lit.bq,λj t=>⟨(n j t).1,λv w=>⟨((n j t).2 v w).eG,((n j t).2 v w).mL,λX=>⟨((n j t).2 v w).holds X,(((h.lit.dev j t).2 v w).holds X).mono rfl (λ_ a=>a) (λ_ a=>a) (λ_ _ _ a=>a) (λ_ _ _ a=>a) λm r _ _ C=>⟨λa=>C ⟨a,QX _⟩,aC.refl _⟩⟩⟩⟩⟩
 have O:∀m r,¬s.ro.eU m r:=λm r ⟨p,q,_⟩=>by rw[W]at q;cases q
 have o:=z.HF (Q:=λi k d=>el g s.ro (λ_ _=>True) s.ro.eU V (λ_=>True) k d/\CQ g u N (HG s.x sq L V i) k d) (l:=(oX g s.ro).map di) λi a D=>by
  rw[y,RU]at D;have R:i<g.M:=by
   rcases ZJ i g.M with c|c
   .exact c
   .rw [RO (by simpa using c)]at D;cases D
  rw[SP R]at D;cases D;refine⟨by show i<s.b.N;omega,e' (λd f=>⟨f.1.fl,λE=>?_,λe=>aa⟩) λj d t f=>⟨f.1,λE=>⟨(f.2.1 E).sup,λr P C=>(f.2.1 E).row r P λa=>C ⟨a.1,?_⟩⟩,λe=>⟨(f.2.2 e).sup,(f.2.2 e).ck,(f.2.2 e).kw,(f.2.2 e).ring⟩⟩⟩
  .have I:=f.2.1 E;exact⟨.fl I.sup.view,λr P _=>.fl ((f.1.1 E).view r P (x i r) (O i r))⟩
  .have e1:j≠i:=t;have e2:i<=j:=a.2;omega
 rw[G]at o;have S:=h.yl (Vs:=Vs) w λe=>by rw[H]at e;cases e
 rcases o with⟨T,U⟩|⟨T,U,i,-,Y⟩
 .subst T;have J:=(h.gt.gg (p' ⟨G,F,K⟩)).1;have Z:Lit none (CQ g u N (HG s.x sq L V g.M)) s'.b:=by refine U.zo λj d f=>?_;rw[RL,y,List.length_range]at f;exact f.2
  refine .inl ⟨rfl,λe=>?_,⟨by rw[F];exact h.jl,?_,J,λp q=>by rw[K,W]at q;cases q⟩,Z,F,K⟩
  .have:=By.ec e ((oX g s.ro).map di);rwa[G]at this
  .rw [F];refine Z.zo λj d f=>f.mono rfl (λ_ a=>a) (λ_ a=>a) (λ_ _ _ a=>a) (λ_ _ _ a=>a) λm r _ _ C=>⟨λa=>C a.1,aC.refl _⟩
 .exact .inr (qt.ends (Y.mono λj d f=>f.2) (S.le (c':=HG s.x sq L V i) rfl (λ_ a=>a) (λ_ _ _ a=>a) (λm r a=>a.1) rfl) U T)
theorem Cx.ie{C:Nat}(hF:Fit g C s)(h:Cx g u N sq s L V V)(a0:Lit none (CQ g u N (HG s.x sq L V g.M)) s.b)(O:s.x.sure=true)(a3:s.ro.wt= [])(R:Vs V)(n:gy g s s' k er):
  qh g u N s.x.ep Vs s.b s'.b er (Cx g u N s.x.nx s' [] V V/\s'.x=s.x.cy s.x.ep/\s'.ro=s.ro):=by
 have i:=h.jl;have a4:s.b.N=g.M+1:=h.gt.gd.N;have a5:=h.gt;have z:=n;obtain⟨o,-,D⟩:=n;obtain⟨f,x⟩:=ah (aW s.x.ep s.x.nx ((s.x.t+s.x.u)%s.x.N));have t:∀j,j<128->f j<256:=λj i=>by rw[<-x];exact hI _ _ _ j i
 have Q:s.nk g s.x.ep=s.b.ck g.M f:=by unfold Rs.nk;rw[x]
 rw[Q]at o D;have S:Yl g N s.x.ep Vs (KX s.x sq L bY.no V f):=by rw[<-x];exact i.Qs rfl O R
 have a1:eT (CQ g u N (HG s.x sq L V g.M)) (CQ g u N (KX s.x sq L bY.no V f)) (g.M,aN 1 f):=
  MC t rfl (λ_ a=>.inl a) ⟨.inr (aC.refl f),aC.refl f⟩ (λ_ _ _ a=>a) (λ_ _ _ a=>a) λm r a6 _ _=>⟨λa=>UA _ (RS a6 a.2),aC.refl _⟩
 have a7:Yl g N s.x.ep Vs (HG s.x sq L V g.M):=(h.yl (Vs:=Vs) R λe=>by rw[O]at e;cases e).le (c':=HG s.x sq L V g.M) rfl (λ_ a=>a) (λ_ _ _ a=>a) (λm r a=>a.1) rfl;obtain⟨T,l⟩:∃T:Cp,T=⟨s.x.t,λy=>aC y f,λy=>aC y f,λ_=>km s.x.nx,λ_=>km s.x.nx,λ_ _=>False,V⟩:=⟨_,rfl⟩;have a2:eT (CQ g u N (KX s.x sq L bY.no V f)) (CQ g u N T) (di g.M):=by subst l;exact Fk rfl (λy a=>⟨a,a⟩) (λq y _ a=>⟨Fl i a,Fl i a⟩) λm r _ _ _=>⟨λa=>a,aC.refl _⟩
 have v:s.b.ck g.M f=if(s.b.op g.M (aN 1 f)).2=0 then(s.b.op g.M (aN 1 f)).1.op g.M ba else s.b.op g.M (aN 1 f):=rfl
 have E:g.M<s.b.N:=aa;rcases a0.HE (a:=(g.M,aN 1 f)) E a1 with⟨F,U⟩|⟨F,U,q3⟩
 .have W:(s.b.op g.M (aN 1 f)).2=0:=F;rw[ak W]at v;rcases U.HE (a:=di g.M) (by rw[By.fp];exact E) a2 with⟨r1,r2⟩|⟨r1,r2,r3⟩
  .have h0:(s.b.ck g.M f).2=0:=by rw[v];exact r1
   rw[h0]at o D;subst D;have G:s'.b=((s.b.op g.M (aN 1 f)).1.op g.M ba).1:=by rw[o,v]
   have w:s'.x=s.x.cy s.x.ep:=by rw[o];rfl
   have K:s'.ro=s.ro:=by rw[o]
   have X:=a5.ie (qa z);refine .inl ⟨rfl,λe=>?_,⟨?_,?_,X.1,λp n=>by rw[K,a3]at n;cases n⟩,w,K⟩
   .rw [G];exact By.cX (By.cX e)
   .rw [w];have Z:0<N:=Nat.lt_of_le_of_lt (QX _) i.t;exact⟨i.n,by show(s.x.t+s.x.u)%s.x.N<N;rw[i.n];exact SB _ Z,rfl,QX _,rfl,i.c,i.lim,by have:=i.nx;have:=i.sq;omega,λP a8=>(by cases a8),λp n=>by simp[cb]at n,λm r f x=>(by cases x),λ_=>rfl,λe=>by rw[show(s.x.cy s.x.ep).sure=s.x.sure from rfl,O]at e;cases e⟩
   .rw [G,w];refine r2.zo λj d H=>⟨λe=>?_,λe=>?_⟩
    .refine ⟨(H.1 e).sup,λr a9 _=>?_⟩;have:=(H.1 e).row r a9 (by rw[l];exactλa=>a);rw[l]at this;exact this
    .obtain ⟨x1,I,Y,x4⟩:=H.2 e;rw[l]at I Y x4;have J:∀y,aC y f->aC y (aW (s.x.cy s.x.ep).ep s.x.nx (s.x.cy s.x.ep).t):=λy a=>by rw[<-x]at a;exact a
     refine⟨x1,I.mono J,J _ Y,(x4.nL i.t).mono (λq y _ a=>?_) λq y _ a=>?_⟩
     .show Mp (s.x.cy s.x.ep) s.x.nx [] bY.no q y;unfold Mp;rw[al (show¬q<(s.x.cy s.x.ep).u from SD q)];exact .inl a
     .show Wp (s.x.cy s.x.ep) s.x.nx [] bY.no 0 q y;unfold Wp;rw[al (show¬q<(s.x.cy s.x.ep).u from SD q),al (show¬q<(s.x.cy s.x.ep).u+0 from SD q)];exact a
  .have M:(s.b.ck g.M f).2=50:=by rw[v];exact r1
   refine .inr (qt.ends ?_ S (λe=>r2 (By.cX e)) (by rw[D,M]));rw[o,v];exact r3
 .have M:(s.b.ck g.M f).2=50:=by
   rw[v,al (by have:(s.b.op g.M (aN 1 f)).2=50:=F;rw[this];decide)];exact F
  refine .inr (qt.ends ?_ a7 U (by rw[D,M]));rw[o,v,al (by have:(s.b.op g.M (aN 1 f)).2=50:=F;rw[this];decide)];exact q3
theorem Cx.room{C:Nat}{Bt:bp}(hF:Fit g C s)(U:20000<=C)(h:Cx g u N sq s L Vp V)(r:Vs V)(j:s.x.sure=false->Vs Vp)(f:ea g Bt s s' k er):
  qh g u N s.x.ep Vs s.b s'.b er (∃t K l,Cx g u N t s' K l V/\(s'.x.sure=false->Vs l)/\s'.x.ep=s.x.ep/\s'.x.nx=s.x.nx):=by
 unfold ea at f;split at f
 .obtain ⟨rfl,-,rfl⟩:=f;exact .inl ⟨rfl,λe=>e,sq,L,Vp,h,j,rfl,rfl⟩
 .have m:∀i v n,bV g s i v n->_:=λi v n f=>h.settle hF r j f;rcases f with⟨i,v,o,w⟩|⟨o,w⟩
  .rcases m _ _ _ o with⟨-,t1,⟨G,x,O⟩⟩|q
   .have y:=d_ hF J (d' o) o;have a:i.x.sure=true:=by rw[x]
    have d:i.ro.wt= []:=by rw[O]
    have n:i.x.ep=s.x.ep:=by rw[x]
    rcases w with⟨z,W,b1,D⟩|⟨b1,D⟩
    .rcases G.gg a d r b1 with⟨-,t2,⟨P,Q,p,S⟩⟩|q
     .have E:=fF y J b1;have:=P.ie E (by rw[p];exact Q) (by rw[p];exact a) (by rw[S];exact d) r D;rw[show z.x.ep=s.x.ep by rw[p,n]]at this;refine(this.back t2).back t1|>.mono λ⟨T,F,c3⟩=>⟨_,_,_,T,λe=>?_,by rw[F];rfl,by rw[F,p,x];rfl⟩;rw[F,show(z.x.cy s.x.ep).sure=z.x.sure from rfl,p,a]at e;cases e
     .exact absurd q.er ai
    .have:=G.gg a d r b1;rw[n]at this;rcases this.back t1 with⟨q,-⟩|q
     .exact absurd q D
     .exact .inr q
   .exact absurd q.er ai
  .rcases m _ _ _ o with⟨q,-⟩|q
   .exact absurd q w
   .exact .inr q
end
end Go.Proofs.YtbimjlmclegaeaaGreat
