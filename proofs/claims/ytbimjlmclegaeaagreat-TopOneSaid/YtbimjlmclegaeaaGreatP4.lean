/- TopOne: without crashes, and with at most one member away, every call answers what one disk would; part 5 of 6. Conditions: none. -/
import Derived.Test.YtbimjlmclegaeaaGreatP3
namespace Go.Proofs.YtbimjlmclegaeaaGreat
set_option maxRecDepth 100000
set_option maxHeartbeats 8000000
open Go.RowKit Go.Proofs.Tryz
open Go renaming World->QA,World->M,heap_alloc_new->QB,Value->QC,bodyPost_ret->QR,cell_of_row->QT,results->RM,heap_setCell_other->RN,wpAnyH_take->RV,Ending->RW,info_parts->SD,Addr->SZ,results_cell_tmp->UE,maxLen->UI,callFunc->UN,callsIn_wide->UP,leaves_cons->WY,ownsRow_setCell_other->XS
open List renaming setIfInBounds_toArray->QD,getElem_cons_zero->QF,getElem_cons_succ->QG,getElem_toArray->QI,set_cons_zero->QL,set_cons_succ->QM,getElem?_eq_getElem->QP,getElem?_eq_some_iff->QS,length_append->QU,mem_of_getElem?->QV,getElem?_append_right->QZ,length_map->RA,getElem?_append_left->RD,getElem?_eq_none->RE,getElem?_map->RL,mem_map->RQ,mem_cons_self->SE,getElem?_range->SF,length_cons->SG,map_append->SH,mem_cons_of_mem->SN,mem_singleton->SP,append_assoc->SY,getElem?_take->TH,mem_append->TJ,ext_getElem?->TN,map_cons->TS,range->TT,mem_range->UA,append_nil->UB,take_length->UC,take_add_one->UF,mem_cons->UG,range_succ->UK,cons_append->UQ,nil_append->UT,map_congr_left->UX,length_take->VD,length_filter_le->VI,length_nil->VT,size_toArray->VW,all_eq_true->WD,exists_mem_of_ne_nil->WG,length_eq_zero_iff->WM,take_append_drop->WZ,take_append_of_le_length->XC,perm_append_comm->YO,mem_append_right->YR,mem_append_left->ZB,nodup_nil->ZK,flatten_append->ZO
open Nat renaming le_trans->QE,le_refl->QH,zero_le->QN,zero_add->RH,lt_of_lt_of_le->RJ,le_of_eq->RO,not_lt_zero->RR,mod_lt->RT,mod_eq_of_lt->SA,lt_succ_self->TK,le_of_lt->TL,lt_irrefl->TO,mul_one->TZ,add_assoc->UO,mul_comm->VB,add_zero->VJ,zero_mul->VV,div_add_mod->WL,ne_of_lt->XG,sub_le->YW,ne_of_gt->YX,lt_or_ge->YY
open Go.IntKind renaming i64->QK,u64->VN
open Go.World renaming block_lt_of_cell?->QO,size_setCell->RS,news_of_block->RY,ownsRow_nil->SJ,putObj_heap_same->SR,size_alloc->SS,cell?_alloc_lt->YV,ownsRow_made->ZS
open Go.RowKit.Below renaming heap_alloc->QW,heap_setCell->RP,refl->SL
open Go.RowKit renaming Hid->QX,Below->SC
open Option renaming map_some->QY
open _root_.Array renaming getElem?_eq_some_iff->RC,getElem?_toList->TX,getElem?_eq_none->WR,replicate_zero->ZF,replicate_succ->ZG
open Go.Proofs renaming enters_of->RF
open Go.Act renaming put->RG,eval->VU
open Option.some renaming inj->RK
open Go.Value renaming slice->RU,int->SK,ownBlock->WQ
open Int renaming ofNat_tmod->SI,natCast_mul->TG
open Go.Fence renaming wide->TV
open Go.Proofs.Tryz renaming underlying41->UL,underlying162->XY
open Go.Obj.cells renaming inj->UU
open Go.Region renaming ready->VL,wanted->WT,binds->XI
open Bool renaming and_eq_true->VM
open Go.CallsIn renaming inRound->WA
open Go.Oper renaming semAt_some->WJ
open Go.AllReadyH renaming cons->WX,nil->XJ
open List.Perm renaming refl->XX
open Go.Instr renaming endRound->ZD
variable {w W z:World}{n m k i j r C:Nat}{c:Int}{v x y:Value}{T:List Nat}{p:Addr}{P:Option Addr}{A:Array Value}{d:Bool}{S Q X:Nat->Prop}{t:TypeId}{L:List Value}{O:Obj}{f:aQ}{F:dp}{g:az}{K:bq}{l:List Pt}{D:Dk}{U:Dv}{b:By}{o:Ro}{s:Rs}{u:Su}
section
def kN(ep sq:Nat)(P:bX)(i:Nat):Hd:=⟨ep,sq,i,P.N,P.me i,P.row i,ht (P.da i),dE 0 128 (ei (P.da i))⟩
structure bK(F:dp)(ep sq room:Nat)(P:bX):Prop where
 ok:P.ok
 cA:1<=P.N/\P.N<=1023
 c:cJ ep sq
 room:2*P.N+1<=room
 sec:∀j,j<=2*P.N->aD (F j) (bp ep sq P j)
section
variable {F:dp} {ep sq room:Nat} {P:bX}
theorem eo(b:P.ok)(c:cJ ep sq)(d:1<=P.N/\P.N<=1023){i:Nat}(a:i<P.N):(kN ep sq P i).ok:=
 ⟨c,d,a,b.me i a,b.row i a,gQ _ _ _ aj (nT (b.da i a))⟩
theorem bK.head(h:bK F ep sq room P){i:Nat}(b:i<P.N):aD (F (2*i)) (kN ep sq P i).enc:=by have a:=h.sec (2*i) J;unfold bp at a;rw[aq J,ao J,show 2*i/2=i by omega]at a;exact a
theorem bK.data(h:bK F ep sq room P){i:Nat}(b:i<P.N):aD (F (2*i+1)) (ei (P.da i)):=by have a:=h.sec (2*i+1) J;unfold bp at a;rw[aq J,aq J,show(2*i+1)/2=i by omega]at a;exact a
theorem bK.td(h:bK F ep sq room P):aD (F (2*P.N)) (eh ep sq P.N (fA ep sq P P.N)):=by have a:=h.sec (2*P.N) (QH _);unfold bp at a;rw[ao rfl]at a;exact a
def od(F:dp):Nat->Nat
 |0=>0
 |k+1=>dE (od F k) 128 (F (2*k))
theorem mR:∀{k:Nat},(∀i,i<k->aD (F (2*i)) (kN ep sq P i).enc)->fA ep sq P k=od F k
 |0,_=>rfl
 |k+1,h=>by unfold fA od;rw[mR λi b=>h i J];exact(hJ λj a=>h k (TK k) j a).symm
theorem Kj{f:aQ}{e:Bool}(h:(e=false/\ht f=false)\/(e=true/\xD f=true)):ht (tu e f)=e/\aD (ei (tu e f)) f:=by
 rcases h with⟨rfl,h⟩|⟨rfl,h⟩
 .have a:tu false f=f:=by funext k;unfold tu;rw[aq aJ]
  rw[a];refine⟨h,λk c=>?_⟩;unfold ei;rw[h,aq aJ]
 .have a:ht (tu true f)=true:=by
   unfold ht;simp only[decide_eq_true_eq];exact⟨rfl,rfl,rfl,rfl⟩
  refine⟨a,λk c=>?_⟩;unfold ei;rw[a];unfold xD at h;simp only[decide_eq_true_eq]at h;obtain⟨d,g,j,z3⟩:=h;by_cases b:k<4
  .rw [ao ⟨rfl,b⟩]
   match k,b with
   |0,_=>exact d.symm
   |1,_=>exact g.symm
   |2,_=>exact j.symm
   |3,_=>exact z3.symm
  .rw [aq (λh=>b h.2)];unfold tu;rw[aq (λh=>b h.2)]
theorem rF{f h:aQ}(e:aD f h):ht f=ht h:=by unfold ht;rw[e 0 aj,e 1 aj,e 2 aj,e 3 aj]
theorem AT{f h:aQ}(e:aD f h):xD f=xD h:=by unfold xD;rw[e 0 aj,e 1 aj,e 2 aj,e 3 aj]
theorem vE(f:aQ):(ht f=false/\ht (ei f)=false)\/(ht f=true/\xD (ei f)=true):=by
 cases h:ht f
 .refine .inl ⟨rfl,?_⟩;have e:aD (ei f) f:=λk _=>by unfold ei;rw[h,aq aJ]
  rw[rF e,h]
 .refine .inr ⟨rfl,?_⟩;unfold xD ei;rw[h];simp
structure km(F:dp)(ep sq room i:Nat)(Q:bX)(hd:Hd):Prop where
 c:cJ ep sq
 cA:1<=Q.N/\Q.N<=1023
 rm:2*Q.N+1<=room
 le:i<=2*Q.N
 me:∀k,2*k+1<i->Q.me k<=15/\Q.row k<=4095/\Lt 128 (Q.da k)
 pair:∀k,2*k+1<i->aD (F (2*k)) (kN ep sq Q k).enc/\aD (F (2*k+1)) (ei (Q.da k))
 Pm:i%2=1->hd.ok/\aD (F (i-1)) hd.enc/\hd.ep=ep/\hd.sq=sq/\hd.ix=i/2/\hd.cA=Q.N
 uniq:∀P,bK F ep sq room P->P.N=Q.N
variable {i:Nat} {Q:bX} {hd:Hd}
theorem km.start{h:Hd}(a:h.ok)(c:aD (F 0) h.enc)(d:h.ep=ep)(e:h.sq=sq)(f:h.ix=0)(g:2*h.cA+1<=room):km F ep sq room 1 ⟨h.cA,λ_=>0,λ_=>0,λ_ _=>0⟩ h:=by have j:=a.cA;refine⟨by rw[<-d,<-e];exact a.c,j,g,by show 1<=2*h.cA;omega,λk a=>J,λk a=>J,λ_=>⟨a,c,d,e,f,rfl⟩,λP b=>?_⟩;have l:=Hd.cG a c;have m:=Hd.cG (eo b.ok b.c b.cA (by have:=b.cA;omega)) (b.head (i:=0) (by have:=b.cA;omega));have n:=l.symm.trans m;exact(congrArg Hd.cA n).symm
theorem km.head{h:Hd}(a:km F ep sq room i Q hd)(d:i%2=0)(b:i<2*Q.N)(c:h.ok)(e:aD (F i) h.enc)(f:h.ep=ep)(g:h.sq=sq)(j:h.ix=i/2)(l:h.cA=Q.N):km F ep sq room (i+1) Q h:=
 ⟨a.c,a.cA,a.rm,b,λk c=>a.me k J,λk c=>a.pair k J,λ_=>⟨c,e,f,g,by rw[j];omega,l⟩,a.uniq⟩
def bX.put(Q:bX)(k:Nat)(hd:Hd)(f:aQ):bX:=⟨Q.N,λj=>if j=k then hd.me else Q.me j,λj=>if j=k then hd.row else Q.row j,λj=>if j=k then tu hd.nt f else Q.da j⟩
theorem km.data(a:km F ep sq room i Q hd)(b:i%2=1)(l:Lt 128 (F i))(m:(hd.nt=false/\ht (F i)=false)\/(hd.nt=true/\xD (F i)=true))(n:dE 0 128 (F i)=hd.sm):km F ep sq room (i+1) (Q.put (i/2) hd (F i)) hd:=by
 obtain⟨f,o,p,q,r,s⟩:=a.Pm b;obtain⟨t,g⟩:=Kj m;have u:=a.le;refine⟨a.c,a.cA,a.rm,by show i+1<=2*Q.N;omega,λk v=>?_,λk v=>?_,λh=>J,a.uniq⟩
 .show (if k=i/2 then hd.me else Q.me k)<=15/\(if k=i/2 then hd.row else Q.row k)<=4095/\Lt 128 (if k=i/2 then tu hd.nt (F i)else Q.da k);by_cases e:k=i/2
  .rw [ao e,ao e,ao e];refine⟨f.me,f.row,λj c=>?_⟩;unfold tu;split
   .unfold iU
    (repeat' split)<;>decide
   .exact l j c
  .rw [aq e,aq e,aq e];exact a.me k J
 .by_cases e:k=i/2
  .subst e;have w:2*(i/2)=i-1:=J;have x:i-1+1=i:=J;have d:kN ep sq (Q.put (i/2) hd (F i)) (i/2)=hd:=by unfold kN bX.put;simp only[if_true];rw[t,hJ (h:=F i) (λj c=>g j c),n,<-p,<-q,<-r,<-s]
   rw[d,w,x];refine⟨o,?_⟩;show aD (F i) (ei (if i/2=i/2 then tu hd.nt (F i)else _));rw[ao rfl];exact g.symm
  .have d:kN ep sq (Q.put (i/2) hd (F i)) k=kN ep sq Q k:=by
    unfold kN bX.put;simp only[aq e]
   have y:(Q.put (i/2) hd (F i)).da k=Q.da k:=aq e;rw[d,y];exact a.pair k J
theorem km.qk(a:km F ep sq room (2*Q.N) Q hd)(d:aD (F (2*Q.N)) (eh ep sq Q.N (od F Q.N))):bK F ep sq room Q:=by
 refine⟨⟨λk b=>(a.me k J).1,λk b=>(a.me k J).2.1,λk b=>(a.me k J).2.2⟩,a.cA,a.c,a.rm,λj f=>?_⟩;unfold bp;by_cases e:j=2*Q.N
 .rw [ao e,e,mR λk b=>(a.pair k J).1];exact d
 .rw [aq e];by_cases c:j%2=0
  .rw [ao c];have:=(a.pair (j/2) J).1;rw[show 2*(j/2)=j by omega]at this;exact this
  .rw [aq c];have:=(a.pair (j/2) J).2;rw[show 2*(j/2)+1=j by omega]at this;exact this
theorem km.rG(a:km F ep sq room i Q hd)(h:i=room):∀P,¬bK F ep sq room P:=λP b=>by have c:=a.uniq P b;have d:=b.room;have e:=a.le;omega
theorem AU(h:0=room):∀P,¬bK F ep sq room P:=λP a=>by have b:=a.room;omega
theorem xE(h:∀b:Hd,b.ok->¬aD (F 0) b.enc):∀P,¬bK F ep sq room P:=λP a=>
 h _ (eo a.ok a.c a.cA (by have:=a.cA;omega)) (a.head (i:=0) (by have:=a.cA;omega))
theorem vF{h:Hd}(b:h.ok)(c:aD (F 0) h.enc)(d:¬(h.ep=ep/\h.sq=sq/\h.ix=0/\2*h.cA+1<=room)):∀P,¬bK F ep sq room P:=λP a=>d (by have e:=Hd.cG b c;have f:=Hd.cG (eo a.ok a.c a.cA (by have:=a.cA;omega)) (a.head (i:=0) (by have:=a.cA;omega));have g:=e.symm.trans f;rw[g];exact⟨rfl,rfl,rfl,a.room⟩)
theorem km.AV(d:km F ep sq room i Q hd)(e:i%2=0)(f:i<2*Q.N)(h:∀b:Hd,b.ok->¬aD (F i) b.enc):∀P,¬bK F ep sq room P:=λP a=>by have g:=d.uniq P a;have c:=a.head (i:=i/2) J;rw[show 2*(i/2)=i by omega]at c;exact h _ (eo a.ok a.c a.cA J) c
theorem km.xF(c:km F ep sq room i Q hd)(d:i%2=0)(e:i<2*Q.N){h:Hd}(f:h.ok)(g:aD (F i) h.enc)(j:¬(h.ep=ep/\h.sq=sq/\h.ix=i/2/\h.cA=Q.N)):∀P,¬bK F ep sq room P:=λP a=>j (by have k:=c.uniq P a;have b:=a.head (i:=i/2) J;rw[show 2*(i/2)=i by omega]at b;have l:=Hd.cG f g;have m:=Hd.cG (eo a.ok a.c a.cA J) b;have n:=l.symm.trans m;rw[n];exact⟨rfl,rfl,rfl,k⟩)
theorem km.vG(b:km F ep sq room i Q hd)(c:i%2=1){P:bX}(a:bK F ep sq room P):hd=kN ep sq P (i/2)/\aD (F i) (ei (P.da (i/2))):=by obtain⟨f,g,-⟩:=b.Pm c;have j:=b.uniq P a;have h:=b.le;have d:=a.head (i:=i/2) J;have e:=a.data (i:=i/2) J;rw[show 2*(i/2)=i-1 by omega]at d;rw[show 2*(i/2)+1=i by omega]at e;exact⟨(Hd.cG f g).symm.trans (Hd.cG (eo a.ok a.c a.cA J) d),e⟩
theorem km.EJ(f:km F ep sq room i Q hd)(b:i%2=1)(a:(hd.nt=false/\ht (F i)=true)\/(hd.nt=true/\xD (F i)=false)):∀P,¬bK F ep sq room P:=λP g=>by
 obtain⟨h,e⟩:=f.vG b g;have j:hd.nt=ht (P.da (i/2)):=by rw[h];rfl
 rw[rF e,AT e,j]at a;rcases vE (P.da (i/2))with⟨c,d⟩|⟨c,d⟩
 .rw [c,d]at a;simp at a
 .rw [c,d]at a;simp at a
theorem km.EK(b:km F ep sq room i Q hd)(a:i%2=1)(c:dE 0 128 (F i)≠hd.sm):∀P,¬bK F ep sq room P:=λP d=>by obtain⟨e,f⟩:=b.vG a d;refine c ?_;rw[e];exact hJ λj g=>f j g
theorem km.rH(c:km F ep sq room (2*Q.N) Q hd)(d:¬aD (F (2*Q.N)) (eh ep sq Q.N (od F Q.N))):∀P,¬bK F ep sq room P:=λP a=>d (by have e:=c.uniq P a;have b:=a.td;rw[mR λk f=>a.head f,e]at b;exact b)
end
end
section
open Go.Shelf
theorem za(f:FuncId):TV.fn f:=trivial
attribute [local go_sem] WJ za
theorem vH(a:Option SZ)(N b:Nat)(w:M)(f:N<=4096):aE 273 #[.slice a (N*128) b] w λe c=>aK e (Y N)/\w=c:=by
 obtain⟨n,d⟩:=ah (N*128);have g:((n:Nat):Int).tdiv 128=((N:Nat):Int):=by have:n/128=N:=J;rw[<-this];exact Int.ofNat_tdiv _ _
 have h:QK.wrap ((N:Nat):Int)=(N:Nat):=bj;rw[d];go_enter func273,ntmps273;go_wp2;go_ret;exact⟨by simp[*],rfl⟩
def Ix(b o a N t k:Nat):QC:=.slice (some ⟨b,o+(t+k)%N*128,none⟩) 128 (a-(t+k)%N*128)
def zb(X:Nat->Prop)(b:Nat->M->Prop)(qa:M->Prop)(k:Nat)(A:M)(e:RW)(a:M):Prop:=
 (aK e ed/\Out X A a/\b (k+1) a)\/(aK e iG/\Out X A a/\qa a)
theorem AW(l O P b o d N t:Nat)(X:Nat->Prop)(a:Nat->QA->Prop)(qa:QA->Prop)(W:QA)(b2:1<=N)(Q:N<=4096)(b3:t<N)(s:N*128<=d)(g:a_ W O (al #[.slice (some (ag b o)) (N*128) d] 352))(u:a_ W P (al #[ae t] 3))(S:¬X O)(T:¬X P)(y:a 0 W)(z:∀k A n,a k A->a k (A.drewN n))(I:∀q k A,k<N->a k A->YieldAt TV q prog l #[ae k,Ix b o d N t k] A (zb X a qa k A)):
  CallsIn TV 2 prog 337 #[.func (.yield l) #[] #[],ar O,ar P] W
   λe U=>(∃v,aK e v)/\Out X W U/\(a N U\/qa U):=by
 refine callsIn_of_wp func337 rfl trivial ?_;simp only[ntmps337,VW,SG,VT,Nat.reduceAdd,Nat.reduceSub,ZG,ZF,List.push_toArray,List.append_toArray,UT,UQ];have a7:=ad I;have V:=ad z;have Y:=ad g;have H2:=ad u;have H0:QX (Out X W W/\a 0 W):=⟨Out.refl _ _,y⟩;have i:=ad (λw=>vH (some (ag b o)) N d w Q);obtain⟨F,a2,a3⟩:=cr g;clear I z y;obtain⟨n,G⟩:=ah (N*128);simp only[G]at i;rw[G]at F Y g s;have Z:=ad G;clear G g u;gi_wp2_with(first|(gi_at_call 273;refine(UP.2 (i _)).mono ?_;rintro e w1 ⟨rfl,rfl⟩))
 gi_loopw [4,5,8] (λs4 s5 H wr=>∃k:Nat,k<=N/\H= ae k/\QX (Out X W wr/\a k wr)) (λ_ _ H _=>N-(intOf H).toNat)
 case atStart=>exact⟨0,QN _,rfl,H0⟩
 case round=>
  obtain⟨k,b4,rfl,r⟩:=hrel;by_cases B:k<N
  .have g:=r.1.heap Y S;have u:=r.1.heap H2 T;obtain⟨F,a2,a3⟩:=cr g;obtain⟨d1,d2,d3⟩:=cr u;obtain⟨q,K⟩:=ah ((t+k)%N);have a8:q<N:=by rw[<-K];exact RT _ aa
   have e1:QK.wrap ((t:Int)+k)=((t+k:Nat):Int):=bj;have e2:((t+k:Nat):Int).tmod (N:Int)=((q:Nat):Int):=by rw[<-K];exact SI _ _
   obtain⟨x,M⟩:=ah (q*128);have e3:QK.wrap ((q:Int)*128)=((x:Nat):Int):=by rw[<-M];go_arith
   have e5:¬N=0:=aa;have e6:QK.wrap ((x:Int)+128)=((x+128:Nat):Int):=bj;have e7:(0:Int)<=(x:Int):=aa;have R:=Z.out;have e9:((x+128:Nat):Int)<=(d:Int):=aa;have a9:¬d=x:=aa;have J:=aB K M;obtain⟨b5,C⟩:=ah (t+k);rw[C]at e1 e2;clear g u K M C R;gi_wp2_with fail
   gi_quiet_th (first|(gi_at_call 273;exact CallsIn.quiet_of_same (UP.2 ((i _).mono λe b6 h=>⟨h.1,h.2.symm⟩))))
   have D:=ad (V k wr nq r.2);have j:=ad (λq=>a7.out q k (wr.drewN nq) B D);unfold Ix at j;rw[J.1,J.2]at j;have b0:x+128-x=128:=aa;obtain⟨b7,a0,L,a4,b1,a5⟩:=j.out 1;have a6:=ad a5;clear a5;gi_wp2_with fail;refine a6.mono ?_;clear a6 b1;have E:QX (Out X W (wr.drewN nq)):=r.1.then (cE ak _);rintro e w2 (⟨rfl,c,f⟩|⟨rfl,c,f⟩)
   .have m:=ad (E.tr c);have p:=ad f;clear F d1 c f;gi_wp2;go_roundw
    case rel=>exact⟨k+1,B,by go_num,m,p⟩
    case measure=>simp[intOf];omega
   .have m:=ad (E.tr c);have p:=ad f;clear F d1 c f;gi_wp2;refine QR (results_none rfl _ _ _) rfl ?_;exact⟨⟨_,rfl⟩,m,.inr p⟩
  .obtain rfl:k=N:=aa;gi_wp2;go_end0;exact⟨⟨_,rfl⟩,r.1,.inl r.2⟩
end
section
open Go.Shelf
def jR(o:Oper):Bool:=match o.op with| .defer _=>false|_=>true
theorem xG{o:Oper}(h:jR o=true)(c):o.op≠ .defer c:=λe=>by unfold jR at h;rw[e]at h;cases h
section
variable {l n:Nat} {P:Program} {ops:Array Oper} {Q:Exit->Act->QA->Prop} {S:QA->Prop}
theorem nO(fI:ops.all jR=true)(s:¬LetsOut Q){i:Nat}{K q:Act->M->Prop}{a:Act}{w:M}(b:∀a w,K a w->q a w)(h:wpOp P ops Q i K a w):wpOpIn (TV.inRound l) n P ops Q i q a w:=by
 unfold wpOp at h;unfold wpOpIn;cases k:ops[i]? with
 |none=>simp only[k]at h;exact b _ _ h
 |some o=>
  simp only[k]at h|-;have t:jR o=true:=by obtain⟨y,j⟩:=RC.1 k;rw[<-j];exact Array.all_eq_true.1 fI i y
  split
  .rename_i m;simp only[m,if_true]at h;have h:=h.resolve_right λe=>s e.2;unfold Oper.wp at h;unfold Oper.wpIn;refine⟨λ_ _=>trivial,?_⟩;rw[Oper.semAt_eq _ _ _ (xG t)];generalize (execOp a.eval o).run P w=r at*;cases r with
   |ok x z=>
    cases x<;>simp only[Oper.upon]at h<;>simp only[Oper.uponIn]
    case value u=>exact b _ _ h
    case skip=>exact b _ _ h
    case defer d=>exact b _ _ h
    case enter f g=>exact⟨(λe=>by cases e),WA l ((UP.2 h).mono λe A j=>by cases e<;>first|exact b _ _ j|exact j)⟩
    case row p g=>exact⟨(λe=>by cases e),λc B F=>by obtain⟨v,C,D,E⟩:=h c B;exact⟨v,C,b _ _ D,(stepsIn_wide (P:=P)).2 E⟩⟩
   |halt x z=>
    cases x<;>simp only[Oper.upon]at h
    case panic u=>simp only[Oper.uponIn];exact h
  .rename_i m;simp only[m]at h;exact⟨λ_ _=>trivial,b _ _ h⟩
theorem iC(fI:ops.all jR=true)(c:¬LetsOut Q):∀(fuel:Nat) (b:Array Bool) (a:Act) (w:M),wpAnyH P .any ops Q S fuel b a w->wpAnyIn (TV.inRound l) n P .any ops Q fuel b a w
 |0,_,_,_,h=>h
 |fuel+1,_,_,_,h=>⟨h.1,λi d=>nO fI c (λe f g=>iC fI c fuel _ e f g.2) (h.2 i d)⟩
theorem eE{id:Nat}{a:Act}{w:M}(b:P.follows .mixedOrders=true)(fI:ops.all jR=true)(c:¬LetsOut Q)(d:S w.drew)(h:S w.drew->wpAnyH P .any ops Q S ops.size (Array.replicate ops.size false) a w.drew):(Code.region id ops true).wpIn (TV.inRound l) n P Q a w:=
 wpIn_region_any b (iC fI c _ _ _ _ (h d))
end
end
section
open Go.Shelf
theorem Hh(rg:QC)(t:Nat)(w:M)(a:Option SZ)(n c:Nat)(b:rg=.slice a n c):aE 309 #[rg,Y t] w λe d=>aK e (.func (.func 337) #[] #[H w.heap.size,.pointer (some ⟨w.heap.size+1,0,none⟩)])/\
  d=(w.alloc (al #[rg] 352)).alloc (al #[Y t] 3):=by
 subst b;go_enter func309,ntmps309;go_wp2;go_ret;exact⟨rfl,rfl⟩
theorem EL(w:M):aE 308 #[] w λe a=>aK e (H w.heap.size)/\a=w.alloc (al #[.int .u32 0,Y 0] 436):=by go_enter func308,ntmps308;go_wp2;go_ret;exact⟨rfl,rfl⟩
def mS(w:M):List Obj->M
 | [] =>w
 |o::a=>mS (w.alloc o) a
theorem ik:∀(a:List Obj) (w:M),au w (mS w a)
 | [],_=>ak
 |o::a,w=>(aI ak o).trans ((ik a (w.alloc o)).mono aJ)
theorem nz:∀(a:List Obj) (w:M),(mS w a).heap.size=w.heap.size+a.length
 | [],_=>rfl
 |o::a,w=>by show(mS (w.alloc o) a).heap.size=_;rw[nz a,SS,SG];omega
theorem pK:∀(a:List Obj) (w:M) (j:Nat) (o:Obj),a[j]?=some o->(mS w a).heap[w.heap.size+j]?=some o
 |o::a,w,0,p,h=>by
  have e:o=p:=by simpa using h
  subst e;exact((ik a (w.alloc o)).block _ aJ).trans (QB w o)
 |o::a,w,j+1,p,h=>by have:=pK a (w.alloc o) j p (by simpa using h);rw[SS,show w.heap.size+1+j=w.heap.size+(j+1)by omega]at this;exact this
theorem fg.wide{B a:Nat}{w:M}{v:QC}{l:List Pt}(h:fg B w v l)(b:a<=B):fg a w v l:=by obtain⟨c,d,e,f⟩:=h;exact⟨c,d,cu e b,f⟩
def bM(Q:bX)(m:Nat):List Pt:=(TT m).map λi=>(Q.me i,Q.row i,Q.da i)
theorem cT(Q:bX)(m:Nat):(bM Q m).length=m:=by simp[bM]
theorem AX(Q:bX)(k:Nat)(hd:Hd)(f:aQ):bM (Q.put k hd f) (k+1)=bM Q k++ [(hd.me,hd.row,tu hd.nt f)]:=by
 unfold bM;rw[UK,SH];congr 1
 .refine UX λi a=>?_;have:i≠k:=by have:=UA.1 a;omega
  simp only[bX.put,aq this]
 .simp [bX.put]
def Kk(F:dp)(ep sq room:Nat)(w:M)(e:RW)(b:M):Prop:=
 au w b/\∃a n c,(∃P,bK F ep sq room P/\aK e (.tuple #[.agg #[bg sq,.slice a n c],.bool true])/\fg w.heap.size b (.slice a n c) (bM P P.N))\/
  ((∀P,¬bK F ep sq room P)/\aK e (.tuple #[.agg #[bg sq,.slice a n c],.bool false]))
def Bv(room ep sq t:Nat)(rg:QC)(s:Nat)(sv:QC)(hd:Hd)(N ds dm:Nat):Nat->Array QC × Nat
 |0=>(#[.int .i64 (room:Nat)],3)
 |1=>(#[.int .u64 (ep:Nat)],87)
 |2=>(#[.int .u64 (sq:Nat)],87)
 |3=>(#[.int .u64 0,.slice none 0 0],204)
 |4=>(#[.bool false],4)
 |5=>(#[.int .u64 (sq:Nat),sv],204)
 |6=>(rE hd,390)
 |7=>(#[.int .i64 (N:Nat)],3)
 |8=>(#[.int .u32 (ds:Nat),.int .i64 (dm:Nat)],436)
 |9=>(#[.pointer (some ⟨s+8,0,none⟩)],391)
 |10=>(#[rg],352)
 |_=>(#[.int .i64 (t:Nat)],3)
theorem xH(room ep sq t:Nat)(rg:QC)(s:Nat)(sv:QC)(hd:Hd)(N ds dm j:Nat):(Bv room ep sq t rg s sv hd N ds dm j).2≠5:=by unfold Bv;split<;>(dsimp only;decide)
structure BR(w:M)(lo:Loop)(room ep sq t:Nat)(rg:QC)(sv:QC)(hd:Hd)(N ds dm:Nat)(ps:List Pt)(A:M):Prop where
 l:A.heap[w.heap.size+13]? =some (.loop lo)
 D:A.heap[w.heap.size+12]? =some (.deferred (some []))
 c:∀j,j<12->A.heap[w.heap.size+j]? =some (.cells (Bv room ep sq t rg w.heap.size sv hd N ds dm j).1 (Bv room ep sq t rg w.heap.size sv hd N ds dm j).2 (0,0))
 ls:fg (w.heap.size+14) A sv ps
 out:au w A
section
variable {w:QA} {lo lo':Loop} {room ep sq t:Nat} {rg sv:QC} {hd:Hd} {N ds dm:Nat} {l:List Pt} {A B:QA}
theorem BR.size(h:BR w lo room ep sq t rg sv hd N ds dm l A):w.heap.size+14<=A.heap.size:=Z_ h.l
theorem BR.then(h:BR w lo room ep sq t rg sv hd N ds dm l A)(a:au A B):BR w lo room ep sq t rg sv hd N ds dm l B:=by have c:=h.size;exact⟨(a.block _ J).trans h.l,(a.block _ J).trans h.D,λj b=>(a.block _ J).trans (h.c j b),h.ls.below a,h.out.trans (a.mono J)⟩
theorem fg.kO{B:Nat}{w:M}{v:QC}{l:List Pt}(h:fg B w v l){k:Nat}(a:v.ownBlock=some k):B<=k:=by obtain⟨c,d,b,e⟩:=h;exact(bo b a).2
theorem BR.put(h:BR w lo room ep sq t rg sv hd N ds dm l A):BR w lo' room ep sq t rg sv hd N ds dm l (A.putObj (w.heap.size+13) (.loop lo')):=by
 have a:Out (λb=>b=w.heap.size+13) A (A.putObj (w.heap.size+13) (.loop lo')):=Out.putObj (S:=λb=>b=w.heap.size+13) (Out.refl _ _) (λ_=>rfl) _;have g:=h.size;refine⟨SR (Z_ h.l),a.heap h.D (by show¬w.heap.size+12=w.heap.size+13;omega),λj f=>a.heap (h.c j f) (by show¬w.heap.size+j=w.heap.size+13;omega),
  h.ls.out a (λk c e=>by have:=h.ls.kO c;have:k=w.heap.size+13:=e;omega) (λk o c d=>?_),h.out.trans (a.below (λk _ e=>by have:k=w.heap.size+13:=e;omega) J)⟩
 have:k=w.heap.size+13:=c;subst this;rw[h.l]at d;cases d;exactλe=>by simp[ty]at e
theorem BR.dR{a:QC}{d:Hd}{i f g:Nat}{n:List Pt}(h:BR w lo room ep sq t rg sv hd N ds dm l A)(c:Nat)(p:c<12)(m:Out (λb=>b=w.heap.size+c) A B)(q:a_ B (w.heap.size+c) (.cells (Bv room ep sq t rg w.heap.size a d i f g c).1 (Bv room ep sq t rg w.heap.size a d i f g c).2 (0,0)))(r:∀j,j<12->j≠c->Bv room ep sq t rg w.heap.size a d i f g j=Bv room ep sq t rg w.heap.size sv hd N ds dm j)(s:fg (w.heap.size+14) B a n):BR w lo room ep sq t rg a d i f g n B:=by
 have u:=h.size;refine⟨m.heap h.l (by show¬w.heap.size+13=w.heap.size+c;omega),m.heap h.D (by show¬w.heap.size+12=w.heap.size+c;omega),λj o=>?_,s,h.out.trans (m.below (λk _ e=>by have:k=w.heap.size+c:=e;omega) J)⟩;by_cases e:j=c
 .rw [e];exact q
 .rw [r j o e];exact m.heap (h.c j o) (by show¬w.heap.size+j=w.heap.size+c;omega)
theorem BR.Oi{c:Hd}{i d f:Nat}(h:BR w lo room ep sq t rg sv hd N ds dm l A)(a:Nat)(g:a<12)(n:Out (λb=>b=w.heap.size+a) A B)(q:B.heap[w.heap.size+a]?=some (.cells (Bv room ep sq t rg w.heap.size sv c i d f a).1 (Bv room ep sq t rg w.heap.size sv c i d f a).2 (0,0)))(r:∀j,j<12->j≠a->Bv room ep sq t rg w.heap.size sv c i d f j=Bv room ep sq t rg w.heap.size sv hd N ds dm j):BR w lo room ep sq t rg sv c i d f l B:=by
 refine h.dR a g n q r (h.ls.out n (λk m e=>by have:=h.ls.kO m;have:k=w.heap.size+a:=e;omega) (λk o m p=>?_));have:k=w.heap.size+a:=m;subst this;rw[h.c a g]at p;cases p;exact xH _ _ _ _ _ _ _ _ _ _ _ _
theorem BR.cA(h:BR w lo room ep sq t rg sv hd N ds dm l A)(M:Nat):BR w lo room ep sq t rg sv hd M ds dm l (A.setCell ⟨w.heap.size+7,0,none⟩ (Y M)):=by
 refine h.Oi 7 aj ((Out.refl (λb=>b=w.heap.size+7) A).setCell (p:=⟨w.heap.size+7,0,none⟩) (λ_=>rfl) _) (heap_setCell_same _ _ 0 _ 3 _ (h.c 7 aj)) λj c a=>?_
 match j,c with
 |0,_|1,_|2,_|3,_|4,_|5,_|6,_|8,_|9,_|10,_|11,_=>rfl
 |7,_=>exact absurd rfl a
theorem Hi{w:M}{p ty:Nat}{r q o n k j g f:QC}(h:a_ w p (.cells #[r,q,o,n,k,j,g,f] ty (0,0)))(a b c d x4 e i m:QC):
  (((((((((w.setCell (R p 0) a).setCell (R p 1) b).setCell (R p 2) c).setCell (R p 3) d).setCell (R p 4) x4).setCell (R p 5) e).setCell (R p 6) i).setCell (R p 7) m)).heap[p]?=some (.cells #[a,b,c,d,x4,e,i,m] ty (0,0)):=by
 have s:(w.setCell (R p 0) a).heap[p]?=some (.cells #[a,q,o,n,k,j,g,f] ty (0,0)):=heap_setCell_same _ p 0 _ ty a h;have u:((w.setCell (R p 0) a).setCell (R p 1) b).heap[p]?=some (.cells #[a,b,o,n,k,j,g,f] ty (0,0)):=heap_setCell_same _ p 1 _ ty b s;have v:(((w.setCell (R p 0) a).setCell (R p 1) b).setCell (R p 2) c).heap[p]?=some (.cells #[a,b,c,n,k,j,g,f] ty (0,0)):=heap_setCell_same _ p 2 _ ty c u;have x:((((w.setCell (R p 0) a).setCell (R p 1) b).setCell (R p 2) c).setCell (R p 3) d).heap[p]?=some (.cells #[a,b,c,d,k,j,g,f] ty (0,0)):=heap_setCell_same _ p 3 _ ty d v;have y:(((((w.setCell (R p 0) a).setCell (R p 1) b).setCell (R p 2) c).setCell (R p 3) d).setCell (R p 4) x4).heap[p]?=some (.cells #[a,b,c,d,x4,j,g,f] ty (0,0)):=heap_setCell_same _ p 4 _ ty x4 x;have z:((((((w.setCell (R p 0) a).setCell (R p 1) b).setCell (R p 2) c).setCell (R p 3) d).setCell (R p 4) x4).setCell (R p 5) e).heap[p]?=some (.cells #[a,b,c,d,x4,e,g,f] ty (0,0)):=heap_setCell_same _ p 5 _ ty e y;have C:(((((((w.setCell (R p 0) a).setCell (R p 1) b).setCell (R p 2) c).setCell (R p 3) d).setCell (R p 4) x4).setCell (R p 5) e).setCell (R p 6) i).heap[p]?=some (.cells #[a,b,c,d,x4,e,i,f] ty (0,0)):=heap_setCell_same _ p 6 _ ty i z;have D:((((((((w.setCell (R p 0) a).setCell (R p 1) b).setCell (R p 2) c).setCell (R p 3) d).setCell (R p 4) x4).setCell (R p 5) e).setCell (R p 6) i).setCell (R p 7) m).heap[p]?=some (.cells #[a,b,c,d,x4,e,i,m] ty (0,0)):=heap_setCell_same _ p 7 _ ty m C;exact D
theorem BR.Pn(h:BR w lo room ep sq t rg sv hd N ds dm l A)(x:Hd):BR w lo room ep sq t rg sv x N ds dm l
  ((((((((A.setCell ⟨w.heap.size+6,0,none⟩ (bg x.ep)).setCell ⟨w.heap.size+6,1,none⟩ (bg x.sq)).setCell ⟨w.heap.size+6,2,none⟩ (Y x.ix)).setCell ⟨w.heap.size+6,3,none⟩ (Y x.cA)).setCell ⟨w.heap.size+6,4,none⟩ (Y x.me)).setCell ⟨w.heap.size+6,5,none⟩ (Y x.row)).setCell ⟨w.heap.size+6,6,none⟩ (.bool x.nt)).setCell ⟨w.heap.size+6,7,none⟩ (.int .u32 (x.sm:Nat))):=by
 have c:a_ A (w.heap.size+6) (al (rE hd) 390):=h.c 6 aj;have d:=Hi c (bg x.ep) (bg x.sq) (Y x.ix) (Y x.cA) (Y x.me) (Y x.row) (.bool x.nt) (.int .u32 (x.sm:Nat));have e:Out (λb=>b=w.heap.size+6) A ((((((((A.setCell ⟨w.heap.size+6,0,none⟩ (bg x.ep)).setCell ⟨w.heap.size+6,1,none⟩ (bg x.sq)).setCell ⟨w.heap.size+6,2,none⟩ (Y x.ix)).setCell ⟨w.heap.size+6,3,none⟩ (Y x.cA)).setCell ⟨w.heap.size+6,4,none⟩ (Y x.me)).setCell ⟨w.heap.size+6,5,none⟩ (Y x.row)).setCell ⟨w.heap.size+6,6,none⟩ (.bool x.nt)).setCell ⟨w.heap.size+6,7,none⟩ (.int .u32 (x.sm:Nat))):=((((((((Out.refl (λb=>b=w.heap.size+6) A).setCell (p:=⟨w.heap.size+6,0,none⟩) (λ_=>rfl) _).setCell (p:=⟨w.heap.size+6,1,none⟩) (λ_=>rfl) _).setCell (p:=⟨w.heap.size+6,2,none⟩) (λ_=>rfl) _).setCell (p:=⟨w.heap.size+6,3,none⟩) (λ_=>rfl) _).setCell (p:=⟨w.heap.size+6,4,none⟩) (λ_=>rfl) _).setCell (p:=⟨w.heap.size+6,5,none⟩) (λ_=>rfl) _).setCell (p:=⟨w.heap.size+6,6,none⟩) (λ_=>rfl) _).setCell (p:=⟨w.heap.size+6,7,none⟩) (λ_=>rfl) _;refine h.Oi 6 aj e d λj f a=>?_
 match j,f with
 |0,_|1,_|2,_|3,_|4,_|5,_|7,_|8,_|9,_|10,_|11,_=>rfl
 |6,_=>exact absurd rfl a
theorem BR.HP{a b:Nat}(h:BR w lo room ep sq t rg sv hd N ds dm l A)(e:Out (λk=>k=w.heap.size+8) A B)(c:Fw B (w.heap.size+8) a b):BR w lo room ep sq t rg sv hd N a b l B:=by
 refine h.Oi 8 aj e c λj f d=>?_
 match j,f with
 |0,_|1,_|2,_|3,_|4,_|5,_|6,_|7,_|9,_|10,_|11,_=>rfl
 |8,_=>exact absurd rfl d
theorem BR.push{a g:Option SZ}{n m c q:Nat}{r:List Pt}{us':List QC}(h:BR w lo room ep sq t rg (.slice a n c) hd N ds dm l A)(x:Out (λk=>(RU a n c).ownBlock=some k) A B)(G:us'.length=r.length)(b:B.ownsRow (w.heap.size+14) 206 3 (.slice g m q) r.length (dd r us'))(s:∀(i:Nat) (p:Pt) (u:QC),r[i]?=some p->us'[i]?=some u->dT B u p.2.2):
  BR w lo room ep sq t rg (.slice g m q) hd N ds dm r (B.setCell ⟨w.heap.size+5,1,none⟩ (.slice g m q)):=by
 have P:=h.size;have E:∀j,j<14->¬(λk=>(RU a n c).ownBlock=some k) (w.heap.size+j):=λj v e=>by have:=h.ls.kO e;omega
 have d:∀j,j≠5->∀z,A.heap[w.heap.size+j]?=some z->j<14->(B.setCell ⟨w.heap.size+5,1,none⟩ (.slice g m q)).heap[w.heap.size+j]?=some z:=λj C z y v=>
  (RP _ _ _ _ (by show w.heap.size+j≠w.heap.size+5;omega)).trans (x.heap y (E j v))
 have C:B.heap[w.heap.size+5]?=some (al #[bg sq,.slice a n c] 204):=x.heap (h.c 5 aj) (E 5 aj);have K:=heap_setCell_same B _ 1 _ 204 (.slice g m q) C;have f:Out (λk=>k=w.heap.size+5) B (B.setCell ⟨w.heap.size+5,1,none⟩ (.slice g m q)):=(Out.refl (λk=>k=w.heap.size+5) B).setCell (p:=⟨w.heap.size+5,1,none⟩) (λ_=>rfl) _;refine⟨d 13 aj _ h.l aj,d 12 aj _ h.D aj,λj v=>?_,⟨us',G,f.own b λk D e=>?_,λi p u L O=>(s i p u L O).out f λk o D y=>?_⟩,?_⟩
 .by_cases e:j=5
  .subst e;exact K
  .have:=d j e _ (h.c j v) J;rw[this]
   match j,v with
   |0,_|1,_|2,_|3,_|4,_|6,_|7,_|8,_|9,_|10,_|11,_=>rfl
   |5,_=>exact absurd rfl e
 .have Q:=(bo b D).2;have F:k=w.heap.size+5:=e;omega
 .have F:k=w.heap.size+5:=D;subst F;rw[C]at y;cases y;exactλe=>by simp[ty]at e
 .refine h.out.trans ((x.below (B:=w.heap.size) (λk _ e=>by have:=h.ls.kO e;omega) J).trans (f.below (λk _ e=>by have:k=w.heap.size+5:=e;omega) ?_));have:=x.size;omega
structure BE(w:M)(lo:Loop)(F:dp)(room ep sq:Nat)(A:M):Prop where
 l:A.heap[w.heap.size+13]? =some (.loop lo)
 D:A.heap[w.heap.size+12]? =some (.deferred (some []))
 out:au w A
 r:∃a n c b,A.heap[w.heap.size+3]? =some (al #[bg sq,.slice a n c] 204)/\A.heap[w.heap.size+4]? =some (al #[.bool b] 4)/\
  ((b=true/\∃P,bK F ep sq room P/\fg (w.heap.size+14) A (.slice a n c) (bM P P.N))\/(b=false/\∀P,¬bK F ep sq room P))
theorem BR.done{F:dp}{a:Option SZ}{n c:Nat}{b:Bool}(h:BR w lo room ep sq t rg (.slice a n c) hd N ds dm l A)(g:(b=true/\∃P,bK F ep sq room P/\l=bM P P.N)\/(b=false/\∀P,¬bK F ep sq room P)):
  BE w lo F room ep sq (((A.setCell ⟨w.heap.size+3,0,none⟩ (bg sq)).setCell ⟨w.heap.size+3,1,none⟩ (.slice a n c)).setCell ⟨w.heap.size+4,0,none⟩ (.bool b)):=by
 have r:=h.size;have d:Out (λk=>k=w.heap.size+3\/k=w.heap.size+4) A (((A.setCell ⟨w.heap.size+3,0,none⟩ (bg sq)).setCell ⟨w.heap.size+3,1,none⟩ (.slice a n c)).setCell ⟨w.heap.size+4,0,none⟩ (.bool b)):=
  (((Out.refl (λk=>k=w.heap.size+3\/k=w.heap.size+4) A).setCell (p:=⟨w.heap.size+3,0,none⟩) (λ_=>.inl rfl) _).setCell (p:=⟨w.heap.size+3,1,none⟩) (λ_=>.inl rfl) _).setCell (p:=⟨w.heap.size+4,0,none⟩) (λ_=>.inr rfl) _
 have i:=heap_setCell_same _ (w.heap.size+3) 1 _ 204 (.slice a n c) (heap_setCell_same A (w.heap.size+3) 0 _ 204 (bg sq) (h.c 3 aj));have j:((A.setCell ⟨w.heap.size+3,0,none⟩ (bg sq)).setCell ⟨w.heap.size+3,1,none⟩ (.slice a n c)).heap[w.heap.size+4]?=some (al #[.bool false] 4):=
  ((RP _ _ _ _ (by show w.heap.size+4≠w.heap.size+3;omega)).trans (RP _ _ _ _ (by show w.heap.size+4≠w.heap.size+3;omega))).trans (h.c 4 aj)
 refine⟨d.heap h.l (by show¬(w.heap.size+13=w.heap.size+3\/w.heap.size+13=w.heap.size+4);omega),d.heap h.D (by show¬(w.heap.size+12=w.heap.size+3\/w.heap.size+12=w.heap.size+4);omega),
  h.out.trans (d.below (λk _ e=>by have:k=w.heap.size+3\/k=w.heap.size+4:=e;omega) J),a,n,c,b,?_,heap_setCell_same _ _ 0 _ _ _ j,g.imp ?_ id⟩
 .exact (RP _ _ _ _ (by show w.heap.size+3≠w.heap.size+4;omega)).trans i
 .rintro ⟨m,P,q,rfl⟩;refine⟨m,P,q,h.ls.out d (λk hk e=>by have:=h.ls.kO hk;have:k=w.heap.size+3\/k=w.heap.size+4:=e;omega) (λk o hk f=>?_)⟩;rcases hk with hk|hk
  .subst hk;rw[h.c 3 aj]at f;cases f;exact xH _ _ _ _ _ _ _ _ _ _ _ _
  .subst hk;rw[h.c 4 aj]at f;cases f;exact xH _ _ _ _ _ _ _ _ _ _ _ _
theorem BE.then{F:dp}(h:BE w lo F room ep sq A)(d:au A B):BE w lo F room ep sq B:=by have m:w.heap.size+14<=A.heap.size:=Z_ h.l;obtain⟨a,n,c,b,f,g,i⟩:=h.r;exact⟨(d.block _ J).trans h.l,(d.block _ J).trans h.D,h.out.trans (d.mono J),a,n,c,b,(d.block _ J).trans f,(d.block _ J).trans g,i.imp (λ⟨e,P,j,k⟩=>⟨e,P,j,k.below d⟩) id⟩
theorem BE.put{F:dp}(h:BE w lo F room ep sq A):BE w lo' F room ep sq (A.putObj (w.heap.size+13) (.loop lo')):=by
 have d:Out (λb=>b=w.heap.size+13) A (A.putObj (w.heap.size+13) (.loop lo')):=Out.putObj (S:=λb=>b=w.heap.size+13) (Out.refl _ _) (λ_=>rfl) _;have s:w.heap.size+14<=A.heap.size:=Z_ h.l;obtain⟨a,n,c,b,j,m,p⟩:=h.r;refine⟨SR (Z_ h.l),d.heap h.D (by show¬w.heap.size+12=w.heap.size+13;omega),h.out.trans (d.below (λk _ e=>by have:k=w.heap.size+13:=e;omega) J),
  a,n,c,b,d.heap j (by show¬w.heap.size+3=w.heap.size+13;omega),d.heap m (by show¬w.heap.size+4=w.heap.size+13;omega),p.imp ?_ id⟩
 rintro⟨q,P,r,g⟩;refine⟨q,P,r,g.out d (λk f e=>by have:=g.kO f;have:k=w.heap.size+13:=e;omega) (λk o f i=>?_)⟩;have:k=w.heap.size+13:=f;subst this;rw[h.l]at i;cases i;exactλe=>by simp[ty]at e
theorem BR.endLoop(h:BR w lo room ep sq t rg sv hd N ds dm l A)(b:lo.state≠ .busy){jump:Option Code}(c:lo.pending=jump):∃lo' a,(Instr.endLoop (w.heap.size+13)).run prog A=.ok jump a/\BR w lo' room ep sq t rg sv hd N ds dm l a:=by subst c;exact⟨_,_,run_endLoop h.l b,h.put⟩
theorem BE.endLoop{F:dp}(h:BE w lo F room ep sq A)(b:lo.state≠ .busy){jump:Option Code}(c:lo.pending=jump):∃lo' a,(Instr.endLoop (w.heap.size+13)).run prog A=.ok jump a/\BE w lo' F room ep sq a:=by subst c;exact⟨_,_,run_endLoop h.l b,h.put⟩
theorem BE.answer{F:dp}(h:BE w lo F room ep sq A):∃a n c g,(A.putObj (w.heap.size+12) (.deferred none)).cell? ⟨w.heap.size+3,0,none⟩=some (bg sq)/\(A.putObj (w.heap.size+12) (.deferred none)).cell? ⟨w.heap.size+3,1,none⟩=some (.slice a n c)/\
  (A.putObj (w.heap.size+12) (.deferred none)).cell? ⟨w.heap.size+4,0,none⟩=some (.bool g)/\Kk F ep sq room w (.returned (.tuple #[.agg #[bg sq,.slice a n c],.bool g])) (A.putObj (w.heap.size+12) (.deferred none)):=by
 have d:Out (λk=>k=w.heap.size+12) A (A.putObj (w.heap.size+12) (.deferred none)):=Out.putObj (S:=λk=>k=w.heap.size+12) (Out.refl _ _) (λ_=>rfl) _;have x:w.heap.size+14<=A.heap.size:=Z_ h.l;obtain⟨a,n,c,b,p,q,r⟩:=h.r;have i:=d.heap p (by show¬w.heap.size+3=w.heap.size+12;omega);have s:=d.heap q (by show¬w.heap.size+4=w.heap.size+12;omega);refine⟨a,n,c,b,(cr i).1 0,(cr i).1 1,(cr s).1 0,h.out.trans (d.below (λk _ e=>by have:k=w.heap.size+12:=e;omega) J),a,n,c,?_⟩;rcases r with⟨rfl,P,u,j⟩|⟨rfl,v⟩
 .refine .inl ⟨P,u,rfl,fg.wide ?_ (Nat.le_add_right w.heap.size 14)⟩;refine j.out d (λk f e=>by have:=j.kO f;have:k=w.heap.size+12:=e;omega) (λk o f m=>?_);have:k=w.heap.size+12:=f;subst this;rw[h.D]at m;cases m;exactλe=>by simp[ty]at e
 .exact .inr ⟨v,rfl⟩
end
end
section
open Go.Shelf
attribute [local go_sem] WJ za
theorem dy{V:M}{d:Nat}{X:Array QC}(h:∀o,V.cell? (R d o)=X[o]?){p:SZ}(a:p.block≠d)(v:QC):∀o,(V.setCell p v).cell? (R d o)=X[o]?:=λo=>
 (World.cell?_setCell_far _ _ _ _ a).trans (h o)
theorem xI{F:dp}:∀{m:Nat},(∀i,i<2*m->Lt 128 (F i))->od F m<4294967296
 |0,_=>by show(0:Nat)<_;decide
 |m+1,h=>gQ _ _ _ (xI λi a=>h i J) (h (2*m) J)
section
variable {F:dp} {ep sq room k:Nat} {Q:bX} {hd:Hd}
theorem zc(a:km F ep sq room k Q hd)(c:k=2*Q.N)(b:∀i,i<=k->Lt 128 (F i)):(⟨ep,sq,Q.N,od F Q.N⟩:Cm).ok:=⟨a.c,a.cA,xI λi h=>b i J⟩
theorem AY(a:km F ep sq room k Q hd)(b:k=2*Q.N)(d:∀i,i<=k->Lt 128 (F i))(e:∀c:Cm,c.ok->¬aD (F k) c.enc):∀P,¬bK F ep sq room P:=by have f:=e _ (zc a b d);subst b;exact a.rH f
theorem xJ(g:km F ep sq room k Q hd)(j:k=2*Q.N)(n:∀i,i<=k->Lt 128 (F i)){h:Cm}(l:h.ok)(m:aD (F k) h.enc):
  (decide (h.ep=ep/\h.sq=sq/\h.cA=Q.N/\h.sm=od F ((k+1)/2))=true/\∃P,bK F ep sq room P/\bM Q (k/2)=bM P P.N)\/(decide (h.ep=ep/\h.sq=sq/\h.cA=Q.N/\h.sm=od F ((k+1)/2))=false/\∀P,¬bK F ep sq room P):=by
 have o:(k+1)/2=Q.N:=J;have p:k/2=Q.N:=J;rw[o,p];by_cases f:h.ep=ep/\h.sq=sq/\h.cA=Q.N/\h.sm=od F Q.N
 .refine .inl ⟨decide_eq_true f,Q,?_,rfl⟩;have q:h=⟨ep,sq,Q.N,od F Q.N⟩:=by obtain⟨a,b,c,d⟩:=h;obtain⟨rfl,rfl,rfl,rfl⟩:=f;rfl
  rw[q]at m;subst j;exact g.qk m
 .refine .inr ⟨decide_eq_false f,?_⟩;have r:=zc g j n;have s:¬aD (F k) (eh ep sq Q.N (od F Q.N)):=λe=>f (by have t:=(Cm.cG l m).symm.trans (Cm.cG r e);rw[t];exact⟨rfl,rfl,rfl,rfl⟩);subst j;exact g.rH s
end
theorem Out.Hi{S:Nat->Prop}{a w:M}{p:Nat}(h:Out S a w)(b:p<a.heap.size->S p)(c d e f x4 g i j:QC):
  Out S a ((((((((w.setCell (R p 0) c).setCell (R p 1) d).setCell (R p 2) e).setCell (R p 3) f).setCell (R p 4) x4).setCell (R p 5) g).setCell (R p 6) i).setCell (R p 7) j):=
 (((((((h.setCell (p:=R p 0) b _).setCell (p:=R p 1) b _).setCell (p:=R p 2) b _).setCell (p:=R p 3) b _).setCell (p:=R p 4) b _).setCell (p:=R p 5) b _).setCell (p:=R p 6) b _).setCell (p:=R p 7) b _
theorem xK{w:M}{B e c n:Nat}{v:QC}{xs:List QC}(d:w.ownsRow B e c v n xs){k:Nat}{o:Obj}(a:v.ownBlock=some k)(b:w.heap[k]?=some o):ty o=e:=by
 rcases d.2 with⟨rfl,_⟩|⟨g,f,h,rfl,_,i,_⟩
 .cases a
 .cases a;rw[i]at b;cases b;rfl
def Mi(s G ep sq M:Nat)(a:QC)(h:Cm)(V:QA):Prop:=
 (∀o,V.cell? ⟨s+5,o,none⟩=(#[bg sq,a]:Array QC)[o]?)/\(∀o,V.cell? ⟨s+1,o,none⟩=(#[bg ep]:Array QC)[o]?)/\(∀o,V.cell? ⟨s+2,o,none⟩=(#[bg sq]:Array QC)[o]?)/\(∀o,V.cell? ⟨s+7,o,none⟩=(#[Y M]:Array QC)[o]?)/\
  (∀o,V.cell? ⟨s+9,o,none⟩=(#[.pointer (some ⟨s+8,0,none⟩)]:Array QC)[o]?)/\(∀o,V.cell? (R G o)=(#[bg h.ep,bg h.sq,Y h.cA,.int .u32 (h.sm:Nat)]:Array QC)[o]?)
theorem Mi.set{s G ep sq M:Nat}{b:QC}{h:Cm}{V:QA}(c:Mi s G ep sq M b h V){p:SZ}(l:p.block=s+3\/p.block=s+4)(d:p.block≠G)(v:QC):Mi s G ep sq M b h (V.setCell p v):=by obtain⟨e,f,g,i,j,a⟩:=c;exact⟨dy e J _,dy f J _,dy g J _,dy i J _,dy j J _,dy a d _⟩
def Oj(w:QA)(b:Loop)(F:dp)(room ep sq t:Nat)(d:QC)(k:Nat)(A:QA):Prop:=
 k<=room/\∃(Q:bX) (hd:Hd) (M:Nat) (a:Option SZ) (c:Nat),BR w b room ep sq t d (.slice a (k/2) c) hd M (od F ((k+1)/2)) (128*((k+1)/2)) (bM Q (k/2)) A/\
  ((k=0/\M=0)\/(0<k/\km F ep sq room k Q hd/\M=Q.N))
theorem EM(b o b5 N t room ep sq:Nat)(F:dp)(w:QA)(v3:1<=N)(r8:N<=4096)(v4:t<N)(k1:N*128<=b5)(f9:room<=N)(t6:∀k,k<N->dT w (Ix b o b5 N t k) (F k)/\∀j,j<128->F k j<256):
  aE 274 #[.slice (some (ag b o)) (N*128) b5,ae t,ae room,bg ep,bg sq] w (Kk F ep sq room w):=by
 obtain⟨n,H⟩:=ah (N*128);rw[H];have r9:=ad H;clear H;refine(UP (n:=3)).1 ?_;refine callsIn_of_wp_marks func274 rfl trivial ?_;simp only[ntmps274,VW,SG,VT,Nat.reduceAdd,Nat.reduceSub,ZG,ZF,List.push_toArray,List.append_toArray,UT,UQ];have m8:=ad t6;have s0:=ad k1;clear t6 k1;obtain⟨g5,i7⟩:=ah (RU (some (ag b o)) n b5);have b6:=ad (λW=>Hh g5 t W (some (ag b o)) n b5 i7.symm);have l0:=ad i7;rw[i7];clear i7;gi_wp2_with(first|(gi_at_call 308;refine(UP.2 (EL _)).mono ?_;rintro e E ⟨rfl,rfl⟩)|(gi_at_call 309;refine(UP.2 (b6 _)).mono ?_;rintro e w2 ⟨rfl,rfl⟩));rename_i K n4;have n5:=ad n4;clear n4;obtain⟨W0,d8⟩:=ah (mS w [al #[ae room] 3,al #[bg ep] 87,al #[bg sq] 87,al #[.int .u64 0,aW] 204,al #[.bool false] 4,al #[bg sq,aW] 204,al (rE ⟨0,0,0,0,0,0,false,0⟩) 390,al #[ae 0] 3,al #[.int .u32 0,ae 0] 436,al #[.pointer (some ⟨w.heap.size+8,0,none⟩)] 391,al #[g5] 352,al #[ae t] 3] );have i5:=λj l1 h=>pK [al #[ae room] 3,al #[bg ep] 87,al #[bg sq] 87,al #[.int .u64 0,aW] 204,al #[.bool false] 4,al #[bg sq,aW] 204,al (rE ⟨0,0,0,0,0,0,false,0⟩) 390,al #[ae 0] 3,al #[.int .u32 0,ae 0] 436,al #[.pointer (some ⟨w.heap.size+8,0,none⟩)] 391,al #[g5] 352,al #[ae t] 3] w j l1 h;have i8:au w W0:=by rw[<-d8];exact ik _ _
 have f3:W0.heap.size=w.heap.size+12:=by rw[<-d8];exact nz _ _
 rw[d8]at i5;refine(show∀X,X=W0->Code.wpIn TV 3 prog _ _ _ X from ?_) _ d8;intro X k2;rw[k2];clear k2;simp only[UO,Nat.reduceAdd];refine jc (gf:=337) (lb:= #[.pointer (some ⟨w.heap.size+10,0,none⟩),.pointer (some ⟨w.heap.size+11,0,none⟩)]) rfl (RF func337 ai rfl) ?_;intro t7 d9 a6;rw[f3];simp only[UO,Nat.reduceAdd];obtain⟨W1,d0⟩:=ah ((W0.alloc (.deferred (some []))).alloc (.loop (d9 .ready none)));rw[d0];have b3:∀k,k<W0.heap.size->W1.heap[k]?=W0.heap[k]?:=λk p9=>by rw[<-d0];exact(QW _ _ k aR).trans (QW _ _ k p9)
 have i9:au w W1:=by rw[<-d0];exact aI (aI i8 _) _
 have f0:a_ W1 (w.heap.size+13) (.loop (d9 .ready none)):=by rw[<-d0];have:=QB (W0.alloc (.deferred (some []))) (.loop (d9 .ready none));rwa[SS,f3]at this
 have f1:a_ W1 (w.heap.size+12) (.deferred (some [])):=by rw[<-d0];have:=(QW (W0.alloc (.deferred (some []))) (.loop (d9 .ready none)) W0.heap.size aJ).trans (QB W0 _);rwa[f3]at this
 have j0:Oj w (d9 .ready none) F room ep sq t g5 0 W1:=by
  refine⟨QN _,⟨0,λ_=>0,λ_=>0,λ_ _=>0⟩,⟨0,0,0,0,0,0,false,0⟩,0,none,0,⟨f0,f1,λj t8=>(b3 _ aa).trans ?_,⟨[],rfl,SJ _ _ _ _,λi p u h=>by simp[bM]at h⟩,i9⟩,.inl ⟨rfl,rfl⟩⟩;refine i5 j _ ?_
  match j,t8 with
  |0,_=>rfl
  |1,_=>rfl
  |2,_=>rfl
  |3,_=>rfl
  |4,_=>rfl
  |5,_=>rfl
  |6,_=>rfl
  |7,_=>rfl
  |8,_=>rfl
  |9,_=>rfl
  |10,_=>rfl
  |11,_=>rfl
 have k2:∀j,j<14->j≠10->j≠11->(λb=>w.heap.size<=b/\b≠w.heap.size+10/\b≠w.heap.size+11) (w.heap.size+j):=λj _ h1 I=>⟨aa,aa,aa⟩;have n6:=r9.out;refine(AW (w.heap.size+13) (w.heap.size+10) (w.heap.size+11) b o b5 N t (λb=>w.heap.size<=b/\b≠w.heap.size+10/\b≠w.heap.size+11) (Oj w (d9 .ready none) F room ep sq t g5) (BE w (d9 .done (some .ret)) F room ep sq) W1 v3 r8 v4 s0
  ((b3 _ aa).trans (by have:=i5 10 _ rfl;rw[n6,l0.out];exact this)) ((b3 _ aa).trans (i5 11 _ rfl)) (λh=>h.2.1 rfl) (λh=>h.2.2 rfl) j0 (λk A n h=>?_) ?_).mono ?_
 .obtain ⟨h1,Q,hd,M,a,c,I,h3⟩:=h;exact⟨h1,Q,hd,M,a,c,I.then (cE ak _),h3⟩
 .intro q k A p9 v5;obtain⟨n7,Q,hd,M,a,c,s1,f4⟩:=v5;have s2:=s1.l;have s3:=run_yield (P:=prog) (args:= #[ae k,Ix b o b5 N t k]) s2 (by rw[a6];rfl);rw[show(d9 .ready none).fn=t7 by rw[a6]]at s3;refine⟨t7,_,_,_,s3,roundIn_of_wpIn trivial ?_⟩;have l2:=run_beginRound (P:=prog) s2 (by rw[a6]);have j6:=s1.put (lo':={d9 .ready none with state:=.busy});obtain⟨A2,g6⟩:=ah (A.putObj (w.heap.size+13) (.loop {d9 .ready none with state:=.busy}));rw[g6]at l2 j6;have s:=ad j6;have g7:QX (Out (λb=>w.heap.size<=b/\b≠w.heap.size+10/\b≠w.heap.size+11) A A2):=by rw[<-g6];exact Out.putObj (Out.refl _ _) (λ_=>k2 13 aj aj aj) _
  obtain⟨R,r0⟩:=ah (zb (λb=>w.heap.size<=b/\b≠w.heap.size+10/\b≠w.heap.size+11) (Oj w (d9 .ready none) F room ep sq t g5) (BE w (d9 .done (some .ret)) F room ep sq) k A);rw[r0,a6];have n8:=ad a6;have f5:=ad f4;clear a6 f4 g6 s1 s2 s3 j0 f1 f0 i9 b3 i5 i8 f3 d8 d0 b6 n6;have f6:=ad k2;clear k2;obtain⟨l3,l4⟩:=ah ({d9 .ready none with state:=.busy}:Loop);have d1:QX (∀A3 n9 e0 f7 d6 d7,BR w l3 room ep sq t g5 (.slice d6 ((k+1)/2) d7) e0 f7 (od F ((k+1+1)/2)) (128*((k+1+1)/2)) (bM n9 ((k+1)/2)) A3->k<room->km F ep sq room (k+1) n9 e0->f7=n9.N->Out (λb=>w.heap.size<=b/\b≠w.heap.size+10/\b≠w.heap.size+11) A A3->
    ∃v b7,(ZD (w.heap.size+13) none).run prog A3=.ok v b7/\R (.returned v) b7):=by
   intro A3 n9 e0 f7 d6 d7 h1 I h3 h4 Z;refine⟨_,_,run_endRound (P:=prog) none h1.l,?_⟩;have e1:({l3 with state:=if(none:Option Code).isNone then .ready else .done,pending:=none}:Loop)=d9 .ready none:=by rw[<-l4,n8.out];rfl
   rw[e1,<-r0];refine .inl ⟨rfl,Out.putObj Z (λ_=>f6.out 13 aj aj aj) _,I,n9,e0,f7,d6,d7,?_,.inr ⟨Nat.succ_pos _,h3,h4⟩⟩;exact h1.put
  have a2:QX (∀A3 e0 f7 t9 u8 d6 k3 d7 l f8,BR w l3 room ep sq t g5 (.slice d6 k3 d7) e0 f7 t9 u8 l A3->Out (λb=>w.heap.size<=b/\b≠w.heap.size+10/\b≠w.heap.size+11) A A3->((f8=true/\∃P,bK F ep sq room P/\l=bM P P.N)\/(f8=false/\∀P,¬bK F ep sq room P))->
    ∀B,SC (((A3.setCell ⟨w.heap.size+3,0,none⟩ (bg sq)).setCell ⟨w.heap.size+3,1,none⟩ (.slice d6 k3 d7)).setCell ⟨w.heap.size+4,0,none⟩ (.bool f8)).heap.size (((A3.setCell ⟨w.heap.size+3,0,none⟩ (bg sq)).setCell ⟨w.heap.size+3,1,none⟩ (.slice d6 k3 d7)).setCell ⟨w.heap.size+4,0,none⟩ (.bool f8)) B->
    ∃v b7,(ZD (w.heap.size+13) (some .ret)).run prog B=.ok v b7/\R (.returned v) b7):=by
   intro A3 e0 f7 t9 u8 d6 k3 d7 l f8 h1 I h3 B o0;have h4:=(h1.done (F:=F) h3).then o0;refine⟨_,_,run_endRound (P:=prog) (some .ret) h4.l,?_⟩;have e1:({l3 with state:=if(some Code.ret:Option Code).isNone then .ready else .done,pending:=some Code.ret}:Loop)=d9 .done (some .ret):=by rw[<-l4,n8.out];rfl
   rw[e1,<-r0];refine .inr ⟨rfl,Out.putObj ((((I.setCell (p:=⟨w.heap.size+3,0,none⟩) (λ_=>f6.out 3 aj aj aj) _).setCell (p:=⟨w.heap.size+3,1,none⟩) (λ_=>f6.out 3 aj aj aj) _).setCell (p:=⟨w.heap.size+4,0,none⟩) (λ_=>f6.out 4 aj aj aj) _).then o0) (λ_=>f6.out 13 aj aj aj) _,?_⟩;exact h4.put
  clear r0;rw[l4]at j6 s;clear j6;gi_wp2;refine⟨A2,l2,?_⟩;clear l2;obtain⟨c0,u0,z0⟩:=cr (show A2.heap[w.heap.size+0]?=some (al #[ae room] 3)from s.c 0 aj);obtain⟨c3,u3,z3⟩:=cr (show A2.heap[w.heap.size+3]?=some (al #[.int .u64 0,aW] 204)from s.c 3 aj);obtain⟨c4,u4,z4⟩:=cr (show A2.heap[w.heap.size+4]?=some (al #[.bool false] 4)from s.c 4 aj);obtain⟨c5,u5,z5⟩:=cr (show A2.heap[w.heap.size+5]?=some (al #[bg sq,.slice a (k/2) c] 204)from s.c 5 aj);obtain⟨c7,u7,z7⟩:=cr (show A2.heap[w.heap.size+7]?=some (al #[ae M] 3)from s.c 7 aj);simp only[VJ]at c0 u0 z0;by_cases l5:k=room
  .have y:∀P,¬bK F ep sq room P:=by
    rcases f5.out with⟨rfl,_⟩|⟨_,h3,_⟩
    .exact AU l5
    .exact h3.rG l5
   have r:=ad y;clear y;subst l5;gi_wp2;exact a2 _ _ _ _ _ _ _ _ _ _ s g7 (.inr ⟨rfl,r⟩) _ ak
  .have l6:k<room:=aa;have j1:¬(k:Int)=(room:Int):=aa;have a5:QX (∀W,au w W->dT W (Ix b o b5 N t k) (F k)):=λW m9=>(m8 k p9).1.below m9;have k4:=ad (m8 k p9).2;have l7:QX (∀i,i<=k->Lt 128 (F i)):=λi r1=>(m8 i aa).2;obtain⟨v6,l8⟩:=ah (Ix b o b5 N t k);rw[l8]at a5|-;obtain⟨r2,r3,r4,rfl⟩:∃r2 r3 r4,v6=.slice r2 r3 r4:=⟨_,_,_,l8.symm⟩;clear l8 m8 n5 K;by_cases g8:0<M/\k=2*M
   .have f4:km F ep sq room k Q hd/\M=Q.N:=by
     rcases f5.out with⟨rfl,h⟩|⟨_,h1,I⟩
     .omega
     .exact ⟨h1,I⟩
    have z:=ad f4;have j2:(0:Int)<(M:Int):=aa;have v7:=f4.1.cA;have j3:QK.wrap (2*(M:Int))=(k:Int):=bj;have o1:=ad g8;clear f4 g8 v7;have i6:=ad (Kf _ (F k) A2 (a5 _ s.out.out) k4);gi_wp2_with(first|(refine⟨(λh=>by cases h),?_⟩;gi_at_call 310;refine(WA (w.heap.size+13) (UP.2 i6)).mono ?_;rintro e E ⟨n0,h,rfl,b4,k5⟩;have r5:=aB b4 k5;clear b4 k5));rename_i K k6;have n1:=ad k6;clear k6;obtain⟨W,m9⟩:=ah (E.alloc (al #[bg h.ep,bg h.sq,ae h.cA,.int .u32 (h.sm:Nat)] 397));rw[m9];have l9:au A2 W:=by rw[<-m9];exact r5.1.trans ((aI ak _).mono r5.1.size)
    have o2:=s.then l9;have a3:=ad o2;have j7:a_ W E.heap.size (al #[bg h.ep,bg h.sq,ae h.cA,.int .u32 (h.sm:Nat)] 397):=by rw[<-m9];exact QB _ _
    have o3:QX (Out (λb=>w.heap.size<=b/\b≠w.heap.size+10/\b≠w.heap.size+11) A W):=g7.then l9;obtain⟨G,v0⟩:=ah E.heap.size;have g9:QX (∀j,j<12->w.heap.size+j≠G):=λj t8=>by have:=s.size;have:=r5.1.size;omega
    rw[v0]at j7|-;have s4:=ad (λV (hV:Fw V (w.heap.size+8) (od F ((k+1)/2)) (128*((k+1)/2)))=>yf V _ _ _ hV);clear m9 l9 o2 v0 c0 u0 z0 c3 u3 z3 c4 u4 z4 c5 u5 z5 c7 u7 z7;rcases r5.2 with⟨rfl,b1,J⟩|⟨j8,y⟩
    .have q5:∀o,W.drew.cell? ⟨w.heap.size+5,o,none⟩=(#[bg sq,.slice a (k/2) c]:Array QC)[o]?:=(cr (show W.heap[w.heap.size+5]?=some (al #[bg sq,.slice a (k/2) c] 204)from a3.c 5 aj)).1;have q1:∀o,W.drew.cell? ⟨w.heap.size+1,o,none⟩=(#[bg ep]:Array QC)[o]?:=(cr (show W.heap[w.heap.size+1]?=some (al #[bg ep] 87)from a3.c 1 aj)).1;have q2:∀o,W.drew.cell? ⟨w.heap.size+2,o,none⟩=(#[bg sq]:Array QC)[o]?:=(cr (show W.heap[w.heap.size+2]?=some (al #[bg sq] 87)from a3.c 2 aj)).1;have q7:∀o,W.drew.cell? ⟨w.heap.size+7,o,none⟩=(#[ae M]:Array QC)[o]?:=(cr (show W.heap[w.heap.size+7]?=some (al #[ae M] 3)from a3.c 7 aj)).1;have q9:∀o,W.drew.cell? ⟨w.heap.size+9,o,none⟩=(#[.pointer (some ⟨w.heap.size+8,0,none⟩)]:Array QC)[o]?:=(cr (show W.heap[w.heap.size+9]?=some (al #[.pointer (some ⟨w.heap.size+8,0,none⟩)] 391)from a3.c 9 aj)).1;have v1:∀o,W.drew.cell? (ag G o)=(#[bg h.ep,bg h.sq,ae h.cA,.int .u32 (h.sm:Nat)]:Array QC)[o]?:=(cr j7).1;obtain⟨c3,u3,z3⟩:=cr (show W.heap[w.heap.size+3]?=some (al #[.int .u64 0,aW] 204)from a3.c 3 aj);obtain⟨c4,u4,z4⟩:=cr (show W.heap[w.heap.size+4]?=some (al #[.bool false] 4)from a3.c 4 aj);obtain⟨f8,o4⟩:=ah (decide (h.ep=ep/\h.sq=sq/\h.cA=M/\h.sm=od F ((k+1)/2)));have o5:=ad o4;clear o4;have d2:Mi w.heap.size G ep sq M (.slice a (k/2) c) h W.drew:=⟨q5,q1,q2,q7,q9,v1⟩;clear q5 q1 q2 q7 q9 v1;refine eE (S:=Mi w.heap.size G ep sq M (.slice a (k/2) c) h) ai ai (λ⟨_,_,h⟩=>h) d2 (λd=>?_);refine RV (i:=0) (v:=?_) rfl ai ai ai (λ_ _ _ h=>h) (Or.inl ⟨ai,?_⟩) d ?_
     rotate_left
     .rintro V ⟨Z,h1,I,h7,h9,a8⟩;go_simp
      try rfl
     try simp only[RG,QI,QF,QD,QL,QM]
     refine RV (i:=1) (v:=?_) rfl ai ai ai (λ_ _ _ h=>h) (Or.inl ⟨ai,?_⟩) d ?_
     rotate_left
     .rintro V ⟨Z,h1,I,h7,h9,a8⟩;go_simp
      try rfl
     try simp only[RG,QI,QF,QG,QD,QL,QM]
     refine RV (i:=2) (v:=?_) rfl ai ai ai (λ_ _ _ h=>h) (Or.inl ⟨ai,?_⟩) d ?_
     rotate_left
     .rintro V ⟨Z,h1,I,h7,h9,a8⟩;go_simp
      try rfl
     try simp only[RG,QI,QF,QG,QD,QL,QM]
     refine RV (i:=3) (v:=?_) rfl ai ai ai (λ_ _ _ h=>h) (Or.inl ⟨ai,?_⟩) d ?_
     rotate_left
     .rintro V ⟨Z,h1,I,h7,h9,a8⟩;go_simp
      try rfl
     try simp only[RG,QI,QF,QG,QD,QL,QM]
     refine RV (i:=4) (v:=?_) rfl ai ai ai (λ_ _ _ h=>h) (Or.inl ⟨ai,?_⟩) d ?_
     rotate_left
     .rintro V ⟨Z,h1,I,h7,h9,a8⟩;go_simp
      try rfl
     try simp only[RG,QI,QF,QG,QD,QL,QM]
     refine RV (i:=5) (v:=?_) rfl ai ai ai (λ_ _ _ h=>h) (Or.inl ⟨ai,?_⟩) d ?_
     rotate_left
     .rintro V ⟨Z,h1,I,h7,h9,a8⟩;go_simp
      try rfl
     try simp only[RG,QI,QF,QG,QD,QL,QM]
     refine RV (i:=6) (v:=?_) rfl ai ai ai (λ_ _ _ h=>h) (Or.inl ⟨ai,?_⟩) d ?_
     rotate_left
     .rintro V ⟨Z,h1,I,h7,h9,a8⟩;go_simp
      try rfl
     try simp only[RG,QI,QF,QG,QD,QL,QM]
     refine RV (i:=7) (v:=?_) rfl ai ai ai (λ_ _ _ h=>h) (Or.inl ⟨ai,?_⟩) d ?_
     rotate_left
     .rintro V ⟨Z,h1,I,h7,h9,a8⟩;go_simp
      try rfl
     try simp only[RG,QI,QF,QG,QD,QL,QM]
     refine RV (i:=8) (v:=?_) rfl ai ai ai (λ_ _ _ h=>h) (Or.inl ⟨ai,?_⟩) d ?_
     rotate_left
     .rintro V ⟨Z,h1,I,h7,h9,a8⟩;go_simp
      try rfl
     try simp only[RG,QI,QF,QG,QD,QL,QM]
     refine wpAnyH_ready (rs:= [9]) ai aJ ?_;refine WX rfl (λK2 L=>?_) XJ;rw[ao ai];have a7:=ad L;clear L;go_simp;refine(s4 W.drew (a3.c 8 aj)).mono ?_;rintro e w2 ⟨rfl,rfl⟩;refine a7.out.out _ _ d2 (λd=>?_)
     try simp only[RG,QI,QF,QG,QD,QL,QM]
     refine RV (i:=10) (v:=?_) rfl ai ai ai (λ_ _ _ h=>h) (Or.inl ⟨ai,?_⟩) d ?_
     rotate_left
     .rintro V ⟨Z,h1,I,h7,h9,a8⟩;go_simp
      try rfl
     try simp only[RG,QI,QF,QG,QD,QL,QM]
     refine RV (i:=11) (v:=.bool f8) rfl ai ai ai (λ_ _ _ h=>h) (Or.inl ⟨ai,?_⟩) d ?_
     .rintro V ⟨Z,h1,I,h7,h9,a8⟩;go_simp;rw[<-o5.out];by_cases e1:h.ep=ep<;>by_cases e2:h.sq=sq<;>by_cases e3:h.cA=M<;>by_cases e4:h.sm=od F ((k+1)/2)<;>simp[e1,e2,e3,e4,Int.natCast_inj]
     try simp only[RG,QI,QF,QG,QD,QL,QM]
     refine RV (i:=12) (v:=?_) rfl ai ai ai (λ_ _ _ h=>h) (Or.inl ⟨ai,?_⟩) d ?_
     rotate_left
     .rintro V ⟨Z,h1,I,h7,h9,a8⟩;go_simp
      try rfl
     try simp only[RG,QI,QF,QG,QD,QL,QM]
     refine wpAnyH_ready (rs:= [13]) ai aJ ?_;refine WX rfl (λK2 L=>?_) XJ;rw[ao ai];have a7:=ad L;clear L;go_simp;refine a7.out.out _ _ ((d2.set (p:=⟨w.heap.size+3,0,none⟩) (.inl rfl) (g9 3 aj) _).set (p:=⟨w.heap.size+3,1,none⟩) (.inl rfl) (g9 3 aj) _) (λd=>?_)
     try simp only[RG,QI,QF,QG,QD,QL,QM]
     refine wpAnyH_ready (rs:= [14]) ai aJ ?_;refine WX rfl (λK2 L=>?_) XJ;rw[ao ai];have a7:=ad L;clear L;go_simp;refine a7.out.out _ _ (((d2.set (p:=⟨w.heap.size+3,0,none⟩) (.inl rfl) (g9 3 aj) _).set (p:=⟨w.heap.size+3,1,none⟩) (.inl rfl) (g9 3 aj) _).set (p:=⟨w.heap.size+4,0,none⟩) (.inr rfl) (g9 4 aj) _) (λd=>?_)
     try simp only[RG,QI,QF,QG,QD,QL,QM]
     refine wpAnyH_done ai ?_ _;refine n1 _ _ ?_;clear d d2 c3 u3 z3 c4 u4 z4 j7;gi_wp2;refine a2 W.drew _ _ _ _ _ _ _ _ f8 (a3.then (cE ak 1)) o3.drew ?_ _ ak;rw[<-o5.out,z.2];exact xJ z.1 (by rw[<-z.2];exact o1.2) l7 b1 J
    .have y:∀P,¬bK F ep sq room P:=AY z.1 (by rw[<-z.2];exact o1.2) l7 y;have r:=ad y;clear y;have k7:¬(n0:Int)=0:=aa;have q5:∀o,W.drew.cell? ⟨w.heap.size+5,o,none⟩=(#[bg sq,.slice a (k/2) c]:Array QC)[o]?:=(cr (show W.heap[w.heap.size+5]?=some (al #[bg sq,.slice a (k/2) c] 204)from a3.c 5 aj)).1;obtain⟨c3,u3,z3⟩:=cr (show W.heap[w.heap.size+3]?=some (al #[.int .u64 0,aW] 204)from a3.c 3 aj);obtain⟨c4,u4,z4⟩:=cr (show W.heap[w.heap.size+4]?=some (al #[.bool false] 4)from a3.c 4 aj);refine eE (S:=λV=>∀o,V.cell? ⟨w.heap.size+5,o,none⟩=(#[bg sq,.slice a (k/2) c]:Array QC)[o]?) ai ai (λ⟨_,_,h⟩=>h) q5 (λd=>?_);refine RV (i:=0) (v:=.agg #[bg sq,.slice a (k/2) c]) rfl ai ai ai (λ_ _ _ h=>h) (Or.inl ⟨ai,?_⟩) d ?_
     .intro V Z;go_simp
     try simp only[RG,QI,QF,QD,QL,QM]
     refine RV (i:=1) (v:= aG n0) rfl ai ai ai (λ_ _ _ h=>h) (Or.inl ⟨ai,?_⟩) d ?_
     .intro V Z;go_simp
     try simp only[RG,QI,QF,QG,QD,QL,QM]
     refine RV (i:=2) (v:=.bool false) rfl ai ai ai (λ_ _ _ h=>h) (Or.inl ⟨ai,?_⟩) d ?_
     .intro V Z;go_simp
     try simp only[RG,QI,QF,QG,QD,QL,QM]
     refine RV (i:=3) (v:=.bool false) rfl ai ai ai (λ_ _ _ h=>h) (Or.inl ⟨ai,?_⟩) d ?_
     .intro V Z;go_simp
     try simp only[RG,QI,QF,QG,QD,QL,QM]
     refine RV (i:=4) (v:=undef) rfl ai ai ai (λ_ _ _ h=>h) (Or.inr ⟨ai,rfl⟩) d ?_
     try simp only[RG,QI,QF,QG,QD,QL,QM]
     refine RV (i:=5) (v:=undef) rfl ai ai ai (λ_ _ _ h=>h) (Or.inr ⟨ai,rfl⟩) d ?_
     try simp only[RG,QI,QF,QG,QD,QL,QM]
     refine RV (i:=6) (v:=undef) rfl ai ai ai (λ_ _ _ h=>h) (Or.inr ⟨ai,rfl⟩) d ?_
     try simp only[RG,QI,QF,QG,QD,QL,QM]
     refine RV (i:=7) (v:=undef) rfl ai ai ai (λ_ _ _ h=>h) (Or.inr ⟨ai,rfl⟩) d ?_
     try simp only[RG,QI,QF,QG,QD,QL,QM]
     refine RV (i:=8) (v:=undef) rfl ai ai ai (λ_ _ _ h=>h) (Or.inr ⟨ai,rfl⟩) d ?_
     try simp only[RG,QI,QF,QG,QD,QL,QM]
     refine RV (i:=9) (v:=undef) rfl ai ai ai (λ_ _ _ h=>h) (Or.inr ⟨ai,rfl⟩) d ?_
     try simp only[RG,QI,QF,QG,QD,QL,QM]
     refine RV (i:=10) (v:=undef) rfl ai ai ai (λ_ _ _ h=>h) (Or.inr ⟨ai,rfl⟩) d ?_
     try simp only[RG,QI,QF,QG,QD,QL,QM]
     refine RV (i:=11) (v:=undef) rfl ai ai ai (λ_ _ _ h=>h) (Or.inr ⟨ai,rfl⟩) d ?_
     try simp only[RG,QI,QF,QG,QD,QL,QM]
     refine RV (i:=12) (v:=.bool false) rfl ai ai ai (λ_ _ _ h=>h) (Or.inl ⟨ai,?_⟩) d ?_
     .intro V Z;go_simp
     try simp only[RG,QI,QF,QG,QD,QL,QM]
     refine wpAnyH_ready (rs:= [13]) ai aJ ?_;refine WX rfl (λK2 L=>?_) XJ;rw[ao ai];have a7:=ad L;clear L;go_simp;refine a7.out.out _ _ (dy (dy q5 (by show w.heap.size+3≠w.heap.size+5;omega) _) (by show w.heap.size+3≠w.heap.size+5;omega) _) (λd=>?_)
     try simp only[RG,QI,QF,QG,QD,QL,QM]
     refine wpAnyH_ready (rs:= [14]) ai aJ ?_;refine WX rfl (λK2 L=>?_) XJ;rw[ao ai];have a7:=ad L;clear L;go_simp;refine a7.out.out _ _ (dy (dy (dy q5 (by show w.heap.size+3≠w.heap.size+5;omega) _) (by show w.heap.size+3≠w.heap.size+5;omega) _) (by show w.heap.size+4≠w.heap.size+5;omega) _) (λd=>?_)
     try simp only[RG,QI,QF,QG,QD,QL,QM]
     refine wpAnyH_done ai ?_ _;refine n1 _ _ ?_;clear d q5 c3 u3 z3 c4 u4 z4 j7;gi_wp2;exact a2 W.drew _ _ _ _ _ _ _ _ false (a3.then (cE ak 1)) o3.drew (.inr ⟨rfl,r⟩) _ ak
   .rcases f5.out with⟨rfl,rfl⟩|⟨v8,h0,h6⟩
    .have i6:=ad (EH _ (F 0) A2 (a5 _ s.out.out) k4);have o6:QX (BR w l3 room ep sq t g5 (.slice a 0 c) hd 0 0 0 [] A2):=s.out;clear s f5 g8;gi_wp2_with fail;refine⟨(λh=>by cases h),?_⟩;refine(WA (w.heap.size+13) (UP.2 i6)).mono ?_;rintro e E ⟨n0,h,rfl,b4,k5⟩;have f:=ad (o6.then b4);have d3:QX (Out (λb=>w.heap.size<=b/\b≠w.heap.size+10/\b≠w.heap.size+11) A E):=g7.then b4;clear b4 c0 u0 z0 c3 u3 z3 c4 u4 z4 c5 u5 z5 c7 u7 z7 o6 i6;obtain⟨c0,u0,z0⟩:=cr (show E.heap[w.heap.size+0]?=some (al #[ae room] 3)from f.c 0 aj);simp only[VJ]at c0 u0 z0;obtain⟨c1,u1,z1⟩:=cr (show E.heap[w.heap.size+1]?=some (al #[bg ep] 87)from f.c 1 aj);obtain⟨c2,u2,z2⟩:=cr (show E.heap[w.heap.size+2]?=some (al #[bg sq] 87)from f.c 2 aj);obtain⟨c3,u3,z3⟩:=cr (show E.heap[w.heap.size+3]?=some (al #[.int .u64 0,aW] 204)from f.c 3 aj);obtain⟨c4,u4,z4⟩:=cr (show E.heap[w.heap.size+4]?=some (al #[.bool false] 4)from f.c 4 aj);obtain⟨c5,u5,z5⟩:=cr (show E.heap[w.heap.size+5]?=some (al #[bg sq,.slice a 0 c] 204)from f.c 5 aj);obtain⟨c6,u6,z6⟩:=cr (show E.heap[w.heap.size+6]?=some (al (rE hd) 390)from f.c 6 aj);obtain⟨c7,u7,z7⟩:=cr (show E.heap[w.heap.size+7]?=some (al #[ae ((0:Nat):Nat)] 3)from f.c 7 aj);obtain⟨c9,u9,z9⟩:=cr (show E.heap[w.heap.size+9]?=some (al #[.pointer (some ⟨w.heap.size+8,0,none⟩)] 391)from f.c 9 aj);have O:QX (∀(f7:Nat) (l1:Obj),(∀P,¬bK F ep sq room P)->∃v b7,(ZD (w.heap.size+13) (some .ret)).run prog (((((E.setCell ⟨w.heap.size+7,0,none⟩ (ae f7)).setCell ⟨w.heap.size+3,0,none⟩ (bg sq)).setCell ⟨w.heap.size+3,1,none⟩ (.slice a 0 c)).setCell ⟨w.heap.size+4,0,none⟩ iG).alloc l1)=.ok v b7/\R (.returned v) b7):=λf7 l1 y=>
      a2 (E.setCell ⟨w.heap.size+7,0,none⟩ (ae f7)) _ _ _ _ _ _ _ _ false (f.cA f7) (d3.setCell (p:=⟨w.heap.size+7,0,none⟩) (λ_=>f6.out 7 aj aj aj) _) (.inr ⟨rfl,y⟩) _ (aI ak _)
     rcases k5 with⟨rfl,b1,J⟩|⟨j8,y⟩
     .have o7:=b1.cA;have C:=ad (λH=>vF (ep:=ep) (sq:=sq) (room:=room) b1 J H);have a9:=aB b1 J;obtain⟨D,T,a4,x,b8,a0,a1,b9⟩:=h;simp only at o7 C;obtain⟨x2,d4⟩:=ah (2*x);obtain⟨x3,j9⟩:=ah (x2+1);have e1:QK.wrap (2*(x:Int))=(x2:Int):=bj;have e2:QK.wrap ((x2:Int)+1)=(x3:Int):=bj;have o8:=aB d4 j9;have e6:D≠ep\/(D=ep/\T≠sq)\/(D=ep/\T=sq/\a4≠0)\/(D=ep/\T=sq/\a4=0/\room<x3)\/(D=ep/\T=sq/\a4=0/\x3<=room):=aa;clear b1 J o7 d4 j9;rcases e6 with H|⟨g1,H⟩|⟨g1,g2,H⟩|⟨g1,g2,g3,H⟩|⟨g1,g2,g3,H⟩
      .have r:=ad (C λh=>H h.1);have j3:¬(D:Int)=(ep:Int):=aa;clear H C;gi_wp2;exact O _ _ r
      .have r:=ad (C λh=>H h.2.1);have j3:¬(T:Int)=(sq:Int):=aa;clear H C a9;subst D;gi_wp2;exact O _ _ r
      .have r:=ad (C λh=>H h.2.2.1);have j3:¬(a4:Int)=0:=aa;clear H C a9;subst D T;gi_wp2;exact O _ _ r
      .have r:=ad (C λh=>by have:=o8.out;omega);have j3:(room:Int)<(x3:Int):=aa;clear H C a9;subst D T a4;gi_wp2;exact O _ _ r
      .clear C;have j3:¬(room:Int)<(x3:Int):=aa;have s5:=ad H;clear H;subst D T a4;have c8:=((f.cA x).Pn ⟨ep,sq,0,x,b8,a0,a1,b9⟩).then (aI ak (al #[bg ep,bg sq,ae 0,ae x,ae b8,ae a0,.bool a1,.int .u32 (b9:Nat)] 390));have h8:=ad (rT _ (w.heap.size+8) 0 0 128 _ (F 0) (c8.c 8 aj) aj (a5 _ c8.out).Bz k4 aj aj);have i0:Out (λb=>w.heap.size<=b/\b≠w.heap.size+10/\b≠w.heap.size+11) A _:=((d3.setCell (p:=⟨w.heap.size+7,0,none⟩) (λ_=>f6.out 7 aj aj aj) (ae x)).Hi (λ_=>f6.out 6 aj aj aj) (bg ep) (bg sq) (ae 0) (ae x) (ae b8) (ae a0) (.bool a1) (.int .u32 (b9:Nat))).alloc (al #[bg ep,bg sq,ae 0,ae x,ae b8,ae a0,.bool a1,.int .u32 (b9:Nat)] 390);have H4:=aB c8 i0;clear c8 i0;gi_wp2_with fail;refine⟨(λh=>by cases h),?_⟩;refine(WA (w.heap.size+13) (UP.2 h8)).mono ?_;rintro e w4 ⟨rfl,i1,e8⟩;have H5:=aB (H4.1.HP e8 i1) (H4.2.trans e8 (λb _ e=>by subst e;exact f6 8 aj aj aj));clear i1 e8 H4 h8 c0 u0 z0 c1 u1 z1 c2 u2 z2 c3 u3 z3 c4 u4 z4 c5 u5 z5 c6 u6 z6 c7 u7 z7 c9 u9 z9;gi_wp2;exact d1 w4 ⟨x,λ_=>0,λ_=>0,λ_ _=>0⟩ _ _ _ _ H5.1 l6 (km.start a9.1 a9.2 rfl rfl rfl (by have h1:=o8.out;have I:=s5.out;show 2*x+1<=room;omega)) rfl H5.2
     .have r:=ad (xE (room:=room) (ep:=ep) (sq:=sq) y);have k7:¬(n0:Int)=0:=aa;clear y j8;gi_wp2;exact O _ _ r
    .have o9:=h0.cA;have p0:=h0.le;have m0:k<2*Q.N:=aa;obtain⟨x2,d4⟩:=ah (2*M);have e1:QK.wrap (2*(M:Int))=(x2:Int):=bj;have j2:(0:Int)<(M:Int):=aa;have j4:¬(k:Int)=(x2:Int):=aa;have z:=aT h0 h6 m0 d4;obtain⟨m,n2⟩:=ah (k/2);rw[n2]at s c5;by_cases k0:k%2=0
     .rw [show(k+1)/2=m by omega]at s d1;rw[show(k+1+1)/2=m+1 by omega]at d1;have e7:od F (m+1)=dE (od F m) 128 (F k):=by show dE (od F m) 128 (F (2*m))=_;rw[show 2*m=k by omega]
      rw[e7]at d1;have e3:(k:Int).tmod 2=0:=(show(k:Int).tmod ((2:Nat):Int)=((k%2:Nat):Int)from SI _ _).trans (by rw[k0];rfl);have e4:(k:Int).tdiv 2=(m:Int):=(show(k:Int).tdiv ((2:Nat):Int)=((k/2:Nat):Int)from Int.ofNat_tdiv _ _).trans (by rw[n2]);have j5:¬(k:Int)=0:=aa;have e5:QK.wrap (m:Int)=(m:Int):=bj;have i6:=ad (EH _ (F k) A2 (a5 _ s.out.out) k4);have s6:=ad (show od F m<4294967296 from xI λi r1=>l7.out i aa);have Y:=aT n2 k0 n7 f9;clear h0 h6 g8 f5 o9 p0 n2 m0 d4 k0 e7;gi_wp2_with fail;refine⟨(λh=>by cases h),?_⟩;refine(WA (w.heap.size+13) (UP.2 i6)).mono ?_;rintro e E ⟨n0,h,rfl,b4,k5⟩;have f:=ad (s.then b4);have d3:QX (Out (λb=>w.heap.size<=b/\b≠w.heap.size+10/\b≠w.heap.size+11) A E):=g7.then b4;clear b4 c0 u0 z0 c3 u3 z3 c4 u4 z4 c5 u5 z5 c7 u7 z7 s i6;obtain⟨c0,u0,z0⟩:=cr (show E.heap[w.heap.size+0]?=some (al #[ae room] 3)from f.c 0 aj);simp only[VJ]at c0 u0 z0;obtain⟨c1,u1,z1⟩:=cr (show E.heap[w.heap.size+1]?=some (al #[bg ep] 87)from f.c 1 aj);obtain⟨c2,u2,z2⟩:=cr (show E.heap[w.heap.size+2]?=some (al #[bg sq] 87)from f.c 2 aj);obtain⟨c3,u3,z3⟩:=cr (show E.heap[w.heap.size+3]?=some (al #[.int .u64 0,aW] 204)from f.c 3 aj);obtain⟨c4,u4,z4⟩:=cr (show E.heap[w.heap.size+4]?=some (al #[.bool false] 4)from f.c 4 aj);obtain⟨c5,u5,z5⟩:=cr (show E.heap[w.heap.size+5]?=some (al #[bg sq,.slice a m c] 204)from f.c 5 aj);obtain⟨c6,u6,z6⟩:=cr (show E.heap[w.heap.size+6]?=some (al (rE hd) 390)from f.c 6 aj);obtain⟨c7,u7,z7⟩:=cr (show E.heap[w.heap.size+7]?=some (al #[ae M] 3)from f.c 7 aj);obtain⟨c9,u9,z9⟩:=cr (show E.heap[w.heap.size+9]?=some (al #[.pointer (some ⟨w.heap.size+8,0,none⟩)] 391)from f.c 9 aj);have O:QX (∀(l1:Obj),(∀P,¬bK F ep sq room P)->∃v b7,(ZD (w.heap.size+13) (some .ret)).run prog ((((E.setCell ⟨w.heap.size+3,0,none⟩ (bg sq)).setCell ⟨w.heap.size+3,1,none⟩ (.slice a m c)).setCell ⟨w.heap.size+4,0,none⟩ iG).alloc l1)=.ok v b7/\R (.returned v) b7):=λl1 y=>
       a2 E _ _ _ _ _ _ _ _ false f d3 (.inr ⟨rfl,y⟩) _ (aI ak _)
      rcases k5 with⟨rfl,b1,J⟩|⟨j8,y⟩
      .have C:=ad (λH=>z.1.xF Y.2.1 z.2.2.1 b1 J H);have a9:=aB b1 J;obtain⟨D,T,a4,x,b8,a0,a1,b9⟩:=h;simp only at C;have e6:D≠ep\/(D=ep/\T≠sq)\/(D=ep/\T=sq/\a4≠m)\/(D=ep/\T=sq/\a4=m/\x≠M)\/(D=ep/\T=sq/\a4=m/\x=M):=aa;clear b1 J;rcases e6 with H|⟨g1,H⟩|⟨g1,g2,H⟩|⟨g1,g2,g3,H⟩|⟨g1,g2,g3,g4⟩
       .have r:=ad (C λh=>H h.1);have j3:¬(D:Int)=(ep:Int):=aa;clear H C;gi_wp2;exact O _ r
       .have r:=ad (C λh=>H h.2.1);have j3:¬(T:Int)=(sq:Int):=aa;clear H C a9;subst D;gi_wp2;exact O _ r
       .have r:=ad (C λh=>H (h.2.2.1.trans Y.1));have j3:¬(a4:Int)=(m:Int):=aa;clear H C a9;subst D T;gi_wp2;exact O _ r
       .have r:=ad (C λh=>H (h.2.2.2.trans z.2.1.symm));have j3:¬(x:Int)=(M:Int):=aa;clear H C a9;subst D T a4;gi_wp2;exact O _ r
       .clear C;obtain⟨x3,j9⟩:=ah (x2+1);have s7:=z.1.rm;have h6:=z.2.1;have d4:=z.2.2.2;have e2:QK.wrap ((x2:Int)+1)=(x3:Int):=bj;have j3:¬(room:Int)<(x3:Int):=aa;clear s7 h6 d4 j9;subst D T a4 x;have c8:=(f.Pn ⟨ep,sq,m,M,b8,a0,a1,b9⟩).then (aI ak (al #[bg ep,bg sq,ae m,ae M,ae b8,ae a0,.bool a1,.int .u32 (b9:Nat)] 390));have h8:=ad (rT _ (w.heap.size+8) (od F m) (128*m) 128 _ (F k) (c8.c 8 aj) s6 (a5 _ c8.out).Bz k4 aj (by have h1:=Y.1;have I:=Y.2.2.1;have h3:=Y.2.2.2;omega));have i0:Out (λb=>w.heap.size<=b/\b≠w.heap.size+10/\b≠w.heap.size+11) A _:=(d3.Hi (λ_=>f6.out 6 aj aj aj) (bg ep) (bg sq) (ae m) (ae M) (ae b8) (ae a0) (.bool a1) (.int .u32 (b9:Nat))).alloc (al #[bg ep,bg sq,ae m,ae M,ae b8,ae a0,.bool a1,.int .u32 (b9:Nat)] 390);have H4:=aB c8 i0;clear c8 i0;gi_wp2_with fail;refine⟨(λh=>by cases h),?_⟩;refine(WA (w.heap.size+13) (UP.2 h8)).mono ?_;rintro e w4 ⟨rfl,i1,e8⟩;have H5:=aB (H4.1.HP e8 i1) (H4.2.trans e8 (λb _ e=>by subst e;exact f6 8 aj aj aj));clear i1 e8 H4 h8 c0 u0 z0 c1 u1 z1 c2 u2 z2 c3 u3 z3 c4 u4 z4 c5 u5 z5 c6 u6 z6 c7 u7 z7 c9 u9 z9;gi_wp2;exact d1 w4 Q _ _ _ _ H5.1 l6 (z.1.head Y.2.1 z.2.2.1 a9.1 a9.2 rfl rfl Y.1.symm z.2.1) z.2.1 H5.2
      .have r:=ad (z.1.AV Y.2.1 z.2.2.1 y);have k7:¬(n0:Int)=0:=aa;clear y j8;gi_wp2;exact O _ r
     .rw [show(k+1)/2=m+1 by omega]at s d1;rw[show(k+1+1)/2=m+1 by omega]at d1;have m1:k%2=1:=aa;have e3:(k:Int).tmod 2=1:=(show(k:Int).tmod ((2:Nat):Int)=((k%2:Nat):Int)from SI _ _).trans (by rw[m1];rfl);have i6:=ad (EI hd.nt _ (F k) A2 (a5 _ s.out.out) k4);have Y:=aT n2 m1 n7 f9;obtain⟨c6,u6,z6⟩:=cr (show A2.heap[w.heap.size+6]?=some (al (rE hd) 390)from s.c 6 aj);clear h0 h6 g8 f5 o9 p0 n2 m0 d4 k0 m1;gi_wp2_with fail;refine⟨(λh=>by cases h),?_⟩;refine(WA (w.heap.size+13) (UP.2 i6)).mono ?_;rintro e E ⟨b4,k5⟩;have f:=ad (s.then b4);have d3:QX (Out (λb=>w.heap.size<=b/\b≠w.heap.size+10/\b≠w.heap.size+11) A E):=g7.then b4;clear b4 c0 u0 z0 c3 u3 z3 c4 u4 z4 c5 u5 z5 c7 u7 z7 c6 u6 z6 s i6;have f2:QX (∀W,BR w l3 room ep sq t g5 (.slice a m c) hd M (od F (m+1)) (128*(m+1)) (bM Q m) W->Out (λb=>w.heap.size<=b/\b≠w.heap.size+10/\b≠w.heap.size+11) A W->(∀P,¬bK F ep sq room P)->∃v b7,(ZD (w.heap.size+13) (some .ret)).run prog (((W.setCell ⟨w.heap.size+3,0,none⟩ (bg sq)).setCell ⟨w.heap.size+3,1,none⟩ (.slice a m c)).setCell ⟨w.heap.size+4,0,none⟩ iG)=.ok v b7/\R (.returned v) b7):=λW h1 I y=>
       a2 W _ _ _ _ _ _ _ _ false h1 I (.inr ⟨rfl,y⟩) _ ak
      rcases k5 with⟨p1,rfl⟩|⟨p1,g,r6,rfl,i5⟩
      .have r:=ad (z.1.EJ Y.2.1 p1);clear p1;gi_wp2_with fail;rename_i K k6;have n1:=ad k6;clear k6;refine eE (S:=λ_=>True) ai ai (λ⟨_,_,h⟩=>h) trivial (λd=>?_);refine RV (i:=0) (v:= aG 80) rfl ai ai ai (λ_ _ _ h=>h) (Or.inl ⟨ai,?_⟩) d ?_
       .intro V Z;go_simp
       try simp only[RG,QI,QF,QD,QL,QM]
       refine RV (i:=1) (v:=.bool true) rfl ai ai ai (λ_ _ _ h=>h) (Or.inl ⟨ai,?_⟩) d ?_
       .intro V Z;go_simp
       try simp only[RG,QI,QF,QG,QD,QL,QM]
       refine RV (i:=2) (v:=.bool true) rfl ai ai ai (λ_ _ _ h=>h) (Or.inl ⟨ai,?_⟩) d ?_
       .intro V Z;go_simp
       try simp only[RG,QI,QF,QG,QD,QL,QM]
       refine RV (i:=3) (v:=undef) rfl ai ai ai (λ_ _ _ h=>h) (Or.inr ⟨ai,rfl⟩) d ?_
       try simp only[RG,QI,QF,QG,QD,QL,QM]
       refine RV (i:=4) (v:=undef) rfl ai ai ai (λ_ _ _ h=>h) (Or.inr ⟨ai,rfl⟩) d ?_
       try simp only[RG,QI,QF,QG,QD,QL,QM]
       refine RV (i:=5) (v:=undef) rfl ai ai ai (λ_ _ _ h=>h) (Or.inr ⟨ai,rfl⟩) d ?_
       try simp only[RG,QI,QF,QG,QD,QL,QM]
       refine RV (i:=6) (v:=undef) rfl ai ai ai (λ_ _ _ h=>h) (Or.inr ⟨ai,rfl⟩) d ?_
       try simp only[RG,QI,QF,QG,QD,QL,QM]
       refine RV (i:=7) (v:=undef) rfl ai ai ai (λ_ _ _ h=>h) (Or.inr ⟨ai,rfl⟩) d ?_
       try simp only[RG,QI,QF,QG,QD,QL,QM]
       refine RV (i:=8) (v:=.bool true) rfl ai ai ai (λ_ _ _ h=>h) (Or.inl ⟨ai,?_⟩) d ?_
       .intro V Z;go_simp
       try simp only[RG,QI,QF,QG,QD,QL,QM]
       refine wpAnyH_done ai ?_ _;refine n1 _ _ ?_;have U:=ad (f.then (cE ak 1));have i2:=ad d3.drew;obtain⟨W2,m2⟩:=ah E.drew;rw[show E.drewN 1=W2 from m2]at U;rw[m2]at i2|-;clear d m2;obtain⟨c3,u3,z3⟩:=cr (show W2.heap[w.heap.size+3]?=some (al #[.int .u64 0,aW] 204)from U.c 3 aj);obtain⟨c4,u4,z4⟩:=cr (show W2.heap[w.heap.size+4]?=some (al #[.bool false] 4)from U.c 4 aj);obtain⟨c5,u5,z5⟩:=cr (show W2.heap[w.heap.size+5]?=some (al #[bg sq,.slice a m c] 204)from U.c 5 aj);obtain⟨c6,u6,z6⟩:=cr (show W2.heap[w.heap.size+6]?=some (al (rE hd) 390)from U.c 6 aj);gi_wp2;exact f2 _ U i2 r
      .have s0:=ad p1;have v9:=ad i5;clear p1 i5;gi_wp2_with fail;rename_i K k6;have n1:=ad k6;clear k6;obtain⟨v2,m3⟩:=ah (dE 0 128 (F k));have m4:=ad (jE 128 (.slice r2 r3 r4) (F k) E.drew ((a5 _ (f.out.out.trans ((cE ak 1:au E E.drew).mono (by have:=f.size;omega)))).Bz) k4 aj);rw[m3]at m4;obtain⟨s8,p2⟩:=ah (decide (v2≠hd.sm));have i3:=aB p2 m3;clear p2 m3;have q6:∀o,E.drew.cell? ⟨w.heap.size+6,o,none⟩=(rE hd)[o]?:=(cr (show E.heap[w.heap.size+6]?=some (al (rE hd) 390)from f.c 6 aj)).1;refine eE (S:=λV=>∀o,V.cell? ⟨w.heap.size+6,o,none⟩=(rE hd)[o]?) ai ai (λ⟨_,_,h⟩=>h) q6 (λd=>?_);refine RV (i:=0) (v:= aG 0) rfl ai ai ai (λ_ _ _ h=>h) (Or.inl ⟨ai,?_⟩) d ?_
       .intro V Z;go_simp
       try simp only[RG,QI,QF,QD,QL,QM]
       refine RV (i:=1) (v:=.bool false) rfl ai ai ai (λ_ _ _ h=>h) (Or.inl ⟨ai,?_⟩) d ?_
       .intro V Z;go_simp
       try simp only[RG,QI,QF,QG,QD,QL,QM]
       refine RV (i:=2) (v:=.bool false) rfl ai ai ai (λ_ _ _ h=>h) (Or.inl ⟨ai,?_⟩) d ?_
       .intro V Z;go_simp
       try simp only[RG,QI,QF,QG,QD,QL,QM]
       refine RV (i:=3) (v:=.slice r2 r3 r4) rfl ai ai ai (λ_ _ _ h=>h) (Or.inl ⟨ai,?_⟩) d ?_
       .intro V Z;go_simp
       try simp only[RG,QI,QF,QG,QD,QL,QM]
       refine RV (i:=5) (v:=.pointer (some ⟨w.heap.size+6,7,none⟩)) rfl ai ai ai (λ_ _ _ h=>h) (Or.inl ⟨ai,?_⟩) d ?_
       .intro V Z;go_simp
       try simp only[RG,QI,QF,QG,QD,QL,QM]
       refine RV (i:=6) (v:=.int .u32 (hd.sm:Nat)) rfl ai ai ai (λ_ _ _ h=>h) (Or.inl ⟨ai,?_⟩) d ?_
       .intro V Z;go_simp
       try simp only[RG,QI,QF,QG,QD,QL,QM]
       refine wpAnyH_ready (rs:= [4]) ai aJ ?_;refine WX rfl (λK2 L=>?_) XJ;rw[ao ai];have a7:=ad L;clear L q6;go_simp;refine m4.mono ?_;rintro e W2 ⟨rfl,p3⟩;have m5:=ad ((cE ak 1:au E E.drew).trans p3);have U:=ad (f.then m5);have i2:=ad (d3.then m5);have q6:∀o,W2.cell? ⟨w.heap.size+6,o,none⟩=(rE hd)[o]?:=(cr (show W2.heap[w.heap.size+6]?=some (al (rE hd) 390)from U.c 6 aj)).1;refine a7.out.out _ _ q6 (λd=>?_);clear p3 m4 a7
       try simp only[RG,QI,QF,QG,QD,QL,QM]
       refine RV (i:=7) (v:=.bool s8) rfl ai ai ai (λ_ _ _ h=>h) (Or.inl ⟨ai,?_⟩) d ?_
       .intro V Z;go_simp;rw[<-i3.1];by_cases e:v2=hd.sm<;>simp[e,Int.natCast_inj]
       try simp only[RG,QI,QF,QG,QD,QL,QM]
       refine RV (i:=8) (v:=.bool s8) rfl ai ai ai (λ_ _ _ h=>h) (Or.inl ⟨ai,?_⟩) d ?_
       .intro V Z;go_simp
       try simp only[RG,QI,QF,QG,QD,QL,QM]
       refine wpAnyH_done ai ?_ _;refine n1 _ _ ?_;clear d q6;obtain⟨c3,u3,z3⟩:=cr (show W2.heap[w.heap.size+3]?=some (al #[.int .u64 0,aW] 204)from U.c 3 aj);obtain⟨c4,u4,z4⟩:=cr (show W2.heap[w.heap.size+4]?=some (al #[.bool false] 4)from U.c 4 aj);obtain⟨c5,u5,z5⟩:=cr (show W2.heap[w.heap.size+5]?=some (al #[bg sq,.slice a m c] 204)from U.c 5 aj);obtain⟨c6,u6,z6⟩:=cr (show W2.heap[w.heap.size+6]?=some (al (rE hd) 390)from U.c 6 aj);cases s8
       case true=>have r:=ad (z.1.EK Y.2.1 (by rw[i3.2];exact of_decide_eq_true i3.1));gi_wp2;exact f2 _ U i2 r
       case false=>
        have k8:=of_decide_eq_false i3.1;have p4:QX (dE 0 128 (F k)=hd.sm):=i3.2.trans (Decidable.not_not.1 k8);clear k8;obtain⟨w0,m6,b0,k9⟩:=U.ls;rw[cT]at m6 b0;have b2:=aM m6 b0 k9;clear m6 b0 k9;obtain⟨w3,s9,t0,t1,t2⟩:=SD zP;gi_wp2_with(first|(gi_at_builtin;refine wpListIn_append_own _ rfl _ _ 162 rfl (w.heap.size+14) 206 w3 (.agg #[ae 0,ae 0,aW]) 3 40 XY s9 t0 t1 t2 rfl aj (.slice a m c) m _ rfl (aP (aI ak _) b2.2.1) (ag W2.heap.size 0) 1 1 [ae hd.me,ae hd.row,a' g 128 r6] rfl rfl (RY (cs:= #[ae hd.me,ae hd.row,a' g 128 r6]) (t:=206) (fr:=(0,0)) (QB W2 _)) (by intro u m7;simp at m7;rcases m7 with rfl|rfl|rfl<;>rfl) (by have:=Y.1;unfold UI;omega) (by have:=Y.1;omega) (by have:=U.size;simp;omega) ?_));intro w7 b7 b0 p5 _;obtain⟨d6,d7,rfl,-⟩:=av b0;have n3:Out (λb=>(RU a m c).ownBlock=some b) W2 b7:=(Out.af (aI ak _)).grown p5 λb b4 _=>b4;have e9:∀b o,(RU a m c).ownBlock=some b->a_ W2 b o->ty o≠5:=λb o b4 w5=>by have e:=xK b2.2.1 b4 w5;rw[e];decide
        have p6:bM (Q.put m hd (F k)) (m+1)=bM Q m++ [(hd.me,hd.row,tu hd.nt (F k))]:=AX Q m hd (F k);have i4:dT b7 (a' g 128 r6) (tu hd.nt (F k)):=((eZ v9).below m5).out n3 e9;have p7:BR w l3 room ep sq t g5 (.slice d6 (m+1) d7) hd M (od F (m+1)) (128*(m+1)) (bM (Q.put m hd (F k)) (m+1)) (b7.setCell ⟨w.heap.size+5,1,none⟩ (.slice d6 (m+1) d7)):=by
         rw[p6];refine U.push n3 (us':=w0++ [a' g 128 r6]) (by simp[b2.out.1,cT]) ?_ λi p u r7 m7=>?_
         .rw [oB (by rw[b2.1,cT]),QU,cT];exact b0
         .by_cases r1:i<m
          .rw [RD (by rw[cT];exact r1)]at r7;rw[RD (by rw[b2.1];exact r1)]at m7;exact(b2.2.2 i p u r7 m7).out n3 e9
          .rw [QZ (by rw[cT];omega),cT]at r7;rw[QZ (by rw[b2.1];omega),b2.1]at m7;obtain⟨e1,e2⟩:=QS.1 r7;obtain⟨e3,e4⟩:=QS.1 m7;have e5:i-m=0:=by simp at e1;omega
           simp only[e5,QF]at e2 e4;subst e2;subst e4;exact i4
        have H6:=ad p7;have t3:QX (Out (λb=>w.heap.size<=b/\b≠w.heap.size+10/\b≠w.heap.size+11) A (b7.setCell ⟨w.heap.size+5,1,none⟩ (.slice d6 (m+1) d7))):=
         (i2.trans n3 λb _ b4=>by have:=(bo b2.2.1 b4).2;exact⟨aa,aa,aa⟩).setCell (p:=⟨w.heap.size+5,1,none⟩) (λ_=>f6.out 5 aj aj aj) _
        have t4:QX (km F ep sq room (k+1) (Q.put m hd (F k)) hd):=by have:=z.1.data Y.2.1 k4 s0 p4;rw[Y.1]at this;exact this
        have p8:=n3.heap (show W2.heap[w.heap.size+5]?=some (al #[bg sq,.slice a m c] 204)from U.c 5 aj) λe=>by have:=(bo b2.2.1 e).2;omega
        clear c3 u3 z3 c4 u4 z4 c5 u5 z5 c6 u6 z6 b0 p5 n3 e9 p6 i4 p7;obtain⟨c5,u5,z5⟩:=cr p8;clear p8;gi_wp2;exact d1 _ _ _ _ _ _ H6 l6 t4 z.2.1 t3.out
 .rintro e W2 ⟨⟨v,rfl⟩,_,I⟩;rcases I with⟨h1,Q,hd,M,a,c,I,h3⟩|I
  .have y:∀P,¬bK F ep sq room P:=by
    have t5:N=room:=aa;rcases h3 with⟨rfl,_⟩|⟨_,h3,_⟩
    .omega
    .exact h3.rG t5
   obtain⟨lo',W3,d5,h4⟩:=I.endLoop (by rw[a6];simp) (jump:=none) (by rw[a6]);refine⟨none,W3,d5,?_⟩;refine n5 _ _ ?_;have Z:=h4.done (b:=false) (F:=F) (.inr ⟨rfl,y⟩);have H5:=ad Z;have w6:∀o,W3.cell? ⟨w.heap.size+5,o,none⟩=(#[bg sq,.slice a (N/2) c]:Array QC)[o]?:=(cr (h4.c 5 aj)).1;obtain⟨q0,q1,q2⟩:=cr (h4.c 5 aj);obtain⟨q3,q4,q5⟩:=cr (show W3.heap[w.heap.size+3]?=some (al #[.int .u64 0,aW] 204)from h4.c 3 aj);obtain⟨q6,q7,q8⟩:=cr (show W3.heap[w.heap.size+4]?=some (al #[.bool false] 4)from h4.c 4 aj);obtain⟨d6,k3,d7,f8,g0,g1,g2,g3⟩:=Z.answer;have G:=aT g0 g1 g2 g3;clear d5 I h3 h4 Z y g0 g1 g2 g3 q0 k2 j0 f1 f0 i9 b3 i5 i8 f3 d8 d0 a6 b6 m8 l0;gi_wp2;refine⟨aJ,.inl ⟨_,_,rfl,run_takeDeferred H5.D,?_⟩⟩;refine⟨.tuple #[.agg #[bg sq,.slice d6 k3 d7],.bool f8],?_,G.2.2.2⟩;simp[RM,Tryz.f274,go_sem,G.out.1,G.out.2.1,G.out.2.2.1]
  .obtain ⟨lo',W3,d5,h4⟩:=I.endLoop (by rw[a6];simp) (jump:=some .ret) (by rw[a6]);refine⟨some .ret,W3,d5,?_⟩;have H5:=ad h4;obtain⟨d6,k3,d7,f8,g0,g1,g2,g3⟩:=h4.answer;have G:=aT g0 g1 g2 g3;clear d5 I h4 g0 g1 g2 g3 k2 j0 f1 f0 i9 b3 i5 i8 f3 d8 d0 a6 b6 m8 l0;gi_wp2;refine⟨aJ,.inl ⟨_,_,rfl,run_takeDeferred H5.D,?_⟩⟩;refine⟨.tuple #[.agg #[bg sq,.slice d6 k3 d7],.bool f8],?_,G.2.2.2⟩;simp[RM,Tryz.f274,go_sem,G.out.1,G.out.2.1,G.out.2.2.1]
end
theorem cR.sec(h:cR w v 128 f)(d:wB v):dT w v f:=by obtain⟨a,c,rfl,h⟩:=h;obtain⟨b,o,e,g,rfl,i,j⟩:=h.resolve_left aj;exact⟨b,o,c,e,g,rfl,d,i,j⟩
def Qb(L c:Nat)(a:Nat × Nat->QC)(d:Nat × Nat->Nat->Nat)(v:QC)(e:List (Nat × Nat))(W:M)(x y:Int)(z:QC)(f:Bool)(b:M):Prop:=
 Out (LZ L c v) W b/\((f=false/\e= [])\/(f=true/\∃(p:Nat × Nat) (g:List (Nat × Nat)) (h:QC),x=(p.1:Nat)/\y=(p.2:Nat)/\z=a p/\(g++ [p]).Perm e/\be b L c h g a d/\h.ownBlock=v.ownBlock/\dT b (a p) (d p)))
theorem EN(L d:Nat)(v:QC)(a:List (Nat × Nat))(f:Nat × Nat->QC)(g:Nat × Nat->Nat->Nat)(W:M)(h:be W L d v a f g)(E:a.length<=50000):
  aE 200 #[H L] W λe i=>∃(x y:Int) (k:Option SZ) (l m:Nat) (n:Bool),aK e (.tuple #[.agg #[Y x,Y y,.slice k l m],.bool n])/\Qb L d f g v a W x y (.slice k l m) n i:=by
 by_cases q:a= []
 .subst q;refine(wZ L d f g v W h).mono ?_;rintro e i ⟨rfl,w⟩;exact⟨0,0,none,0,0,false,rfl,w.mono λ_ _ e=>.inl e,.inl ⟨rfl,rfl⟩⟩
 .obtain ⟨z,j⟩:=yD h;refine(oZ L d v a f g z W h j J (by have:a.length≠0:=λe=>q (WM.1 e);omega)).mono ?_;rintro e i ⟨p,rfl,A,B,r,C,s,D⟩;have t:p∈a:=r.mem_iff.1 aJ;have u:=(h.eG s (h.iQ p t).1).sec (h.iQ p t).2;obtain⟨b,o,c,e⟩:=u.form;exact⟨_,_,some (R b o),128,c,true,by rw[e],s,.inr ⟨rfl,p,B,A,rfl,rfl,e.symm,r,C,D,u⟩⟩
structure Mj(L hm:Nat)(lk:List (Nat × Nat))(dv:Nat × Nat->QC)(da:Nat × Nat->Nat->Nat)(v0:QC)(w:M)(bb:Bool)(gk T:Nat)(pv:QC)(wr:M):Prop where
 out:Out (LZ L hm v0) w wr
 new:w.heap.size<=T
 ne:pv.ownBlock≠some T
 HU:∃l1:List (Nat × Nat),fg w.heap.size wr pv (l1.map (dZ da))/\((bb=false/\l1.Perm lk/\∃cs,wr.heap[T]? =some (N cs 206))\/(bb=true/\∃(p:Nat × Nat) (l2:List (Nat × Nat)) (v:QC),wr.heap[T]? =some (N #[Y p.1,Y p.2,dv p] 206)/\dT wr (dv p) (da p)/\gk=l2.length+1/\(l2++p::l1).Perm lk/\be wr L hm v l2 dv da/\v.ownBlock=v0.ownBlock))
theorem be.Qc{l:List (Nat × Nat)}{b:Nat × Nat->QC}{d:Nat × Nat->Nat->Nat}(h:be w n m v l b d):∀k o,LZ n m v k->w.heap[k]?=some o->ty o≠5:=λk o f a=>by
 rcases f with e|e|e
 .obtain ⟨j,g⟩:=h.row;rw[e,g]at a;cases a;exactλh=>absurd h (by show(286:Nat)≠5;decide)
 .obtain ⟨p,c,i,-⟩:=h.map;rw[e,i]at a;cases a;exact hO _ _
 .rw [xK h.lC.own e a];decide
theorem be.Mk{l:List (Nat × Nat)}{a:Nat × Nat->QC}{b:Nat × Nat->Nat->Nat}(h:be w n m v l a b):∀k,LZ n m v k->k<w.heap.size:=λk d=>by
 rcases d with e|e|e
 .obtain ⟨i,f⟩:=h.row;rw[e];exact Z_ f
 .obtain ⟨j,c,g,-⟩:=h.map;rw[e];exact Z_ g
 .exact (bo h.lC.own e).1
theorem Hj(L B:Nat)(v:QC)(V:List (Nat × Nat))(Z:Nat × Nat->QC)(j:Nat × Nat->Nat->Nat)(w:QA)(h:be w L B v V Z j)(g7:V.length<=50000):
  aE 133 #[ar L] w λe g8=>∃pv f,aK e pv/\List.Perm f V/\fg w.heap.size g8 pv (f.map (dZ j))/\Out (LZ L B v) w g8:=by
 have c3:=ad (λW E F (h6:be W L B E F Z j) (H:F.length<=50000)=>EN L B E F Z j W h6 H);have c4:=aB h g7;clear h g7;go_enter func133,ntmps133;go_wp2_with fail;refine(c3 _ v V c4.1 c4.2).mono ?_;rintro e w1 ⟨x,y,g9,h4,h5,h7,rfl,b9⟩;have h8:=ad b9;clear b9;go_wp2_with fail;have c5:∀b,LZ L B v b->b<w.heap.size:=c4.1.Mk;have e8:QX (Mj L B V Z j v w h7 V.length w1.heap.size aW (w1.alloc (al #[ae x,ae y,.slice g9 h4 h5] 206))):=by
  have b9:=h8.out;have a4:au w1 (w1.alloc (al #[ae x,ae y,.slice g9 h4 h5] 206)):=aI ak _;refine⟨b9.1.then a4,b9.1.size,(λe=>by cases e),[],fg.nil _ _,?_⟩;rcases b9.2 with⟨rfl,h0⟩|⟨rfl,p,l3,E,rfl,rfl,e9,g1,g2,g4,g5⟩
  .exact .inl ⟨rfl,by rw[h0],_,QB _ _⟩
  .refine .inr ⟨rfl,p,l3,E,?_,g5.below a4,?_,g1,g2.below a4,g4⟩
   .rw [<-e9];exact QB _ _
   .have:=g1.length_eq;simp at this;omega
 have K:=ad c5;clear c5
 go_loopg [3,4,5] V.length (λgk s3 s4 s5 wr=>∃(T:Nat) (b1:Bool),s4= ar T/\s5=.bool b1/\gk<=50000/\QX (Mj L B V Z j v w b1 gk T s3 wr))
 case atStart=>exact⟨_,_,rfl,rfl,c4.2,e8⟩
 case round=>
  obtain⟨T,b1,rfl,rfl,h9,c6⟩:=hrel;have g:=c6.out.out;have a0:=c6.new;obtain⟨f,M,d⟩:=c6.HU;cases b1
  case false=>
   have O:List.Perm f V:=by
    rcases d with⟨_,h,_⟩|⟨e,_⟩
    .exact h
    .cases e
   have f0:=aM O M g;obtain⟨i3,i4,e,-⟩:=M.yj;subst e;clear O M g d c6 a0;go_wp2;go_ret;exact⟨_,f,rfl,f0.1,f0.2.1,f0.2.2⟩
  case true=>
   obtain⟨p,F,E,c7,P,c8,l,q,r⟩:∃(p:Nat × Nat) (F:List (Nat × Nat)) (E:QC),wr.heap[T]?=some (al #[ae p.1,ae p.2,Z p] 206)/\dT wr (Z p) (j p)/\gk=F.length+1/\(F++p::f).Perm V/\be wr L B E F Z j/\E.ownBlock=v.ownBlock:=by
    rcases d with⟨e,_⟩|⟨_,h⟩
    .cases e
    .exact h
   obtain⟨s,z⟩:=p;obtain⟨a5,a6,a7,a8⟩:=P.form;simp only at c7;rw[a8]at c7;obtain⟨us,a9,D,c9⟩:=M;have a1:f.length<=50000:=by have:=l.length_eq;have:=c4.2;simp only[QU,SG]at*;omega
   obtain⟨N,e7⟩:=ah ((f.map (dZ j)).length);rw[e7]at a9 D;have i0:N<=50000:=by rw[<-e7,RA];exact a1
   obtain⟨d0,d1,e,-⟩:=av D;subst e;have i1:=g.size;have R:∀b,(RU d0 N d1).ownBlock=some b->w.heap.size<=b:=λb c0=>(bo D c0).2;have a2:∀(w5:QA),Out (λb=>(RU d0 N d1).ownBlock=some b) wr w5->be w5 L B E F Z j:=λw5 G=>q.out G (λe=>by have:=R _ e;have:=K.out L (.inl rfl);omega) (λe=>by have:=R _ e;have:=K.out B (.inr (.inl rfl));omega) (λk b0 e=>by have:=R _ e;have:=K.out k (.inr (.inr (r▸b0)));omega) λk o e G=>by rw[xK D e G];decide
   have f1:=ad a2;have f2:=ad c6.ne;clear a2 R;have c:=ad (And.intro g (And.intro c7 (And.intro P (And.intro c8 (And.intro l (And.intro q (And.intro r (And.intro a9 (And.intro D (And.intro c9 (And.intro e7 (And.intro a8 a0))))))))))));obtain⟨t0,t1,t2⟩:=cr c7;obtain⟨i2,f3,f4,f5,f6⟩:=SD zP;clear g c7 P l q r a9 D c9 e7 a8 a1 d;go_wp2_with(first|(at_builtin;refine aU _ rfl _ _ 162 rfl w.heap.size 206 i2 (.agg #[ae 0,ae 0,aW]) 3 40 XY f3 f4 f5 f6 rfl aj (.slice d0 N d1) N _ rfl (aP (aI ak _) c.2.2.2.2.2.2.2.2.1) (ag wr.heap.size 0) 1 1 [ae s,ae z,.slice (some (ag a5 a6)) 128 a7] rfl rfl (RY (cs:= #[ae s,ae z,.slice (some (ag a5 a6)) 128 a7]) (t:=206) (fr:=(0,0)) (QB wr _)) (by intro u c1;simp at c1;rcases c1 with rfl|rfl|rfl<;>rfl) aa (by unfold UI;omega) aa aR ?_;intro v2 w4 Q C;obtain⟨f7,b2,rfl,-⟩:=av Q;have b3:=C.heap ((QW wr (al #[ae s,ae z,.slice (some (ag a5 a6)) 128 a7] 206) T t2).trans c.2.1) f2;have d2:Out (λb=>(RU d0 N d1).ownBlock=some b) wr w4:=C.out (Out.af (aI ak _)) λ_ h _=>h;have c2:=aT Q C b3 d2;obtain⟨t3,t4,t5⟩:=cr b3;clear Q C b3 d2));obtain⟨w5,d3,b4,b5⟩:=qc w4 (al #[ae s,ae z,.slice (some (ag a5 a6)) 128 a7] 206);have b6:Out (λb=>(RU d0 N d1).ownBlock=some b) wr w5:=c2.2.2.2.then b4;have d4:=f1.out w5 b6;obtain⟨a,d5⟩:=ah w4.heap.size;rw[d5]at b5;have H:F.length<=50000:=aa;have I:=eM b4 b5 b6 d4 d5 H;rw[d3];clear d3 b4 b5 b6 d4 H t0 t1 t2 t3;refine(c3 w5 E F I.2.2.2.1 I.2.2.2.2.2).mono ?_;rintro e w6 ⟨x2,y2,d6,d7,d8,f8,rfl,fe⟩;have S:¬LZ L B E a:=λe=>by have h1:=c.1.size;have h2:=c2.2.2.2.size;have h3:=K.out a (by rcases e with e|e|e;exact .inl e;exact .inr (.inl e);exact .inr (.inr (c.2.2.2.2.2.2.1▸e)));omega
   have b7:=fe.1.heap I.2.1 S;have X:=aM fe b7 S;obtain⟨t0,t1,t2⟩:=cr b7;clear fe b7 S;rw[I.2.2.2.2.1];go_wp2;obtain⟨W7,Y⟩:=ah (((w6.setCell (ag a 0) (ae x2)).setCell (ag a 1) (ae y2)).setCell (ag a 2) (.slice d6 d7 d8));have J:Out (λb=>b=a) w6 W7:=by rw[<-Y];exact LH w6 a _ _ _
   have d9:W7.heap[a]?=some (al #[ae x2,ae y2,.slice d6 d7 d8] 206):=by rw[<-Y];exact heap_setCell_same _ a 2 _ 206 _ (heap_setCell_same _ a 1 _ 206 _ (heap_setCell_same w6 a 0 _ 206 _ X.2.1))
   rw[Y];clear Y;have A:=c2.1;have f9:w4.heap.size=a:=I.2.2.2.2.1;have a3:∀b,LZ L B E b->LZ L B v b:=λb e=>by
    rcases e with e|e|e
    .exact .inl e
    .exact .inr (.inl e)
    .exact .inr (.inr (c.2.2.2.2.2.2.1▸e))
   have U:∀b,(RU f7 (N+1) b2).ownBlock=some b->w.heap.size<=b/\b<a:=λb c0=>⟨(bo A c0).2,f9▸(bo A c0).1⟩;have g0:(f.map (dZ j))++ [dZ j (s,z)] =(f++ [(s,z)]).map (dZ j):=by rw[SH];rfl
   have e0:fg w.heap.size w4 (.slice f7 (N+1) b2) ((f++ [(s,z)]).map (dZ j)):=by
    rw[<-g0];have g3:dT (wr.alloc (al #[ae s,ae z,.slice (some (ag a5 a6)) 128 a7] 206)) (.slice (some (ag a5 a6)) 128 a7) (j (s,z)):=by have:=c.2.2.1;rw[c.2.2.2.2.2.2.2.2.2.2.2.1]at this;exact this.below (aI ak _)
    refine fg.push (us:=us) (us':= [.slice (some (ag a5 a6)) 128 a7]) (n:=N) (m:=1) (by rw[c.2.2.2.2.2.2.2.1,c.2.2.2.2.2.2.2.2.2.2.1]) rfl c.2.2.2.2.2.2.2.2.2.2.1.symm rfl (aP (aI ak _) c.2.2.2.2.2.2.2.2.1) (λi p u O c1=>(c.2.2.2.2.2.2.2.2.2.1 i p u O c1).below (aI ak _)) (λi p u O c1=>?_) A c2.2.1;obtain⟨e1,e2⟩:=QS.1 O;obtain⟨e3,e4⟩:=QS.1 c1;have e5:i=0:=by simp at e1;exact e1
    subst e5;simp at e2 e4;rw[<-e2,<-e4];exact g3
   have e6:fg w.heap.size W7 (.slice f7 (N+1) b2) ((f++ [(s,z)]).map (dZ j)):=by
    refine((e0.below I.1).out X.1.1 (λk b0 e=>?_) (I.2.2.2.1.Qc)).out J (λk b0 e=>?_) λk o e G=>?_
    .have:=(U k b0).1;have:=K.out k (a3 k e);omega
    .have:=(U k b0).2;have:k=a:=e;omega
    .rw [show k=a from e,X.2.1]at G;cases G;exactλh=>absurd h (by show(206:Nat)≠5;decide)
   have b8:Out (LZ L B v) w W7:=((c.1.trans I.2.2.1 λb c0 e=>by have:=(bo c.2.2.2.2.2.2.2.2.1 e).2;omega).trans X.1.1 λb _ e=>a3 b e).trans J λb c0 e=>by have e2:b=a:=e;have:=c.1.size;have:=c2.2.2.2.size;omega
   have g6:w.heap.size<=a:=by have:=c.1.size;have:=c2.2.2.2.size;omega
   go_roundg F.length
   case rel=>
    refine⟨a,f8,rfl,rfl,I.2.2.2.2.2,b8,g6,(λe=>by have:=(U a e).2;omega),f++ [(s,z)],e6,?_⟩;rcases X.1.2 with⟨rfl,h0⟩|⟨rfl,p,l3,v3,rfl,rfl,e9,g1,g2,g4,g5⟩
    .refine .inl ⟨rfl,?_,_,d9⟩;have O:=c.2.2.2.2.1;rw[h0]at O;exact(YO.trans (by simpa using O))
    .refine .inr ⟨rfl,p,l3,v3,by rw[<-e9];exact d9,g5.out J λk o e G=>?_,?_,?_,g2.out J ?_ ?_ ?_ ?_,g4.trans c.2.2.2.2.2.2.1⟩
     .rw [show k=a from e,X.2.1]at G;cases G;exactλh=>absurd h (by show(206:Nat)≠5;decide)
     .have:=g1.length_eq;simp at this;omega
     .have O:=c.2.2.2.2.1;refine List.Perm.trans ?_ O;have h1:(l3++p::(f++ [(s,z)])).Perm ((l3++ [p])++(s,z)::f):=by rw[SY];refine List.Perm.append_left _ ?_;show(p::(f++ [(s,z)])).Perm (p::(s,z)::f);exact List.Perm.cons _ YO
      exact h1.trans (List.Perm.append_right _ g1)
     .exact λe=>X.2.2 (.inl e.symm)
     .exact λe=>X.2.2 (.inr (.inl e.symm))
     .exact λk b0 e=>by have e2:k=a:=e;exact X.2.2 (.inr (.inr (by rw[<-e2,<-g4];exact b0)))
     .exact λk o e G=>by rw[show k=a from e,X.2.1]at G;cases G;exactλh=>absurd h (by show(206:Nat)≠5;decide)
   case measure=>have:=c.2.2.2.1;omega
def bu:List Pt->Nat × Nat->Option (Nat->Nat)
 | [],_=>none
 |p::l,q=>match bu l q with
  |some f=>some f
  |none=>if f_ p=q then some p.2.2 else none
theorem kP:∀(l:List Pt) (p:Pt) (q:Nat × Nat),bu (l++ [p]) q=if f_ p=q then some p.2.2 else bu l q
 | [],p,q=>by show(match bu [] q with|some f=>some f|none=>_)=_;rfl
 |r::l,p,q=>by
  show(match bu (l++ [p]) q with|some f=>some f|none=>if f_ r=q then some r.2.2 else none)=_;rw[kP l p q];by_cases e:f_ p=q
  .rw [ao e,ao e]
  .rw [aq e,aq e];rfl
theorem rI{q:Nat × Nat}:(∃p,p∈l/\f_ p=q)↔bu l q≠none:=by
 induction l with
 |nil=>exact⟨λ⟨p,h,_⟩=>absurd h aJ,λh=>absurd rfl h⟩
 |cons r l a=>
  unfold bu;cases h:bu l q with
  |some f=>rw[h]at a;obtain⟨p,h1,b⟩:=a.2 aJ;exact⟨λ_=>aJ,λ_=>⟨p,SN _ h1,b⟩⟩
  |none=>
   rw[h]at a;constructor
   .rintro ⟨p,h1,b⟩;rcases UG.1 h1 with rfl|h1
    .simp [b]
    .exact absurd rfl (a.1 ⟨p,h1,b⟩)
   .intro h1;by_cases e:f_ r=q
    .exact ⟨r,SE,e⟩
    .simp [e]at h1
structure kQ(w0:M)(L:Nat)(ps:List Pt)(wr:M):Prop where
 dw:au w0 wr
 new:w0.heap.size<=L
 lift:∃hm v lk dv da,be wr L hm v lk dv da/\(∀q,q∈lk↔bu ps q≠none)/\(∀q,q∈lk->bu ps q=some (da q))/\lk.length<=ps.length/\w0.heap.size<=hm/\∀x,v.ownBlock=some x->w0.heap.size<=x
 c0:wr.cell? (R L 0)=some (Y 0)
theorem kQ.next{d wr W j:M}{p:Pt}{c:List (Nat × Nat)}{k:Nat × Nat->Nat->Nat}(h:kQ d n l wr)(y:∀q,q∈c↔bu l q≠none)(z:∀q,q∈c->bu l q=some (k q))(o:c.length<=l.length)(r:d.heap.size<=m)(s:∀x,v.ownBlock=some x->d.heap.size<=x)(t:au wr W)(A:n<wr.heap.size)(f:oY n m v c k (f_ p) p.2.2 W j):kQ d n (l++ [p]) j:=by
 obtain⟨B,u,g,w,C,D,E,F⟩:=f;have b:=via h.dw t;have a:∀q,q∈u↔q∈c\/q=f_ p:=λq=>by
  rw[w.mem_iff];by_cases e:f_ p∈c
  .rw [ao e];exact⟨.inl,λh=>h.elim id λh=>by rw[h];exact e⟩
  .rw [aq e,TJ,SP]
 refine⟨b.trans (E.below (λx _ e=>?_) b.size),h.new,⟨m,B,u,g,_,C,λq=>?_,λq f=>?_,?_,r,λx i=>(F x i).elim (s x) λi=>QE b.size i⟩,?_⟩
 .rcases e with e|e|e
  .rw [e];exact h.new
  .rw [e];exact r
  .exact s x e
 .rw [a,kP];by_cases e:f_ p=q
  .rw [ao e];exact⟨λ_=>aJ,λ_=>.inr e.symm⟩
  .rw [aq e,<-y q];exact⟨λh=>h.elim id λh=>absurd h.symm e,.inl⟩
 .rw [kP];by_cases e:f_ p=q
  .rw [ao e,ao e.symm]
  .rw [aq e,aq λh=>e h.symm];exact z q (((a q).1 f).elim id λh=>absurd h.symm e)
 .rw [w.length_eq,QU];split
  .omega
  .rw [QU];simp;omega
 .rw [D,(kp t n A).1,h.c0]
theorem EO{p:Pt}{u:QC}(h:kQ w n l z)(b:au z W)(m:cR W u 128 p.2.2)(a:p.1<=15)(o:p.2.1<=4095)(B:l.length<100000):
  aE 132 #[H n,.agg #[Y p.1,Y p.2.1,u]] W λe d=>aK e (aG 0)/\kQ w n (l++ [p]) d:=by
 obtain⟨f,v,c,g,i,C,q,r,s,t,x⟩:=h.lift;have j:n<z.heap.size:=QO z _ h.c0;have y:W.cell? (R n 0)=some (Y 0):=by rw[(kp b n j).1,h.c0]
 have A:be W n f v c g i:=C.below b;by_cases e:(p.1,p.2.1)∈c
 .refine (CZ n f v c g i p.1 p.2.1 u p.2.2 W A y m a o e J).mono ?_;rintro e d ⟨rfl,k⟩;exact⟨rfl,h.next q r s t x b j k⟩
 .refine (uG n f v c g i p.1 p.2.1 u p.2.2 W A y m a o e J).mono ?_;rintro e d ⟨rfl,k⟩;exact⟨rfl,h.next q r s t x b j k⟩
section
open Go.Shelf
def AZ(S:dp)(N t k:Nat):Nat->Nat:=S ((t+k)%N)
def bl:List bX->Nat
 | [] =>0
 |P::l=>2*P.N+1+bl l
theorem il:∀l a:List bX,bl (l++a)=bl l+bl a
 | [],a=>by simp[bl]
 |P::l,a=>by show 2*P.N+1+bl (l++a)=2*P.N+1+bl l+bl a;rw[il l a];omega
theorem iq(l:List bX)(P:bX):bl (l++ [P])=bl l+(2*P.N+1):=by rw[il];rfl
theorem jS:∀l:List bX,l.length<=bl l
 | [] =>QH _
 |P::l=>by have:=jS l;show l.length+1<=2*P.N+1+bl l;omega
def pL(S:dp)(N ep t sq:Nat)(L:List bX):Prop:=
 ∀i P,L[i]?=some P->bK (AZ S N ((t+bl (L.take i))%N)) ep (sq+i) (N-bl (L.take i)) P
def lQ(S:dp)(N ep t sq:Nat)(L:List bX):Prop:=
 ∀P,¬bK (AZ S N ((t+bl L)%N)) ep (sq+L.length) (N-bl L) P
variable {S:dp} {N ep t sq:Nat} {L:List bX}
theorem pL.nil:pL S N ep t sq []:=λi P h=>by simp at h
theorem pL.snoc(h:pL S N ep t sq L){P:bX}(c:bK (AZ S N ((t+bl L)%N)) ep (sq+L.length) (N-bl L) P):pL S N ep t sq (L++ [P]):=by
 intro i Q a;by_cases d:i<L.length
 .rw [RD d]at a;have:=h i Q a;rw[XC J];exact this
 .rw [QZ J]at a;obtain⟨e,b⟩:=QS.1 a;have f:i=L.length:=by simp at e;omega
  subst f;simp at b;subst b;rw[List.take_left' rfl];exact c
def jz:Nat->List QC->List QC
 |_,[] => []
 |q,u::a=>.int .u64 (q:Nat)::u::jz (q+1) a
theorem pM:∀(q:Nat) (a:List QC) (u:QC),jz q (a++ [u])=jz q a++ [.int .u64 (q+a.length:Nat),u]
 |q,[],u=>rfl
 |q,v::a,u=>by show _::_::jz (q+1) (a++ [u])=_::_::(jz (q+1) a++_);rw[pM (q+1) a u,SG,show q+1+a.length=q+(a.length+1)by omega]
theorem rJ:∀(q:Nat) (a:List QC) (i:Nat) (u:QC),a[i]?=some u->(jz q a)[i*2]?=some (.int .u64 (q+i:Nat))/\(jz q a)[i*2+1]?=some u
 |q,[],i,u,h=>by simp at h
 |q,v::a,0,u,h=>by simp at h;subst h;exact⟨rfl,rfl⟩
 |q,v::a,i+1,u,h=>by have b:=rJ (q+1) a i u (by simpa using h);rw[show q+1+i=q+(i+1)by omega]at b;rw[show(i+1)*2=i*2+1+1 by omega];exact b
def mT(B:Nat)(w:M)(v:QC)(q:Nat)(L:List (List Pt)):Prop:=
 ∃us:List QC,us.length=L.length/\w.ownsRow B 204 2 v L.length (jz q us)/\∀(i:Nat) (l:List Pt) (u:QC),L[i]?=some l->us[i]?=some u->ff w u l
theorem mT.nil(B:Nat)(w:M)(q:Nat):mT B w aW q []:=⟨[],rfl,SJ _ _ _ _,λi l u h=>by simp at h⟩
theorem mT.below{B q:Nat}{w a:M}{v:QC}{L:List (List Pt)}(h:mT B w v q L)(b:au w a):mT B a v q L:=by obtain⟨c,d,e,f⟩:=h;exact⟨c,d,aP b e,λi l u g j=>(f i l u g j).below b⟩
theorem mT.wide{B a q:Nat}{w:M}{v:QC}{L:List (List Pt)}(h:mT B w v q L)(b:a<=B):mT a w v q L:=by obtain⟨c,d,e,f⟩:=h;exact⟨c,d,cu e b,f⟩
theorem mT.out{B q:Nat}{S:Nat->Prop}{w w1:M}{v:QC}{L:List (List Pt)}(h:mT B w v q L)(a:Out S w w1)(b:∀k,v.ownBlock=some k->¬S k)(c:∀k o,S k->w.heap[k]?=some o->ty o≠5/\ty o≠206):mT B w1 v q L:=by obtain⟨d,e,f,g⟩:=h;exact⟨d,e,a.own f b,λi l u j m=>(g i l u j m).out a c⟩
theorem mT.low{B q k:Nat}{w:M}{v:QC}{L:List (List Pt)}(h:mT B w v q L)(a:v.ownBlock=some k):B<=k:=by obtain⟨c,d,b,e⟩:=h;exact(bo b a).2
theorem mT.push{B s q:Nat}{W d:M}{lv a u:QC}{L:List (List Pt)}{l:List Pt}{us:List QC}(f:us.length=L.length)(h:W.ownsRow B 204 2 lv L.length (jz q us))(w:∀(i:Nat) (p:List Pt) (u:QC),L[i]?=some p->us[i]?=some u->ff W u p)(x:ff W u l)(y:d.ownsRow B 204 2 a (L.length+1) (jz q us++ [.int .u64 (q+L.length:Nat),u]))(z:nF s W lv L.length 1 a d):mT B d a q (L++ [l]):=by
 obtain⟨j,A⟩:=z.ty h;have m:∀k o,lv.ownBlock=some k->a_ W k o->ty o≠5/\ty o≠206:=λk o e g=>by rw[A k o e g];decide
 refine⟨us++ [u],by simp[f],?_,λi p v b c=>?_⟩
 .rw [pM,QU,f];exact y
 .by_cases C:i<L.length
  .rw [RD C]at b;rw[RD J]at c;exact(w i p v b c).out j m
  .rw [QZ J]at b;rw[QZ J,f]at c;obtain⟨D,n⟩:=QS.1 b;obtain⟨F,r⟩:=QS.1 c;have E:i-L.length=0:=by simp at D;omega
   simp only[E,QF]at n r;subst n;subst r;exact x.out j m
def kR:Prop:=∀(b o c N t a ep sq:Nat) (F:dp) (w:M),1<=N->N<=4096->t<N->N*128<=c->a<=N->(∀k,k<N->dT w (Ix b o c N t k) (F k)/\∀j,j<128->F k j<256)->
  aE 274 #[.slice (some (R b o)) (N*128) c,Y t,Y a,bg ep,bg sq] w (Kk F ep sq a w)
end
section
section
variable {P:Program} {ops:Array Oper} {Q:Exit->Act->QA->Prop} {md:Region.Mode} {S:QA->Prop} {St:List Nat}
def fa(P:Program)(md:Region.Mode)(ops:Array Oper)(Q:Exit->Act->M->Prop)(S:M->Prop)(St:List Nat):Nat->Array Bool->Act->M->Prop
 |0,b,a,w=>VL md ops b= []/\Q .normal a w
 |fuel+1,b,a,w=>
  (VL md ops b= []->Q .normal a w)/\
  ∀i∈VL md ops b,wpOp P ops Q i (λd c=>(St.contains i=true\/(S w->S c))/\fa P md ops Q S St fuel (b.setIfInBounds i true) d c) a w
theorem pN:∀(fuel:Nat) (b:Array Bool) (a:Act) (w:M),fa P md ops Q S St fuel b a w->wpAny P md ops Q fuel b a w
 |0,_,_,_,h=>h
 |fuel+1,_,_,_,h=>⟨h.1,λi c=>wpOp_mono (λd e f=>pN fuel _ d e f.2) (h.2 i c)⟩
def xL(md:Region.Mode)(ops:Array Oper)(St:List Nat)(i:Nat):Bool:=
 St.all λj=>match ops[j]? with
  |some o=>o.after.any λe=>XI md e&&e.on==i
  |none=>false
theorem A_{i j:Nat}{a:Array Bool}(h:xL md ops St i=true)(l:St.contains j=true)(m:i∈VL md ops a):j∉VL md ops a:=by
 intro n;obtain⟨_,o,p,b⟩:=mem_ready.1 n;have g:=WD.1 h j (by simpa using l);simp only[p]at g;obtain⟨e,q,d⟩:=Array.any_eq_true'.1 g;simp only[VM,beq_iff_eq]at d;have c:=b e q d.1;rw[d.2]at c;have k:=(mem_ready.1 m).1;rcases YY i a.size with f|f
 .simp [f]at k c;rw[k]at c;cases c
 .simp [WR f]at c
theorem te{i:Nat}{r:Oper}{v:QC}(K:ops[i]?=some r)(n:∀(j:Nat) (o:Oper) x b,ops[j]?=some o->o.op≠ .select x b)(X:∀c a w,Q (.panic c) (a.put r.dst v) w->Q (.panic c) a w)(Z:xL md ops St i=true):
  ∀(f:Nat) (d:Array Bool) (a:Act) (w:QA),
   (∀j s,ops[j]?=some s->j≠i->d.getD j true=false->(∀e∈s.after,XI md e=true->e.on≠i)->r.apart ops s=true)->
   i∈VL md ops d->YieldsIf P ops S r v a->S w->
   fa P md ops Q S St f (d.setIfInBounds i true) (a.put r.dst v) w->fa P md ops Q S St (f+1) d a w:=by
 intro f;induction f with
 |zero=>
  intro d a w _ p E F H;refine⟨λh=>(by rw[h]at p;cases p),λj y=>?_⟩;by_cases g:j=i
  .subst g;exact E.wpOp K F ⟨.inr id,H⟩
  .have:=ready_mono y g;rw[H.1]at this;cases this
 |succ f N=>
  intro d a w l p E F H;refine⟨λh=>(by rw[h]at p;cases p),λj y=>?_⟩;by_cases g:j=i
  .subst g;exact E.wpOp K F ⟨.inr id,H⟩
  .have t:=H.2 j (ready_mono y g);obtain⟨q,s,u,z⟩:=mem_ready.1 y;have L:¬St.contains j=true:=λe=>A_ Z e p y;have A:∀e∈s.after,XI md e=true->e.on≠i:=λe M R O=>by
    have t:=z e M R;have W:=(mem_ready.1 p).1;rw[O]at t;rcases YY i d.size with T|T
    .simp [T]at W t;rw[W]at t;cases t
    .simp [WR T]at t
   have I:=wpOp_putIf u (l j s u g q A) (λx b=>n i r x b K) (λx b=>n j s x b u) X E t;have m:∀k B,ops[k]?=some B->k≠i->(d.setIfInBounds j true).getD k true=false->
     (∀e∈B.after,XI md e=true->e.on≠i)->r.apart ops B=true:=λk B Y U C V=>by
    refine l k B Y U ?_ V;by_cases D:j=k
    .subst D;exact q
    .rw [getD_set_ne true D]at C;exact C
   refine wpOp_mono (λJ a0 G=>⟨G.2.1,N (d.setIfInBounds j true) J a0 m (ready_mono p (Ne.symm g)) G.1 (G.2.1.resolve_left L F) ?_⟩) I;rw[Array.setIfInBounds_comm _ _ g];exact G.2.2
theorem qv{i:Nat}{q:Oper}{v:QC}(F:ops[i]?=some q)(n:∀(j:Nat) (o:Oper) x b,ops[j]?=some o->o.op≠ .select x b)(V:∀c a w,Q (.panic c) (a.put q.dst v) w->Q (.panic c) a w):
  ∀(f:Nat) (d:Array Bool) (a:Act) (w:QA),
   (∀j r,ops[j]?=some r->j≠i->d.getD j true=false->(∀e∈r.after,XI md e=true->e.on≠i)->q.apart ops r=true)->
   i∈VL md ops d->YieldsIf P ops (λ_=>True) q v a->
   fa P md ops Q S St f (d.setIfInBounds i true) (a.put q.dst v) w->fa P md ops Q S St (f+1) d a w:=by
 intro f;induction f with
 |zero=>
  intro d a w _ s D H;refine⟨λh=>(by rw[h]at s;cases s),λj E=>?_⟩;by_cases g:j=i
  .subst g;exact D.wpOp F trivial ⟨.inr id,H⟩
  .have:=ready_mono E g;rw[H.1]at this;cases this
 |succ f W=>
  intro d a w l s D H;refine⟨λh=>(by rw[h]at s;cases s),λj E=>?_⟩;by_cases g:j=i
  .subst g;exact D.wpOp F trivial ⟨.inr id,H⟩
  .have t:=H.2 j (ready_mono E g);obtain⟨p,r,u,y⟩:=mem_ready.1 E;have z:∀e∈r.after,XI md e=true->e.on≠i:=λe X Z G=>by
    have t:=y e X Z;have U:=(mem_ready.1 s).1;rw[G]at t;rcases YY i d.size with K|K
    .simp [K]at U t;rw[U]at t;cases t
    .simp [WR K]at t
   have N:=wpOp_putIf u (l j r u g p z) (λx b=>n i q x b F) (λx b=>n j r x b u) V D t;have m:∀k A,ops[k]?=some A->k≠i->(d.setIfInBounds j true).getD k true=false->
     (∀e∈A.after,XI md e=true->e.on≠i)->q.apart ops A=true:=λk A M L B O=>by
    refine l k A M L ?_ O;by_cases C:j=k
    .subst C;exact p
    .rw [getD_set_ne true C]at B;exact B
   refine wpOp_mono (λR I T=>⟨T.2.1,W (d.setIfInBounds j true) R I m (ready_mono s (Ne.symm g)) T.1 ?_⟩) N;rw[Array.setIfInBounds_comm _ _ g];exact T.2.2
theorem jA{i:Nat}{e:Oper}{v:QC}{d:Nat}{b:Array Bool}{a:Act}{w:M}(f:ops[i]?=some e)(g:Region.noSelect ops=true)(j:Region.free md ops b i=true)(k:(VL md ops b).contains i=true)(l:xL md ops St i=true)(m:∀c a w,Q (.panic c) (a.put e.dst v) w->Q (.panic c) a w)(n:YieldsIf P ops S e v a)(o:S w)(h:fa P md ops Q S St d (b.setIfInBounds i true) (a.put e.dst v) w):fa P md ops Q S St (d+1) b a w:=
 te f (Region.noSelect_spec g) m l d b a w (Region.free_spec f j) (by simpa using k) n o h
theorem aO{i:Nat}{e:Oper}{v:QC}{d:Nat}{b:Array Bool}{a:Act}{w:M}(f:ops[i]?=some e)(g:Region.noSelect ops=true)(j:Region.free md ops b i=true)(k:(VL md ops b).contains i=true)(l:∀c a w,Q (.panic c) (a.put e.dst v) w->Q (.panic c) a w)(m:YieldsIf P ops (λ_=>True) e v a)(h:fa P md ops Q S St d (b.setIfInBounds i true) (a.put e.dst v) w):fa P md ops Q S St (d+1) b a w:=
 qv f (Region.noSelect_spec g) l d b a w (Region.free_spec f j) (by simpa using k) m h
theorem gL{i:Nat}{o:Oper}{c:Nat}{b:Array Bool}{a:Act}{w:M}(g:VL md ops b= [i])(k:ops[i]?=some o)(h:∀d:Act->M->Prop,(∀f e,(St.contains i=true\/(S w->S e))->fa P md ops Q S St c (b.setIfInBounds i true) f e->d f e)->if WT o (yielded ops a.tmps)=true then Oper.wp P o a w d Q else d (a.put o.dst undef) w):
  fa P md ops Q S St (c+1) b a w:=by
 refine⟨λl=>absurd (g▸l) aJ,?_⟩;rw[g];intro j m;obtain rfl:j=i:=by simpa using m
 exact wpOp_step k λd n=>h d λf e p q=>n f e ⟨p,q⟩
theorem nA{b:Array Bool}{a:Act}{w:M}(d:VL md ops b= [])(h:Q .normal a w):
  ∀c,fa P md ops Q S St c b a w
 |0=>⟨d,h⟩
 |_+1=>⟨λ_=>h,by rw[d];simp⟩
theorem nB{id:Nat}{a:Act}{w:M}(b:P.follows .mixedOrders=true)(h:fa P .any ops Q S St ops.size (Array.replicate ops.size false) a w.drew):(Code.region id ops true).wp P Q a w:=
 wp_region_any b (pN _ _ _ _ h)
end
end
section
open Go.Shelf
theorem Hk(p:kR)(b o f N t d ep sq:Nat)(F:dp)(w:M)(q:1<=N)(i:N<=4096)(s:t<N)(h:N*128<=f)(g:d<=N)(u:∀k,k<N->dT w (Ix b o f N t k) (F k)/\∀j,j<128->F k j<256):
  aE 274 #[.slice (some (R b o)) (N*128) f,Y t,Y d,bg ep,bg sq] w λe l=>∃a n c r,aK e (.tuple #[.agg #[bg sq,.slice a n c],.bool r])/\au w l/\
   ((r=true/\∃P,bK F ep sq d P/\fg w.heap.size l (.slice a n c) (bM P P.N))\/(r=false/\∀P,¬bK F ep sq d P)):=by
 refine(p b o f N t d ep sq F w q i s h g u).mono ?_;rintro e l ⟨m,a,n,c,⟨P,h1,rfl,v⟩|⟨h1,rfl⟩⟩
 .exact ⟨a,n,c,true,rfl,m,.inl ⟨rfl,P,h1,v⟩⟩
 .exact ⟨a,n,c,false,rfl,m,.inr ⟨rfl,h1⟩⟩
def Ml(S:dp)(N ep t sq:Nat)(w:M)(e:RW)(b:M):Prop:=
 au w b/\∃L v,pL S N ep t sq L/\lQ S N ep t sq L/\bl L<=N/\(∃a c,v=.slice a L.length c)/\
  aK e (.tuple #[.agg #[v,.int .u64 (sq+L.length:Nat),Y ((t+bl L)%N:Nat),Y (bl L:Nat)],aG 0])/\mT w.heap.size b v sq (L.map λP=>bM P P.N)
variable {S:dp} {N ep t sq F:Nat} {w wr:QA} {L:List bX}
structure EP(S:dp)(N ep t sq F:Nat)(w:M)(L:List bX)(wr:M):Prop where
 lZ:pL S N ep t sq L
 used:bl L<=N
 dw:au w wr
 aL:∃a c,wr.heap[F]? =some (al #[.slice a L.length c,.int .u64 (sq+L.length:Nat),Y ((t+bl L)%N:Nat),Y (bl L:Nat)] 279)/\mT (F+1) wr (.slice a L.length c) sq (L.map fun P=>bM P P.N)
theorem Ol:(prog.info? 204).map (λi=>(i.zero,i.size,i.bytes))=some (some (.agg #[.int .u64 0,aW]),2,32):=ai
theorem EP.end(h:EP S N ep t sq F w L wr)(q:lQ S N ep t sq L)(hF:w.heap.size<=F)(_:sq+L.length<9223372036854775808){D:Nat}(f:w.heap.size<=D)(r:D<F){a:Option SZ}{c:Nat}(i:mT (F+1) wr (.slice a L.length c) sq (L.map λP=>bM P P.N))(o:Array QC)(s:wr.heap[D]?=some (al o 279))(j l m n:QC):
  Ml S N ep t sq w (.returned (.tuple #[.agg #[.slice a L.length c,.int .u64 (sq+L.length:Nat),Y ((t+bl L)%N:Nat),Y (bl L:Nat)],aG 0])) ((((wr.setCell (R D 0) j).setCell (R D 1) l).setCell (R D 2) m).setCell (R D 3) n):=by
 refine⟨(((h.dw.setCell (p:=R D 0) f _).setCell (p:=R D 1) f _).setCell (p:=R D 2) f _).setCell (p:=R D 3) f _,L,_,h.lZ,q,h.used,⟨a,c,rfl⟩,rfl,?_⟩;have d:Out (λk=>k=D) wr ((((wr.setCell (R D 0) j).setCell (R D 1) l).setCell (R D 2) m).setCell (R D 3) n):=
  ((((Out.refl (λk=>k=D) wr).setCell (p:=R D 0) (λ_=>rfl) _).setCell (p:=R D 1) (λ_=>rfl) _).setCell (p:=R D 2) (λ_=>rfl) _).setCell (p:=R D 3) (λ_=>rfl) _
 refine(i.out d (λk u e=>?_) λk b e g=>?_).wide J
 .have:=i.low u;omega
 .rw [e,s]at g;cases g;exact⟨λh=>absurd h (by show(279:Nat)≠5;decide),λh=>absurd h (by show(279:Nat)≠206;decide)⟩
def Kl(S:dp)(N ep b q c:Nat)(wr:M)(T:Nat)(r:Bool)(v:QC)(a:M):Prop:=
 wr.heap.size<=T/\a.heap[T]?=some (al #[bg q,v] 204)/\au wr a/\((r=true/\∃P,bK (AZ S N b) ep q c P/\ff a v (bM P P.N))\/(r=false/\∀P,¬bK (AZ S N b) ep q c P))
theorem Kl.fresh{b q c W:Nat}{r:Bool}{v:QC}{a:M}(d:au wr a)(h:(r=true/\∃P,bK (AZ S N b) ep q c P/\fg W a v (bM P P.N))\/(r=false/\∀P,¬bK (AZ S N b) ep q c P)):
  Kl S N ep b q c wr a.heap.size r v (a.alloc (al #[bg q,v] 204)):=
 ⟨d.size,QB _ _,aI d _,h.imp (λ⟨e,P,f,g⟩=>⟨e,P,f,g.yj.below (aI ak _)⟩) id⟩
theorem Kl.vW{b q c W T:Nat}{r:Bool}{v x y:QC}{a:M}(i:au wr a)(f:a.heap[T]?=some (al #[x,y] 204))(d:wr.heap.size<=T)(h:(r=true/\∃P,bK (AZ S N b) ep q c P/\fg W a v (bM P P.N))\/(r=false/\∀P,¬bK (AZ S N b) ep q c P)):
  Kl S N ep b q c wr T r v ((a.setCell (R T 0) (bg q)).setCell (R T 1) v):=by
 refine⟨d,?_,(i.setCell (p:=R T 0) d _).setCell (p:=R T 1) d _,h.imp (λ⟨e,P,j,l⟩=>⟨e,P,j,l.yj.out (((Out.refl (λk=>k=T) a).setCell (p:=R T 0) (λ_=>rfl) _).setCell (p:=R T 1) (λ_=>rfl) _) λk o e g=>?_⟩) id⟩
 .exact heap_setCell_same _ _ 1 _ 204 _ (heap_setCell_same a T 0 _ 204 _ f)
 .rw [e,f]at g;cases g;exact⟨λh=>absurd h (by show(204:Nat)≠5;decide),λh=>absurd h (by show(204:Nat)≠206;decide)⟩
theorem Hl(o4:kR)(b o X N t ep sq:Nat)(S:dp)(w:QA)(o5:5<=N)(l7:N<=2048)(o6:t<N)(d6:N*128<=X)(l8:cJ ep sq)(l9:∀k,k<N->dT w (.slice (some ⟨b,o+k*128,none⟩) 128 (X-k*128)) (S k)/\∀j,j<128->S k j<256):
  aE 194 #[.slice (some ⟨b,o,none⟩) (N*128) X,.agg #[bg ep,bg sq,ae t]] w (Ml S N ep t sq w):=by
 have b6:=ad (λW=>vH (some ⟨b,o,none⟩) N X W aa);have m0:=ad (λW=>mc ep sq t W l8 aa);have g9:=ad (λh0 d7 m3 W (h1:h0<N) (h2:d7<=N) (h3:au w W)=>Hk o4 b o X N h0 d7 ep m3 (AZ S N h0) W aa aa h1 d6 h2 λk _=>⟨(l9 ((h0+k)%N) (RT _ aa)).1.below h3,(l9 ((h0+k)%N) (RT _ aa)).2⟩);obtain⟨n,o1⟩:=ah (N*128);have e0:((n:Nat):Int).tmod 128=0:=by have:n%128=0:=aa;exact(show((n:Nat):Int).tmod ((128:Nat):Int)=((n%128:Nat):Int)from SI _ _).trans (by rw[this];rfl)
 have e1:decide ((N:Int)<5)=false:=decide_eq_false aa;have e2:decide ((2048:Int)<(N:Int))=false:=decide_eq_false aa;have e4:decide (N<=t)=false:=decide_eq_false aa;have h4:=aT l8 o6 o5 l7;rw[o1]at b6 g9|-;clear l9 l8 d6 o1;obtain⟨m4,h5⟩:=ah ((w.alloc (al #[bg ep,bg sq,ae t] 156)).alloc (al #[aW,.int .u64 0,ae 0,ae 0] 279));have h6:au w m4:=by rw[<-h5];exact aI (aI ak _) _
 have b7:m4.heap[w.heap.size]?=some (al #[bg ep,bg sq,ae t] 156):=by rw[<-h5];exact(QW _ _ _ aJ).trans (QB _ _)
 have b8:m4.heap[w.heap.size+1]?=some (al #[aW,.int .u64 0,ae 0,ae 0] 279):=by rw[<-h5];have:=QB (w.alloc (al #[bg ep,bg sq,ae t] 156)) (al #[aW,.int .u64 0,ae 0,ae 0] 279);rwa[SS]at this
 obtain⟨D,m5⟩:=ah w.heap.size;rw[m5]at b7 b8;obtain⟨a0,a1,Z⟩:=cr b7;obtain⟨b0,b1,b2⟩:=cr b8;have l4:=aB h5 m5;have h8:=aM b7 b8 h6;clear h5 b7 b8 h6 m5;go_enter func194,ntmps194;go_wp2_with fail
 try simp only[l4.out.1,l4.out.2]
 go_step3;go_wp2_with(first|(go_at_call 149;refine(m0 _).mono ?_;rintro e w1 ⟨g1,c1,rfl,-,b9⟩;obtain⟨k0,k1,k2⟩:=kp b9 D dJ;obtain⟨k3,k4,k5⟩:=kp b9 (D+1) dJ;have H:=ad b9;clear b9));go_region_held3(λC=>C.cell? ⟨D,2,none⟩=some (ae t)) ((simp[*,go_sem];done)) (first|(go_at_call 273;refine(b6 _).mono ?_;rintro e w2 ⟨rfl,rfl⟩));go_wp2_with fail;go_step3;go_wp2_with fail;obtain⟨d9,c0⟩:=ah ((w1.alloc (al #[aW,bg sq,ae t,ae 0] 279)).drew);have G:au w1 d9:=by rw[<-c0];exact(cE (aI ak _) 1)
 have e3:au w d9:=h8.2.2.trans ((H.trans (G.mono H.size)).mono h8.2.2.size);have f3:d9.heap[w1.heap.size]?=some (al #[aW,bg sq,ae t,ae 0] 279):=by rw[<-c0];exact QB _ _
 obtain⟨F,hF⟩:=ah w1.heap.size;rw[c0,hF];rw[hF]at f3;have h9:w.heap.size<=F:=by rw[<-hF];exact QE h8.2.2.size H.size
 have i0:d9.heap[D]?=some (al #[bg ep,bg sq,ae t] 156):=(G.block D k2).trans ((H.block D Z).trans h8.1);have i1:d9.heap[D+1]?=some (al #[aW,.int .u64 0,ae 0,ae 0] 279):=(G.block (D+1) k5).trans ((H.block (D+1) b2).trans h8.2.1);have i2:D<F/\D+1<F:=by rw[<-hF];exact⟨k2,k5⟩
 have f:=bZ i0 i1 i2 h9 e3;have m6:QX (EP S N ep t sq F w [] d9):=⟨pL.nil,QN _,e3,none,0,by rw[f3];simp[bl,SA h4.out.2.1],mT.nil _ _ _⟩;clear c0 G e3 f3 hF h9 i0 i1 i2 a0 Z b2 k0 k2 k3 k5 H;go_loopw [10] (λi3 wr=>∃L:List bX,QX (EP S N ep t sq F w L wr)/\QX (SC F d9 wr)) (λ_ wr=>N-(match wr.cell? ⟨F,3,none⟩with|some (.int _ x)=>x.toNat|_=>0))
 case atStart=>exact⟨[],m6,ak⟩
 case round=>
  obtain⟨L,R,f4⟩:=hrel;obtain⟨a,c,c3,f5⟩:=R.aL;have f6:=R.used;have I:=jS L;obtain⟨K,i4⟩:=ah L.length;obtain⟨u,c4⟩:=ah (bl L);obtain⟨E,c5⟩:=ah ((t+u)%N);obtain⟨q,m7⟩:=ah (sq+K);have i5:E<N:=by rw[<-c5];exact RT _ aa
  have d:=bZ i4 c4 c5 m7 i5;rw[i4,c4,c5,m7]at c3;rw[i4]at f5;rw[c4]at f6 I;rw[i4]at I;have c6:=ad f5;have o7:=h4.1.2;have i6:q<9223372036854775808:=by have:=h4.2.2.2;omega
  have f8:=(f4.block D f.2.2.1.1).trans f.1;have f9:=(f4.block (D+1) f.2.2.1.2).trans f.2.1;have M:=aM c3 f8 f9;obtain⟨f0,f1,f2⟩:=cr c3;obtain⟨d0,d1,d2⟩:=cr f8;obtain⟨x0,x1,x2⟩:=cr f9;have o8:K<=2048:=by have:=h4.2.2.2;omega
  clear i4 c4 c5 m7 c3 f8 f9 f5 I;by_cases i7:q<=4611686018427387904
  .have j1:(q:Int)<=4611686018427387904:=aa;obtain⟨l5,i8⟩:=ah (N-u);have e5:QK.wrap ((N:Int)-(u:Int))=(l5:Int):=by have:=h4.2.2.2;go_arith
   have m8:=ad (λW (o9:au wr W)=>g9.out E l5 q W i5 aa (R.dw.trans (o9.mono R.dw.size)));have g3:=ad i8;clear i8;go_wp2_with fail;go_cut [10,11] (λi3 m9 p0=>∃(T:Nat) (r:Bool) (Z:Option SZ) (O c2:Nat),i3= ar T/\m9=.bool r/\QX (Kl S N ep E q l5 wr T r (.slice Z O c2) p0))
   case first=>
    go_region_held3(λC=>C.cell? ⟨F,1,none⟩=some (bg q)/\C.cell? ⟨F,2,none⟩=some (ae E)/\C.cell? ⟨F,3,none⟩=some (ae u)/\C.cell? ⟨D,0,none⟩=some (bg ep)) ((simp[*,go_sem];done)) (first
     |(go_at_call 273;refine(b6 _).mono ?_;rintro e w2 ⟨rfl,rfl⟩)
     |(go_at_call 274;refine(m8 _ bF).mono ?_;rintro e w3 ⟨Z,O,c2,r,rfl,Y,i9⟩
       (try(have h7:=(Y.block _ dJ).trans (QB wr (al #[.int .u64 0,aW] 204));obtain⟨c7,f7,z7⟩:=cr h7;have H7:=ad h7;clear h7))
       obtain⟨k0,k1,k2⟩:=kp Y F dJ;obtain⟨k3,k4,k5⟩:=kp Y D dJ;have j0:QX (au wr w3):=via bF Y;have j2:=ad i9;clear Y i9))
    all_goals go_wp2
    all_goals go_meet
    all_goals first
     |exact⟨_,_,_,_,_,rfl,rfl,Kl.vW j0 H7 (QH _) j2⟩
     |exact⟨_,_,_,_,_,rfl,rfl,Kl.fresh j0 j2⟩
   case rest=>
    rename_i n0;refine n0 _ _ ?_;obtain⟨T,r,Z,O,c2,rfl,rfl,z⟩:=hcut;have c8:=z.2.2.1;have J:=(c8.block F f2).trans M.1;have a3:=(c8.block D d2).trans M.2.1;have a4:=(c8.block (D+1) x2).trans M.2.2;have y:=aM J a3 a4;clear f0 f1 f2 d0 d2 x0 x1 x2;obtain⟨f0,f1,f2⟩:=cr J;obtain⟨d0,d1,d2⟩:=cr a3;obtain⟨x0,x1,x2⟩:=cr a4;obtain⟨t0,t1,t2⟩:=cr z.2.1;clear c8 J a3 a4;cases r
    case false=>
     have n1:QX (lQ S N ep t sq L):=λP l6=>by
      rcases z.2.2.2 with⟨e,_⟩|⟨_,h⟩
      .cases e
      .rw [d.1,d.2.1,d.2.2.1,d.2.2.2.1,g3.out]at l6;exact h P l6
     have n3:QX (EP S N ep t sq F w L wc):=⟨R.lZ,R.used,R.dw.trans (z.2.2.1.mono R.dw.size),a,c,by rw[d.1,d.2.1,d.2.2.1,d.2.2.2.1];exact y.1,by rw[d.1];exact c6.below z.2.2.1⟩;go_wp2;refine QR (v:=.tuple #[.agg #[.slice a K c,bg q,ae E,ae u],aG 0]) (by rw[UE rfl];simp[go_sem, *]) rfl ?_;have j3:=n3.end n1 f.2.2.2.1 (by rw[d.1,d.2.2.2.1];exact i6) (D:=D+1) (by rw[<-l4.2];omega) f.2.2.1.2 (a:=a) (c:=c) (by rw[d.1];exact c6.below z.2.2.1) _ y.2.2 (.slice a K c) (bg q) (ae E) (ae u);rw[d.1,d.2.1,d.2.2.1,d.2.2.2.1]at j3;exact j3
    case true=>
     obtain⟨P,Q,a5⟩:∃P,bK (AZ S N E) ep q l5 P/\ff wc (.slice Z O c2) (bM P P.N):=by
      rcases z.2.2.2 with⟨_,h⟩|⟨e,_⟩
      .exact h
      .cases e
     have fe:O=P.N:=by obtain⟨_,_,e,_⟩:=a5;cases e;exact cT _ _
     have g8:=aM Q a5 fe;have a6:=Q.room;have j4:=Q.cA;obtain⟨y3,g4⟩:=ah (2*O+1);obtain⟨y2,j5⟩:=ah (2*O);have e6:QK.wrap (2*(O:Int))=(y2:Int):=bj;have e7:QK.wrap ((y2:Int)+1)=(y3:Int):=bj;have o2:=aB g4 j5;clear Q a5 fe a6 j4 g4 j5;obtain⟨us,A,g5,j6⟩:=c6.below z.2.2.1;rw[RA,d.1]at A g5;have a7:=aM A g5 j6;clear A g5 j6;obtain⟨p1,n4,n5,n6,n7⟩:=SD Ol;go_wp2_with(first|(at_builtin;refine aU _ rfl _ _ 197 rfl (F+1) 204 p1 (.agg #[.int .u64 0,aW]) 2 32 underlying197 n4 n5 n6 n7 rfl aj (.slice a K c) K _ rfl (aP (aI ak _) a7.2.1) ⟨wc.heap.size,0,none⟩ 1 1 [bg q,.slice Z O c2] rfl rfl (RY (cs:= #[bg q,.slice Z O c2]) (t:=204) (fr:=(0,0)) (QB wc _)) (by intro u c4;simp at c4;rcases c4 with rfl|rfl<;>rfl) aa (by unfold UI;omega) aa aR ?_));intro p8 C a8 a9;obtain⟨j7,j8,rfl,-⟩:=av a8;have B:au wc (wc.alloc (al #[bg q,.slice Z O c2] 204)):=aI ak _;have j9:∀k,(RU a K c).ownBlock=some k->F+1<=k:=λk n8=>(bo a7.2.1 n8).2;have b3:SC (F+1) (wc.alloc (al #[bg q,.slice Z O c2] 204)) C:=a9.below ak aR j9;have d8:QX (mT (F+1) C (.slice j7 (K+1) j8) sq ((L++ [P]).map λP=>bM P P.N)):=by
      show mT _ _ _ _ _;rw[SH];have c9:(L.map λP=>bM P P.N).length=K:=by rw[RA,d.1]
      refine mT.push (us:=us) (u:=.slice Z O c2) (s:=wc.heap.size+1) (W:=wc.alloc (al #[bg q,.slice Z O c2] 204)) (lv:=.slice a K c) (by rw[a7.1,c9]) (by rw[c9];exact aP B a7.2.1) (λi p u p2 c4=>(a7.2.2 i p u p2 c4).below B) (g8.2.1.below B) (by rw[c9,d.2.2.2.1];exact a8) (by rw[c9];exact a9)
     have g0:=(b3.block F aa).trans ((B.block F f2).trans y.1);have g1:=(b3.block D (by have:=f.2.2.1.1;omega)).trans ((B.block D d2).trans y.2.1);have g2:=(b3.block (D+1) (by have:=f.2.2.1.2;omega)).trans ((B.block (D+1) x2).trans y.2.2);have k6:=bZ g0 g1 g2 b3 B;clear f0 f1 f2 d0 d2 x0 x1 x2 t0 a8 a9 j9 b3 B;obtain⟨f0,f1,f2⟩:=cr g0;clear g0 g1 g2;obtain⟨q1,d3⟩:=ah (q+1);obtain⟨u1,A⟩:=ah (u+y3);obtain⟨m1,k7⟩:=ah (E+y3);obtain⟨m2,b4⟩:=ah (m1%N);have k8:y3<=5000:=by have h1:=g8.1.cA;have h2:=o2.1;have h3:=g8.2.2;omega
     have e8:VN.wrap ((q:Int)+1)=(q1:Int):=bj;have e9:QK.wrap ((u:Int)+(y3:Int))=(u1:Int):=bj;have p3:QK.wrap ((E:Int)+(y3:Int))=(m1:Int):=bj;have p4:(m1:Int).tmod (N:Int)=(m2:Int):=by rw[<-b4];exact SI _ _
     have p5:¬N=0:=aa;have p6:=aT d3 A k7 b4;clear d3 A k7 b4 k8;go_wp2_with fail;obtain⟨W9,d4⟩:=ah ((C.setCell ⟨F,0,none⟩ (.slice j7 (K+1) j8)).drew);have g6:W9.heap[F]?=some (al #[.slice j7 (K+1) j8,bg q,ae E,ae u] 279):=by rw[<-d4];exact heap_setCell_same C F 0 _ 279 _ k6.1
     have k9:=aB g6 d4;clear f0 f1 f2;obtain⟨f0,f1,f2⟩:=cr g6;have d5:W9.cell? ⟨F,1,none⟩=some (bg q)/\W9.cell? ⟨F,2,none⟩=some (ae E)/\W9.cell? ⟨F,3,none⟩=some (ae u):=⟨f0 1,f0 2,f0 3⟩;refine nB (S:=λV=>V.cell? ⟨F,1,none⟩=some (bg q)/\V.cell? ⟨F,2,none⟩=some (ae E)/\V.cell? ⟨F,3,none⟩=some (ae u)) (St:= [15,17,19]) ai ?_;rw[d4];clear g6 d4;refine aO (i:=0) (v:=.pointer (some ⟨F,1,none⟩)) rfl ai ai ai (λ_ _ _ h=>h) (Or.inl ⟨ai,λV _=>?_⟩) ?_
     .go_simp
     simp only[RG,QI,QF,QD,QL,QM];refine jA (i:=1) (v:= bg q) rfl ai ai ai ai (λ_ _ _ h=>h) (Or.inl ⟨ai,λV ⟨h1,h2,h3⟩=>?_⟩) d5 ?_
     .go_simp
     simp only[RG,QI,QF,QG,QD,QL,QM];refine aO (i:=2) (v:= bg q1) rfl ai ai ai (λ_ _ _ h=>h) (Or.inl ⟨ai,λV _=>?_⟩) ?_
     .go_simp
     simp only[RG,QI,QF,QG,QD,QL,QM];refine aO (i:=3) (v:=.pointer (some ⟨F,3,none⟩)) rfl ai ai ai (λ_ _ _ h=>h) (Or.inl ⟨ai,λV _=>?_⟩) ?_
     .go_simp
     simp only[RG,QI,QF,QG,QD,QL,QM];refine jA (i:=4) (v:= ae u) rfl ai ai ai ai (λ_ _ _ h=>h) (Or.inl ⟨ai,λV ⟨h1,h2,h3⟩=>?_⟩) d5 ?_
     .go_simp
     simp only[RG,QI,QF,QG,QD,QL,QM];refine aO (i:=5) (v:= ae y3) rfl ai ai ai (λ_ _ _ h=>h) (Or.inl ⟨ai,λV _=>?_⟩) ?_
     .go_simp
     simp only[RG,QI,QF,QG,QD,QL,QM];refine aO (i:=6) (v:= ae u1) rfl ai ai ai (λ_ _ _ h=>h) (Or.inl ⟨ai,λV _=>?_⟩) ?_
     .go_simp
     simp only[RG,QI,QF,QG,QD,QL,QM];refine aO (i:=7) (v:=.pointer (some ⟨F,2,none⟩)) rfl ai ai ai (λ_ _ _ h=>h) (Or.inl ⟨ai,λV _=>?_⟩) ?_
     .go_simp
     simp only[RG,QI,QF,QG,QD,QL,QM];refine jA (i:=8) (v:= ae E) rfl ai ai ai ai (λ_ _ _ h=>h) (Or.inl ⟨ai,λV ⟨h1,h2,h3⟩=>?_⟩) d5 ?_
     .go_simp
     simp only[RG,QI,QF,QG,QD,QL,QM];refine aO (i:=9) (v:= ae y3) rfl ai ai ai (λ_ _ _ h=>h) (Or.inl ⟨ai,λV _=>?_⟩) ?_
     .go_simp
     simp only[RG,QI,QF,QG,QD,QL,QM];refine aO (i:=10) (v:= ae m1) rfl ai ai ai (λ_ _ _ h=>h) (Or.inl ⟨ai,λV _=>?_⟩) ?_
     .go_simp
     simp only[RG,QI,QF,QG,QD,QL,QM];refine aO (i:=11) (v:=.slice (some ⟨b,o,none⟩) n X) rfl ai ai ai (λ_ _ _ h=>h) (Or.inl ⟨ai,λV _=>?_⟩) ?_
     .go_simp
     simp only[RG,QI,QF,QG,QD,QL,QM];refine aO (i:=14) (v:=.pointer (some ⟨F,1,none⟩)) rfl ai ai ai (λ_ _ _ h=>h) (Or.inl ⟨ai,λV _=>?_⟩) ?_
     .go_simp
     simp only[RG,QI,QF,QG,QD,QL,QM];refine gL (i:=12) ai rfl (λn9 l=>?_);rw[ao ai];have m:=ad l;clear l;go_simp;refine(b6 _).mono ?_;rintro e w2 ⟨rfl,rfl⟩;refine m _ _ (.inr λ_=>d5) ?_;clear m
     try simp only[RG,QI,QF,QG,QD,QL,QM]
     refine aO (i:=13) (v:= ae m2) rfl ai ai ai (λ_ _ _ h=>h) (Or.inl ⟨ai,λV _=>?_⟩) ?_
     .go_simp
     simp only[RG,QI,QF,QG,QD,QL,QM];refine gL (i:=15) ai rfl (λn9 l=>?_);rw[ao ai];have m:=ad l;clear l;go_simp;refine m _ _ (.inl rfl) ?_;clear m
     try simp only[RG,QI,QF,QG,QD,QL,QM]
     refine aO (i:=16) (v:=.pointer (some ⟨F,3,none⟩)) rfl ai ai ai (λ_ _ _ h=>h) (Or.inl ⟨ai,λV _=>?_⟩) ?_
     .go_simp
     simp only[RG,QI,QF,QG,QD,QL,QM];refine gL (i:=17) ai rfl (λn9 l=>?_);rw[ao ai];have m:=ad l;clear l;go_simp;refine m _ _ (.inl rfl) ?_;clear m
     try simp only[RG,QI,QF,QG,QD,QL,QM]
     refine aO (i:=18) (v:=.pointer (some ⟨F,2,none⟩)) rfl ai ai ai (λ_ _ _ h=>h) (Or.inl ⟨ai,λV _=>?_⟩) ?_
     .go_simp
     simp only[RG,QI,QF,QG,QD,QL,QM];refine gL (i:=19) ai rfl (λn9 l=>?_);rw[ao ai];have m:=ad l;clear l;go_simp;refine m _ _ (.inl rfl) ?_;clear m
     try simp only[RG,QI,QF,QG,QD,QL,QM]
     refine nA ai ?_ _;go_wp2;have o0:Out (λk=>k=F) C W9:=by rw[<-k9.2];exact((Out.refl (λk=>k=F) C).setCell (p:=⟨F,0,none⟩) (λ_=>rfl) _).drew
     obtain⟨b5,U⟩:=ah (((W9.setCell ⟨F,1,none⟩ (bg q1)).setCell ⟨F,3,none⟩ (ae u1)).setCell ⟨F,2,none⟩ (ae m2));have l0:Out (λk=>k=F) C b5:=by rw[<-U];exact((o0.setCell (p:=⟨F,1,none⟩) (λ_=>rfl) _).setCell (p:=⟨F,3,none⟩) (λ_=>rfl) _).setCell (p:=⟨F,2,none⟩) (λ_=>rfl) _
     have l1:b5.heap[F]?=some (al #[.slice j7 (K+1) j8,bg q1,ae m2,ae u1] 279):=by rw[<-U];exact heap_setCell_same _ F 2 _ 279 _ (heap_setCell_same _ F 3 _ 279 _ (heap_setCell_same W9 F 1 _ 279 _ k9.1))
     rw[U];clear U;have p7:=Z_ M.1;have l2:SC F wr b5:=by have h1:SC F wr wc:=z.2.2.1.mono aa;have h2:SC F wc C:=(k6.2.2.2.2.mono (TL (Z_ y.1))).trans (k6.2.2.2.1.mono aa);have h3:SC F C b5:=l0.below (λk _ e=>by have:k=F:=e;omega) (TL (Z_ k6.1));exact(h1.trans h2).trans h3
     have a6:=g8.1.room;have fe:=g8.2.2;have g4:=o2.1;have g7:=p6.out;have o3:=g3.out;have l3:(L++ [P]).length=K+1:=by rw[QU,d.1];rfl
     have A:bl (L++ [P])=u1:=by rw[iq,d.2.1];omega
     have b4:(t+u1)%N=m2:=by rw[<-g7.2.2.2,<-g7.2.2.1,<-d.2.2.1,Nat.mod_add_mod,UO,g7.2.1]
     have d3:sq+(K+1)=q1:=by have:=d.2.2.2.1;omega
     refine⟨⟨L++ [P],⟨R.lZ.snoc ?_,by rw[A];omega,R.dw.trans (l2.mono f.2.2.2.1),j7,j8,?_,?_⟩,f4.trans l2⟩,?_⟩
     .rw [d.1,d.2.1,d.2.2.1,d.2.2.2.1,g3.out];exact g8.1
     .rw [l3,A,b4,d3];exact l1
     .rw [l3];refine d8.out.out l0 (λk n8 e=>?_) λk b e g=>?_
      .have:=d8.out.low n8;have:k=F:=e;omega
      .rw [show k=F from e,k6.1]at g;cases g;exact⟨λh=>absurd h (by show(279:Nat)≠5;decide),λh=>absurd h (by show(279:Nat)≠206;decide)⟩
     .have g1:b5.cell? ⟨F,3,none⟩=some (ae u1):=(cr l1).1 3;have g2:wr.cell? ⟨F,3,none⟩=some (ae u):=(cr M.1).1 3;rw[g1,g2];simp only[Int.toNat_natCast];omega
  .have j1:¬(q:Int)<=4611686018427387904:=aa;have n1:QX (lQ S N ep t sq L):=λP l6=>by have:=l6.c.2.2;rw[d.1,d.2.2.2.1]at this;exact i7 this
   clear i7;go_wp2;refine QR (v:=.tuple #[.agg #[.slice a K c,bg q,ae E,ae u],aG 0]) (by rw[UE rfl];simp[go_sem, *]) rfl ?_;have j3:=R.end n1 f.2.2.2.1 (by rw[d.1,d.2.2.2.1];exact i6) (D:=D+1) (by rw[<-l4.2];omega) f.2.2.1.2 (a:=a) (c:=c) (by rw[d.1];exact c6) _ M.2.2 (.slice a K c) (bg q) (ae E) (ae u);rw[d.1,d.2.1,d.2.2.1,d.2.2.2.1]at j3;exact j3
end
def vX:List Nat:= [364,117]
def vI[Lo](p S:Nat)(f:aQ)(q:Nat)(b:Array QC)(w:M)(e:RW)(a:M):Prop:=
 aK e (.tuple #[])/\fK a p 128 f q/\a.heap[S]?=some (N b 117)/\Fr vX aF w a
theorem lR[Lo]{p S q o:Nat}(j:fK W p 128 f q)(i:Fr jY aF w W)(k:w.heap[S]?=some (N A 117))(l:Lo.lo<=S):
  fK (W.setCell (R S o) v) p 128 f q/\(W.setCell (R S o) v).heap[S]?=some (N (A.setIfInBounds o v) 117)/\Fr vX aF w (W.setCell (R S o) v):=by
 have a:=i.hp k rfl;obtain⟨g,c,m,b,d,n,h,r⟩:=j;have s:p≠S:=λe=>by rw[e,a]at b;cases b
 have t:g≠S:=λe=>by rw[e,a]at h;cases h
 exact⟨⟨g,c,m,(RP _ _ _ _ s).trans b,d,n,(RP _ _ _ _ t).trans h,r⟩,heap_setCell_same W S o _ 117 v a,(i.wide vX rfl).set (p:=R S o) a rfl l _⟩
theorem ER[Lo](n o i l p S q:Nat)(f:aQ)(r:Array QC)(x:QC)(W:QA)(s:xi n o)(A:r[o]?=some x)(B:fK W p 128 f q)(P:q+8<=128)(Q:∀k,k<128->f k<256)(m:W.heap[S]?=some (al r 117))(t:Lo.lo<=p)(u:Lo.lo<=S)(c:W.heap[i]?=some (al #[.func (.func 220) #[] #[]] 318))(d:W.heap[l]?=some (al #[.func (.func n) #[] #[]] 321)):
  aE 281 #[ar p,ar S,ar i,ar l] W (vI p S f (q+8) (r.setIfInBounds o (.int .u64 (dq (λj=>f (q+j)) 8:Nat))) W):=by
 have C:=ad (λD (T:au W D)=>sZ D p 128 q f (B.below T) t P aj Q);obtain⟨Z,f1,H⟩:=cr c;obtain⟨N,f2,M⟩:=cr d;have R:=s.1;have U:∀a w,(UN 220 a).run prog w=.ok (.enter 220 a) w:=λ_ _=>rfl;have V:=ad (λW=>s.2 S W);have I:¬i=S:=λe=>by rw[e,m]at c;cases c
 have Y:¬l=S:=λe=>by rw[e,m]at d;cases d
 have b:=bZ m A u c d;obtain⟨y,E⟩:=ah (dq (λj=>f (q+j)) 8);simp only[E]at C|-;clear m A B s c d E;go_enter func281,ntmps281;go_region_held3(λF=>F.cell? ⟨i,0,none⟩=some (.func (.func 220) #[] #[])/\F.cell? ⟨l,0,none⟩=some (.func (.func n) #[] #[])) ((simp[*,go_sem];done)) (first|(go_at_call 220;refine(C _ bF).mono ?_;rintro e z ⟨rfl,G,K⟩;have g:QX (fK z p 128 f (q+8)/\Fr jY aF W z):=⟨G,(Fr.af bF).tr K⟩;have h:=g.2.hp b.1 rfl;obtain⟨L,J,s3⟩:=cr h;have c3:z.cell? ⟨S,o,none⟩=some x:=(L o).trans b.2.1;have b3:=(cr (g.2.hp b.2.2.2.1 rfl)).1 0;have b4:=(cr (g.2.hp b.2.2.2.2 rfl)).1 0;clear G K h L)|(refine(V _).mono ?_;rintro e w4 ⟨rfl,rfl⟩));have O:=lR (o:=o) (v:= bg y) g.1 g.2 b.1 b.2.2.1;have X:=ad O;clear O;go_wp2;go_end0;exact⟨rfl,X⟩
theorem Km[Lo](n o i j p S q:Nat)(f:aQ)(r:Array QC)(x:QC)(W:QA)(s:xi n o)(B:r[o]?=some x)(C:fK W p 128 f q)(Q:q+1<=128)(D:∀k,k<128->f k<256)(l:W.heap[S]?=some (al r 117))(t:Lo.lo<=p)(u:Lo.lo<=S)(c:W.heap[i]?=some (al #[.func (.func 226) #[] #[]] 325))(d:W.heap[j]?=some (al #[.func (.func n) #[] #[]] 327)):
  aE 284 #[ar p,ar S,ar i,ar j] W (vI p S f (q+1) (r.setIfInBounds o (ae (f q:Nat))) W):=by
 have E:=ad (λF (m:au W F)=>xB F p 128 q f (C.below m) t Q aj D);obtain⟨X,f1,Z⟩:=cr c;obtain⟨H,f2,N⟩:=cr d;have M:=s.1;have T:∀a w,(UN 226 a).run prog w=.ok (.enter 226 a) w:=λ_ _=>rfl;have U:=ad (λW=>s.2 S W);have R:¬i=S:=λe=>by rw[e,l]at c;cases c
 have I:¬j=S:=λe=>by rw[e,l]at d;cases d
 have b:=bZ l B u c d;have m:=D q aa;obtain⟨y,z⟩:=ah (f q);simp only[z]at E|-;rw[z]at m;have Y:QK.wrap ((y:Nat):Int)=(y:Nat):=bj;clear l B C s c d z m;go_enter func284,ntmps284;go_region_held3(λG=>G.cell? ⟨i,0,none⟩=some (.func (.func 226) #[] #[])/\G.cell? ⟨j,0,none⟩=some (.func (.func n) #[] #[])) ((simp[*,go_sem];done)) (first|(go_at_call 226;refine(E _ bF).mono ?_;rintro e A ⟨rfl,K,L⟩;have g:QX (fK A p 128 f (q+1)/\Fr jY aF W A):=⟨K,(Fr.af bF).tr L⟩;have h:=g.2.hp b.1 rfl;obtain⟨O,J,s3⟩:=cr h;have c3:A.cell? ⟨S,o,none⟩=some x:=(O o).trans b.2.1;have b3:=(cr (g.2.hp b.2.2.2.1 rfl)).1 0;have b4:=(cr (g.2.hp b.2.2.2.2 rfl)).1 0;clear K L h O)|(refine(U _).mono ?_;rintro e w4 ⟨rfl,rfl⟩));have P:=lR (o:=o) (v:= ae y) g.1 g.2 b.1 b.2.2.1;have V:=ad P;clear P;go_wp2;go_end0;exact⟨rfl,V⟩
theorem ES[Lo](r o i l p S q:Nat)(f:aQ)(s:Array QC)(x:QC)(W:QA)(t:xi r o)(C:s[o]?=some x)(D:fK W p 128 f q)(T:q+2<=128)(E:∀k,k<128->f k<256)(m:W.heap[S]?=some (al s 117))(u:Lo.lo<=p)(z:Lo.lo<=S)(c:W.heap[i]?=some (al #[.func (.func 235) #[] #[]] 332))(d:W.heap[l]?=some (al #[.func (.func r) #[] #[]] 327)):
  aE 286 #[ar p,ar S,ar i,ar l] W (vI p S f (q+2) (s.setIfInBounds o (ae (dq (λj=>f (q+j)) 2:Nat))) W):=by
 have F:=ad (λG (n:au W G)=>Hf G p 128 q f (D.below n) u T aj E);obtain⟨Z,f1,H⟩:=cr c;obtain⟨N,f2,M⟩:=cr d;have R:=t.1;have U:∀a w,(UN 235 a).run prog w=.ok (.enter 235 a) w:=λ_ _=>rfl;have V:=ad (λW=>t.2 S W);have I:¬i=S:=λe=>by rw[e,m]at c;cases c
 have Y:¬l=S:=λe=>by rw[e,m]at d;cases d
 have b:=bZ m C z c d;have n:dq (λj=>f (q+j)) 2<256^2:=gF λj J=>E _ aa;obtain⟨y,A⟩:=ah (dq (λj=>f (q+j)) 2);simp only[A]at F|-;rw[A]at n;have e1:QK.wrap ((y:Nat):Int)=(y:Nat):=bj;clear m C D t c d A n;go_enter func286,ntmps286;go_region_held3(λK=>K.cell? ⟨i,0,none⟩=some (.func (.func 235) #[] #[])/\K.cell? ⟨l,0,none⟩=some (.func (.func r) #[] #[])) ((simp[*,go_sem];done)) (first|(go_at_call 235;refine(F _ bF).mono ?_;rintro e B ⟨rfl,L,O⟩;have g:QX (fK B p 128 f (q+2)/\Fr jY aF W B):=⟨L,(Fr.af bF).tr O⟩;have h:=g.2.hp b.1 rfl;obtain⟨P,s2,s3⟩:=cr h;have c3:B.cell? ⟨S,o,none⟩=some x:=(P o).trans b.2.1;have b3:=(cr (g.2.hp b.2.2.2.1 rfl)).1 0;have b4:=(cr (g.2.hp b.2.2.2.2 rfl)).1 0;clear L O h P)|(refine(V _).mono ?_;rintro e w4 ⟨rfl,rfl⟩));have Q:=lR (o:=o) (v:= ae y) g.1 g.2 b.1 b.2.2.1;have X:=ad Q;clear Q;go_wp2;go_end0;exact⟨rfl,X⟩
theorem ET[Lo](p S:Nat)(f:aQ)(g:Array QC)(W:M)(k:fK W p 128 f 0)(l:a_ W S (N g 117))(b:Lo.lo<=p):
  aE 216 #[H p,H S] W (vI p S f 8 g W):=by
 have m:=I (pj W);have n:=I (λh (c:au W h)=>y_ h p 128 0 8 f (k.below c) b aj aj aj);have o:=I l;go_enter func216,ntmps216;go_wp2_with(first|(go_at_call 215;refine m.mono ?_;rintro e t ⟨⟨v,rfl,a,q,rfl,-⟩,c⟩;have i:=I c)|(go_at_call 217;refine(n _ i).mono ?_;rintro e j ⟨⟨v,rfl⟩,r,s⟩;have d:QX (fK j p 128 f 8/\Fr jY aF W j):=⟨r,(Fr.af i).tr s⟩));go_end0;exact⟨rfl,d.1,d.2.hp o rfl,d.2.wide vX rfl⟩
theorem Hm[Lo](p S q:Nat)(c a:Bool)(f:aQ)(g:Array QC)(s t:QC)(W:M)(z:f q=(if c=true then 1 else 0)+(if a=true then 2 else 0))(h:g[8]?=some s)(i:g[9]?=some t)(A:fK W p 128 f q)(B:q+1<=128)(C:∀k,k<128->f k<256)(D:a_ W S (N g 117))(j:Lo.lo<=p)(l:Lo.lo<=S):
  aE 232 #[H p,H S] W (vI p S f (q+1) ((g.setIfInBounds 8 (.bool c)).setIfInBounds 9 (.bool a)) W):=by
 have u:=I (xB W p 128 q f A j B aj C);rw[z]at u;have d:=aT D h i l;have m:∀b,fK b p 128 f (q+1)->Fr jY aF W b->vI p S f (q+1) ((g.setIfInBounds 8 (.bool c)).setIfInBounds 9 (.bool a)) W (.returned (.tuple #[])) ((b.setCell (R S 8) (.bool c)).setCell (R S 9) (.bool a)):=λb E F=>by obtain⟨G,K,L⟩:=lR (o:=8) (v:=.bool c) E F d.1 d.2.2.2;obtain⟨O,P,Q⟩:=lR (o:=9) (v:=.bool a) G (Fr.refl jY aF _) K d.2.2.2;exact⟨rfl,O,P,L.tr Q⟩
 have n:=I m;cases c<;>cases a
 all_goals
  go_enter func232,ntmps232;go_wp2_with(first|(go_at_call 226;refine u.mono ?_;rintro e b ⟨rfl,T,w⟩;have x:=aB T w;have r:=w.hp d.1 rfl;obtain⟨y,U,V⟩:=cr r;have X:b.cell? (R S 8)=some s:=(y 8).trans d.2.1;have Z:b.cell? (R S 9)=some t:=(y 9).trans d.2.2.1));go_end0;exact n _ x.1 x.2
theorem A'(x:Nat)(w:M):aE 288 #[bx x] w λe a=>aK e (.bool (decide (x≠0)))/\w=a:=by
 by_cases h:x=0
 .subst h;go_enter func288,ntmps288;go_wp2;go_ret;exact⟨rfl,rfl⟩
 .have b:¬(x:Int)=0:=J;go_enter func288,ntmps288;go_wp2;go_ret;exact⟨by simp[h],rfl⟩
theorem xM(g o n c:Nat)(w:M)(m:n<=1000)(h:∀k,k<n->w.cell? ⟨g,o+k,none⟩=some (.int .u8 0)):
  aE 287 #[.slice (some (R g o)) n c,.func (.func 288) #[] #[]] w λe i=>aK e (Y (-1))/\w=i:=by
 have j:=I h;have p:∀a w,(UN 288 a).run prog w=.ok (.enter 288 a) w:=λ_ _=>rfl;go_enter func287,ntmps287;go_wp2_with fail;go_loopw [5,8] (λq d wr=>∃k:Nat,k<=n/\d= Y k/\wr=w) (λ_ d _=>n-(intOf d).toNat)
 case atStart=>exact⟨0,QN _,rfl,rfl⟩
 case round=>
  obtain⟨k,r,rfl,f⟩:=hrel;subst f;by_cases b:k<n
  .have s:(k:Int)<(n:Int):=J;have t:(0:Int)<=(k:Int):=J;have u:=j.out k b;have l:=I (A' 0 wr);go_wp2_with(first|(refine l.mono ?_;rintro e v ⟨rfl,rfl⟩));exact⟨⟨k+1,b,by go_num,by first|rfl|trivial⟩,by first|(simp[intOf];done)|(simp[intOf];omega)⟩
  .obtain rfl:k=n:=J;go_wp2_with fail;go_ret;exact⟨rfl,rfl⟩
theorem xN[Lo](w:M)(p n q k:Nat)(f:aQ)(h:fK w p n f q)(u:Lo.lo<=p)(v:1<=k)(l:k<=1000)(x:q+k<=n)(y:n<=1000000)(z:∀j,j<k->f (q+j)=0):aE 241 #[H p,Y k] w λe o=>aK e (.tuple #[])/\fK o p n f (q+k)/\Fr jY aF w o:=by have A:=I (sX w p n q k f h v x y);have B:=I (λW (a:au w W) g c (b:Array QC) d (i:a_ w g (.cells b 5 d)) (m:∀k,k<n->b[k]?=some (.int .u8 (f k)))=>xM g q k (c-q) W l (λj C=>((QT W g _ b 5 d ((a.block _ (Z_ i)).trans i)).trans (m _ J)).trans (by rw[z j C];rfl)));have r:=aB h u;have O:QK.wrap ((q:Int)+k)=((q+k:Nat):Int):=bj;go_enter func241,ntmps241;go_wp2_with(first|(go_at_call 279;refine A.mono ?_;rintro e D ⟨⟨g,c,P,rfl,b,d,i,m⟩,a⟩;have E:=I (B D a g c b d i m);have s:=I (r.1.below a);have t:=I (λF=>Fr.reader s F r.2);have G:=I a;obtain⟨Q,S,-,K,-⟩:=id s;obtain⟨T,U,V⟩:=cr K)|(go_at_call 287;refine E.mono ?_;rintro e X ⟨rfl,L⟩;subst L));go_end0;exact⟨rfl,(t _).1,(Fr.af G).tr (t _).2⟩
theorem xO[Lo](p S q:Nat)(f:aQ)(c:Array QC)(W:M)(d:∀j,j<2->f (q+j)=0)(g:fK W p 128 f q)(h:q+2<=128)(i:a_ W S (N c 117))(a:Lo.lo<=p):
  aE 240 #[H p,H S] W (vI p S f (q+2) c W):=by
 have k:=I (xN W p 128 q 2 f g a aj aj h aj d);have l:=I i;go_enter func240,ntmps240;go_wp2_with(first|(go_at_call 241;refine k.mono ?_;rintro e o ⟨rfl,m,n⟩;have b:=aB m n));go_end0;exact⟨rfl,b.1,b.2.hp l rfl,b.2.wide vX rfl⟩
theorem fK.fr[Lo](h:fK w m n f k)(a:Fr T aF w W)(b:T.contains 364=false)(d:T.contains 5=false):fK W m n f k:=by obtain⟨g,c,e,i,j,l,o,p⟩:=h;exact⟨g,c,e,a.hp i b,j,l,a.hp o d,p⟩
theorem nF.Om[Lo](e:nF i W v n m x w)(f:W.ownsRow j t r v n L)(s:Lo.lo<=j)(_:t<1000000):Fr [t] aF W w:=by
 have b:=e.out (S:=λk=>v.ownBlock=some k) (Out.refl _ _) λ_ h _=>h;refine⟨b.os,b.tape,b.output,b.size,λk o c d _=>b.heap c λa=>?_⟩;rcases f.2 with⟨rfl,_⟩|⟨g,l,p,rfl,y,q,_⟩
 .cases a
 .cases a;rw[q]at c;obtain rfl:=RK c;rcases d with h|h
  .exact absurd (show[t].contains t=false from h) aJ
  .have z:g<Lo.lo:=h;omega
structure MP[Lo](p S q:Nat)(f st:aQ)(cs:Array QC)(W:M)(k:Nat)(wr:M)(v:QC):Prop where
 rd:fK wr p 128 f (q+k)
 aL:wr.heap[S]? =some (N (cs.setIfInBounds 10 v) 117)
 own:wr.ownsRow W.heap.size 122 1 v k (bP k fun j=> .int .u8 (st j:Nat))
 bV:Fr vX aF W wr
theorem Ba[Lo](p S q M:Nat)(f m:aQ)(D E F G K L O P Q d:QC)(W:QA)(c5:M<=16)(I:∀j,j<M->f (q+j)=m j)(b5:fK W p 128 f q)(b6:q+M<=128)(b7:∀k,k<128->f k<256)(b1:W.heap[S]?=some (al #[D,E,F,G,ae M,K,L,O,P,Q,aW,d] 117))(Y:Lo.lo<=p)(J:Lo.lo<=S):
  aE 243 #[ar p,ar S] W λe r=>aK e (.tuple #[])/\∃v,MP p S q f m #[D,E,F,G,ae M,K,L,O,P,Q,aW,d] W M r v:=by
 obtain⟨b8,b9,a0,a1,a2⟩:=SD ox;have b2:min (M:Int) 16=(M:Int):=aa;have H0:QX (MP p S q f m #[D,E,F,G,ae M,K,L,O,P,Q,aW,d] W 0 W aW):=⟨b5,b1,SJ _ _ _ _,Fr.refl _ _ _⟩;obtain⟨s0,s1,s2⟩:=cr b1;have n:=eM b7 I Y J b6 s2;go_enter func243,ntmps243;go_wp2_with fail;go_loopw [10] (λz wr=>∃(k:Nat) (v:QC),k<=M/\z= ae k/\QX (MP p S q f m #[D,E,F,G,ae M,K,L,O,P,Q,aW,d] W k wr v)) (λz _=>M-(intOf z).toNat)
 case atStart=>exact⟨0,_,QN _,rfl,H0⟩
 case round=>
  obtain⟨k,v,b3,rfl,s⟩:=hrel;by_cases T:k<M
  .have j1:(k:Int)<(M:Int):=aa;obtain⟨N,R,rfl,-⟩:=av s.own;have a3:=n.2.1 k T;have a4:=ad (λW1 (c0:au wr W1)=>xB W1 p 128 (q+k) f (s.rd.below c0) n.2.2.1 (by have:=n.2.2.2.2.1;omega) aj n.1);rw[a3]at a4;have a5:(RU N k R).ownBlock≠some S:=λe=>by have:=(s.own.lt S e).1;have:=n.2.2.2.2.2;omega
   have w:=s.aL;obtain⟨t0,t1,t2⟩:=cr w;have U:=aM w a5 T;obtain⟨y,b4⟩:=ah (m k);simp only[b4]at a4;have c1:=ad b4;go_wp2_with fail
   go_region_law (first|(refine dc _ rfl (.tmp 16) (.tmp 19) 115 rfl W.heap.size 122 b8 (.int .u8 0) 1 1 underlying115 b9 a0 a1 a2 rfl aj (.slice N k R) k (bP k λj=>.int .u8 (m j:Nat)) (by simp[VU]) A (ag x.heap.size 0) 1 1 [bx y] (by simp[VU]) rfl (RY (cs:= #[bx y]) (t:=122) (fr:=(0,0)) (QB x _)) (by intro u c2;rw[SP.1 c2];rfl) aa (by unfold UI;omega) aa V ?_;intro c6 r a b;obtain⟨i,l,rfl,-⟩:=av a;obtain⟨c7,c8,c9⟩:=cr (b.heap X U.2.1))|(go_simp;go_at_call 226;refine(a4 _ bF).mono ?_;rintro e x ⟨rfl,q1,q2⟩;have Z:QX (fK x p 128 f (q+k+1)/\Fr jY aF wr x):=⟨q1,(Fr.af bF).tr q2⟩;have A:QX ((x.alloc (al #[bx y] 122)).ownsRow W.heap.size 122 1 (.slice N k R) k (bP k λj=>.int .u8 (m j:Nat))):=(Z.2.own s.own rfl λ_ _ h=>h).alloc _;have V:QX (W.heap.size<=(x.alloc (al #[bx y] 122)).heap.size):=(by show _<=_;rw[SS];have:=s.bV.size;have:=Z.2.size;omega);have C:=ad (Z.2.hp U.1 rfl);have X:QX ((x.alloc (al #[bx y] 122)).heap[S]?=some (al (#[D,E,F,G,ae M,K,L,O,P,Q,aW,d].setIfInBounds 10 (.slice N k R)) 117)):=(QW _ _ _ (Z_ C)).trans C;obtain⟨r0,r1,r2⟩:=cr C))
   all_goals
    have a6:Lo.lo<=W.heap.size:=QE n.2.2.2.1 (TL n.2.2.2.2.2);have a7:=b.Om A a6 aj;have a8:=b.below (B:=W.heap.size) ak V λk b3=>(A.lt k b3).1;have o:=b.heap X U.2.1;have c3:=heap_setCell_same r S 10 _ 117 (.slice i (k+1) l) o;have a9:(RU i (k+1) l).ownBlock≠some S:=λe=>by have:=(a.lt S e).1;have:=n.2.2.2.2.2;omega
    have H:(bP k λj=>SK .u8 (m j:Nat))++ [bx y] =bP (k+1) λj=>.int .u8 (m j:Nat):=by unfold bP;rw[UK,SH,<-c1.out];rfl
    rw[H]at a;have h1:fK r p 128 f (q+k+1):=(Z.1.below (aI ak _)).fr a7 rfl rfl;have h2:Fr vX aF W (x.alloc (al #[bx y] 122)):=(s.bV.tr (Z.2.wide vX rfl)).alloc _;have h3:Fr vX aF W r:=h2.low a8 (QH _);have h4:Fr vX aF W (r.setCell (ag S 10) (.slice i (k+1) l)):=h3.set (p:=ag S 10) o rfl n.2.2.2.1 _;have h5:fK (r.setCell (ag S 10) (.slice i (k+1) l)) p 128 f (q+(k+1)):=by
     obtain⟨g,c,g1,g2,b0,fr,g3,g4⟩:=h1;have e1:p≠S:=λe=>by rw[e,o]at g2;cases g2
     have e2:g≠S:=λe=>by rw[e,o]at g3;cases g3
     exact⟨g,c,g1,(RP _ _ _ _ e1).trans g2,b0,fr,(RP _ _ _ _ e2).trans g3,g4⟩
    have c4:QX (MP p S q f m #[D,E,F,G,ae M,K,L,O,P,Q,aW,d] W (k+1) (r.setCell (ag S 10) (.slice i (k+1) l)) (.slice i (k+1) l)):=⟨h5,by rw[c3];rfl,XS a a9 _,h4⟩;go_wp2_with fail;exact⟨⟨k+1,_,U.2.2,by go_num,c4⟩,by have:=U.2.2;first|(simp[intOf];done)|(simp[intOf];omega)⟩
  .obtain rfl:k=M:=aa;go_wp2_with fail;go_end0;exact⟨rfl,_,s⟩
structure KS(b:By)(k:Nat)(v:Dv):Prop where
 slot:k<b.N
 dv:b.dv k=some v
 mK:v.fN=false/\v.d.failed=false
 lit:b.br=false/\b.aZ=none
theorem KS.rd(h:KS b k U):b.op k bT=(b,0):=by
 obtain⟨o,i,a,c⟩:=b;obtain⟨p,d,⟨l,m⟩,f,g⟩:=h;simp only at d f g;subst f;subst g;have n:U.use=U:=Dv.hK l;simp only[By.op,By.out,d,n,bT,m,By.tick,By.put];simp;funext j;by_cases e:j=k
 .subst e;simp[d]
 .simp [e]
theorem pO[Lo](B k d:Nat)(b:By)(v:Dv)(w:M)(h:aC w B b)(f:KS b k v)(r:d<v.d.n):
  aE 185 #[H B,Y k,Y d] w λe j=>(∃l,aK e (.tuple #[l,aG 0])/\dT j l (v.d.view d))/\aC j B b/\Fr TB aF w j:=by
 refine(mo B k d b w h f.slot λu i=>by rw[f.dv]at i;cases i;exact r).mono ?_;rintro e j ⟨a,n,c,rfl,m,s,p⟩;rw[f.rd]at m p|-;obtain⟨u,i,E,q,t⟩:=p rfl;rw[f.dv]at i;cases i;rw[Dv.hK f.mK.1]at q;obtain⟨F,G,x,y⟩:=q;cases x;obtain⟨g,o,z,A,rfl,C,D⟩:=y.resolve_left aj;exact⟨⟨_,rfl,g,o,c,z,A,rfl,t,C,D⟩,m,s⟩
theorem Bb(v:QC)(f:aQ)(a b t:Nat)(w:M)(h:dT w v f)(l:∀k,k<128->f k<256)(c:(⟨a,b,t⟩:Ck).ok)(g:aD f (aX a b t)):
  aE 193 #[v] w λe i=>aK e (.tuple #[.agg #[bg a,bg b,Y t],aG 0])/\au w i:=by
 refine(Ke v f w h l).mono ?_;rintro e i ⟨p,k,rfl,m,⟨rfl,d,n⟩|⟨_,d⟩⟩
 .have o:=Ck.cG d n;have j:=Ck.cG c (show aD f (Ck.enc ⟨a,b,t⟩)from g);rw[o]at j;subst j;exact⟨rfl,m⟩
 .exact absurd g (d ⟨a,b,t⟩ c)
theorem xP(N:Nat)(S:dp)(p:Nat)(h:p*128=N):(aA N λj=>S (j/128) (j%128))++aA 128 (S p)=aA (N+128) λj=>S (j/128) (j%128):=by
 apply TN;intro j;by_cases a:j<N
 .rw [RD (by rw[aH];exact a),ba _ _ _ a,ba _ _ _ J]
 .by_cases b:j<N+128
  .rw [QZ (by rw[aH];omega),aH,ba _ _ _ J,ba _ _ _ b,show j/128=p by omega,show j%128=j-N by omega]
  .rw [RE (by rw[QU,aH,aH];omega),RE (by rw[aH];omega)]
def EU[Lo](B J:Nat)(b:By)(S:dp)(N g t d:Nat)(w:M)(e:RW)(f:M):Prop:=
 ∃W r a c L,aK e (.tuple #[H W,.slice a L.length c,aG 0])/\pL S N g t d L/\lQ S N g t d L/\bl L<=N/\mT w.heap.size f (.slice a L.length c) d (L.map λP=>bM P P.N)/\
  aC f B b/\bH f W r B J ⟨g,d+L.length,true,none,0,N,t,bl L⟩/\Fr TB aF w f/\w.heap.size<=W/\w.heap.size<=r
structure Mm[Lo](B:Nat)(b:By)(S:dp)(w w3:M)(p:Nat)(v:QC)(wr:M):Prop where
 own:wr.ownsRow w3.heap.size 5 1 v (p*128) (aA (p*128) fun j=>S (j/128) (j%128))
 cj:aC wr B b
 bV:Fr TB aF w3 wr
theorem Hn[Lo](d7:kR)(B J N r E t:Nat)(b:By)(v:Dv)(S:dp)(w:QA)(h:aC w B b)(h0:KS b J v)(d8:5<=N)(X:N<=2048)(a3:2+N<=v.d.n)(Z:v.d.eG)(H:cJ r E)(g4:t<N)(g7:aD (v.d.view 1) (aX r E t))(d9:∀k,k<N->S k=v.d.view (2+k)):
  aE 129 #[ar B,ae J,ae N] w (EU B J b S N r t E w):=by
 have a4:=h.lo;have a6:=h.lt;have e0:=ad (λW=>uj N W d8 X);have a7:=ad (λa8 (h8:a8<v.d.n) W (h9:aC W B b)=>pO B J a8 b v W h9 h0 h8);have e1:=ad (λd4 W (i0:dT W d4 (v.d.view 1))=>Bb d4 _ r E t W i0 (λk a9=>Dk.lH Z 1 k a9) ⟨H,show t<2048 by omega⟩ g7);have e2:=ad (λu W (i1:u<=N)=>uh N t u W d8 X g4 i1);have F:=j_ a4 a6 a3 Z H g4 d9;have i2:=ad h;have e3:decide ((N:Int)<=(t:Int))=false:=decide_eq_false aa;have i3:decide (N<=t)=false:=decide_eq_false aa;obtain⟨i4,e4,e6,e7,e8⟩:=SD kb;clear h a4 a6 a3 H g7;go_enter func129,ntmps129;go_wp2_with(first|(go_at_call 83;refine(e0 _).mono ?_;rintro e w1 ⟨rfl,rfl⟩)|(go_at_call 185;refine(a7 1 (by have:=F.2.2.1;omega) w i2).mono ?_;rintro e w2 ⟨⟨d4,rfl,b0⟩,G,b1⟩;have H2:=aM b0 G b1;clear b0 G b1)|(go_at_call 193;refine(e1 d4 w2 H2.1).mono ?_;rintro e w3 ⟨rfl,b2⟩;have H3:=ad b2;clear b2));obtain⟨s,x⟩:=ah (w3.alloc (al #[bg r,bg E,ae t] 156));have M:au w2 s:=by rw[<-x];exact aI H3 _
 have R:a_ s w3.heap.size (al #[bg r,bg E,ae t] 156):=by rw[<-x];exact QB _ _
 obtain⟨C,d5⟩:=ah w3.heap.size;rw[d5]at R;have b3:Fr TB aF w s:=H2.2.2.then M;have H4:=bZ x d5 R b3 (show w.heap.size<=C by rw[<-d5];exact QE H2.2.2.size H3.size);have e9:QX (Mm B b S w s 0 aW s):=⟨by rw[VV];exact SJ _ _ _ _,H2.2.1.below M,Fr.refl _ _ _⟩;clear x M R d5 b3;rw[H4.1,H4.2.1];go_loopw [12,44] (λa i wr=>∃p:Nat,i= ae p/\p<=N/\QX (Mm B b S w s p a wr)) (λ_ i _=>N-(intOf i).toNat)
 case atStart=>exact⟨0,rfl,QN _,e9⟩
 case round=>
  rename_i i5 i6;obtain⟨p,rfl,j2,K⟩:=hrel;have c:=K.own;obtain⟨g8,b4,rfl,-⟩:=av c;have o:=K.bV.hp H4.2.2.1 rfl;by_cases q:p<N
  .have i7:(p:Int)<(N:Int):=aa;obtain⟨Q,f0⟩:=ah (p*128);obtain⟨P2,I⟩:=ah (2+p);have e5:QK.wrap (2+(p:Int))=(P2:Int):=bj;have b6:=ad (a7 P2 (by have:=F.2.2.1;omega) wr K.cj);rw[<-I,<-d9 p q,I]at b6;have d6:=aM f0 q o;have i8:Q<=262144:=aa;rw[f0];clear c o f0 I q;go_wp2_with(first
    |(go_at_call 185;refine b6.mono ?_;rintro e d ⟨⟨i9,rfl,b7⟩,O,y⟩
      obtain⟨b5,o5,c5,f1,f2,rfl,j0,f,b8⟩:=b7;have f3:QX (∀j u,(aA 128 (S p))[j]?=some u->d.cell? (((ag b5 o5):SZ).add j)=some u):=λj u Y=>by
       by_cases b9:j<128
       .rw [ba _ _ _ b9]at Y;rw[iK,<-Y];exact(QT d b5 (o5+j) f1 5 f2 f).trans (b8 j b9)
       .rw [RE (by rw[aH];omega)]at Y;cases Y
      have g:=y.own K.own rfl λ_ _ h=>h;rw[d6.1]at g;have m:=aM g O y;have c3:s.heap.size<=d.heap.size:=QE K.bV.size y.size;clear g O y f b8)
    |(at_builtin;refine aU _ rfl _ _ 41 rfl s.heap.size 5 i4 (.int .u8 0) 1 1 UL e4 e6 e7 e8 rfl aj (.slice g8 Q b4) Q _ rfl m.1 (ag b5 o5) 128 _ (aA 128 (S p)) rfl (by rw[aH]) f3 (dg _ _) aj (by unfold UI;omega) aa c3 ?_;intro j3 w6 c P;obtain⟨j4,j1,rfl,-⟩:=av c;have f4:=aB c P;clear c P))
   have f5:Lo.lo<=s.heap.size:=QE (QE F.1 (TL F.2.1)) H4.2.2.2.1.size;have f6:SC s.heap.size d w6:=f4.2.below ak c3 λk a9=>(bo m.1 a9).2;have f7:=d6.2.1;refine⟨⟨p+1,by go_num,f7,⟨?_,m.2.1.fn (f4.2.Om m.1 f5 aj) rfl,(K.bV.tr m.2.2).low f6 (QH _)⟩⟩,by simp[intOf];omega⟩;rw[show(p+1)*128=Q+128 by have:=d6.1;omega,<-xP Q S p d6.1];exact f4.1
  .obtain rfl:p=N:=aa;obtain⟨g5,rfl⟩:∃g5,g8=some (ag g5 0):=by rcases av c with⟨j5,j6,e,h⟩;cases e;exact h.resolve_left aa
   have U:∀k,k<p->dT wr (.slice (some ⟨g5,0+k*128,none⟩) 128 (b4-k*128)) (S k)/\∀j,j<128->S k j<256:=λk a9=>by
    refine⟨?_,λj Y=>by rw[d9 k a9];exact Dk.lH Z _ _ Y⟩;rcases c.2 with⟨h,_⟩|⟨g6,c6,c4,e,h1,h2,h3,h4,h5,h6⟩
    .cases h
    .cases e;refine⟨g5,0+k*128,b4-k*128,c4,_,rfl,aa,h2,λj Y=>?_⟩;have h7:=congrArg (λl:List QC=>l[k*128+j]?) h6;simp only[TH]at h7;rw[ao aa,ba _ _ _ aa,show(k*128+j)/128=k by omega,show(k*128+j)%128=j by omega]at h7;rw[RH,<-TX];exact h7
   have V:p*128<=b4:=by
    rcases c.2 with⟨h,_⟩|⟨g6,c6,c4,e,h1,h2,h3,_⟩
    .cases h
    .cases e;omega
   have c7:=ad (Hl d7 g5 0 b4 p t r E S wr d8 X F.2.2.2.2.2.1 V F.2.2.2.2.1 U);have f8:=aM o K.cj K.bV;obtain⟨n,a3⟩:=ah (p*128);rw[a3]at c7|-;obtain⟨c0,c1,c2⟩:=cr o;clear U V c o a3;go_wp2_with(first|(go_at_call 194;refine c7.mono ?_;rintro e d ⟨f,L,j7,q1,q2,q3,⟨a5,c5,rfl⟩,rfl,q4⟩;have m:=bZ f q1 q2 q3 q4;obtain⟨k0,k1,k2⟩:=kp f C c2;obtain⟨q8,a0⟩:=ah (E+L.length);obtain⟨m8,c8⟩:=ah ((t+bl L)%p);obtain⟨u8,z⟩:=ah (bl L);obtain⟨l8,a1⟩:=ah L.length;have H8:=aM a0 z a1;rw[a0,c8,z,a1];rw[z]at q3;clear a0 c8 z a1 f q1 q2 q4)|(go_at_call 84;refine(e2 u8 _ q3).mono ?_;rintro e w7 ⟨rfl,c9,A⟩;obtain⟨k3,k4,k5⟩:=kp A C dJ;have h7:=(A.block _ dJ).trans (QB d (al #[.slice a5 l8 c5,bg q8,ae m8,ae u8] 279));obtain⟨k6,k7,k8⟩:=cr h7;have H7:=aM c9 A h7;clear c9 A h7));go_region_held3(λf9=>f9.cell? (ag C 0)=some (bg r)/\f9.cell? (ag d.heap.size 1)=some (bg q8)/\f9.cell? (ag d.heap.size 0)=some (.slice a5 l8 c5)) ((simp[*,go_sem];done)) (first|fail)
   all_goals go_wp2
   have g0:(d.alloc (al #[.slice a5 l8 c5,bg q8,ae m8,ae u8] 279)).heap.size=d.heap.size+1:=aJ;have g9:=H7.1;rw[g0]at g9;have g1:au d (d.alloc (al #[.slice a5 l8 c5,bg q8,ae m8,ae u8] 279)):=aI ak _;obtain⟨W9,a2⟩:=ah ((w7.alloc (al #[ar B,ae J,bg r,.pointer (some ⟨d.heap.size+1,0,none⟩),bg q8,.bool true,.pointer none,aG 0] 153)).drew);have d0:au w7 W9:=by rw[<-a2];exact aV (aI ak _)
   have g2:a_ W9 w7.heap.size (al #[ar B,ae J,bg r,.pointer (some ⟨d.heap.size+1,0,none⟩),bg q8,.bool true,.pointer none,aG 0] 153):=by rw[<-a2];exact QB w7 _
   have D:au d w7:=g1.trans (H7.2.1.mono aJ);have d1:au d W9:=D.trans (d0.mono D.size);have d2:au wr W9:=m.1.trans (d1.mono m.1.size);have d3:w.heap.size<=wr.heap.size:=QE H4.2.2.2.1.size f8.2.2.size;have g:w.heap.size<=d.heap.size:=QE d3 m.1.size;have g3:=QE F.1 (TL F.2.1);rw[a2];go_ret3;refine⟨w7.heap.size,d.heap.size+1,a5,c5,L,by rw[H8.2.2];rfl,m.2.1,m.2.2.1,m.2.2.2.1,(m.2.2.2.2.wide d3).below d1,f8.2.1.below d2,⟨none,?_,?_,rfl,?_⟩,(H4.2.2.2.1.tr f8.2.2).then d2,QE g D.size,aa⟩
   .rw [H8.1];exact g2
   .rw [H8.2.1];exact g9.fr (T:= []) (Fr.af d0) rfl
   .exact ⟨QE (QE g3 g) D.size,aa⟩
abbrev qw(g:az)(u:Su)(a:QC):Array QC:= #[.bool true,bg u.id,bg u.ev,bg u.sf,Y u.rl,Y g.M,Y g.c,Y g.s,Y u.N,.bool u.lz,.bool u.lost,a,Y u.cur]
abbrev nP:Array QC:= #[.bool false,.int .u64 0,.int .u64 0,.int .u64 0,Y 0,Y 0,Y 0,Y 0,Y 0,.bool false,.bool false,aW,Y 0]
def Su.sl(u:Su)(k:Nat):Su:={u with rl:=k}
structure mU(w:QA)(b cap:Nat)(g:az)(u:Su)(hs:Nat->Bool):Prop where
 cap:g.M+1<=cap
 aL:∃cs fr,w.heap[b]? =some (.cells cs 265 fr)/\∀k,k<=g.M->∃sv,(hs k=true->kj w sv g.M u.st)/\∀(j:Nat) (x:QC),(if hs k=true then qw g (u.sl k) sv else nP)[j]? =some x->cs[k*13+j]? =some x
theorem mU.below{a:Nat->Bool}(h:mU w n m g u a)(b:au w W):mU W n m g u a:=by obtain⟨d,f,i,c,j⟩:=h;refine⟨d,f,i,(b.block n (Z_ c)).trans c,λk l=>?_⟩;obtain⟨o,p,q⟩:=j k l;exact⟨o,λe=>(p e).below b,q⟩
theorem Su.Iy(h:u.ok g)(a:k<=g.M):(u.sl k).ok g:=⟨h.b_,h.id,h.ev,a,h.ring,h.st,h.one,h.cur⟩
theorem tf{d e f g x4 i k l o p a b c:QC}(h:∀(j:Nat) (x:QC),(#[d,e,f,g,x4,i,k,l,o,p,a,b,c]:Array QC)[j]?=some x->w.cell? ⟨n,m+j,none⟩=some x):
  w.cell? (R n m)=some d/\w.cell? ⟨n,m+1,none⟩=some e/\w.cell? ⟨n,m+2,none⟩=some f/\w.cell? ⟨n,m+3,none⟩=some g/\w.cell? ⟨n,m+4,none⟩=some x4/\w.cell? ⟨n,m+5,none⟩=some i/\w.cell? ⟨n,m+6,none⟩=some k/\w.cell? ⟨n,m+7,none⟩=some l/\w.cell? ⟨n,m+8,none⟩=some o/\w.cell? ⟨n,m+9,none⟩=some p/\w.cell? ⟨n,m+10,none⟩=some a/\w.cell? ⟨n,m+11,none⟩=some b/\w.cell? ⟨n,m+12,none⟩=some c:=
 ⟨h 0 _ rfl,h 1 _ rfl,h 2 _ rfl,h 3 _ rfl,h 4 _ rfl,h 5 _ rfl,h 6 _ rfl,h 7 _ rfl,h 8 _ rfl,h 9 _ rfl,h 10 _ rfl,h 11 _ rfl,h 12 _ rfl⟩
theorem mV(b i q k:Nat)(g:az)(u:Su)(s:Nat->Bool)(w:QA)(h:mU w b i g u s)(t:u.ok g)(F:k<=g.M)(G:a_ w q (al #[a' b (g.M+1) i] 190)):
  aE 265 #[ae k,ar q] w λe Q=>aK e (.bool (s k))/\au w Q:=by
 obtain⟨l,S,T,m,U⟩:=h;obtain⟨v,c,V⟩:=U k F;have K:=t.b_.m16;have W:=t.b_.m3;obtain⟨X,x1,Z⟩:=cr G;have a:=λj x e=>(QT w b (k*13+j) S 265 T m).trans (V j x e);have H:QK.wrap (((g.M+1:Nat):Int)-1)=(g.M:Int):=bj;have N:(k:Int)<((g.M+1:Nat):Int):=aa;obtain⟨n,L⟩:=ah (g.M+1);rw[L]at X H N l;have O:=aB G L;have M:=ad t;cases d:s k
 case false=>rw[d]at a;obtain⟨R,I,Y,c3,c4,c5,J,c7,c8,c9,y,z,A⟩:=tf a;go_enter func265,ntmps265;go_wp2;go_ret;exact⟨rfl,aI ak _⟩
 case true=>
  rw[d]at a;obtain⟨R,I,Y,c3,c4,c5,J,c7,c8,c9,y,z,A⟩:=tf a;have c:=c d;obtain⟨B,C⟩:=ah (w.alloc (al (qw g (u.sl k) v) 265));have f:au w B:=by rw[<-C];exact aI ak _
  have o:a_ B w.heap.size (al (qw g (u.sl k) v) 265):=by rw[<-C];exact QB _ _
  obtain⟨D,P⟩:=ah w.heap.size;rw[P]at o;have E:=ad (ri g (u.sl k) v B (c.below f) (Su.Iy M F));obtain⟨s1,s2,s3,s4,s5,rfl,s6⟩:=c;have p:=(f.block q Z).trans O.1;rw[O.2]at p;obtain⟨y0,y1,y2⟩:=cr p;obtain⟨d0,d1,d2⟩:=cr o;have r:=aM C P f;go_enter func265,ntmps265;go_wp2_with fail
  try rw[r.1,r.2.1]
  refine E.mono ?_;rintro e w1 ⟨rfl,m⟩;obtain⟨k0,k1,k2⟩:=kp m D d2;obtain⟨k3,k4,k5⟩:=kp m q y2;have a0:=ad m;have e3:(u.sl k).rl=k:=rfl;go_wp2;go_ret;exact⟨aJ,r.2.2.trans (a0.mono r.2.2.size)⟩
theorem vJ(b a:Nat)(g:az)(u:Su)(f:Nat->Bool)(w:QA)(_:mU w b a g u f)(_:u.ok g):
  aE 187 #[a' b (g.M+1) a] w λe c=>∃d,aK e (.func (.func 265) #[] #[H d])/\au w c/\c.heap[d]?=some (N #[a' b (g.M+1) a] 190):=by
 go_enter func187,ntmps187;go_wp2;go_ret;exact⟨_,rfl,aI ak _,QB _ _⟩
theorem EV(v:QC)(n:Nat)(s:aQ)(w:M)(h:kj w v n s)(V:1<=n)(fe:n<=1000):
  aE 143 #[v] w λe m=>(∃b c d,aK e (a' b n c)/\n<=c/\w.heap.size<=b/\m.heap[b]?=some (al d 122)/\d.size=c/\∀k,k<n->d[k]?=some (.int .u8 (s k:Nat)))/\au w m:=by
 obtain⟨b,o,f,d,D,rfl,E,G,K⟩:=h;have p:=aB G K;obtain⟨L,O,t,x,y⟩:=SD ox;have F:=λw=>Lib.run_eql_slice_nil (P:=prog) w 115 122 (some (R b o)) n f 0 0 underlying115;go_enter func143,ntmps143;go_wp2_with(first|(at_builtin;refine wpList_append_own _ rfl _ _ 115 rfl w.heap.size 122 L (.int .u8 0) 1 1 underlying115 O t x y rfl aj _ 0 [] rfl (ZS w #[] 0 (QH _) aj rfl) (R b o) n f (bP n λk=>.int .u8 (s k:Nat)) rfl (by rw[bG,TZ]) ?c1 ?c2 ?c3 ?c4 ?c5 ?_))
 case c1=>
  intro q u r;by_cases a:q<n
  .rw [cd _ _ _ a]at r;rw[iK,YV _ _ _ (QO w _ ((QT w b (o+q) d 122 D p.1).trans (p.2 q a))),(QT w b (o+q) d 122 D p.1).trans (p.2 q a)];exact r
  .rw [RE (by rw[bG];omega)]at r;cases r
 case c2=>intro u Q;obtain⟨k,-,rfl⟩:=RQ.1 Q;rfl
 case c3=>unfold UI;omega
 case c4=>omega
 case c5=>simp
 intro W m i z _;have j:au w m:=(aI ak _).grown z aJ (λk A=>by simp[WQ]at A;omega);go_wp2;go_ret;refine⟨?_,j⟩;rcases i.2 with⟨_,X⟩|⟨g,c,B,rfl,S,T,Z,H,N,U⟩
 .omega
 .refine ⟨g,c,B,aJ,J,S,T,J,λk A=>?_⟩;have C:=congrArg (λl:List QC=>l[k]?) U;simp only[cd _ _ _ A,TH]at C;rw[ao J]at C;rw[<-TX];exact C
theorem Ho(g:az)(u:Su)(k j:Nat)(c a:QC)(w:M):aE 190 #[.agg (dt g (u.sl k) c),.agg (dt g (u.sl j) a)] w λe d=>aK e ed/\au w d:=by obtain⟨h,i,l⟩:=g;obtain⟨id,m,n,o,N,p,b,q,f⟩:=u;simp only[Su.sl];go_enter func190,ntmps190;go_wp2_with fail;go_ret;exact⟨rfl,aI (aI ak _) _⟩
def hN(g:az)(u:Su):List (Nat × QC)->List QC
 | [] => []
 |p::l=>(dt g (u.sl p.1) p.2).toList++hN g u l
theorem pP(g:az)(u:Su):∀(l:List (Nat × QC)) (p:Nat × QC),hN g u (l++ [p])=hN g u l++(dt g (u.sl p.1) p.2).toList
 | [],p=>by simp[hN]
 |q::l,p=>by show _++hN g u (l++ [p])=(_++hN g u l)++_;rw[pP g u l p,SY]
theorem rK(g:az)(u:Su):∀(l:List (Nat × QC)) (i:Nat) (p:Nat × QC),l[i]?=some p->∀(j:Nat) (x:QC),(dt g (u.sl p.1) p.2)[j]?=some x->(hN g u l)[i*12+j]?=some x
 | [],i,p,h,_,_,_=>by simp at h
 |q::l,0,p,h,j,x,a=>by simp at h;subst h;have b:j<12:=(RC.1 a).1;show((dt g (u.sl q.1) q.2).toList++hN g u l)[0*12+j]?=_;rw[VV,RH,RD (by simpa using b),TX];exact a
 |q::l,i+1,p,h,j,x,a=>by have c:=rK g u l i p (by simpa using h) j x a;show((dt g (u.sl q.1) q.2).toList++hN g u l)[(i+1)*12+j]?=_;rw[QZ aR,show(i+1)*12+j-(dt g (u.sl q.1) q.2).toList.length=i*12+j by simp;omega];exact c
def xQ(B:Nat)(w:M)(v:QC)(g:az)(u:Su)(l:List (Nat × QC)):Prop:=w.ownsRow B 117 12 v l.length (hN g u l)
theorem On:(prog.info? 117).map (λi=>(i.zero,i.size,i.bytes))=some (some (.agg #[.int .u64 0,.int .u64 0,.int .u64 0,Y 0,Y 0,Y 0,Y 0,Y 0,.bool false,.bool false,aW,Y 0]),12,104):=ai
theorem xQ.cell{l:List (Nat × QC)}(h:xQ n w (a' m l.length k) g u l){p:Nat × QC}(a:l[i]?=some p)(j:Nat)(x:QC)(b:(dt g (u.sl p.1) p.2)[j]?=some x):w.cell? ⟨m,i*12+j,none⟩=some x:=by have c:=h.cells (g:=m) rfl (i*12+j) x (rK g u l i p a j x b);rwa[iK,RH]at c
theorem tg{b o:Nat}{x0 x1 x2 x3 x4 x5 x6 x7 x8 x9 x10 x11:QC}(h:∀(j:Nat) (x:QC),(#[x0,x1,x2,x3,x4,x5,x6,x7,x8,x9,x10,x11]:Array QC)[j]?=some x->w.cell? ⟨b,o+j,none⟩=some x):
  w.cell? (R b o)=some x0/\w.cell? ⟨b,o+1,none⟩=some x1/\w.cell? ⟨b,o+2,none⟩=some x2/\w.cell? ⟨b,o+3,none⟩=some x3/\w.cell? ⟨b,o+4,none⟩=some x4/\w.cell? ⟨b,o+5,none⟩=some x5/\w.cell? ⟨b,o+6,none⟩=some x6/\w.cell? ⟨b,o+7,none⟩=some x7/\w.cell? ⟨b,o+8,none⟩=some x8/\w.cell? ⟨b,o+9,none⟩=some x9/\w.cell? ⟨b,o+10,none⟩=some x10/\w.cell? ⟨b,o+11,none⟩=some x11:=
 ⟨h 0 _ rfl,h 1 _ rfl,h 2 _ rfl,h 3 _ rfl,h 4 _ rfl,h 5 _ rfl,h 6 _ rfl,h 7 _ rfl,h 8 _ rfl,h 9 _ rfl,h 10 _ rfl,h 11 _ rfl⟩
theorem EW(B c b d k:Nat)(g:az)(u:Su)(f:Nat × QC)(l:List (Nat × QC))(p:QC)(w:M)(h:xQ B w (a' b (l.length+1) d) g u (f::l))(q:a_ w c (N #[a' b (l.length+1) d] 269)):
  aE 189 #[.agg (dt g (u.sl k) p),H c] w λe r=>aK e iG/\au w r:=by
 obtain⟨s,G,K⟩:=cr q;have a:=h.cell (i:=0) rfl;simp only[VV]at a;obtain⟨t,v,x,c3,c4,c5,y,z,A,C,j,m⟩:=tg a;have o:=I (λW=>Ho g u k f.1 p f.2 W);obtain⟨n,D⟩:=ah (l.length+1);rw[D]at s;have L:(0:Int)<(n:Int):=J;have O:=QO w _ t;simp only[RH]at v x c3 c4 c5 y z A C j m;go_enter func189,ntmps189;go_wp2_with fail
 go_region_with (first|(go_at_call 190;refine(o _).mono ?_;rintro e P ⟨rfl,E⟩))
 all_goals
  have F:=I E
 all_goals go_wp2
 all_goals go_ret
 all_goals exact⟨rfl,(cE (aI ak _) 1:au w _).trans (F.mono aJ)⟩
theorem EX(B c b a:Nat)(g:az)(u:Su)(o:Nat × QC)(l:List (Nat × QC))(w:M)(h:xQ B w (a' b (l.length+1) a) g u (o::l))(v:a_ w c (al #[a' b (l.length+1) a] 269))(Q:l.length<=100):
  aE 266 #[a' b (l.length+1) a,.func (.func 189) #[] #[ar c]] w λe C=>aK e (Y (-1))/\au w C:=by
 have D:=I (λk E W (d:au w W)=>EW B c b a k g u o l E W (aP d h) ((d.block c (Z_ v)).trans v));have F:=I (λi p (q:(o::l)[i]?=some p) W (d:au w W)=>tg λj x G=>xQ.cell (aP d h) q j x G);obtain⟨n,y⟩:=ah (l.length+1);rw[y];have K:=I y;have r:n<=101:=J;go_enter func266,ntmps266;go_wp2;go_loopw [8] (λi wr=>∃k:Nat,i= Y k/\k<=n/\QX (au w wr)) (λi _=>n-(intOf i).toNat)
 case atStart=>exact⟨0,rfl,QN _,ak⟩
 case round=>
  obtain⟨k,rfl,S,f⟩:=hrel;by_cases m:k<n
  .have z:(k:Int)<(n:Int):=J;obtain⟨p,q⟩:∃p,(o::l)[k]?=some p:=⟨_,QP (by rw[SG,K.out];exact m)⟩;obtain⟨T,U,V,c3,c4,c5,X,Z,H,N,L,O⟩:=F.out k p q wr f;have s:=I (D p.1 p.2 wr f);have A:=I m;go_wp2_with(first|(go_at_call 189;refine s.mono ?_;rintro e P ⟨rfl,d⟩;have t:QX (au w P):=f.trans (d.mono f.size)));exact⟨⟨k+1,by go_num,A,t⟩,by have:=A.out;simp[intOf];omega⟩
  .obtain rfl:k=n:=J;go_wp2;go_ret;exact⟨rfl,f⟩
theorem Kn(B c b a:Nat)(g:az)(u:Su)(d:Nat × QC)(l:List (Nat × QC))(w:M)(h:xQ B w (a' b (l.length+1) a) g u (d::l))(f:a_ w c (N #[a' b (l.length+1) a] 269))(i:l.length<=100):
  aE 188 #[a' b (l.length+1) a,.func (.func 189) #[] #[H c]] w λe j=>aK e iG/\au w j:=by
 have k:=I (EX B c b a g u d l w h f i);go_enter func188,ntmps188;go_wp2_with(first|(go_at_call 266;refine k.mono ?_;rintro e o ⟨rfl,m⟩;have n:=I m));go_ret;exact⟨rfl,n⟩
def jZ(a:Nat->Bool):Nat->Nat
 |0=>0
 |k+1=>jZ a k+if a k=true then 0 else 1
theorem Ko{a:Nat->Bool}(h:a k=true):jZ a (k+1)=jZ a k:=by show jZ a k+_=_;rw[ao h,VJ]
theorem Kp{a:Nat->Bool}(h:a k=false):jZ a (k+1)=jZ a k+1:=by show jZ a k+_=_;rw[aq (by rw[h];decide)]
theorem zd(a:Nat->Bool):∀k,jZ a k<=k
 |0=>QH _
 |k+1=>by have:=zd a k;unfold jZ;split<;>omega
theorem vK{hs:Nat->Bool}{aw:Option Nat}:∀{k:Nat},(∀j,j<k->hs j=false->aw=some j)->jZ hs k<=1/\((∀j,j<k->aw≠some j)->jZ hs k=0)
 |0,_=>⟨QN _,λ_=>rfl⟩
 |k+1,h=>by
  obtain⟨d,a⟩:=vK (k:=k) λj b=>h j J;unfold jZ;cases f:hs k
  case true=>simp only[if_true,VJ];exact⟨d,λe=>a λj b=>e j J⟩
  case false=>
   have e:=h k J f;have g:=a λj b c=>by rw[e]at c;cases c;omega
   rw[g];exact⟨aJ,λi=>absurd e (i k J)⟩
abbrev th(g:az)(u:Su)(a:QC)(b c:Bool):Array QC:= #[bg u.id,bg u.ev,bg u.sf,Y u.rl,Y g.M,Y g.c,Y g.s,Y u.N,.bool u.lz,.bool u.lost,a,Y u.cur,.bool b,.bool c]
structure Hp(D sb c:Nat)(g:az)(u:Su)(hs:Nat->Bool)(w:QA)(k:Nat)(wr:QA):Prop where
 aL:∃ch,wr.heap[D]? =some (N (th g u (a' sb g.M c) ch true) 194)
 uQ:∃cs,wr.heap[sb]? =some (N cs 122)/\∀m,m<g.M->cs[m]? =some (.int .u8 (if m<k/\hs m=false then 2 else 1:Nat))
 dw:au w wr
theorem Bc(D o c b y L:Nat)(g:az)(u B:Su)(f:Nat->Bool)(t w:QA)(h0:Hp D o c g u f t 0 w)(x:mU t b y g B f)(C:B.ok g)(O:g.M<=c)(b0:t.heap[L]?=some (al #[a' b (g.M+1) y] 190))(a0:u.sf<=B.ev)(b6:t.heap.size<=D)(a1:t.heap.size<=o):
  aE 192 #[ar D,a' b (g.M+1) y,.func (.func 265) #[] #[ar L]] w λe I=>aK e (ae (jZ f g.M:Nat))/\Hp D o c g u f t g.M I:=by
 have P:=C.b_.m16;have a2:=C.b_.m3;have Q:=ad (λk W (F:k<=g.M) (G:au t W)=>mV b y L k g B f W (x.below G) C F ((G.block L (Z_ b0)).trans b0));have T:QX (∀k W,k<=g.M->f k=true->au t W->W.cell? ⟨b,k*13+2,none⟩=some (bg B.ev)/\b<W.heap.size):=λk W F b7 G=>by obtain⟨h1,Y,b8,K,U⟩:=x;obtain⟨c4,h4,h5⟩:=U k F;rw[ao b7]at h5;have h6:=(G.block b (Z_ K)).trans K;exact⟨(QT W b (k*13+2) Y 265 b8 h6).trans (h5 2 _ rfl),Z_ h6⟩
 have a3:=ad h0;have a4:=aT b6 a1 a0 O;obtain⟨b9,d⟩:=h0.aL;obtain⟨c0,l,-⟩:=h0.uQ;have a5:QX (D≠o):=λe=>by rw[e,l]at d;exact absurd (UU (RK d)).2.1 aj
 obtain⟨d0,d1,d2⟩:=cr d;obtain⟨n,b1⟩:=ah (g.M+1);obtain⟨M,E⟩:=ah g.M;rw[b1];have c1:=aB b1 E;rw[E]at P a2 d0 Q T|-;go_enter func192,ntmps192;go_wp2;go_loopw [7,17] (λa i wr=>∃k:Nat,a= ae (jZ f k:Nat)/\i= ae k/\k<=M/\QX (Hp D o c g u f t k wr)) (λ_ i _=>M-(intOf i).toNat)
 case atStart=>exact⟨0,rfl,rfl,QN _,a3⟩
 case round=>
  obtain⟨k,rfl,rfl,F,q⟩:=hrel;obtain⟨c2,d⟩:=q.aL;obtain⟨Y,l,X⟩:=q.uQ;rw[E]at d;obtain⟨d0,d1,d2⟩:=cr d;obtain⟨y0,y1,y2⟩:=cr l;by_cases Z:k<M
  .have b2:(k:Int)<(M:Int):=aa;have y3:=(y0 k).trans (X k (by rw[E];exact Z));rw[aq aa]at y3;have A:=aT Z d l X;have J:=ad (λW (G:au t W)=>Q.out k W F G);have c3:(u.sf:Int)<=(B.ev:Int):=by have:=a4.2.2.1;omega
   obtain⟨N,b3⟩:=ah (jZ f k);have b4:N<=16:=by have:=zd f k;omega
   have b5:=ad b3;have c5:(k:Int)<(n:Int):=by have:=c1.1;omega
   rw[b3];cases r:f k
   case true=>
    obtain⟨v1,v2⟩:=T.out k wr F r q.dw;rw[r]at J;have s:=ad r;go_wp2_with fail;go_region_held3(λI=>I.cell? (ag D 2)=some (bg u.sf)/\I.cell? ⟨b,k*13+2,none⟩=some (bg B.ev)) ((simp[*,go_sem];done)) (first|(go_at_call 265;refine(J _ (q.dw.trans (Below.mono (by go_grown:au wr _) q.dw.size))).mono ?_;rintro e H ⟨rfl,x⟩;obtain⟨k0,k1,k2⟩:=kp x D dJ;obtain⟨k3,k4,k5⟩:=kp x b dJ;have j:QX (au wr H):=via bF x))
    all_goals go_wp2
    have z:=A.1;refine⟨⟨k+1,by rw[Ko s.out,b5.out],by go_num,z,⟨c2,?_⟩,⟨Y,?_,λm a6=>?_⟩,q.dw.trans (j.mono q.dw.size)⟩,by simp[intOf];omega⟩
    .rw [E];exact(j.block D d2).trans A.2.1
    .exact (j.block o y2).trans A.2.2.1
    .have K:=A.2.2.2 m a6;rw[K];by_cases e:m=k
     .subst e;simp[s.out]
     .have U:(m<k+1/\f m=false)↔(m<k/\f m=false):=⟨λh=>⟨aa,h.2⟩,λh=>⟨aa,h.2⟩⟩;simp only[U]
   case false=>
    rw[r]at J;have s:=ad r;go_wp2_with fail;refine nB (S:=λ_=>True) (St:= []) ai ?_;refine aO (i:=0) (v:=.int .u8 1) rfl ai ai ai (λ_ _ _ h=>h) (Or.inl ⟨ai,λV _=>by go_simp⟩) ?_;simp only[RG,QI,QF,QD,QL,QM];refine aO (i:=1) (v:=.bool true) rfl ai ai ai (λ_ _ _ h=>h) (Or.inl ⟨ai,λV _=>by go_simp⟩) ?_;simp only[RG,QI,QF,QG,QD,QL,QM];refine aO (i:=2) (v:=.bool true) rfl ai ai ai (λ_ _ _ h=>h) (Or.inl ⟨ai,λV _=>by go_simp⟩) ?_;simp only[RG,QI,QF,QG,QD,QL,QM];refine aO (i:=3) (v:=.func (.func 265) #[] #[ar L]) rfl ai ai ai (λ_ _ _ h=>h) (Or.inl ⟨ai,λV _=>by go_simp⟩) ?_;simp only[RG,QI,QF,QG,QD,QL,QM];refine aO (i:=4) (v:= ae k) rfl ai ai ai (λ_ _ _ h=>h) (Or.inl ⟨ai,λV _=>by go_simp⟩) ?_;simp only[RG,QI,QF,QG,QD,QL,QM];refine gL (i:=5) ai rfl (λc6 a7=>?_);rw[ao ai];have a8:=ad a7;go_simp;refine(J _ (q.dw.trans ((cE ak 1:au wr wr.drew).mono q.dw.size))).mono ?_;rintro e H ⟨rfl,x⟩;obtain⟨k0,k1,k2⟩:=kp x D d2;obtain⟨k3,k4,k5⟩:=kp x o y2;have j:QX (au wr H):=(cE ak 1:au wr wr.drew).trans x;refine a8 _ _ (.inr λ_=>trivial) ?_
    try simp only[RG,QI,QF,QG,QD,QL,QM]
    refine aO (i:=6) (v:=.bool false) rfl ai ai ai (λ_ _ _ h=>h) (Or.inl ⟨ai,λV _=>by go_simp⟩) ?_;simp only[RG,QI,QF,QG,QD,QL,QM];refine aO (i:=7) (v:=.bool false) rfl ai ai ai (λ_ _ _ h=>h) (Or.inl ⟨ai,λV _=>by go_simp⟩) ?_;simp only[RG,QI,QF,QG,QD,QL,QM];refine aO (i:=8) (v:=undef) rfl ai ai ai (λ_ _ _ h=>h) (Or.inr ⟨ai,rfl⟩) ?_;simp only[RG,QI,QF,QG,QD,QL,QM];refine aO (i:=9) (v:=undef) rfl ai ai ai (λ_ _ _ h=>h) (Or.inr ⟨ai,rfl⟩) ?_;simp only[RG,QI,QF,QG,QD,QL,QM];refine aO (i:=10) (v:=undef) rfl ai ai ai (λ_ _ _ h=>h) (Or.inr ⟨ai,rfl⟩) ?_;simp only[RG,QI,QF,QG,QD,QL,QM];refine aO (i:=11) (v:=undef) rfl ai ai ai (λ_ _ _ h=>h) (Or.inr ⟨ai,rfl⟩) ?_;simp only[RG,QI,QF,QG,QD,QL,QM];refine aO (i:=12) (v:=undef) rfl ai ai ai (λ_ _ _ h=>h) (Or.inr ⟨ai,rfl⟩) ?_;simp only[RG,QI,QF,QG,QD,QL,QM];refine aO (i:=13) (v:=undef) rfl ai ai ai (λ_ _ _ h=>h) (Or.inr ⟨ai,rfl⟩) ?_;simp only[RG,QI,QF,QG,QD,QL,QM];refine aO (i:=14) (v:=undef) rfl ai ai ai (λ_ _ _ h=>h) (Or.inr ⟨ai,rfl⟩) ?_;simp only[RG,QI,QF,QG,QD,QL,QM];refine aO (i:=15) (v:=undef) rfl ai ai ai (λ_ _ _ h=>h) (Or.inr ⟨ai,rfl⟩) ?_;simp only[RG,QI,QF,QG,QD,QL,QM];refine aO (i:=16) (v:=undef) rfl ai ai ai (λ_ _ _ h=>h) (Or.inr ⟨ai,rfl⟩) ?_;simp only[RG,QI,QF,QG,QD,QL,QM];refine aO (i:=17) (v:=undef) rfl ai ai ai (λ_ _ _ h=>h) (Or.inr ⟨ai,rfl⟩) ?_;simp only[RG,QI,QF,QG,QD,QL,QM];refine aO (i:=18) (v:=undef) rfl ai ai ai (λ_ _ _ h=>h) (Or.inr ⟨ai,rfl⟩) ?_;simp only[RG,QI,QF,QG,QD,QL,QM];refine aO (i:=19) (v:=undef) rfl ai ai ai (λ_ _ _ h=>h) (Or.inr ⟨ai,rfl⟩) ?_;simp only[RG,QI,QF,QG,QD,QL,QM];refine aO (i:=20) (v:=.bool false) rfl ai ai ai (λ_ _ _ h=>h) (Or.inl ⟨ai,λV _=>by go_simp⟩) ?_;simp only[RG,QI,QF,QG,QD,QL,QM];refine aO (i:=21) (v:=.bool false) rfl ai ai ai (λ_ _ _ h=>h) (Or.inl ⟨ai,λV _=>by go_simp⟩) ?_;simp only[RG,QI,QF,QG,QD,QL,QM];refine nA ai ?_ _;have n1:=a5.out;have n2:=Ne.symm n1;go_wp2;have z:=A.1;have g1:=(j.block D d2).trans A.2.1;have g2:=(j.block o y2).trans A.2.2.1;have R:=A.2.2.2;have a9:=(RC.1 (R k (by rw[E];exact z))).1;refine⟨⟨k+1,by rw[Kp s.out,b5.out];go_num,by go_num,z,⟨true,?_⟩,⟨Y.setIfInBounds k (.int .u8 2),?_,λm a6=>?_⟩,?_⟩,by simp[intOf];omega⟩
    .rw [E];exact heap_setCell_same _ D 12 _ 194 ed ((RN H (ag o k) D _ n1).trans g1)
    .exact (RN _ (ag D 12) o _ n2).trans (heap_setCell_same H o k _ 122 (.int .u8 2) g2)
    .have K:=R m a6;by_cases e:m=k
     .subst e;simp[s.out,a9]
     .have U:(m<k+1/\f m=false)↔(m<k/\f m=false):=⟨λh=>⟨aa,h.2⟩,λh=>⟨aa,h.2⟩⟩;rw[Array.getElem?_setIfInBounds_ne (Ne.symm e),K];simp only[U]
    .exact ((q.dw.trans (j.mono q.dw.size)).setCell (p:=ag o k) a4.2.1 _).setCell (p:=ag D 12) a4.1 _
  .obtain rfl:k=M:=aa;go_wp2;go_ret;exact⟨rfl,q⟩
abbrev Bd:Array QC:= #[.int .u64 0,.int .u64 0,.int .u64 0,Y 0,Y 0,Y 0,Y 0,Y 0,.bool false,.bool false,aW,Y 0,.bool false,.bool false]
structure Po(c7:Nat)(g:az)(u:Su)(hs:Nat->Bool)(w7:M)(k ev:Nat)(wr:M):Prop where
 dw:SC c7 w7 wr
 HU:∃l v,wr.heap[c7]? =some (N #[v] 269)/\xQ (c7+1) wr v g u l/\l.length<=k/\((l= []/\ev=0)\/(l≠[]/\ev=u.ev))/\∀j,j<k->hs j=true->l≠[]
theorem Be(w:M)(D:Nat)(e f g h x4 i j l m n a b c d:QC):Out (λk=>k=D) w ((((((((((((((w.setCell (R D 0) e).setCell (R D 1) f).setCell (R D 2) g).setCell (R D 3) h).setCell (R D 4) x4).setCell (R D 5) i).setCell (R D 6) j).setCell (R D 7) l).setCell (R D 8) m).setCell (R D 9) n).setCell (R D 10) a).setCell (R D 11) b).setCell (R D 12) c).setCell (R D 13) d):=
 ((((((((((((((Out.refl (λk=>k=D) w).setCell (p:=R D 0) (λ_=>rfl) _).setCell (p:=R D 1) (λ_=>rfl) _).setCell (p:=R D 2) (λ_=>rfl) _).setCell (p:=R D 3) (λ_=>rfl) _).setCell (p:=R D 4) (λ_=>rfl) _).setCell (p:=R D 5) (λ_=>rfl) _).setCell (p:=R D 6) (λ_=>rfl) _).setCell (p:=R D 7) (λ_=>rfl) _).setCell (p:=R D 8) (λ_=>rfl) _).setCell (p:=R D 9) (λ_=>rfl) _).setCell (p:=R D 10) (λ_=>rfl) _).setCell (p:=R D 11) (λ_=>rfl) _).setCell (p:=R D 12) (λ_=>rfl) _).setCell (p:=R D 13) (λ_=>rfl) _
def Oo(g:az)(u:Su)(f:Nat->Bool)(w:QA)(e:RW)(b:QA):Prop:=
 ∃a c h d,aK e (.tuple #[.agg (th g (u.sl 0) (a' a g.M c) h true),aG 0])/\au w b/\g.M<=c/\w.heap.size<=a/\b.heap[a]?=some (N d 122)/\∀m,m<g.M->d[m]?=some (.int .u8 (if f m=false then 2 else 1:Nat))
theorem Bf(b N:Nat)(g:az)(u:Su)(hs:Nat->Bool)(aw:Option Nat)(w:QA)(k7:mU w b N g u hs)(h3:u.ok g)(j9:u.lost=false)(h4:∀m,m<g.M->u.st m=1)(o0:hs g.M=true)(h5:∀m,m<g.M->hs m=false->aw=some m):
  aE 128 #[a' b (g.M+1) N] w (Oo g u hs w):=by
 have o1:=h3.b_.m16;have o7:=h3.b_.m3;obtain⟨M,o2⟩:=ah g.M;obtain⟨h6,h8⟩:=ah ((w.alloc (al Bd 194)).alloc (al Bd 194));have f4:au w h6:=by rw[<-h8];exact aI (aI ak _) _
 have f5:a_ h6 w.heap.size (al Bd 194):=by rw[<-h8];exact gb _ _ _
 have f6:a_ h6 (w.heap.size+1) (al Bd 194):=by rw[<-h8];exact fe _ _ _
 have h9:=ad (vJ b N g u hs h6 (k7.below f4) h3);have F:=eM k7 h3 j9 h4 o0 h5;have i0:=aT h8 f4 f5 f6;obtain⟨a0,a1,a2⟩:=cr f5;obtain⟨b0,b1,b2⟩:=cr f6;obtain⟨n,k8⟩:=ah (g.M+1);rw[k8]at h9|-;have e1:¬(n:Int)<4:=aa;have e2:¬(17:Int)<(n:Int):=aa;have o8:decide ((n:Int)<4)=false:=decide_eq_false e1;have o9:decide ((17:Int)<(n:Int))=false:=decide_eq_false e2;have e3:QK.wrap ((n:Int)-1)=(M:Int):=bj;have a4:=aB k8 o2;clear h8 f4 f5 f6 k7 j9 h4 o0 h5 h3 k8 o2;go_enter func128,ntmps128;go_wp2_with fail;rw[show(w.alloc (al Bd 194)).alloc (al Bd 194)=h6 from i0.1];refine h9.mono ?_;rintro e w1 ⟨b8,rfl,L,f⟩;obtain⟨w7,i1,R,f7⟩:=qc w1 (al #[aW] 269);obtain⟨d,h7⟩:=ah w1.heap.size;rw[h7]at f7 R;have H7:QX (Po d g u hs w7 0 0 w7):=⟨ak,[],_,f7,SJ _ _ _ _,QH _,.inl ⟨rfl,rfl⟩,λj k3=>aa⟩;have a5:au w w1:=i0.2.1.trans (L.mono i0.2.1.size);have d8:au w w7:=a5.trans (R.mono (by rw[<-h7];exact a5.size));have d9:=(R.block w.heap.size (by rw[<-h7];exact RJ a2 L.size)).trans ((L.block w.heap.size a2).trans i0.2.2.1);have e0:=(R.block (w.heap.size+1) (by rw[<-h7];exact RJ b2 L.size)).trans ((L.block (w.heap.size+1) b2).trans i0.2.2.2);have e4:=(R.block b8 (by rw[<-h7];exact Z_ f)).trans f;have C:=j_ i1 h7 d8 d9 e0 e4 (show w.heap.size+1<d/\b8<d by rw[<-h7];exact⟨RJ b2 L.size,Z_ f⟩);clear i1 R f7 h7 a5 d8 d9 e0 e4 L f a2 b2;go_wp2_with fail;rw[C.1,C.2.1];go_loopw [8,30] (λa i wr=>∃k g7:Nat,a= bg g7/\i= ae k/\k<=n/\QX (Po d g u hs w7 k g7 wr)) (λ_ i _=>n-(intOf i).toNat)
 case atStart=>exact⟨0,0,rfl,rfl,QN _,H7⟩
 case round=>
  obtain⟨k,g7,rfl,rfl,q9,g8⟩:=hrel;obtain⟨l,v,D,A,b9,Q,S⟩:=g8.HU;have I:au w wr:=C.2.2.1.trans (g8.dw.mono (by have:=C.2.2.2.2.2.2.1;omega));have f:=(g8.dw.block b8 C.2.2.2.2.2.2.2).trans C.2.2.2.2.2.1;have i2:=aB I f;by_cases k9:k<n
  .have o3:(k:Int)<(n:Int):=aa;have f8:k<=g.M:=by have:=a4.1;omega
   have d3:=ad (mV b N b8 k g u hs wr (F.1.below I) F.2.1 f8 (by rw[a4.1];exact f));obtain⟨i3,g9,rfl,-⟩:=av A;have O:=j_ D A b9 Q S k9 f8;obtain⟨p0,p1,p2⟩:=cr D;clear D A b9 Q S I f f8;cases P:hs k
   case true=>
    rw[P]at d3;go_wp2_with(first|(go_at_call 265;refine d3.mono ?_;rintro e T ⟨rfl,y⟩;have r:=ad y;obtain⟨k0,k1,k2⟩:=kp y d p2;clear y));have a6:au w T:=i2.1.trans (r.mono i2.1.size);obtain⟨-,cs,fr,G,a7⟩:=F.1.below a6;obtain⟨p3,K,E⟩:=a7 k O.2.2.2.2.2.2;rw[ao P]at E;have K:=K P;obtain⟨s1,s2,s3,s4,s5,rfl,s6⟩:=K;obtain⟨c0,c1,c2,c3,c4,c5,c6,p4,c8,c9,p5,p6,p7⟩:=tf λj x e=>(QT T b (k*13+j) cs 265 fr G).trans (E j x e);have i4:=Z_ G;have a8:QX ((T.alloc (al (dt g (u.sl k) (.slice (some (ag s1 s2)) g.M s3)) 117)).drew.ownsRow (d+1) 117 12 (.slice i3 l.length g9) l.length (hN g u l)):=
     aP (cE ak 1) (aP (aI ak _) (aP r O.2.1))
    have i5:QX (a_ T d (al #[.slice i3 l.length g9] 269)):=(r.block d p2).trans O.1;have U:QX (∀x,x<=d->(RU i3 l.length g9).ownBlock≠some x):=λx i6 e=>by have:=(bo O.2.1 e).2;omega
    have l0:QX (cs[k*13+2]?=some (bg u.ev)):=E 2 _ rfl;have i7:QX (b<d):=by have h1:=C.2.2.2.2.2.2.1;obtain⟨-,p8,p9,l1,-⟩:=F.1;have h2:=Z_ l1;show b<d;omega
    have i8:l.length<=17:=by have:=O.2.2.1;have:=a4.1;omega
    have l2:=bZ G a6 P E s6;obtain⟨q0,l3,l4,l5,l6⟩:=SD On;obtain⟨f9,Y⟩:=ah l.length;rw[Y]at a8 i8 p0 i5 U;have l7:=ad Y;clear G a6 a7 E s6 P Y
    go_region_law (refine dc _ rfl (.tmp 36) (.tmp 42) 269 rfl (d+1) 117 q0 (.agg #[.int .u64 0,.int .u64 0,.int .u64 0,ae 0,ae 0,ae 0,ae 0,ae 0,.bool false,.bool false,aW,ae 0]) 12 104 underlying269 l3 l4 l5 l6 rfl aj (.slice i3 f9 g9) f9 (hN g u l) (by simp[VU]) a8.out (ag T.heap.size 0) 1 1 (dt g (u.sl k) (.slice (some (ag s1 s2)) g.M s3)).toList (by simp[VU]) rfl (RY (cs:=dt g (u.sl k) (.slice (some (ag s1 s2)) g.M s3)) (t:=117) (fr:=(0,0)) (QB T _)) (by intro x i6;simp at i6;rcases i6 with rfl|rfl|rfl|rfl|rfl|rfl|rfl|rfl|rfl|rfl|rfl|rfl<;>rfl) aa (by unfold UI;omega) aa aR ?_;intro r0 d4 a9 X;obtain⟨g0,g1,rfl,-⟩:=av a9;have q7:=X.heap ((QW T (al (dt g (u.sl k) (.slice (some (ag s1 s2)) g.M s3)) 117) _ k2).trans i5) (U d (QH _));have l8:=X.heap ((QW T (al (dt g (u.sl k) (.slice (some (ag s1 s2)) g.M s3)) 117) _ i4).trans l2.1) (U b (TL i7));obtain⟨m0,m1,m2⟩:=cr q7;have r1:=(QT d4 b (k*13+2) cs 265 fr l8).trans l0)
    all_goals
     have b3:QX (d4.ownsRow (d+1) 117 12 (.slice g0 (f9+1) g1) (f9+1) (hN g u (l++ [(k,.slice (some (ag s1 s2)) g.M s3)]))):=by show World.ownsRow _ _ _ _ _ _ _;rw[pP];exact a9
     have l9:QX (SC d T d4):=X.below ((aV (aI (SL T.heap.size T) _)).mono (TL k2)) aR λx i6=>by have:=U.out x;by_cases e:x<=d;exact absurd i6 (this e);omega
     have q1:=aB q7 l8;have n1:¬b=d:=by have:=i7.out;omega
     clear a9 X q7 l8;go_wp2;have q2:max (g7:Int) (u.ev:Int)=((u.ev:Nat):Int):=by rcases O.2.2.2.1 with⟨_,h⟩|⟨_,h⟩<;>omega
     have m3:=O.2.2.2.2.2.1;have m4:Out (λx=>x=d) d4 (d4.setCell (ag d 0) (.slice g0 (f9+1) g1)):=(Out.refl (λx=>x=d) d4).setCell (p:=ag d 0) (λ_=>rfl) _;refine⟨⟨k+1,u.ev,by rw[q2],by go_num,m3,(g8.dw.trans (r.mono (TL p2))).trans (l9.out.setCell (p:=ag d 0) (QH _) _),l++ [(k,.slice (some (ag s1 s2)) g.M s3)],_,heap_setCell_same d4 d 0 _ 269 (.slice g0 (f9+1) g1) q1.1,?_,?_,.inr ⟨aJ,rfl⟩,λ_ _ _=>aJ⟩,by simp[intOf];omega⟩
     .show World.ownsRow _ _ _ _ _ _ _;rw[QU,l7.out];exact m4.own b3.out λq q3 e=>by have:=(bo b3.out q3).2;have:q=d:=e;omega
     .rw [QU];have:=O.2.2.1;simp;omega
   case false=>
    rw[P]at d3;go_wp2_with(first|(go_at_call 265;refine d3.mono ?_;rintro e T ⟨rfl,y⟩;have r:=ad y;obtain⟨k0,k1,k2⟩:=kp y d p2;clear y));have m5:=aP r O.2.1;refine⟨⟨k+1,g7,rfl,by go_num,O.2.2.2.2.2.1,g8.dw.trans (r.mono (TL p2)),l,_,(r.block d p2).trans O.1,m5,by have:=O.2.2.1;omega,O.2.2.2.1,λj k3 g2=>?_⟩,by have:=O.2.2.2.2.2.1;simp[intOf];omega⟩;by_cases e:j=k
    .subst e;rw[P]at g2;cases g2
    .exact O.2.2.2.2.1 j aa g2
  .obtain rfl:k=n:=aa;have m6:M<k:=by have:=a4.1;have:=a4.2;omega
   have g3:=S M m6 (by rw[<-a4.2];exact F.2.2.2.2.1);have m7:g7=u.ev:=by
    rcases Q with⟨h,_⟩|⟨_,h⟩
    .exact absurd h g3
    .exact h
   subst m7;obtain⟨p0,m8,rfl⟩:=List.exists_cons_of_ne_nil g3;obtain⟨i3,g9,rfl,i9⟩:=av A;obtain⟨q4,rfl⟩:=i9.resolve_left aJ;have b4:m8.length<=100:=by simp at b9;omega
   have e5:=ad (λW (b5:au wr W)=>Kn (d+1) d q4 g9 g u p0 m8 W (aP b5 A) ((b5.block d (Z_ D)).trans D) b4);have m9:QX (∀W,au wr W->aE 265 #[ae M,ar b8] W λe d4=>aK e ed/\au W d4):=λW b5=>by have h:=mV b N b8 g.M g u hs W ((F.1.below I).below b5) F.2.1 (QH _) ((b5.block b8 (Z_ f)).trans (by rw[a4.1];exact f));rw[F.2.2.2.2.1]at h;rw[<-a4.2];exact h
   have g4:=(g8.dw.block w.heap.size (by have:=C.2.2.2.2.2.2.1;omega)).trans C.2.2.2.1;have h0:=aT D I g4 f;obtain⟨f9,Y⟩:=ah m8.length;simp only[SG,Y]at D e5;obtain⟨c0,c1,c2⟩:=cr D;obtain⟨d0,d1,d2⟩:=cr g4;clear D A b9 S Q g3 I f i9 b4 g4 Y;go_wp2_with(first|(go_at_call 188;refine(e5 _ (by first|exact ak|go_grown)).mono ?_;rintro e T ⟨rfl,y⟩;have r:QX (au wr T):=y;clear y));refine(m9 _ r).mono ?_;rintro e J ⟨rfl,j0⟩;have Z:au wr J:=r.trans (j0.mono r.size);have B:au w J:=h0.2.1.trans (Z.mono h0.2.1.size);obtain⟨-,cs,fr,G,a7⟩:=F.1.below B;obtain⟨p3,K,E⟩:=a7 g.M (QH _);rw[ao F.2.2.2.2.1,a4.2]at E;have K:=K F.2.2.2.2.1;have j1:=ad K;obtain⟨s1,s2,s3,s4,s5,rfl,s6⟩:=K;obtain⟨k4,k5⟩:=ah (J.alloc (al (th g (u.sl M) (.slice (some (ag s1 s2)) g.M s3) false true) 194));have b6:au J k4:=by rw[<-k5];exact aI ak _
   have d5:a_ k4 J.heap.size (al (th g (u.sl M) (.slice (some (ag s1 s2)) g.M s3) false true) 194):=by rw[<-k5];exact QB _ _
   have i4:=Z_ G;obtain⟨z0,z1,z2,z3,z4,z5,z6,z7,z8,z9,q5,q6⟩:=tg (w:=J) (b:=b) (o:=M*13+1) (x0:=.int .u64 ((u.sl M).id:Nat)) (x1:=.int .u64 ((u.sl M).ev:Nat)) (x2:=.int .u64 ((u.sl M).sf:Nat)) (x3:= ae ((u.sl M).rl:Nat)) (x4:= ae g.M) (x5:= ae g.c) (x6:= ae g.s) (x7:= ae ((u.sl M).N:Nat)) (x8:=.bool (u.sl M).lz) (x9:=.bool (u.sl M).lost) (x10:=.slice (some (ag s1 s2)) g.M s3) (x11:= ae ((u.sl M).cur:Nat))
    λj x k3=>by have n0:j<12:=(RC.1 k3).1;have:=(QT J b (M*13+(1+j)) cs 265 fr G).trans (E (1+j) x (by rw[<-k3];match j,n0 with|0,_=>rfl|1,_=>rfl|2,_=>rfl|3,_=>rfl|4,_=>rfl|5,_=>rfl|6,_=>rfl|7,_=>rfl|8,_=>rfl|9,_=>rfl|10,_=>rfl|11,_=>rfl));rwa[<-UO]at this
   obtain⟨V,hV⟩:=ah J.heap.size;rw[hV]at d5;have n3:=ad (EV _ g.M u.st k4 (j1.below b6) aa aa);have b7:=eM k5 hV (B.trans (b6.mono B.size)) d5 (j1.below b6) s6;obtain⟨v0,v1,v2⟩:=cr d5;have e6:=(Z.block w.heap.size (Z_ h0.2.2.1)).trans h0.2.2.1;have s:=bZ (F.1.below B) ((Z.block b8 (Z_ h0.2.2.2)).trans h0.2.2.2) B e6 b6;clear e6 j0 Z B G a7 E s6 k5 b6 d5 hV c0 c1 c2 d0 d1;go_wp2_with fail;rw[show J.alloc (al (th g (u.sl M) (.slice (some (ag s1 s2)) g.M s3) false true) 194)=k4 from b7.1,b7.2.1];refine n3.mono ?_;rintro e d6 ⟨⟨a3,c,n4,rfl,j2,e7,e9,o4,f0⟩,H⟩;obtain⟨k0,k1,k2⟩:=kp H V v2;have f1:=(H.block V v2).trans b7.2.2.2.1;have z:=eM f1 H j2 e7 e9 f0;have n5:(u.sl M).lost=false:=F.2.2.1;clear f1 H j2 e7 e9 f0;go_wp2_with fail;obtain⟨W,b5⟩:=ah ((((d6.setCell (ag V 10) (a' a3 g.M c)).setCell (ag V 3) (ae 0)).setCell (ag V 9) iG).setCell (ag V 1) (bg u.ev));have d7:a3≠V:=by have:=z.2.2.2.1;omega
   have g5:=b7.2.1;have j3:Hp V a3 c g (u.sl 0) hs J 0 W:=by
    refine⟨⟨false,?_⟩,⟨n4,?_,λm j4=>?_⟩,?_⟩
    .have h1:=heap_setCell_same _ V 1 _ 194 (bg u.ev) (heap_setCell_same _ V 9 _ 194 iG (heap_setCell_same _ V 3 _ 194 (ae 0) (heap_setCell_same d6 V 10 _ 194 (a' a3 g.M c) z.1)));rw[b5]at h1;rw[h1];have j9:(u.sl 0).lost=false:=F.2.2.1;unfold th;rw[j9];rfl
    .rw [<-b5];exact(RN _ (ag V 1) a3 _ d7).trans ((RN _ (ag V 9) a3 _ d7).trans ((RN _ (ag V 3) a3 _ d7).trans ((RN d6 (ag V 10) a3 _ d7).trans z.2.2.2.2.1)))
    .rw [z.2.2.2.2.2 m j4,F.2.2.2.1 m j4,aq aa]
    .rw [<-b5];have h1:au J d6:=s.2.2.2.2.trans (z.2.1.mono s.2.2.2.2.size);have k6:J.heap.size<=V:=RO g5;exact(((h1.setCell (p:=ag V 10) k6 _).setCell (p:=ag V 3) k6 _).setCell (p:=ag V 9) k6 _).setCell (p:=ag V 1) k6 _
   have g6:=ad (Bc V a3 c b N b8 g (u.sl 0) u hs J W j3 s.1 F.2.1 z.2.2.1 (by rw[a4.1];exact s.2.1) F.2.1.ev.2.1 (RO g5) (by have:=z.2.2.2.1;have:=s.2.2.2.2.size;omega));rw[a4.1]at g6;rw[b5];have f2:=(vK (hs:=hs) (aw:=aw) (k:=g.M) F.2.2.2.2.2).1;obtain⟨q8,j5⟩:=ah (jZ hs g.M);rw[j5]at g6 f2;have e8:¬(1:Int)<(q8:Int):=aa;clear j3 b5 j5 f2 k0 k1 k2 v0 v1 v2;refine g6.mono ?_;rintro e n6 ⟨rfl,hF⟩;obtain⟨n7,j6⟩:=hF.aL;obtain⟨n8,j7,j8⟩:=hF.uQ;have o5:=(hF.dw.block w.heap.size (by have:=Z_ s.2.2.2.1;omega)).trans s.2.2.2.1;obtain⟨v0,v1,v2⟩:=cr j6;obtain⟨d0,d1,d2⟩:=cr o5;have n1:¬w.heap.size=V:=by have:=Z_ s.2.2.2.1;omega
   have n2:¬w.heap.size=a3:=λe=>by have h:=s.2.2.2.1;have:=z.2.2.2.1;have:=s.2.2.2.2.size;have:=Z_ h;omega
   have n9:=aM hF j7 j8;clear hF j6 j7 j8 o5 g5;go_wp2;refine QR (v:=.tuple #[.agg (th g (u.sl 0) (a' a3 g.M c) n7 true),aG 0]) (by rw[UE rfl];simp[go_sem, *]) rfl ?_;have o6:=Be n6 w.heap.size (.int .u64 ((u.sl 0).id:Nat)) (.int .u64 ((u.sl 0).ev:Nat)) (.int .u64 ((u.sl 0).sf:Nat)) (ae ((u.sl 0).rl:Nat)) (ae g.M) (ae g.c) (ae g.s) (ae ((u.sl 0).N:Nat)) (.bool (u.sl 0).lz) (.bool (u.sl 0).lost) (a' a3 g.M c) (ae ((u.sl 0).cur:Nat)) (.bool n7) ed;have f3:=s.2.2.1.trans (n9.1.dw.mono s.2.2.1.size);refine⟨a3,c,n7,n8,rfl,f3.trans (o6.below (λk _ e=>RO e.symm) f3.size),z.2.2.1,?_,o6.heap n9.2.1 (λe=>n2 e.symm),λm j4=>?_⟩
   .have:=z.2.2.2.1;have:=b7.2.2.1.size;omega
   .have h:=n9.2.2 m j4;rw[h];simp[j4]
section
theorem Bg(g:az){k:Nat}(h:k<13):f' g k<=f' g (k+1):=by
 match k,h with
 |0,_=>show 0<=8;omega
 |1,_=>show 8<=16;omega
 |2,_=>show 16<=24;omega
 |3,_=>show 24<=32;omega
 |4,_=>show 32<=33;omega
 |5,_=>show 33<=34;omega
 |6,_=>show 34<=35;omega
 |7,_=>show 35<=36;omega
 |8,_=>show 36<=38;omega
 |9,_=>show 38<=40;omega
 |10,_=>show 40<=42;omega
 |11,_=>show 42<=44;omega
 |12,_=>show 44<=44+g.M;omega
theorem ti(g:az){a:Nat}:∀{b:Nat},a<=b->b<=13->f' g a<=f' g b
 |0,h,_=>by obtain rfl:a=0:=J;exact QH _
 |b+1,h,c=>by
  by_cases e:a=b+1
  .subst e;exact QH _
  .exact QE (ti g (b:=b) J J) (Bg g J)
theorem ze(g:az)(u:Su){j i:Nat}(a:f' g j+i<f' g (j+1)):∀{n:Nat},j<n->n<=13->ql g u n (f' g j+i)=xk g u j i
 |n+1,h,c=>by
  unfold ql;by_cases e:j=n
  .subst e;exact jq
  .rw [cW (RJ a (ti g J J))];exact ze g u a J J
theorem pQ{g:az}{u:Su}{f:aQ}(c:aD f (fP g u))(h:g.M<=16){j i:Nat}(d:j<13)(e:f' g j+i<f' g (j+1)):f (f' g j+i)=xk g u j i:=by have k:=ti g (a:=j+1) (b:=13) J (QH _);have l:f' g 13=44+g.M:=rfl;rw[c _ J];unfold fP;rw[cW J,cW J];unfold kk;rw[cW J];exact ze g u e d (QH _)
def lT(g:az)(u:Su)(k:Nat)(sv:QC):Array QC:= #[.int .u64 (if 1<k then u.id else 0:Nat),.int .u64 (if 2<k then u.ev else 0:Nat),.int .u64 (if 3<k then u.sf else 0:Nat),Y (if 4<k then u.rl else 0:Nat),Y (if 5<k then g.M else 0:Nat),Y (if 6<k then g.c else 0:Nat),Y (if 8<k then g.s else 0:Nat),Y (if 9<k then u.N else 0:Nat),.bool (if 7<k then u.lz else false),.bool (if 7<k then u.lost else false),sv,Y (if 10<k then u.cur else 0:Nat)]
structure gM[Lo](p S:Nat)(g:az)(u:Su)(f:aQ)(W0:QA)(k:Nat)(wr:QA)(sv:QC):Prop where
 rd:fK wr p 128 f (f' g k)
 aL:wr.heap[S]? =some (N (lT g u k sv) 117)
 none:k<13->sv= aW
 own:13<=k->wr.ownsRow W0.heap.size 122 1 sv g.M (bP g.M fun j=> .int .u8 (u.st j:Nat))
 bV:Fr vX aF W0 wr
structure jB[Lo](p S:Nat)(g:az)(u:Su)(f:aQ):Prop where
 ok:u.ok g
 eq:aD f (fP g u)
 lt:∀k,k<128->f k<256
 lp:Lo.lo<=p
 lS:Lo.lo<=S
section
variable [Lo] {p S:Nat} {g:az} {u:Su} {f:aQ} {W0 W:QA} {sv:QC}
theorem gM.fR{k q:Nat}{c:Array QC}{e:RW}{d:M}(i:gM p S g u f W0 k W sv)(s:k+1<13)(h:vI p S f q c W e d)(j:q=f' g (k+1))(l:c=lT g u (k+1) sv):aK e (.tuple #[])/\∃a,gM p S g u f W0 (k+1) d a:=by obtain⟨m,n,o,r⟩:=h;exact⟨m,sv,by rw[<-j];exact n,by rw[<-l];exact o,λ_=>i.none J,λh=>J,i.bV.tr r⟩
theorem jB.num{k n x:Nat}(H:jB p S g u f)(a:k<13)(e:f' g k+n<=f' g (k+1))(c:x<256^n)(d:xk g u k=leB x):dq (λj=>f (f' g k+j)) n=x:=
 e_ (λj h=>by rw[pQ H.eq H.ok.b_.m16 a J,d]) c
theorem jB.one{k x:Nat}(H:jB p S g u f)(a:k<13)(e:f' g k+1<=f' g (k+1))(c:x<256)(d:xk g u k=leB x):f (f' g k)=x:=by have h:=pQ H.eq H.ok.b_.m16 (j:=k) (i:=0) a J;rw[VJ,d]at h;rw[h];unfold leB;rw[Nat.pow_zero,Nat.div_one,SA c]
def dQ(p S:Nat)(g:az)(u:Su)(f:aQ)(W0 W:M)(b:aQ)(k:Nat)[Lo]:Prop:=
 ∃c h,(Dt b)[2*k+1]?=some (.func (.func c) #[] h)/\(∀a w,(UN c a).run prog w=.ok (.enter c a) w)/\aE c (#[ar p,ar S] ++h) W λe i=>aK e (.tuple #[])/\∃d,gM p S g u f W0 (k+1) i d
variable {F:Nat} {b:aQ} (H:jB p S g u f) (hF:fV W F b)
include H hF
theorem Oq(a:gM p S g u f W0 0 W sv):dQ p S g u f W0 W b 0:=by have _:=hF;refine⟨216,#[],rfl,RF func216 ai rfl,?_⟩;exact(ET p S f (lT g u 0 sv) W a.rd a.aL H.lp).mono λe c h=>a.fR aj h rfl rfl
theorem Ot(a:gM p S g u f W0 1 W sv):dQ p S g u f W0 W b 1:=by have d:=jB.num H (k:=1) (n:=8) (x:=u.id) aj (by show 8+8<=16;omega) (by have:=H.ok.id;omega) rfl;refine⟨281,#[.pointer (some ⟨b 1+1,0,none⟩),.pointer (some ⟨b 1+2,0,none⟩)],rfl,RF func281 ai rfl,?_⟩;refine(ER 221 0 (b 1+1) (b 1+2) p S 8 f (lT g u 1 sv) _ W Ie rfl a.rd aj H.lt a.aL H.lp H.lS hF.f1.b2 hF.f1.b3).mono λe i h=>?_;exact a.fR aj h rfl (by have c:dq (λj=>f (8+j)) 8=u.id:=d;rw[c];rfl)
theorem Ou(a:gM p S g u f W0 2 W sv):dQ p S g u f W0 W b 2:=by have d:=jB.num H (k:=2) (n:=8) (x:=u.ev) aj (by show 16+8<=24;omega) (by have:=H.ok.ev;omega) rfl;refine⟨281,#[.pointer (some ⟨b 2+1,0,none⟩),.pointer (some ⟨b 2+2,0,none⟩)],rfl,RF func281 ai rfl,?_⟩;refine(ER 222 1 (b 2+1) (b 2+2) p S 16 f (lT g u 2 sv) _ W If rfl a.rd aj H.lt a.aL H.lp H.lS hF.f2.b2 hF.f2.b3).mono λe i h=>?_;exact a.fR aj h rfl (by have c:dq (λj=>f (16+j)) 8=u.ev:=d;rw[c];rfl)
theorem Ov(a:gM p S g u f W0 3 W sv):dQ p S g u f W0 W b 3:=by have d:=jB.num H (k:=3) (n:=8) (x:=u.sf) aj (by show 24+8<=32;omega) (by have:=H.ok.ev;omega) rfl;refine⟨281,#[.pointer (some ⟨b 3+1,0,none⟩),.pointer (some ⟨b 3+2,0,none⟩)],rfl,RF func281 ai rfl,?_⟩;refine(ER 223 2 (b 3+1) (b 3+2) p S 24 f (lT g u 3 sv) _ W Ig rfl a.rd aj H.lt a.aL H.lp H.lS hF.f3.b2 hF.f3.b3).mono λe i h=>?_;exact a.fR aj h rfl (by have c:dq (λj=>f (24+j)) 8=u.sf:=d;rw[c];rfl)
theorem Ow(a:gM p S g u f W0 4 W sv):dQ p S g u f W0 W b 4:=by have d:=H.ok.b_;have i:=jB.one H (k:=4) (x:=u.rl) aj (by show 32+1<=33;omega) (by have:=H.ok.rl;have:=d.m16;omega) rfl;refine⟨284,#[.pointer (some ⟨b 4+1,0,none⟩),.pointer (some ⟨b 4+2,0,none⟩)],rfl,RF func284 ai rfl,?_⟩;refine(Km 227 3 (b 4+1) (b 4+2) p S 32 f (lT g u 4 sv) _ W Ih rfl a.rd aj H.lt a.aL H.lp H.lS hF.f4.b2 hF.f4.b3).mono λe j h=>?_;exact a.fR aj h rfl (by have c:f 32=u.rl:=i;rw[c];rfl)
theorem Ox(a:gM p S g u f W0 5 W sv):dQ p S g u f W0 W b 5:=by have d:=H.ok.b_;have i:=jB.one H (k:=5) (x:=g.M) aj (by show 33+1<=34;omega) (by have:=d.m16;omega) rfl;refine⟨284,#[.pointer (some ⟨b 5+1,0,none⟩),.pointer (some ⟨b 5+2,0,none⟩)],rfl,RF func284 ai rfl,?_⟩;refine(Km 228 4 (b 5+1) (b 5+2) p S 33 f (lT g u 5 sv) _ W Ii rfl a.rd aj H.lt a.aL H.lp H.lS hF.f5.b2 hF.f5.b3).mono λe j h=>?_;exact a.fR aj h rfl (by have c:f 33=g.M:=i;rw[c];rfl)
theorem Oy(a:gM p S g u f W0 6 W sv):dQ p S g u f W0 W b 6:=by have d:=H.ok.b_;have i:=jB.one H (k:=6) (x:=g.c) aj (by show 34+1<=35;omega) (by have:=d.pZ;omega) rfl;refine⟨284,#[.pointer (some ⟨b 6+1,0,none⟩),.pointer (some ⟨b 6+2,0,none⟩)],rfl,RF func284 ai rfl,?_⟩;refine(Km 229 5 (b 6+1) (b 6+2) p S 34 f (lT g u 6 sv) _ W Ij rfl a.rd aj H.lt a.aL H.lp H.lS hF.f6.b2 hF.f6.b3).mono λe j h=>?_;exact a.fR aj h rfl (by have c:f 34=g.c:=i;rw[c];rfl)
theorem Oz(a:gM p S g u f W0 7 W sv):dQ p S g u f W0 W b 7:=by have _:=hF;have c:=jB.one H (k:=7) (x:=jo u) aj (by show 35+1<=36;omega) (by unfold jo;split<;>split<;>decide) rfl;refine⟨232,#[],rfl,RF func232 ai rfl,?_⟩;exact(Hm p S 35 u.lz u.lost f (lT g u 7 sv) _ _ W c rfl rfl a.rd aj H.lt a.aL H.lp H.lS).mono λe d h=>a.fR aj h rfl rfl
theorem OA(a:gM p S g u f W0 8 W sv):dQ p S g u f W0 W b 8:=by have d:=H.ok.b_;have i:=jB.num H (k:=8) (n:=2) (x:=g.s) aj (by show 36+2<=38;omega) (by have:=d.hj;omega) rfl;refine⟨286,#[.pointer (some ⟨b 8+1,0,none⟩),.pointer (some ⟨b 8+2,0,none⟩)],rfl,RF func286 ai rfl,?_⟩;refine(ES 236 6 (b 8+1) (b 8+2) p S 36 f (lT g u 8 sv) _ W Ik rfl a.rd aj H.lt a.aL H.lp H.lS hF.f8.b2 hF.f8.b3).mono λe l h=>?_;exact a.fR aj h rfl (by have c:dq (λj=>f (36+j)) 2=g.s:=i;rw[c];rfl)
theorem OB(a:gM p S g u f W0 9 W sv):dQ p S g u f W0 W b 9:=by have d:=jB.num H (k:=9) (n:=2) (x:=u.N) aj (by show 38+2<=40;omega) (by have:=H.ok.ring;omega) rfl;refine⟨286,#[.pointer (some ⟨b 9+1,0,none⟩),.pointer (some ⟨b 9+2,0,none⟩)],rfl,RF func286 ai rfl,?_⟩;refine(ES 237 7 (b 9+1) (b 9+2) p S 38 f (lT g u 9 sv) _ W Il rfl a.rd aj H.lt a.aL H.lp H.lS hF.f9.b2 hF.f9.b3).mono λe i h=>?_;exact a.fR aj h rfl (by have c:dq (λj=>f (38+j)) 2=u.N:=d;rw[c];rfl)
theorem Mn(a:gM p S g u f W0 10 W sv):dQ p S g u f W0 W b 10:=by have d:=H.ok.b_;have i:=jB.num H (k:=10) (n:=2) (x:=u.cur) aj (by show 40+2<=42;omega) (by have:=H.ok.cur.1;have:=d.hj;omega) rfl;refine⟨286,#[.pointer (some ⟨b 10+1,0,none⟩),.pointer (some ⟨b 10+2,0,none⟩)],rfl,RF func286 ai rfl,?_⟩;refine(ES 238 11 (b 10+1) (b 10+2) p S 40 f (lT g u 10 sv) _ W Im rfl a.rd aj H.lt a.aL H.lp H.lS hF.f10.b2 hF.f10.b3).mono λe l h=>?_;exact a.fR aj h rfl (by have c:dq (λj=>f (40+j)) 2=u.cur:=i;rw[c];rfl)
theorem Mo(a:gM p S g u f W0 11 W sv):dQ p S g u f W0 W b 11:=by have _:=hF;refine⟨240,#[],rfl,RF func240 ai rfl,?_⟩;exact(xO p S 42 f (lT g u 11 sv) W (λj d=>by have h:=pQ H.eq H.ok.b_.m16 (j:=11) (i:=j) aj (by show 42+j<44;omega);have c:f (42+j)=leB 0 j:=h;rw[c];unfold leB;rw[Nat.zero_div]) a.rd aj a.aL H.lp).mono λe k h=>a.fR aj h rfl rfl
theorem Mq(a:gM p S g u f W0 12 W sv):dQ p S g u f W0 W b 12:=by have _:=hF;have c:=H.ok.b_;obtain rfl:=a.none aj;refine⟨243,#[],rfl,RF func243 ai rfl,?_⟩;refine(Ba p S 44 g.M f u.st _ _ _ _ _ _ _ _ _ _ W c.m16 (λj d=>by have h:=pQ H.eq c.m16 (j:=12) (i:=j) aj (by show 44+j<44+g.M;omega);have k:f (44+j)=u.st j%256:=h;rw[k];have:=H.ok.st j d;omega) a.rd (by have:=c.m16;omega) H.lt a.aL H.lp H.lS).mono λe r h=>?_;obtain⟨l,v,m,n,o,q⟩:=h;exact⟨l,v,m,by rw[n];rfl,λh=>J,λ_=>cu o a.bV.size,a.bV.tr q⟩
end
end
theorem fV.fr[Lo](h:fV w n f)(a:Fr T aF w W)(b:[238,316,318,321,323,325,327,330,332].all (λt=> !T.contains t)=true):fV W n f:=by
 simp only[List.all_cons,List.all_nil,VM,Bool.not_eq_true']at b;obtain⟨t1,t2,t3,t4,t5,t6,t7,t8,t9,-⟩:=b;exact⟨a.hp h.aL t1,⟨a.hp h.f1.b1 t2,a.hp h.f1.b2 t3,a.hp h.f1.b3 t4⟩,⟨a.hp h.f2.b1 t2,a.hp h.f2.b2 t3,a.hp h.f2.b3 t4⟩,⟨a.hp h.f3.b1 t2,a.hp h.f3.b2 t3,a.hp h.f3.b3 t4⟩,
  ⟨a.hp h.f4.b1 t5,a.hp h.f4.b2 t6,a.hp h.f4.b3 t7⟩,⟨a.hp h.f5.b1 t5,a.hp h.f5.b2 t6,a.hp h.f5.b3 t7⟩,⟨a.hp h.f6.b1 t5,a.hp h.f6.b2 t6,a.hp h.f6.b3 t7⟩,
  ⟨a.hp h.f8.b1 t8,a.hp h.f8.b2 t9,a.hp h.f8.b3 t7⟩,⟨a.hp h.f9.b1 t8,a.hp h.f9.b2 t9,a.hp h.f9.b3 t7⟩,⟨a.hp h.f10.b1 t8,a.hp h.f10.b2 t9,a.hp h.f10.b3 t7⟩⟩
theorem gM.below[Lo](h:gM n m g u f w k W v)(a:au W z):gM n m g u f w k z v:=
 ⟨h.rd.below a,(a.block _ (Z_ h.aL)).trans h.aL,h.none,λb=>aP a (h.own b),h.bV.then a⟩
theorem zf[Lo]{b:aQ}(H:jB n m g u f)(hF:fV W i b)(c:k<13)(a:gM n m g u f w k W v):dQ n m g u f w W b k:=by
 match k,c,a with
 |0,_,a=>exact Oq H hF a
 |1,_,a=>exact Ot H hF a
 |2,_,a=>exact Ou H hF a
 |3,_,a=>exact Ov H hF a
 |4,_,a=>exact Ow H hF a
 |5,_,a=>exact Ox H hF a
 |6,_,a=>exact Oy H hF a
 |7,_,a=>exact Oz H hF a
 |8,_,a=>exact OA H hF a
 |9,_,a=>exact OB H hF a
 |10,_,a=>exact Mn H hF a
 |11,_,a=>exact Mo H hF a
 |12,_,a=>exact Mq H hF a
theorem Bh(v d:QC)(f m:aQ)(w:M)(h:dT w v f)(i:lW w d 8 m)(j:∀k,k<128->f k<256)(l:∀k,k<8->f k=m k):aE 261 #[v,d] w λe q=>aK e ed/\au w q:=by obtain⟨b,o,a,r,s,rfl,n,t,u⟩:=h;have x:∀k,k<128->w.cell? ⟨b,o+k,none⟩=some (.int .u8 (f k)):=λk c=>(QT w b _ r 5 s t).trans (u k c);have p:=mf (.slice (some (R b o)) 8 a) d 8 8 f m w ⟨_,_,rfl,.inr ⟨b,o,rfl,λk c=>x k J⟩⟩ i (λk c=>j k J) (λk c=>by rw[<-l k c];exact j k J);rw[iZ l]at p;have g:=I p;obtain⟨y,z,rfl,-⟩:=i;have A:(8:Int)<=(a:Int):=J;go_enter func261,ntmps261;go_wp2_with(first|(go_at_call 264;refine g.mono ?_;rintro e B ⟨rfl,rfl⟩));go_ret;exact⟨rfl,ak⟩
theorem Hq(a:aD f (fP g u)):dq (λk=>f (124+(0+k))) 4=dE 0 124 f:=by
 have c:∀k,k<124->f k=kk g u k:=λk b=>by rw[a k J];unfold fP;rw[cW J,cW b]
 rw[hJ c];refine e_ (λk b=>?_) (gQ _ _ _ aj λk _=>lF g u k);rw[RH,a (124+k) J];unfold fP;rw[cW J,jq]
theorem Kq(b:aQ)(h:k<13):∃a c,(Dt b)[k*2]?=some (.func (.func a) #[] c):=by
 match k,h with
 |0,_=>exact⟨_,_,rfl⟩
 |1,_=>exact⟨_,_,rfl⟩
 |2,_=>exact⟨_,_,rfl⟩
 |3,_=>exact⟨_,_,rfl⟩
 |4,_=>exact⟨_,_,rfl⟩
 |5,_=>exact⟨_,_,rfl⟩
 |6,_=>exact⟨_,_,rfl⟩
 |7,_=>exact⟨_,_,rfl⟩
 |8,_=>exact⟨_,_,rfl⟩
 |9,_=>exact⟨_,_,rfl⟩
 |10,_=>exact⟨_,_,rfl⟩
 |11,_=>exact⟨_,_,rfl⟩
 |12,_=>exact⟨_,_,rfl⟩
theorem Bi(w:M)(D:Nat)(c d e f x4 g h i j l a b:QC):Out (λk=>k=D) w ((((((((((((w.setCell (R D 0) c).setCell (R D 1) d).setCell (R D 2) e).setCell (R D 3) f).setCell (R D 4) x4).setCell (R D 5) g).setCell (R D 6) h).setCell (R D 7) i).setCell (R D 8) j).setCell (R D 9) l).setCell (R D 10) a).setCell (R D 11) b):=
 (((((((((((((Out.refl (λk=>k=D) w).setCell (p:=R D 0) (λ_=>rfl) _).setCell (p:=R D 1) (λ_=>rfl) _).setCell (p:=R D 2) (λ_=>rfl) _).setCell (p:=R D 3) (λ_=>rfl) _).setCell (p:=R D 4) (λ_=>rfl) _).setCell (p:=R D 5) (λ_=>rfl) _).setCell (p:=R D 6) (λ_=>rfl) _).setCell (p:=R D 7) (λ_=>rfl) _).setCell (p:=R D 8) (λ_=>rfl) _).setCell (p:=R D 9) (λ_=>rfl) _).setCell (p:=R D 10) (λ_=>rfl) _).setCell (p:=R D 11) (λ_=>rfl) _)
def Iz(g:az)(u:Su)(w:QA)(e:RW)(d:QA):Prop:=
 ∃a,aK e (.tuple #[.agg (dt g u a),aG 0])/\kj d a g.M u.st/\au w d/\∃b c,a= a' b g.M c/\w.heap.size<=b
abbrev EY:Array QC:= #[.int .u64 0,.int .u64 0,.int .u64 0,Y 0,Y 0,Y 0,Y 0,Y 0,.bool false,.bool false,aW,Y 0]
theorem Hr(v:QC)(f:aQ)(g:az)(u:Su)(w:QA)(h:dT w v f)(h6:∀k,k<128->f k<256)(e7:u.ok g)(e9:aD f (fP g u)):aE 186 #[v] w (Iz g u w):=by
 obtain⟨l,e8⟩:=ah (w.alloc (al EY 117));have X:au w l:=by rw[<-e8];exact aI ak _
 have Z:a_ l w.heap.size (al EY 117):=by rw[<-e8];exact QB _ _
 obtain⟨D,H⟩:=ah w.heap.size;rw[H]at Z
 letI:Lo:=⟨l.heap.size⟩
 have q:=Hq e9;have a7:=e7.b_.m16;have j0:=e7.b_.m3;have Q:∀k,k<8->f k=hc k:=λk a5=>by have h:=pQ e9 a7 (j:=0) (i:=k) aj (by show 0+k<8;omega);have h0:f' g 0+k=k:=RH k;rw[h0]at h;exact h
 have L:=h.below X;have h7:=ad L;obtain⟨b,o,r,h8,h9,rfl,i0,h3,h4⟩:=id L;have f0:=ad (λv2 W (a:au l W) (h2:lW W v2 8 hc)=>Bh _ v2 f hc W (L.below a) h2 h6 Q);have f1:=ad pj;have m:=bZ X Z h6 e7 e9;have N:=aB e8 H;have c1:¬r=124:=aa;have c2:(124:Int)<=(r:Int):=aa;clear e8 H Z X L h Q e7;go_enter func186,ntmps186;go_wp2_with fail
 try simp only[N.out.1,N.out.2]
 go_wp2_with(first|(go_at_call 215;refine(f1 _).mono ?_;rintro e w1 ⟨⟨v2,rfl,a8⟩,a9⟩;have f2:=ad a8;have b0:=ad a9;clear a8 a9)|(go_at_call 261;refine(f0 _ _ b0 f2).mono ?_;rintro e w2 ⟨rfl,b1⟩;have M:=ad (via b0 b1);clear b1));have H4:QX (∀W,au l W->cR W (.slice (some ⟨b,o+124,none⟩) 4 (r-124)) 4 λk=>f (124+k)):=λW a=>⟨_,_,rfl,.inr ⟨b,o+124,h8,h9,rfl,(a.block _ (Z_ h3)).trans h3,λk a5=>by rw[UO];exact h4 _ aa⟩⟩;have b2:QX (∀W,Fr jY aF l W->lW W (.slice (some (ag b o)) 124 r) 124 f):=λW a=>⟨_,_,rfl,.inr ⟨b,o,rfl,λk a5=>(QT W b _ h8 5 h9 (a.hp h3 rfl)).trans (h4 _ aa)⟩⟩;have R:=ad (λW (a:Fr jY aF l W)=>jE 124 _ f W (b2 W a) (λk a5=>m.2.2.1 k aa) aj);have b3:=ad (λW (a:au w2 W)=>lP W _ 4 _ (H4 W (via M a)) aj aj);obtain⟨x,f3⟩:=ah (dE 0 124 f);rw[f3]at q;simp only[f3]at R;have f4:=ad (λp1 W (I:fK W p1 4 (λk=>f (124+k)) 0) (j3:Lo.lo<=p1)=>gV W p1 4 0 _ I j3 aj aj λj i5=>m.2.2.1 _ aa);simp only[q]at f4;clear h3 h4 f3 q;go_region_held3(λ_=>True) ((simp[*,go_sem];done)) (first|(go_at_call 262;refine(b3 _ bF).mono ?_;rintro e w3 ⟨p1,rfl,I,b4,b5⟩;have b6:=ad I;have b7:QX (au l w3):=via (via M bF) b5;have b8:QX (Lo.lo<=p1):=QE (via M bF:au l _).size b4;clear I b4 b5)|(go_at_call 263;refine(f4 p1 _ (b6.below bF) b8).mono ?_;rintro e w4 ⟨rfl,-,q2⟩;have s:QX (Fr jY aF l w4):=(Fr.af (via b7 bF)).tr q2;clear q2)|(go_at_call 160;refine(R _ (by first|exact s|exact s.tr (Fr.af bF))).mono ?_;rintro e w5 ⟨rfl,a⟩;have b9:QX (Fr jY aF l w5):=(by first|exact s.tr (Fr.af a)|exact s.tr (Fr.af (via bF a)));clear a));obtain⟨S,L⟩:=ah w5.heap.size;obtain⟨w6,O⟩:=ah (w5.alloc (al EY 117));have c0:a_ w6 S (al EY 117):=by rw[<-O,<-L];exact QB _ _
 have c3:Fr jY aF l w6:=by rw[<-O];exact b9.alloc _
 have c4:Lo.lo<=S:=by rw[<-L];exact b9.size
 have P:=aM c0 c3 c4;have c7:=aB O L;clear c0 c3 c4 O L R b3 f4 b6 b7 b8 s;have T:=ad (λW (a:Fr jY aF l W)=>lP W _ 128 f (h7.fr a rfl).eG aj aj);go_wp2_with fail
 try simp only[c7.out.1,c7.out.2]
 go_wp2_with(first|(go_at_call 262;refine(T _ P.2.1).mono ?_;rintro e w7 ⟨p,rfl,I,b4,c8⟩;have Y:=aM I (QE P.2.1.size b4) c8;clear I b4 c8)|(go_at_call 155;refine(rj w7).mono ?_;rintro e w8 ⟨F,j4,rfl,hF,c9⟩;have J:=aB hF c9;clear hF c9));have d0:QX (jB p S g u f):=⟨m.2.2.2.1,m.2.2.2.2,m.2.2.1,Y.2.1,P.2.2⟩;have f5:QX (gM p S g u f w8 0 w8 aW):=by have a:au w6 w8:=via Y.2.2 J.2;exact⟨Y.1.below J.2,(a.block _ (Z_ P.1)).trans P.1,λ_=>rfl,λh=>aa,Fr.refl _ _ _⟩
 clear T;go_loopw [32] (λa0 wr=>∃(k:Nat) (f6:QC),k<=13/\a0= ae k/\QX (gM p S g u f w8 k wr f6)) (λa0 _=>13-(intOf a0).toNat)
 case atStart=>exact⟨0,_,aj,rfl,f5⟩
 case round=>
  obtain⟨k,f6,a5,rfl,U⟩:=hrel;have t:=J.1.fr U.bV rfl;obtain⟨t0,t1,t2⟩:=cr t.aL;by_cases y:k<13
  .have j1:(k:Int)<13:=aa;have j2:(0:Int)<=(k:Int):=aa;obtain⟨i6,i7,d1⟩:=Kq j4 y;have c5:wr.cell? ⟨F,k*2,none⟩=some (.func (.func i6) #[] i7):=(t0 _).trans d1;obtain⟨f7,f8,a1,-,-⟩:=zf d0 t y U;have c6:wr.cell? ⟨F,k*2+1,none⟩=some (.func (.func f7) #[] f8):=(t0 _).trans (by rw[VB];exact a1);have d2:QX (au wr (wr.alloc (al #[.func (.func i6) #[] i7,.func (.func f7) #[] f8] 238))):=aI ak _;obtain⟨f9,g0,d3,j9,z⟩:=zf d0 (t.below d2) y (U.below d2);have d4:=d3.symm.trans a1;have A:=RK d4;have e1:f9=f7:=by cases A;rfl
   have e2:g0=f8:=by cases A;rfl
   subst e1 e2;have d5:=ad z;have d6:=ad y;clear d1 a1 d3 d4 A z t0 t y;go_wp2_with fail;refine d5.mono ?_;rintro e w9 ⟨rfl,g1,d7⟩;have H9:=ad d7;clear d7 d5;go_wp2_with fail;exact⟨⟨k+1,g1,d6,by go_num,H9⟩,by have:=d6.out;first|(simp[intOf];done)|(simp[intOf];omega)⟩
  .obtain rfl:k=13:=aa;have C:a_ wr S (al (dt g u f6) 117):=U.aL;have c:=U.own (QH _);obtain⟨k3,a6,rfl,a2,g2⟩:=eX c;obtain⟨G,rfl⟩:=g2.resolve_left aa;have E:kj wr (a' G g.M a6) g.M u.st:=by
    rcases c.2 with⟨g3,_⟩|⟨k4,d8,j5,g3,a,i8,i1,i2,i3,i4⟩
    .cases g3
    .cases g3;refine⟨_,0,_,_,_,rfl,a2,i8,λj i5=>?_⟩;have K:=(bz c (k:=j) (by rw[cd _ _ _ i5])).1;rw[(cr i8).1 j]at K;rw[RH];exact K
   have g4:=ad (kF g u _ wr E m.2.2.2.1);have d9:=aM E C (c.lt G rfl).1;obtain⟨s0,s1,s2⟩:=cr C;have e0:a_ wr D (al EY 117):=by have K:Fr vX aF l wr:=((P.2.1.wide vX rfl).then (via Y.2.2 J.2)).tr U.bV;exact K.block D _ m.2.1 (.inr (Z_ m.2.1)) id
   obtain⟨r0,r1,r2⟩:=cr e0;clear C c E e0 t0 t;go_wp2_with(first|(go_at_call 88;refine g4.mono ?_;rintro e n ⟨j6,g5,rfl,a3,d⟩;have V:=ad d;have e3:=ad (mf (a' j6 128 g5) (.slice (some (ag b o)) 128 r) 128 128 (fP g u) f n (oy a3) ((h7.fr (((P.2.1.wide vX rfl).then (via Y.2.2 J.2)).tr U.bV) rfl).below d).Bz (λk _=>nW _ _ k) m.2.2.1);obtain⟨k0,k1,k2⟩:=kp d S s2;obtain⟨l0,l1,l2⟩:=kp d D r2;clear a3 d));have e4:qC 128 128 (fP g u) f=true:=iZ λk a5=>(m.2.2.2.2 k a5).symm;rw[e4]at e3;clear e4;have e5:QX (au w n):=by have K:Fr vX aF l n:=(((P.2.1.wide vX rfl).then (via Y.2.2 J.2)).tr U.bV).then V;have h2:=K.under (QH _);exact m.1.trans (h2.mono m.1.size)
   have a4:QX (kj n (a' G g.M a6) g.M u.st/\¬G=D/\w.heap.size<=G):=by have K:=d9.2.2;have h2:w8.heap.size<=G:=K;have h3:l.heap.size<=w8.heap.size:=QE P.2.1.size (via Y.2.2 J.2).size;have h4:=Z_ m.2.1;have h5:=m.1.size;exact⟨d9.1.below V,aa,aa⟩
   go_wp2_with(first|(go_at_call 264;refine e3.mono ?_;rintro e j7 ⟨rfl,i9⟩;rw[i9];clear i9));have a3:=Bi n D (bg u.id) (bg u.ev) (bg u.sf) (ae u.rl) (ae g.M) (ae g.c) (ae g.s) (ae u.N) (.bool u.lz) (.bool u.lost) (a' G g.M a6) (ae u.cur);have e6:∀g6,Out (λk=>k=D) n g6->Iz g u w (.returned (.tuple #[.agg (dt g u (a' G g.M a6)),aG 0])) g6:=λg6 a3=>by refine⟨_,rfl,?_,e5.trans (a3.below (B:=w.heap.size) (λk _ e=>by have e:k=D:=e;have:=N.2;omega) e5.size),G,a6,rfl,a4.2.2⟩;obtain⟨k5,k6,d8,g7,g8,e,j8,K,h2⟩:=a4.1;cases e;exact⟨_,_,_,g7,g8,rfl,j8,a3.heap K (λe=>a4.2.1 e),h2⟩
   refine QR (v:=.tuple #[.agg (dt g u (a' G g.M a6)),aG 0]) ?_ rfl (e6 _ a3);rw[UE rfl];simp[go_sem, *]
theorem EZ(h:b.dv k=none)(d:b.br=false)(e:b.aZ=none):b.op k bT=(b,51):=by obtain⟨g,f,a,c⟩:=b;simp only at h d e;subst d;subst e;simp[By.op,By.out,h,By.tick]
theorem vL[Lo](B k d:Nat)(b:By)(w:M)(h:aC w B b)(l:k<b.N)(g:b.dv k=none)(m:b.br=false)(o:b.aZ=none):
  aE 185 #[H B,Y k,Y d] w λe f=>(∃a n c,aK e (.tuple #[.slice a n c,aG 51]))/\aC f B b/\Fr TB aF w f:=by
 refine(mo B k d b w h l λu i=>by rw[g]at i;cases i).mono ?_;rintro e f ⟨a,n,c,rfl,j,p,-⟩;rw[EZ g m o]at j|-;exact⟨⟨a,n,c,rfl⟩,j,p⟩
structure Pp(g:az)(u:Su)(hs:Nat->Bool)(b:By)(k:Nat):Prop where
 some:hs k=true->∃v,KS b k v/\v.d.eG/\aD (v.d.view 0) (fP g (u.sl k))/\(k<g.M->1+g.R<=v.d.n)/\(k=g.M->2+u.N<=v.d.n)
 none:hs k=false->b.dv k=none
structure xR[Lo](B:Nat)(b:By)(g:az)(u:Su)(hs:Nat->Bool)(w:QA)(k:Nat)(v:QC)(wr:QA):Prop where
 HU:∃xs,wr.ownsRow w.heap.size 265 13 v k xs/\∀i,i<k->∃sv,(hs i=true->kj wr sv g.M u.st)/\∀(j:Nat) (x:QC),(if hs i=true then qw g (u.sl i) sv else nP)[j]? =some x->xs[i*13+j]? =some x
 cj:aC wr B b
 bV:Fr TB aF w wr
theorem OC:(prog.info? 265).map (λi=>(i.zero,i.size,i.bytes))=some (some (.agg nP),13,112):=ai
theorem xR.push[Lo]{l:Nat->Bool}{w wr c s:QA}{v y:Option SZ}{sv:QC}(V:xR n b g u l w k (.slice v k m) wr)(d:c.ownsRow w.heap.size 265 13 (.slice v k m) k L)(z:∀i,i<k->∃sv,(l i=true->kj c sv g.M u.st)/\∀(j:Nat) (x:QC),(if l i=true then qw g (u.sl i) sv else nP)[j]?=some x->L[i*13+j]?=some x)(B:aC c n b)(o:Fr TB aF w c)(D:l k=true->kj c sv g.M u.st)(P:A=if l k=true then qw g (u.sl k) sv else nP)(E:Lo.lo<=w.heap.size)(p:s.ownsRow w.heap.size 265 13 (.slice y (k+1) r) (k+1) (L++A.toList))(a:nF C c (.slice v k m) k 1 (.slice y (k+1) r) s):xR n b g u l w (k+1) (.slice y (k+1) r) s:=by
 have f:=a.Om d E aj;have F:SC w.heap.size c s:=a.below ak o.size λq Q=>(bo d Q).2;have K:L.length=k*13:=d.1;refine⟨⟨L++A.toList,p,λi S=>?_⟩,B.fn f rfl,o.low F (QH _)⟩;by_cases e:i=k
 .subst e;refine⟨sv,λh=>(D h).fr f rfl,λj x t=>?_⟩;rw[QZ J,show i*13+j-L.length=j by omega,TX,P];exact t
 .obtain ⟨G,T,U⟩:=z i J;refine⟨G,λh=>(T h).fr f rfl,λj x t=>?_⟩;have O:j<13:=by have:=(RC.1 t).1;split at this<;>exact this
  rw[RD J];exact U j x t
theorem xR.OD[Lo]{l:Nat->Bool}(h:xR n b g u l w (g.M+1) (a' m (g.M+1) i) W):mU W m i g u l:=by
 obtain⟨⟨xs,r,s⟩,-,-⟩:=h;rcases r.2 with⟨e,_⟩|⟨q,c,d,e,B,t,v,C,D,y⟩
 .cases e
 .cases e;refine⟨v,d,_,t,λk E=>?_⟩;obtain⟨z,A,f⟩:=s k J;refine⟨z,A,λj x o=>?_⟩;have p:j<13:=by have:=(RC.1 o).1;split at this<;>exact this
  have a:=f j x o;rw[<-y,TH,ao J,TX]at a;exact a
def Kr(D:Nat):List QC->Nat->M->M
 | [],_,w=>w
 |x::xs,i,w=>Kr D xs (i+1) (w.setCell ⟨D,i,none⟩ x)
theorem vM(D:Nat):∀(xs:List QC) (i:Nat) (w:M),Out (λk=>k=D) w (Kr D xs i w)
 | [],_,w=>Out.refl (λk=>k=D) w
 |x::xs,i,w=>((Out.refl (λk=>k=D) w).setCell (p:=R D i) (λ_=>rfl) x).tr (vM D xs (i+1) (w.setCell (R D i) x))
def OE[Lo](B:Nat)(b:By)(g:az)(u:Su)(f:Nat->Bool)(w:QA)(e:RW)(c:QA):Prop:=
 ∃d a,aK e (.tuple #[a' d (g.M+1) a,aG 0])/\mU c d a g u f/\aC c B b/\Fr TB aF w c
theorem xS[Lo](B:Nat)(b:By)(g:az)(u:Su)(b8:Nat->Bool)(w:QA)(h:aC w B b)(g0:b.N=g.M+1)(f5:u.ok g)(h8:b.br=false)(h9:b.aZ=none)(d6:∀k,k<=g.M->Pp g u b8 b k):
  aE 127 #[ar B] w (OE B b g u b8 w):=by
 have d7:=h.lo;have d8:=h.lt;have i0:=f5.b_.m16;have J:QX (∀W,aC W B b->aE 49 #[ar B] W λe g1=>aK e (ae ((g.M+1:Nat)))/\W=g1):=λW g2=>by obtain⟨S,g3,i6,i7,r,wc,f,O⟩:=g2;have:=ll O;rwa[g0]at this
 have g4:=ad (λW=>jn f5.b_ W);have y:=j_ d7 d8 g0 f5 h8 h9 d6;have i1:=ad h;obtain⟨n,g5⟩:=ah (g.M+1);have f6:=ad g5;rw[g5]at J;obtain⟨g6,b9,c0,c1,c2⟩:=SD OC;have i2:n<=17:=aa;have e0:QK.wrap ((n:Int)-1)=(g.M:Int):=bj;clear h d7 d8 g0 f5 h8 h9 d6 g5;go_enter func127,ntmps127;go_wp2_with(first|(go_at_call 49;refine(J _ i1).mono ?_;rintro e w1 ⟨rfl,rfl⟩));have g7:QX (xR B b g u b8 w 0 aW w):=⟨⟨[],SJ _ _ _ _,λi d5=>aa⟩,i1,Fr.refl _ _ _⟩;go_loopw [4,14] (λa i wr=>∃k:Nat,i= ae k/\k<=n/\QX (xR B b g u b8 w k a wr)) (λ_ i _=>n-(intOf i).toNat)
 case atStart=>exact⟨0,rfl,QN _,g7⟩
 case round=>
  rename_i s4 i8;obtain⟨k,rfl,j8,G⟩:=hrel;obtain⟨xs,c,a0⟩:=G.HU;obtain⟨f7,d9,rfl,a1⟩:=av c;by_cases Q:k<n
  .have i9:(k:Int)<(n:Int):=aa;have U:k<=g.M:=by have:=f6.out;omega
   have Y:=aT c a0 Q U;have A:=y.2.2.2.2.2.2 k U;obtain⟨f8,V⟩:=ah (wr.alloc (al nP 265));have a2:au wr f8:=by rw[<-V];exact aI ak _
   have a3:a_ f8 wr.heap.size (al nP 265):=by rw[<-V];exact QB _ _
   obtain⟨T,f9⟩:=ah wr.heap.size;rw[f9]at a3;have p:=aT V f9 a2 a3;have C:=G.cj.below a2;cases K:b8 k
   case false=>
    have c3:=ad (vL B k 0 b f8 C (by rw[y.2.2.1];omega) (A.none K) y.2.2.2.2.1 y.2.2.2.2.2.1);have z:=ad K;clear V a2 a3 f9 C A K c a0 a1 Q U;go_wp2_with fail;rw[p.1];refine c3.mono ?_;rintro e w5 ⟨⟨a5,n5,c5,rfl⟩,X,m⟩;have L:=m.hp p.2.2.2 rfl;have Z:=m.own (aP p.2.2.1 Y.1) rfl λ_ _ h=>h;have E:=aT X m L Z;obtain⟨x0,x1,x2⟩:=cr L;have j0:w.heap.size<=w5.heap.size:=QE (QE G.bV.size p.2.2.1.size) m.size;clear X m L Z;rw[p.2.1];go_wp2_with(first|(at_builtin;refine aU _ rfl _ _ 190 rfl w.heap.size 265 g6 (.agg nP) 13 112 underlying190 b9 c0 c1 c2 rfl aj (.slice f7 k d9) k _ rfl (aP (aI ak _) E.2.2.2) (ag w5.heap.size 0) 1 1 nP.toList rfl rfl (RY (cs:=nP) (t:=265) (fr:=(0,0)) (QB w5 _)) (by intro x O;simp at O;rcases O with rfl|rfl|rfl|rfl|rfl|rfl|rfl|rfl|rfl|rfl|rfl|rfl|rfl<;>rfl) aa (by unfold UI;omega) aa aR ?_;intro i3 w6 c d;obtain⟨i4,e1,rfl,-⟩:=av c;have a8:=aB c d;clear c d));have e3:Lo.lo<=w.heap.size:=QE y.1 (TL y.2.1);have H:=Y.2.2.1;refine⟨⟨k+1,by go_num,H,G.push (sv:= aW) (aP (aI ak _) E.2.2.2) (λi d5=>?_) (E.1.below (aI ak _)) ((G.bV.then p.2.2.1).tr (E.2.1.alloc _)) (λe=>?_) (by rw[z.out];rfl) e3 a8.1 a8.2⟩,by simp[intOf];omega⟩
    .obtain ⟨sv,h1,h2⟩:=Y.2.1 i d5;exact⟨sv,λe=>(((h1 e).below p.2.2.1).fr E.2.1 rfl).below (aI ak _),h2⟩
    .rw [z.out]at e;cases e
   case true=>
    obtain⟨v,F,a9,b0,c4,c6⟩:=A.some K;have gb:0<v.d.n:=by
     by_cases e:k=g.M
     .have:=c6 e;omega
     .have:=c4 aa;omega
    have c3:=ad (pO B k 0 b v f8 C F gb);have g8:=ad (λsv W (b8:dT W sv (v.d.view 0))=>Hr sv _ g (u.sl k) W b8 (λj j1=>Dk.lH a9 0 j j1) (Su.Iy y.2.2.2.1 U) b0);have e4:QX (∀W,aC W B b->aE 51 #[ar B,ae k] W λe g1=>aK e (ae v.d.n)/\W=g1):=λW g2=>by obtain⟨S,g3,i6,i7,r,wc,f,O⟩:=g2;exact ss O k F.slot v F.dv
    have z:=aM K c4 c6;clear V a2 a3 f9 C A K c a0 a1 Q U F a9 b0 c4 c6 gb;go_wp2_with fail;rw[p.1];refine c3.mono ?_;rintro e w5 ⟨⟨g9,rfl,b1⟩,X,m⟩;have h0:=ad (g8 g9 w5 b1);have L:=m.hp p.2.2.2 rfl;have Z:=m.own (aP p.2.2.1 Y.1) rfl λ_ _ h=>h;have E:=aT X m L Z;clear X m L Z b1;rw[p.2.1];go_wp2_with fail;refine h0.mono ?_;rintro e w6 ⟨sv,rfl,b2,c7,P,cs,rfl,j2⟩;obtain⟨w7,N⟩:=ah (w6.alloc (al (dt g (u.sl k) (a' P g.M cs)) 117));have c8:au w5 w7:=by rw[<-N];exact aI c7 _
    have a4:a_ w7 w6.heap.size (al (dt g (u.sl k) (a' P g.M cs)) 117):=by rw[<-N];exact QB _ _
    have b3:kj w7 (a' P g.M cs) g.M (u.sl k).st:=by rw[<-N];exact b2.below (aI ak _)
    obtain⟨D,h3⟩:=ah w6.heap.size;rw[h3]at a4;have M:=(c8.block T (Z_ E.2.2.1)).trans E.2.2.1;have R:=eM N h3 c8 a4 b3 M;obtain⟨d0,d1,d2⟩:=cr a4;obtain⟨x0,x1,x2⟩:=cr M;have j3:¬T=D:=by have:=Z_ E.2.2.1;have:=c7.size;omega
    clear b2 c7 N c8 a4 b3 h3 M;go_wp2_with fail;rw[R.1,R.2.1];refine(g4 _).mono ?_;rintro e w8 ⟨rfl,l⟩;obtain⟨k0,k1,k2⟩:=kp l D d2;obtain⟨k3,k4,k5⟩:=kp l T x2;have b4:=(E.1.below R.2.2.1).below l;have I:=ad b4;clear b4;have j4:=az.gY y.2.2.2.1.b_;have c9:=(l.block T x2).trans R.2.2.2.2.2;have o9:=vM T [.bool true,.int .u64 ((u.sl k).id:Nat),.int .u64 ((u.sl k).ev:Nat),.int .u64 ((u.sl k).sf:Nat),ae ((u.sl k).rl:Nat),ae g.M,ae g.c,ae g.s,ae ((u.sl k).N:Nat),.bool (u.sl k).lz,.bool (u.sl k).lost,a' P g.M cs,ae ((u.sl k).cur:Nat)] 0 w8;obtain⟨W9,a6⟩:=ah (((((((((((((w8.setCell (ag T 0) ed).setCell (ag T 1) (.int .u64 ((u.sl k).id:Nat))).setCell (ag T 2) (.int .u64 ((u.sl k).ev:Nat))).setCell (ag T 3) (.int .u64 ((u.sl k).sf:Nat))).setCell (ag T 4) (ae ((u.sl k).rl:Nat))).setCell (ag T 5) (ae g.M)).setCell (ag T 6) (ae g.c)).setCell (ag T 7) (ae g.s)).setCell (ag T 8) (ae ((u.sl k).N:Nat))).setCell (ag T 9) (.bool (u.sl k).lz)).setCell (ag T 10) (.bool (u.sl k).lost)).setCell (ag T 11) (a' P g.M cs)).setCell (ag T 12) (ae ((u.sl k).cur:Nat)));simp only[Kr,RH,Nat.reduceAdd]at o9;rw[a6]at o9;have e5:=aP l (aP R.2.2.1 E.2.2.2);have e6:∀q,(RU f7 k d9).ownBlock=some q->¬q=T:=λq i5=>by have:=(bo Y.1 i5).1;have:=p.2.1;omega
    have e7:=o9.own e5 e6;have e8:Out (λq=>q=T) w5 W9:=(Out.af (R.2.2.1.trans (l.mono R.2.2.1.size))).tr o9;have j5:w.heap.size<=W9.heap.size:=QE (QE (QE (QE G.bV.size p.2.2.1.size) E.2.1.size) (QE R.2.2.1.size l.size)) o9.size;have h4:W9.heap.size=w8.heap.size:=by rw[<-a6];simp
    have b5:kj W9 (a' P g.M cs) g.M u.st:=by obtain⟨q1,q2,q3,q4,q5,q6,q7,q8,q9⟩:=R.2.2.2.2.1.below l;refine⟨q1,q2,q3,q4,q5,q6,q7,o9.heap q8 λe=>?_,q9⟩;have e2:q1=T:=e;rw[e2,c9]at q8;exact absurd (UU (RK q8)).2.1 aj
    have e9:Fr TB aF w W9:=((((G.bV.then p.2.2.1).tr E.2.1).then R.2.2.1).then l).out o9 λq i5 e=>by have e2:q=T:=e;have:=p.2.1;have:=G.bV.size;omega
    have f0:Lo.lo<=T:=by have:=p.2.1;have:=G.bV.size;have:=y.1;have:=y.2.1;omega
    have d3:=jg o9 c9 f0;have b6:aC W9 B b:=I.fn d3 rfl;have b7:∀o,kj wr o g.M u.st->kj W9 o g.M u.st:=λo h=>(((((h.below p.2.2.1).fr E.2.1 rfl).below R.2.2.1).below l).fr d3 rfl);have s:=HJ a6 e7 e8 b5 h4 e9 b6 b7;clear f0 d3 b6 b7;clear c9 o9 a6 e5 e6 e7 e8 b5;clear l;by_cases d4:k=g.M
    .have fI:2+u.N<=v.d.n:=z.2.2 d4;subst d4;have h5:=y.2.2.2.1.ring.2;obtain⟨R1,a7⟩:=ah (2+(u.sl g.M).N);have f4:2+u.N=R1:=a7;have f2:QK.wrap (2+((u.sl g.M).N:Int))=(R1:Int):=bj;have j6:QK.wrap (1+(g.R:Int))=((1+g.R:Nat):Int):=bj;have f3:(R1:Int)<=(v.d.n:Int):=aa;clear fI a7 f4 h5;go_wp2_with(first|(go_at_call 49;refine(J _ I).mono ?_;rintro e w9 ⟨rfl,rfl⟩)|(go_at_call 51;refine(e4 _ I).mono ?_;rintro e w9 ⟨rfl,rfl⟩)|(at_builtin;rw[s.1];refine aU _ rfl _ _ 190 rfl w.heap.size 265 g6 (.agg nP) 13 112 underlying190 b9 c0 c1 c2 rfl aj (.slice f7 g.M d9) g.M _ rfl (aP (aI ak _) s.2.1) (ag w8.heap.size 0) 1 1 (qw g (u.sl g.M) (a' P g.M cs)).toList (by simp[VU]) rfl (RY (cs:=qw g (u.sl g.M) (a' P g.M cs)) (t:=265) (fr:=(0,0)) (by rw[<-s.2.2.2.2.1];exact QB W9 _)) (by intro x O;simp at O;rcases O with rfl|rfl|rfl|rfl|rfl|rfl|rfl|rfl|rfl|rfl|rfl|rfl|rfl<;>rfl) aa (by unfold UI;omega) aa aR ?_;intro i3 h6 c d;obtain⟨i4,e1,rfl,-⟩:=av c;have a8:=aB c d;clear c d));have H:=Y.2.2.1;refine⟨⟨g.M+1,by go_num,H,G.push (sv:= a' P g.M cs) (aP (aI ak _) s.2.1) (λi d5=>?_) (s.2.2.2.2.2.2.1.below (aI ak _)) (s.2.2.2.2.2.1.alloc _) (λ_=>s.2.2.2.1.below (aI ak _)) (by rw[z.1];rfl) (QE y.1 (TL y.2.1)) a8.1 a8.2⟩,by simp[intOf];omega⟩;obtain⟨o,h1,h2⟩:=Y.2.1 i d5;exact⟨o,λe=>(s.2.2.2.2.2.2.2 o (h1 e)).below (aI ak _),h2⟩
    .have fI:1+g.R<=v.d.n:=z.2.1 (by have:=Y.2.2.2;omega);have f1:¬(k:Int)=(g.M:Int):=aa;obtain⟨R1,a7⟩:=ah (1+g.R);have f2:QK.wrap (1+(g.R:Int))=(R1:Int):=bj;have f3:(R1:Int)<=(v.d.n:Int):=aa;clear fI d4 j4 a7;go_wp2_with(first|(go_at_call 49;refine(J _ I).mono ?_;rintro e w9 ⟨rfl,rfl⟩)|(go_at_call 51;refine(e4 _ I).mono ?_;rintro e w9 ⟨rfl,rfl⟩)|(at_builtin;rw[s.1];refine aU _ rfl _ _ 190 rfl w.heap.size 265 g6 (.agg nP) 13 112 underlying190 b9 c0 c1 c2 rfl aj (.slice f7 k d9) k _ rfl (aP (aI ak _) s.2.1) (ag w8.heap.size 0) 1 1 (qw g (u.sl k) (a' P g.M cs)).toList (by simp[VU]) rfl (RY (cs:=qw g (u.sl k) (a' P g.M cs)) (t:=265) (fr:=(0,0)) (by rw[<-s.2.2.2.2.1];exact QB W9 _)) (by intro x O;simp at O;rcases O with rfl|rfl|rfl|rfl|rfl|rfl|rfl|rfl|rfl|rfl|rfl|rfl|rfl<;>rfl) aa (by unfold UI;omega) aa aR ?_;intro i3 h6 c d;obtain⟨i4,e1,rfl,-⟩:=av c;have a8:=aB c d;clear c d));have H:=Y.2.2.1;refine⟨⟨k+1,by go_num,H,G.push (sv:= a' P g.M cs) (aP (aI ak _) s.2.1) (λi d5=>?_) (s.2.2.2.2.2.2.1.below (aI ak _)) (s.2.2.2.2.2.1.alloc _) (λ_=>s.2.2.2.1.below (aI ak _)) (by rw[z.1];rfl) (QE y.1 (TL y.2.1)) a8.1 a8.2⟩,by simp[intOf];omega⟩;obtain⟨o,h1,h2⟩:=Y.2.1 i d5;exact⟨o,λe=>(s.2.2.2.2.2.2.2 o (h1 e)).below (aI ak _),h2⟩
  .obtain rfl:k=n:=aa;obtain⟨j7,rfl⟩:=a1.resolve_left (by have:=f6.out;omega);have h7:=G;clear c a0 a1 G;go_wp2;go_ret2;have h:=h7.out;rw[<-f6.out]at h;exact⟨j7,d9,by rw[f6.out];rfl,h.OD,h.cj,h.bV⟩
theorem tj(A h:Nat)(f g:Array QC)(Q:M->Prop)(w:M)(E:∀d w,(UN h d).run prog w=.ok (.enter h d) w)(q:aE h (f++g) w λe i=>(∃s:Int,aK e (.agg #[Y s,aG 0]))/\Q i)(r:∀a b,Q a->au a b->Q b):
  aE 134 #[H A,.func (.func h) f g] w λe i=>aK e (.tuple #[])/\Q i:=by
 have t:=I q;have u:=I r;go_enter func134,ntmps134;go_wp2_with fail;refine t.mono ?_;rintro e j ⟨⟨s,rfl⟩,v⟩;have x:=I v;go_wp2_with fail;obtain⟨n,k⟩:=ah (j.alloc (N #[Y s,aG 0] 172));have o:=QB j (N #[Y s,aG 0] 172);have p:=I (u _ _ x (aI ak (N #[Y s,aG 0] 172)));rw[k]at o p|-;obtain⟨y,z,B⟩:=cr o;obtain⟨c,l⟩:=ah j.heap.size;rw[l]at y z B|-;go_loopw [4] (λC wr=>C= H c/\QX (wr=n)) (λ_ _=>0)
 case atStart=>exact⟨rfl,rfl⟩
 case round=>obtain⟨rfl,D⟩:=hrel;have m:wr=n:=D;subst m;go_wp2_with fail;go_end0;exact⟨rfl,p⟩
theorem Hs[Lo](C c A R B:Nat)(D:Array QC)(E:Option SZ)(g:az)(F:Nat)(d:Ro)(b:By)(l:List Pt)(pv:QC)(w:QA)(L:a_ w C (al #[ar A] 71))(q:a_ w c (al #[pv] 162))(O:a_ w A (al D 120))(P:D[13]?=some (ar R))(h:fh w R B E g F d)(r:aC w B b)(Q:ff w pv l)(S:g.ok)(T:b.N=g.M+1)(U:∀p,p∈l->p.1<g.M/\p.2.1<g.R)(f:(l.map f_).Nodup)(i:l.length<=50000)(a:∀m v,m<g.M->b.dv m=some v->1+g.R<=v.d.n/\v.d.cn+l.length<1000000000000):
  aE 135 #[ar C,ar c] w (LI B b d l w):=by
 have s:=ad (λW (t:au w W)=>uJ R B E g F d b l pv W (h.below t) (r.below t) (Q.below t) S T U f i a);obtain⟨Y,J,a2⟩:=cr L;obtain⟨b0,b1,b2⟩:=cr q;obtain⟨d0,d1,d2⟩:=cr O;have d13:=(d0 13).trans P;have V:=r.lo;have X:=r.lt;have Z:Lo.lo<=w.heap.size:=aa;have H:=aB Z (show au w w from ak);go_enter func135,ntmps135;go_wp2_with fail
 go_region_with (first|(go_at_call 136;refine(s _ bF).mono ?_;rintro e N ⟨u,x,rfl,y,j⟩;obtain⟨G,K,k⟩:=cl (b.run ((fM d u).map g_)).2.1 (b.run ((fM d u).map g_)).2.2;rw[k];have n:=j.hp (QB w (al #[ae 0,aG 0] 172)) rfl;obtain⟨q1,q2,q3⟩:=cr n))
 all_goals
  have o:=bZ x k y j n;go_wp2
 all_goals
  have z:Fr TB aF w N:=(Fr.af (aV (aI ak _))).tr o.2.2.2.1;obtain⟨M,I,-⟩:=cp z o.2.2.1 o.2.2.2.2 (QH _) H.1 (ae G) (.int .u16 K);refine QR (v:=.agg #[ae G,.int .u16 K]) (by simp[RM,results135,go_sem];go_simp) rfl ⟨u,o.1,by rw[o.2.1],I,M⟩
def Mr[Lo](W r B J:Nat)(x:Wl)(b:By)(w:M)(e:RW)(a:M):Prop:=
 ∃s:Int,aK e (.agg #[Y s,.int .u16 ((b.ck J (aX (x.ep+1) x.nx ((x.t+x.u)%x.N))).2:Nat)])/\aC a B (b.ck J (aX (x.ep+1) x.nx ((x.t+x.u)%x.N))).1/\bH a W r B J (x.qh (x.ep+1) (b.ck J (aX (x.ep+1) x.nx ((x.t+x.u)%x.N))).2)/\Fr fT aF w a
theorem Ht[Lo](i j W r B:Nat)(Z:bm)(g:az)(u:Su)(t:Bool)(x:Wl)(b:By)(w:QA)(k:w.heap[i]?=some (al #[ar Z.A] 71))(l:w.heap[j]?=some (al #[ar W] 112))(y:lX w Z g u t)(z:bH w W r B g.M x)(h:aC w B b)(A:g.M<b.N)(C:cJ (x.ep+1) x.nx)(D:∀v,b.dv g.M=some v->2+x.N<=v.d.n/\v.d.cn<1000000000000)(F:x.bad=0)(G:x.sure=true):
  aE 138 #[ar i,ar j] w (Mr W r B g.M x b w):=by
 have c:=ad (λV (hV:au w V)=>zX W r B g.M x b V (z.fr (T:= []) (Fr.af hV) rfl rfl rfl rfl) (h.below hV) A C D F G);have S:=ad (λV (hV:au w V)=>eb Z g u t V (y.fr (T:= []) (Fr.af hV) rfl rfl));obtain⟨M,R,U⟩:=cr k;obtain⟨I,Y,X⟩:=cr l;have m:=h.lo;have n:=h.lt;have H:=ad (show Lo.lo<=w.heap.size by omega);have d:=aB k l;clear k l y z h A C D F G m n;unfold Mr;obtain⟨E,K⟩:=ah (b.ck g.M (aX (x.ep+1) x.nx ((x.t+x.u)%x.N)));rw[K]at c|-;obtain⟨N,L⟩:=E;clear K;go_enter func138,ntmps138;go_wp2_with fail;go_region_held3(λO=>O.cell? ⟨i,0,none⟩=some (ar Z.A)/\O.cell? ⟨j,0,none⟩=some (ar W)) ((simp[*,go_sem];done)) (first|(go_at_call 107;refine(S _ bF).mono ?_;rintro e J ⟨rfl,rfl⟩)|(go_at_call 139;refine(c _ bF).mono ?_;rintro e P ⟨rfl,o,q,a⟩;have f:=a.hp (QB w (al #[ae 0,aG 0] 172)) rfl;obtain⟨q1,q2,q3⟩:=cr f;obtain⟨r0,-,-⟩:=cr (a.hp ((QW w (al #[ae 0,aG 0] 172) i U).trans d.1) rfl);obtain⟨r1,-,-⟩:=cr (a.hp ((QW w (al #[ae 0,aG 0] 172) j X).trans d.2) rfl)))
 all_goals go_wp2
 have s:Fr fT aF w P:=(Fr.af (aV (aI ak _))).tr a;have Q:=jg (nh P w.heap.size (ae g.M) (aG L)) f H;refine QR (v:=.agg #[ae g.M,aG L]) (by simp[RM,results138,go_sem];go_simp) rfl ⟨_,rfl,o.fn Q rfl,q.fr Q rfl rfl rfl rfl,(s.new (p:=⟨w.heap.size,0,none⟩) (QH _) _).new (p:=⟨w.heap.size,1,none⟩) (QH _) _⟩
theorem Hu(j:g.ok)(a r:Nat)(w:QA)(k:a<g.M)(l:r<g.R):
  aE 131 #[g.V,Y a,Y r] w λe c=>(∃(x:Int) (y:Bool),aK e (.tuple #[Y x,.bool y,aG 0]))/\au w c:=by
 have h:=az.fY j;have b:(r:Int)<(g.s:Nat)*(g.c:Nat):=by
  have:((g.R:Nat):Int)=(g.s:Nat)*(g.c:Nat):=by unfold az.R;rw[TG]
  omega
 by_cases i:tq (g.M:Nat) (g.c:Nat) a r=(g.M:Nat)-1
 .exact (xZ (g.M:Nat) (g.c:Nat) (g.s:Nat) a r w h J J J b i).mono λe c ⟨d,f⟩=>⟨⟨_,_,d⟩,f⟩
 .exact (x_ (g.M:Nat) (g.c:Nat) (g.s:Nat) a r w h J J J b i).mono λe c ⟨d,f⟩=>⟨⟨_,_,d⟩,f⟩
def cc(L:List bX):List Pt:=(L.map λP=>bM P P.N).flatten
theorem jC:∀L:List bX,(cc L).length<=bl L
 | [] =>QH _
 |P::l=>by have:=jC l;have e:cc (P::l)=bM P P.N++cc l:=rfl;rw[e,QU,cT];show P.N+(cc l).length<=2*P.N+1+bl l;omega
theorem gm(L:List bX)(P:bX):cc (L++ [P])=cc L++bM P P.N:=by simp[cc]
theorem mW{L:List bX}{P:bX}(h:L[i]?=some P):cc (L.take (i+1))=cc (L.take i)++bM P P.N:=by rw[UF,h];exact gm _ _
theorem qx{L:List bX}{p:Pt}(h:p∈cc (L.take i)):p∈cc L:=by
 have:cc L=cc (L.take i)++cc (L.drop i):=by
  conv=>lhs;rw[<-WZ i L]
  unfold cc;rw[SH,ZO]
 rw[this];exact ZB _ h
structure Bw(ps l:List Pt):Prop where
 mA:(l.map f_).Nodup
 val:∀p,p∈l->bu ps (f_ p)=some p.2.2
 all:∀q,bu ps q≠none->q∈l.map f_
 len:l.length<=ps.length
theorem Bw.perm{b l c:List Pt}(h:Bw b l)(a:c.Perm l):Bw b c:=
 ⟨(a.map f_).nodup_iff.2 h.mA,λp d=>h.val p (a.mem_iff.1 d),λq e=>(a.map f_).mem_iff.2 (h.all q e),by rw[a.length_eq];exact h.len⟩
theorem pR{a:Nat × Nat->Nat->Nat}:∀l:List (Nat × Nat),(l.map (dZ a)).map f_=l
 | [] =>rfl
 |q::l=>by rw[TS,TS,pR l];rfl
theorem Bw.of{e a:List (Nat × Nat)}{f:Nat × Nat->Nat->Nat}(g:∀q,q∈a↔bu l q≠none)(h:∀q,q∈a->bu l q=some (f q))(i:a.Nodup)(b:a.length<=l.length)(c:e.Perm a):Bw l (e.map (dZ f)):=by refine⟨by rw[pR];exact c.nodup_iff.2 i,λp j=>?_,λq d=>by rw[pR];exact c.mem_iff.2 ((g q).2 d),by rw[RA,c.length_eq];exact b⟩;obtain⟨q,d,rfl⟩:=RQ.1 j;exact h q (c.mem_iff.1 d)
theorem lU:∀{b:List Pt} {q:Nat × Nat} {f:aQ},bu b q=some f->∃p,p∈b/\f_ p=q/\p.2.2=f
 | [],q,f,h=>by cases h
 |p::l,q,f,h=>by
  unfold bu at h;cases a:bu l q with
  |some g=>rw[a]at h;cases h;obtain⟨c,d,i,j⟩:=lU a;exact⟨c,SN _ d,i,j⟩
  |none=>
   rw[a]at h;by_cases e:f_ p=q
   .simp [e]at h;exact⟨p,SE,e,h⟩
   .simp [e]at h
theorem Bw.mem{e l:List Pt}(h:Bw e l){p:Pt}(i:p∈l):p∈e:=by
 obtain⟨f,j,d,g⟩:=lU (h.val p i);have:f=p:=by obtain⟨a,b,c⟩:=f;obtain⟨x,y,z⟩:=p;simp only[f_,Prod.mk.injEq]at d;simp only at g;rw[d.1,d.2,g]
 exact this▸j
structure Rm(g:az)(N C:Nat)(b:By):Prop where
 de:b.N=g.M+1
 mem:∀m v,m<g.M->b.dv m=some v->1+g.R<=v.d.n/\v.d.cn+C<1000000000000
 gy:∀v,b.dv g.M=some v->2+N<=v.d.n/\v.d.cn+C<1000000000000
theorem Rm.run(h:Rm g n C b){l:List fL}(f:∀a,a∈l->LU a)(r:k+l.length<=C):Rm g n k (b.run l).1:=by
 refine⟨by rw[By.fU];exact h.de,λm v i c=>?_,λv c=>?_⟩
 .obtain ⟨d,e,j,o⟩:=By.gu f c;obtain⟨p,q⟩:=h.mem m d i e;omega
 .obtain ⟨d,e,j,o⟩:=By.gu f c;obtain⟨p,q⟩:=h.gy d e;omega
theorem Rm.NN(h:Rm g n C b)(c:200<=C):KO b:=λk v d a=>by
 by_cases e:k=g.M
 .subst e;have:=h.gy v a;omega
 .have:=h.mem k v (by have:=h.de;omega) a;omega
def Su.zg(u:Su)(a:Nat->Bool):Su:={u.sl 0 with st:=λm=>if a m=false then 2 else 1}
def E_(g:az)(u:Su):Ro:=(⟨u.lz,λ_=>none,[],false⟩:Ro).marks g u g.M
def cQ(g:az)(u:Su):Ro:=(E_ g u).marks g u.told g.M
def Mt(g:az)(u:Su)(b:By):=b.run (eC g u.tell)
def KT(g:az)(u:Su)(b:By)(l:List Pt):=(Mt g u b).1.run ((fM (cQ g u) l).map g_)
def E'(g:az)(u:Su)(b:By)(l:List Pt):=(KT g u b l).1.run ((oT g (cQ g u)).map dj)
def Bx(g:az)(u:Su)(b:By)(l:List Pt)(x:Wl):=(E' g u b l).1.ck g.M (aX (x.ep+1) x.nx ((x.t+x.u)%x.N))
structure Ks(g:az)(u:Su)(b:By)(l:List Pt)(x:Wl):Prop where
 e1:(Mt g u b).2.2=0
 e2:(KT g u b l).2.2=0
 e3:(E' g u b l).2.2=0
 e4:(Bx g u b l x).2=0
abbrev Hv(a t b N:Nat)(L:List bX):Wl:=⟨a,b+L.length,true,none,0,N,t,bl L⟩
def Kt[Lo](B:Nat)(b:By)(g:az)(u:Su)(S:dp)(a t c:Nat)(w:M)(e:RW)(d:M):Prop:=
 ∃(Z:bm) (L:List bX) (l:List Pt),aK e (.tuple #[H Z.A,aG 0])/\Z.B=B/\Z.N=u.N/\Z.lz=u.lz/\pL S u.N a t c L/\lQ S u.N a t c L/\bl L<=u.N/\Bw (cc L) l/\
  cZ d Z g ⟨(Bx g u b l (Hv a t c u.N L)).1,(Hv a t c u.N L).cy (a+1),cQ g u⟩ u.told false/\Fr mH aF w d
theorem Fr.Pq[Lo](a:Out S w W)(d:∀k o,S k->w.heap[k]?=some o->T.contains (ty o)=true/\Lo.lo<=k):Fr T aF w W:=
 ⟨a.os,a.tape,a.output,a.size,λk o c b _=>(a.block k (Z_ c) λe=>by
  obtain⟨f,g⟩:=d k o e c;rcases b with b|b
  .rw [f]at b;cases b
  .omega).trans c⟩
theorem all_nil(L a:Nat)(v:QC)(b:Nat × Nat->QC)(c:Nat × Nat->Nat->Nat)(w:M)(h:be w L a v [] b c):
  aE 133 #[ar L] w λe d=>aK e aW/\Out (λk=>k=L) w d:=by
 have f:=I (qZ L v w h.Gp);go_enter func133,ntmps133;go_wp2_with fail;refine f.mono ?_;rintro e g ⟨rfl,i⟩;have j:=I (show Out (λk=>k=L) w (g.alloc (N #[Y 0,Y 0,aW] 206))from i.then (aI ak _));go_wp2_with fail;go_loopw [3,4,5] (λl _ m wr=>l= aW/\m=.bool false/\QX (Out (λk=>k=L) w wr)) (λ_ _ _ _=>0)
 case atStart=>exact⟨rfl,rfl,j⟩
 case round=>obtain⟨rfl,rfl,H⟩:=hrel;go_wp2_with fail;go_ret;exact⟨rfl,H⟩
theorem Ku[Lo](L d:Nat)(v:QC)(j:List (Nat × Nat))(s:Nat × Nat->QC)(t:Nat × Nat->Nat->Nat)(w:M)(h:be w L d v j s t)(D:j.length<=50000)(m:∀k,LZ L d v k->Lo.lo<=k):
  aE 133 #[H L] w λe n=>∃pv y,aK e pv/\List.Perm y j/\fg w.heap.size n pv (y.map (dZ t))/\Out (LZ L d v) w n/\Fr [286,289,1000002] aF w n:=by
 by_cases e:j= []
 .subst e;refine(all_nil L d v s t w h).mono ?_;rintro e n ⟨rfl,r⟩;refine⟨_,[],rfl,XX _,fg.nil _ _,r.mono λk _ l=>.inl l,Fr.Pq r λk o l a=>?_⟩;subst l;obtain⟨E,z⟩:=h.row;rw[z]at a;cases a;exact⟨rfl,m _ (.inl rfl)⟩
 .refine (Hj L d v j s t w h D).mono ?_;rintro _ n ⟨pv,y,rfl,F,G,r⟩;refine⟨pv,y,rfl,F,G,r,Fr.Pq r λk o l a=>⟨?_,m k l⟩⟩;rcases l with f|f|f
  .subst f;obtain⟨E,z⟩:=h.row;rw[z]at a;cases a;rfl
  .subst f;obtain⟨C,c,K,O,X,P⟩:=h.map;rw[K]at a;cases a;obtain⟨p,Q⟩:=WG j e;have this:(ca p C.toList 0).map (·.2)=some (s p):=(P p).trans (ao Q);cases d:ca p C.toList 0 with
   |none=>rw[d]at this;cases this
   |some x=>obtain⟨i,u⟩:=x;obtain⟨e,S,_,_⟩:=jj p _ i u d;have g:=QV S;obtain⟨q,T⟩:=O e g;rw[Da g q T];rfl
  .have U:=h.lC.own;rcases U.2 with⟨A,-⟩|⟨b,V,W,A,-,B,-⟩
   .rw [A]at f;cases f
   .rw [A]at f;cases f;rw[B]at a;cases a;rfl
section
variable [Lo] {Z:bm} {g:az} {u:Su} {yg:Bool} {c6 c7 c18:Nat} {w:QA}
theorem OF{b:By}{x:Wl}{d:Ro}{l:List Pt}{pv:QC}(h:cZ w Z g ⟨b,x,d⟩ u yg)(y:a_ w c6 (al #[H Z.A] 71))(r:a_ w c18 (al #[pv] 162))(z:ff w pv l)(A:g.ok)(B:b.N=g.M+1)(C:∀p,p∈l->p.1<g.M/\p.2.1<g.R)(j:(l.map f_).Nodup)(k:l.length<=50000)(f:∀m v,m<g.M->b.dv m=some v->1+g.R<=v.d.n/\v.d.cn+l.length<1000000000000)(D:∀c:List Pt,c.Perm l->(b.run ((fM d c).map g_)).2.2=0):
  aE 134 #[H Z.A,.func (.func 135) #[] #[H c6,H c18]] w λe i=>aK e (.tuple #[])/\∃c:List Pt,c.Perm l/\cZ i Z g ⟨(b.run ((fM d c).map g_)).1,x,d⟩ u yg/\Fr TB aF w i:=by
 obtain⟨E,-,F⟩:=h.arr.aL;have G:=Hs c6 c18 Z.A Z.R Z.B _ (some (ag Z.W 0)) g Z.fb d b l pv w y r F rfl h.rs.row h.rs.cj z A B C j k f;refine tj Z.A 135 #[] #[H c6,H c18] (λi=>∃c:List Pt,c.Perm l/\cZ i Z g ⟨(b.run ((fM d c).map g_)).1,x,d⟩ u yg/\Fr TB aF w i) w (RF func135 ai rfl) (G.mono λe i ⟨c,o,s,t,q⟩=>?_) λa L ⟨c,o,s,t⟩ n=>⟨c,o,s.below n,t.then n⟩;have K:=D c o;refine⟨⟨0,?_⟩,c,o,⟨h.arr.fr q rfl rfl,⟨h.rs.row.fr q rfl rfl rfl rfl,t,bH.fr h.rs.kf q rfl rfl rfl rfl,h.rs.lo⟩⟩,q⟩;rw[s,K];rfl
theorem OG{s:Rs}{C:Nat}(h:cZ w Z g s u yg)(hF:Fit g C s)(f:(s.b.run ((oT g s.ro).map dj)).2.2=0):
  aE 134 #[H Z.A,.func (.func 137) #[H Z.R] #[]] w λe c=>aK e (.tuple #[])/\cZ c Z g {s with b:=(s.b.run ((oT g s.ro).map dj)).1} u yg/\Fr iH aF w c:=by
 have p:=pb Z.R Z.B Z.W Z.r g Z.fb s C w h.rs hF;refine tj Z.A 137 #[H Z.R] #[] (λc=>cZ c Z g {s with b:=(s.b.run ((oT g s.ro).map dj)).1} u yg/\Fr iH aF w c) w (RF func137 ai rfl) (p.mono λe c ⟨m,k,q,⟨n,r,t⟩,i,j,o⟩=>?_) λa v ⟨i,j⟩ d=>⟨i.below d,j.then d⟩;rw[n]at f;have f:q=0:=f;subst f;have l:m={s with b:=m.b}:=by rw[<-r,<-t]
 refine⟨⟨0,by rw[i];rfl⟩,⟨h.arr.fr o rfl rfl,?_⟩,o⟩;rw[n,<-l];exact j
theorem OH{s:Rs}(h:cZ w Z g s u yg)(n:a_ w c6 (al #[H Z.A] 71))(o:a_ w c7 (al #[H Z.W] 112))(p:g.M<s.b.N)(i:cJ (s.x.ep+1) s.x.nx)(q:∀v,s.b.dv g.M=some v->2+s.x.N<=v.d.n/\v.d.cn<1000000000000)(r:s.x.bad=0)(t:s.x.sure=true)(y:(s.b.ck g.M (aX (s.x.ep+1) s.x.nx ((s.x.t+s.x.u)%s.x.N))).2=0):
  aE 134 #[H Z.A,.func (.func 138) #[] #[H c6,H c7]] w λe c=>aK e (.tuple #[])/\cZ c Z g {s with b:=(s.b.ck g.M (aX (s.x.ep+1) s.x.nx ((s.x.t+s.x.u)%s.x.N))).1,x:=s.x.cy (s.x.ep+1)} u yg/\Fr fT aF w c:=by
 have i:=Ht c6 c7 Z.W Z.r Z.B Z g u yg s.x s.b w n o h.arr h.rs.kf h.rs.cj p i q r t;refine tj Z.A 138 #[] #[H c6,H c7] (λc=>cZ c Z g {s with b:=(s.b.ck g.M (aX (s.x.ep+1) s.x.nx ((s.x.t+s.x.u)%s.x.N))).1,x:=s.x.cy (s.x.ep+1)} u yg/\Fr fT aF w c) w (RF func138 ai rfl) (i.mono λe c ⟨k,f,j,m,l⟩=>?_) λa z ⟨f,j⟩ d=>⟨f.below d,j.then d⟩;rw[y]at f m;exact⟨⟨k,f⟩,⟨h.arr.fr l rfl rfl,⟨h.rs.row.fr l rfl rfl rfl rfl,j,m,h.rs.lo⟩⟩,l⟩
end
theorem mU.fr[Lo]{a:Nat->Bool}(h:mU w n m g u a)(b:Fr T aF w W)(d:T.contains 265=false)(f:T.contains 122=false):mU W n m g u a:=by obtain⟨c,i,j,l,o⟩:=h;refine⟨c,i,j,b.hp l d,λk p=>?_⟩;obtain⟨q,r,s⟩:=o k p;exact⟨q,λe=>(r e).fr b f,s⟩
abbrev Mu(B:Nat)(g:az)(u:Su)(a c:Nat)(b d:Option SZ):Array QC:= #[H B,bg u.id,bg u.ev,bg u.sf,Y u.rl,Y g.M,Y g.c,Y g.s,Y u.N,.bool u.lz,.bool u.lost,a' a g.M c,Y u.cur,.pointer b,.pointer d,.bool false,aG 0,.bool true,.bool true]
structure Qd[Lo](w:QA)(B:Nat)(b:By)(g:az)(u:Su)(hs:Nat->Bool)(D A c6 sb c:Nat)(w4:QA):Prop where
 d:w4.heap[D]? =some (N #[aG 0] 35)
 a:w4.heap[A]? =some (N (Mu B g (u.sl 0) sb c none none) 120)
 ptr:w4.heap[c6]? =some (N #[H A] 71)
 uQ:∃cs,w4.heap[sb]? =some (N cs 122)/\∀m,m<g.M->cs[m]? =some (.int .u8 (if hs m=false then 2 else 1:Nat))
 cj:aC w4 B b
 bV:Fr TB aF w w4
 cap:g.M<=c
 new:w.heap.size<=D/\w.heap.size<=A/\w.heap.size<=c6/\w.heap.size<=sb
theorem EU.base[Lo]{e:RW}(h:EU n m b F k i j C W e z)(d:au w W):EU n m b F k i j C w e z:=by obtain⟨f,r,a,c,L,g,l,o,p,q,s,t,u,x,v⟩:=h;have:=d.size;exact⟨f,r,a,c,L,g,l,o,p,q.wide this,s,t,(Fr.af d).tr u,J,J⟩
theorem Hw{b a:Array QC}{f c:Nat × Nat}(h:w.heap[n]?=some (.cells b k f))(d:w.heap[m]?=some (.cells a i c))(g:k≠i):¬n=m:=λe=>by rw[e,d]at h;exact g (UU (RK h)).2.1.symm
theorem vN(A:Nat)(a:Array QC)(M:Nat)(w:QA)(h:a_ w A (N a 120))(b:a[5]?=some (Y M)):
  aE 107 #[H A] w λe c=>aK e (Y M)/\w=c:=by
 obtain⟨k,f,z⟩:=cr h;have d:=(k 5).trans b;go_enter func107,ntmps107;go_wp2;go_ret;exact⟨rfl,rfl⟩
theorem mT.wU{L:List (List Pt)}(h:mT n w v m L)(b:w.heap[p.block]?=some O)(c:ty O≠204/\ty O≠5/\ty O≠206)(x:QC):mT n (w.setCell p x) v m L:=by
 refine h.out (S:=λk=>k=p.block) ((Out.refl (λk=>k=p.block) w).setCell (p:=p) (λ_=>rfl) x) (λk d e=>?_) λk l e a=>?_
 .subst e;obtain⟨o,-,a,-⟩:=h;rcases a.2 with⟨rfl,-⟩|⟨g,f,i,rfl,-,j,-⟩
  .cases d
  .cases d;rw[j]at b;cases b;exact c.1 rfl
 .subst e;rw[b]at a;cases a;exact c.2
theorem kQ.below(h:kQ w n l z)(a:au z W):kQ w n l W:=by obtain⟨b,v,c,d,e,f,g⟩:=h.lift;exact⟨h.dw.trans (a.mono h.dw.size),h.new,⟨b,v,c,d,e,f.below a,g⟩,((kp a n (QO _ _ h.c0)).1 0).trans h.c0⟩
theorem Fr.Mv[Lo](h:Fr T aF w W)(a:Out S W z)(d:∀k,k<w.heap.size->¬S k):Fr T aF w z:=
 ⟨a.os.trans h.os,a.tape.trans h.tape,a.output.trans h.output,QE h.size a.size,λk o b e f=>by have c:=h.block k o b e f;exact(a.block k (Z_ c) (d k (Z_ b))).trans c⟩
theorem Fr.Qe[Lo](h:Fr T aF w W)(a:Fr T S W z)(d:∀k,k<w.heap.size->¬S k):Fr T aF w z:=
 ⟨a.os.trans h.os,a.tape.trans h.tape,a.output.trans h.output,QE h.size a.size,λk o b c e=>a.block k o (h.block k o b c e) c (d k (Z_ b))⟩
theorem Su.xT{b:Nat->Bool}(a:u.ok g)(c:∀m,m<g.M->u.st m=1):(u.zg b).ok g:=by
 refine⟨a.b_,a.id,a.ev,QN _,a.ring,λm _=>?_,λm k _ _ d _=>?_,a.cur.1,λe=>?_⟩
 .show (if b m=false then 2 else 1)=1\/(if b m=false then 2 else 1)=2\/_;split<;>simp
 .have d:(if b m=false then 2 else 1)=3:=d;split at d<;>omega
 .obtain ⟨m,f,h⟩:=a.cur.2 e;rw[c m f]at h;omega
structure Qg[Lo](B:Nat)(b:By)(g:az)(u:Su)(S:dp)(ep t sq:Nat)(w0 w4:QA)(D T W r cL:Nat)(a:Option SZ)(L:List bX)(wx:QA):Prop where
 lZ:pL S u.N ep t sq L/\lQ S u.N ep t sq L/\bl L<=u.N
 Qh:mT w4.heap.size wx (.slice a L.length cL) sq (L.map fun P=>bM P P.N)
 cj:aC wx B b
 kf:bH wx W r B g.M (Hv ep t sq u.N L)
 bV:Fr (35::TB) aF w4 wx
 OI:Fr TB aF w0 wx
 tp:wx.heap[T]? =some (al #[H W] 112)
 d:wx.heap[D]? =some (al #[aG 0] 35)
 new:w4.heap.size<=T/\w4.heap.size<=W/\w4.heap.size<=r
theorem xT[Lo](N3:kR)(B:Nat)(b:By)(g:az)(u:Su)(i6:Nat->Bool)(R3:Option Nat)(S:dp)(b8 t Y:Nat)(v:Dv)(w:QA)(h:aC w B b)(b9:u.ok g)(i9:u.lost=false)(F5:∀m,m<g.M->u.st m=1)(S6:b.br=false)(S7:b.aZ=none)(N4:∀k,k<=g.M->Pp g u i6 b k)(S8:i6 g.M=true)(N5:∀m,m<g.M->i6 m=false->R3=some m)(q0:KS b g.M v)(N6:v.d.eG)(i2:cJ b8 Y)(N7:t<u.N)(S9:aD (v.d.view 1) (aX b8 Y t))(T0:∀k,k<u.N->S k=v.d.view (2+k))(M6:Rm g u.N 10000 b)(F6:u.ev<4000000000000000000)(F7:b8<4000000000000000000/\Y<4000000000000000000)(R4:∀L l,pL S u.N b8 t Y L->lQ S u.N b8 t Y L->bl L<=u.N->Bw (cc L) l->Ks g (u.zg i6) b l (Hv b8 t Y u.N L))(F8:∀L p,pL S u.N b8 t Y L->lQ S u.N b8 t Y L->p∈cc L->p.1<g.M/\p.2.1<g.R):
  aE 72 #[ar B] w (Kt B b g (u.zg i6) S b8 t Y w):=by
 have T1:=h.lo;have j0:=h.lt;have T2:=b9.b_.m3;have R5:=b9.b_.m16;have F3:=M6.de;have N8:QX (∀W,aC W B b->aE 49 #[ar B] W λe E=>aK e (ae ((g.M+1:Nat)))/\W=E):=λW N9=>by obtain⟨S,d6,U9,V0,r,wc,f,F9⟩:=N9;have:=ll F9;rwa[F3]at this
 obtain⟨D,R6⟩:=ah w.heap.size;obtain⟨w1,r6⟩:=ah (w.alloc (al #[aG 0] 35));have r7:au w w1:=by rw[<-r6];exact aI ak _
 have G0:a_ w1 D (al #[aG 0] 35):=by rw[<-r6,<-R6];exact QB _ _
 have O0:=ad (xS B b g u i6 w1 (h.below r7) F3 b9 S6 S7 N4);have O1:=ad (λW M7 d6 (T3:mU W M7 d6 g u i6)=>Bf M7 d6 g u i6 R3 W T3 b9 i9 F5 S8 N5);have O2:=ad (λA r0 W (B6:a_ W A (al r0 120)) (h5:r0[5]?=some (ae g.M))=>vN A r0 g.M W B6 h5);have O3:=ad (λW (N9:aC W B b)=>Hn N3 B g.M u.N b8 Y t b v S W N9 q0 b9.ring.1 b9.ring.2 ((M6.gy v q0.dv).1) N6 i2 N7 S9 T0);have r8:=aM r7 G0 (h.below r7);have f5:=aB r6 R6;have H:=ad (show Lo.lo<=D by omega);have e1:decide (((g.M+1:Nat):Int)<4)=false:=decide_eq_false aa;have T4:decide (g.M+1<4)=false:=decide_eq_false aa;clear r7 G0 r6
 go_enter_defers func72,ntmps72
 go_wp2_with fail;rw[f5.1];obtain⟨d0,d1,d2⟩:=cr r8.2.1;go_wp2_with(first|(go_at_call 49;refine(N8 _ r8.2.2).mono ?_;rintro e w2 ⟨rfl,rfl⟩)|(go_at_call 127;refine O0.mono ?_;rintro e w2 ⟨M7,d6,rfl,b3⟩;have H2:=ad b3;have B7:=Fr.hp b3.2.2 r8.2.1 rfl;have r9:=ad B7;clear b3 d0 d1 d2;obtain⟨d0,d1,d2⟩:=cr B7;clear B7)|(go_at_call 128;have B8:=(Fr.refl [35] aF w2).set (p:=ag D 0) r9 rfl H (aG 0);refine(O1 _ M7 d6 (H2.1.fr B8 rfl rfl)).mono ?_;rintro e w3 ⟨g6,c,R7,r0,rfl,b3⟩;have B9:=(b3.1.block D (by rw[RS];exact Z_ r9)).trans (heap_setCell_same w2 D 0 _ 35 (aG 0) r9);have H3:=aM B8 B9 b3;clear b3 d0 d1 d2 B8;obtain⟨d0,d1,d2⟩:=cr B9;clear B9));obtain⟨w4,j5⟩:=ah ((((w3.setCell (ag D 0) (aG 0)).alloc (al (th g (u.sl 0) (a' g6 g.M c) R7 true) 194)).alloc (al (Mu B g (u.sl 0) g6 c none none) 120)).alloc (al #[.pointer (some ⟨w3.heap.size+1,0,none⟩)] 71));rw[j5];obtain⟨A,B6⟩:=ah (w3.heap.size+1);have F:QX (Qd w B b g u i6 D A (A+1) g6 c w4):=by
  obtain⟨q1,q2,q3,q4,q5,q6⟩:=H3.out;have G1:Fr TB aF w w2:=(Fr.af r8.1).tr H2.2.2;have G2:w.heap.size<=D:=RO f5.2;have d7:Fr TB aF w w3:=(G1.new (p:=ag D 0) G2 (aG 0)).then q3;have O4:=(Fr.refl [35] aF w3).set (p:=ag D 0) q2 rfl H (aG 0);have s0:SC (w3.setCell (ag D 0) (aG 0)).heap.size (w3.setCell (ag D 0) (aG 0)) w4:=by rw[<-j5];exact aI (aI (aI ak _) _) _
  have v2:(w3.setCell (ag D 0) (aG 0)).heap.size=w3.heap.size:=RS _ _ _;have T5:D<w2.heap.size:=Z_ r9;rw[RS]at q5;obtain⟨O5,e1,e2⟩:∃r0,a_ w3 g6 (al r0 122)/\∀m,m<g.M->r0[m]?=some (.int .u8 (if i6 m=false then 2 else 1:Nat)):=⟨_,q6⟩;have O6:=Z_ q2;refine⟨(s0.block D (by rw[v2];exact O6)).trans (heap_setCell_same w3 D 0 _ 35 (aG 0) q2),?_,?_,⟨O5,(s0.block g6 (by rw[v2];exact Z_ e1)).trans ((RN w3 (ag D 0) g6 (aG 0) (by show g6≠D;omega)).trans e1),e2⟩,?_,(d7.new (p:=ag D 0) G2 (aG 0)).then s0,q4,?_⟩
  .rw [<-j5,<-B6,<-v2];exact(QW _ _ _ aJ).trans (fe _ _ _)
  .rw [<-j5,<-B6,show w3.heap.size+1+1=(((w3.setCell (ag D 0) (aG 0)).alloc (al (th g (u.sl 0) (a' g6 g.M c) R7 true) 194)).alloc (al (Mu B g (u.sl 0) g6 c none none) 120)).heap.size by simp];exact QB _ _
  .exact (((H2.2.1.fn q1 rfl).below q3).fn O4 rfl).below s0
  .have:=d7.size;omega
 rw[show w3.heap.size+1+1=A+1 by rw[B6]]
 try rw[B6]
 clear d0 d1 d2 j5 B6;obtain⟨d0,d1,d2⟩:=cr F.d;obtain⟨J,a1,a2⟩:=cr F.a;obtain⟨N,p1,p2⟩:=cr F.ptr;have a8:w4.cell? (ag A 8)=some (ae u.N):=J 8;clear J;have n1:¬D=A:=Hw F.d F.a aj;have n2:¬A=D:=λe=>n1 e.symm;have n3:¬D=A+1:=Hw F.d F.ptr aj;have n4:¬A+1=D:=λe=>n3 e.symm;have l1:=Z_ F.ptr;have l2:=Z_ F.a;have l3:=Z_ F.d;have n5:¬w4.heap.size=A+1:=YX l1;have n6:¬A+1=w4.heap.size:=XG l1;have n7:¬w4.heap.size=A:=YX l2;have n8:¬A=w4.heap.size:=XG l2;have n9:¬w4.heap.size=D:=YX l3;have O7:¬D=w4.heap.size:=XG l3;have G3:=ad (λW (G:au w4 W)=>O2.out A _ W ((G.block A (Z_ F.a)).trans F.a) rfl);have G4:QX (∀W,au w4 W->aE 129 #[ar B,ae g.M,ae u.N] W λe E=>EU B g.M b S u.N b8 t Y w4 e E/\Fr TB aF W E):=λW G=>(O3 W (F.cj.below G)).mono λe E b3=>⟨b3.base G,by obtain⟨_,_,_,_,_,_,_,_,_,_,_,_,q,_⟩:=b3;exact q⟩;go_cut [7,8]from 78 to 188 (λs7 s8 T6=>∃(T W r F4:Nat) (a:Option SZ) (L:List bX),s7= ar T/\s8=.slice a L.length F4/\QX (Qg B b g u S b8 t Y w w4 D T W r F4 a L T6))
 case first=>
  go_region_held3(λE=>E.cell? ⟨A+1,0,none⟩=some (ar A)/\E.cell? (ag A 8)=some (ae u.N)) ((simp[*,go_sem];done)) (first|(go_at_call 107;refine(G3 _ bF).mono ?_;rintro e w5 ⟨rfl,rfl⟩)|(go_at_call 129;refine(G4 _ bF).mono ?_;rintro e w6 ⟨⟨W,r,a,F4,L,rfl,b3⟩,G5⟩;(try(have h7:=Fr.hp G5 (QB _ (al #[.pointer none] 112)) rfl;obtain⟨c7,f7,z7⟩:=cr h7;have H7:=ad h7;clear h7));have j6:=b3.2.2.2.2.2.2.1;have a6:w6.cell? (ag A 8)=some (ae u.N):=(cr (Fr.hp j6 F.a rfl)).1 8;have a7:=Z_ (Fr.hp j6 F.a rfl);obtain⟨p3,p4,p5⟩:=cr (Fr.hp j6 F.ptr rfl);obtain⟨d3,d4,d5⟩:=cr (Fr.hp j6 F.d rfl);have m1:¬w6.heap.size=A+1:=YX p5;have m2:¬A+1=w6.heap.size:=XG p5;have m3:¬w6.heap.size=A:=YX a7;have m4:¬A=w6.heap.size:=XG a7;have m5:¬w6.heap.size=D:=YX d5;have m6:¬D=w6.heap.size:=XG d5;clear N p1 p2 d0 d1 d2 a1 a2 a8;have H6:=ad b3;clear b3 j6 G5))
  all_goals go_wp2
  all_goals go_meet
  all_goals(obtain⟨q1,q2,q3,q4,q5,q6,q7,q8,q9⟩:=H6.out;have s1:=Fr.hp q7 F.d rfl;have G6:Lo.lo<=D:=H.out;have f1:=(Fr.refl [35] aF w6).set (p:=ag D 0) s1 rfl G6 (aG 0))
  .have G:=(aI ak (al #[ar W] 112):SC (w6.setCell (ag D 0) (aG 0)).heap.size (w6.setCell (ag D 0) (aG 0)) _);have v2:(w6.setCell (ag D 0) (aG 0)).heap.size=w6.heap.size:=RS _ _ _;refine⟨_,W,r,F4,a,L,rfl,rfl,⟨q1,q2,q3⟩,(q4.wU (p:=ag D 0) s1 aj _).below G,(aC.fr q5 f1 rfl λ_ _ h=>h.elim).below G,bH.fr (T:= []) (bH.fr q6 f1 rfl rfl rfl rfl) (Fr.af G) rfl rfl rfl rfl,((q7.wide (35::TB) rfl).tr (f1.wide (35::TB) rfl)).then G,((F.bV.tr q7).new (p:=ag D 0) F.new.1 _).then G,?_,(G.block D (by rw[v2];exact d5)).trans (heap_setCell_same w6 D 0 _ 35 _ s1),q7.size,q8,q9⟩;have:=QB (w6.setCell (ag D 0) (aG 0)) (al #[ar W] 112);rwa[v2]at this
  all_goals
   have f2:=(Fr.refl [112] aF w6).set (p:=ag w4.heap.size 0) H7 rfl (QE H (TL l3)) (ar W);have T7:=heap_setCell_same w6 w4.heap.size 0 _ 112 (ar W) H7;have C0:=(RN w6 (ag w4.heap.size 0) D (ar W) O7).trans s1;have f3:=(Fr.refl [35] aF _).set (p:=ag D 0) C0 rfl G6 (aG 0);refine⟨_,W,r,F4,a,L,rfl,rfl,⟨q1,q2,q3⟩,((q4.wU (p:=ag w4.heap.size 0) H7 aj _).wU (p:=ag D 0) C0 aj _),aC.fr (aC.fr q5 f2 rfl λ_ _ h=>h.elim) f3 rfl λ_ _ h=>h.elim,bH.fr (bH.fr q6 f2 rfl rfl rfl rfl) f3 rfl rfl rfl rfl,(((q7.wide (35::TB) rfl).new (p:=ag w4.heap.size 0) (QH _) _)).tr (f3.wide (35::TB) rfl),(((F.bV.tr q7).new (p:=ag w4.heap.size 0) F.bV.size _)).new (p:=ag D 0) F.new.1 _,?_,heap_setCell_same _ D 0 _ 35 _ C0,QH _,q8,q9⟩;exact(RN _ (ag D 0) w4.heap.size (aG 0) n9).trans T7
 case rest=>
  rename_i T8;refine T8 _ _ ?_;obtain⟨T,W,r,F4,V1,L,rfl,rfl,z⟩:=hcut;have s2:=ad (Fr.hp z.bV F.a rfl);have G7:=ad (Fr.hp z.bV F.ptr rfl);obtain⟨d3,d4,d5⟩:=cr z.d;obtain⟨a3,a4,a5⟩:=cr s2;obtain⟨p3,p4,p5⟩:=cr G7;obtain⟨t3,t4,t5⟩:=cr z.tp;clear d0 d1 d2 a1 a2 a8 N p1 p2 G3 G4;have O8:=ad (λW=>yC W);go_wp2_with(first|(go_at_call 130;refine(O8 _).mono ?_;rintro e w7 ⟨r3,C1,rfl,G8,G9,H0,O9,f6⟩;have P0:=ad f6;have H1:QX (kQ wc r3 [] w7):=⟨f6,H0,⟨C1,_,[],_,_,G8,λq=>⟨λe=>(by cases e),λe=>absurd rfl e⟩,λq e=>(by cases e),QH _,O9,λx e=>(by cases e)⟩,G9⟩;obtain⟨d0,d1,d2⟩:=kp f6 D d5;obtain⟨J,a1,a2⟩:=kp f6 A a5;obtain⟨N,p1,p2⟩:=kp f6 (A+1) p5;obtain⟨t0,t1,t2⟩:=kp f6 T t5;clear f6 G8 G9));obtain⟨C2,s3⟩:=ah L.length;rw[s3];have s4:=ad s3;have T9:C2<=2048:=by rw[<-s3];exact QE (jS L) (QE z.lZ.2.2 b9.ring.2)
  clear s3;go_loopw [102] (λj7 wr=>∃i:Nat,i<=C2/\j7= ae i/\QX (kQ wc r3 (cc (L.take i)) wr)) (λj7 _=>C2-(intOf j7).toNat)
  case atStart=>exact⟨0,QN _,rfl,H1⟩
  case round=>
   obtain⟨i,V2,rfl,M8⟩:=hrel;clear H1 P0 d0 d1 d2 J a1 a2 N p1 p2 t0 t1 t2;obtain⟨d9,rfl⟩:∃d9:QA,d9=wr:=⟨_,rfl⟩;have d:=M8.dw;obtain⟨d0,d1,d2⟩:=kp d D d5;obtain⟨J,a1,a2⟩:=kp d A a5;obtain⟨N,p1,p2⟩:=kp d (A+1) p5;obtain⟨t0,t1,t2⟩:=kp d T t5;by_cases j0:i<C2
   .obtain ⟨P,P1⟩:∃P,L[i]?=some P:=⟨_,QP (by rw[s4.out];exact j0)⟩;have s5:=ad P1;obtain⟨H8,H9,U,v4⟩:=z.Qh;have C3:i<H8.length:=by rw[H9,RA,s4.out];exact j0
    obtain⟨f1,f2⟩:=rJ Y H8 i H8[i] (QP C3);have I0:=v4 i _ _ (by rw[RL,P1];rfl) (QP C3);rw[RA,s4.out]at U;rcases U.2 with⟨-,e⟩|⟨R8,d6,U0,e1,-,C4,-,-,P2,I1⟩
    .omega
    cases e1;obtain⟨V3,I2⟩:=ah (H8[i] );rw[I2]at f2 I0;have P3:∀k v,k<C2*2->(jz Y H8)[k]?=some v->d9.cell? (ag R8 k)=some v:=λk v e0 e=>by rw[(kp d R8 (Z_ C4)).1 k,(cr C4).1 k,<-TX];rwa[<-I1,List.getElem?_take_of_lt e0]at e
    have x1:=P3 _ _ aa f1;have x2:=P3 _ _ aa f2;obtain⟨C5,C6,rfl,P4,v5⟩:=I0;obtain⟨v6,s6⟩:=ah ((bM P P.N).length);rw[s6]at x2 P4;have C7:=ad s6;have P5:=ad v5;have U1:v6<=1023:=by rw[<-s6,cT];exact(z.lZ.1 i P s5).cA.2
    have j1:(i:Int)<(C2:Int):=aa;have j2:(0:Int)<=(i:Int):=aa;have I3:=ad j0;clear P3 f1 f2 v4 U C4 I1 v5 s6 I2 P1 j0 H9 C3 P2;go_wp2_with fail;obtain⟨w8,C8⟩:=ah (d9.alloc (al #[.int .u64 ((Y:Int)+i),.slice C5 v6 C6] 204));rw[C8];have I4:QX (kQ wc r3 (cc (L.take i)++(bM P P.N).take 0) w8):=by rw[List.take_zero,UB,<-C8];exact M8.below (aI ak _)
    clear C8 d0 d1 d2 J a1 a2 N p1 p2 t0 t1 t2 x1 x2 d;go_loopw [109] (λj8 wr=>∃j:Nat,j<=v6/\j8= ae j/\QX (kQ wc r3 (cc (L.take i)++(bM P P.N).take j) wr)) (λj8 _=>v6-(intOf j8).toNat)
    case atStart=>exact⟨0,QN _,rfl,I4⟩
    case round=>
     obtain⟨j,V4,rfl,M9⟩:=hrel;clear I4;obtain⟨i7,rfl⟩:∃i7:QA,i7=wr:=⟨_,rfl⟩;have d:=M9.dw;obtain⟨d0,d1,d2⟩:=kp d D d5;obtain⟨J,a1,a2⟩:=kp d A a5;obtain⟨N,p1,p2⟩:=kp d (A+1) p5;obtain⟨t0,t1,t2⟩:=kp d T t5;by_cases I5:j<v6
     .obtain ⟨p,g7⟩:∃p,(bM P P.N)[j]?=some p:=⟨_,QP (by rw[C7.out];exact I5)⟩;rcases P5.out with e|⟨N0,P6,r0,V5,rfl,j9,I6⟩
      .rw [e]at g7;simp at g7
      obtain⟨e1,e2,v3,e3,C9⟩:=I6 j p g7;have s9:=kp d N0 (Z_ j9);have x1:i7.cell? ⟨N0,P6+j*3,none⟩=some (ae p.1):=by rw[s9.1,QT _ _ _ _ _ _ j9];exact e1
      have x2:i7.cell? ⟨N0,P6+j*3+1,none⟩=some (ae p.2.1):=by rw[s9.1,QT _ _ _ _ _ _ j9];exact e2
      have x3:i7.cell? ⟨N0,P6+j*3+2,none⟩=some v3:=by rw[s9.1,QT _ _ _ _ _ _ j9];exact e3
      have v7:p∈cc L:=qx (i:=i+1) (by rw[mW s5.out];exact YR _ (QV g7));obtain⟨r1,r2⟩:=F8 L p z.lZ.1 z.lZ.2.1 v7;obtain⟨D0,D1,P7⟩:=C9.eG.form;subst P7;have t6:=aT C9 g7 r1 r2;have D2:=ad (λW=>show aE 131 #[.agg #[ae g.M,ae g.c,ae g.s],ae p.1,ae p.2.1] W _ from Hu b9.b_ p.1 p.2.1 W r1 r2);obtain⟨P8,D3⟩:=ah p.1;obtain⟨P9,D4⟩:=ah p.2.1;rw[D3]at x1 D2;rw[D4]at x2 D2;have I7:=aB D3 D4;have j3:(j:Int)<(v6:Int):=aa;have j4:(0:Int)<=(j:Int):=aa;have I8:=ad I5;clear j9 I6 e1 e2 e3 C9 g7 v7 r1 r2 D3 D4 s9;go_wp2_with fail;obtain⟨w9,I9,t7,D5⟩:=qc i7 (al #[ae P8,ae P9,.slice D0 128 D1] 206);rw[I9];obtain⟨X,D6⟩:=ah i7.heap.size;rw[D6]at D5;rw[D6];have D7:=aB t7 D6;obtain⟨y0,y1,y2⟩:=cr D5;obtain⟨y3,y4,y5⟩:=kp t7 A a2;obtain⟨y6,y7,y8⟩:=kp t7 (A+1) p2;have z5:w9.cell? (ag A 5)=some (ae g.M):=by rw[y3,J,a3];rfl
      have z6:w9.cell? (ag A 6)=some (ae g.c):=by rw[y3,J,a3];rfl
      have z7:w9.cell? (ag A 7)=some (ae g.s):=by rw[y3,J,a3];rfl
      have z8:w9.cell? ⟨A+1,0,none⟩=some (ar A):=by rw[y6,N,p3];rfl
      have z9:w9.cell? (ag X 0)=some (ae P8):=by rw[y0];rfl
      have U2:w9.cell? (ag X 1)=some (ae P9):=by rw[y0];rfl
      have U3:w9.cell? (ag X 2)=some (.slice D0 128 D1):=by rw[y0];rfl
      clear I9 t7 D5 D6 y0 y1 y3 y4 y6 y7 d0 d1 d2 J a1 a2 N p1 p2 t0 t1 t2 x1 x2 x3 d;go_region_held3(λE=>E.cell? ⟨A+1,0,none⟩=some (ar A)/\E.cell? (ag A 5)=some (ae g.M)/\E.cell? (ag A 6)=some (ae g.c)/\E.cell? (ag A 7)=some (ae g.s)/\E.cell? (ag X 0)=some (ae P8)/\E.cell? (ag X 1)=some (ae P9)) ((simp[*,go_sem];done)) (first
       |(go_at_call 131;refine(D2 _).mono ?_;rintro e O ⟨⟨x,y,rfl⟩,f8⟩;have n:au w9 O:=by first|exact f8|exact via (cE ak _) f8
         obtain⟨k0,k1,k2⟩:=kp n A y5;obtain⟨k3,k4,k5⟩:=kp n (A+1) y8;obtain⟨k6,k7,k8⟩:=kp n X y2;have s:=ad n;clear f8 n))
      have J0:=ad (λW (G:au w9 W)=>EO (p:=p) (u:=.slice D0 128 D1) M9 (D7.1.trans (G.mono D7.1.size)) ((((t6.1.eG).below M9.dw).below D7.1).below G) (by have:=t6.2.2.1;omega) (by have:=t6.2.2.2;have:=az.gY b9.b_;omega) (by
       have D8:=jC L;have h1:(cc (L.take i)).length+v6<=(cc L).length:=by
        have:=s5.out;have e1:=mW this;have e2:cc L=cc (L.take (i+1))++cc (L.drop (i+1)):=by
         conv=>lhs;rw[<-WZ (i+1) L]
         unfold cc;rw[SH,ZO]
        rw[e2,e1,QU,QU,C7.out];omega
       have:=z.lZ.2.2;have:=b9.ring.2;rw[QU,VD];omega))
      rw[I7.1,I7.2]at J0;go_wp2_with(first|(go_at_call 132;refine(J0 _ (by first|exact s|exact s.trans ((cE ak _).mono s.size))).mono ?_;rintro e f9 ⟨rfl,b3⟩;have a9:=ad b3;clear b3));have Q0:(bM P P.N).take (j+1)=(bM P P.N).take j++ [p]:=by rw[UF,t6.2.1];rfl
      have Q1:QX (kQ wc r3 (cc (L.take i)++(bM P P.N).take (j+1)) f9):=by rw[Q0,<-SY];exact a9
      exact⟨⟨j+1,I8,by go_num,Q1⟩,by have:=I8.out;simp[intOf];omega⟩
     .obtain rfl:j=v6:=aa;have Q1:QX (kQ wc r3 (cc (L.take (i+1))) i7):=by have:=M9.out;rw[<-C7.out,UC,<-mW s5.out]at this;exact this
      clear d0 d1 d2 J a1 a2 N p1 p2 t0 t1 t2 d;go_wp2_with fail;exact⟨⟨i+1,I3,by go_num,Q1⟩,by have:=I3.out;simp[intOf];omega⟩
   .obtain rfl:i=C2:=aa;have U4:QX (kQ wc r3 (cc L) d9):=by have:=M8.out;rw[<-s4.out,UC]at this;exact this
    clear M8;go_wp2_with fail;obtain⟨d8,g0⟩:=ah (d9.setCell (ag A 14) (ar W));have D9:a_ d9 A (al (Mu B g (u.sl 0) g6 c none none) 120):=(d.block A a5).trans s2;have J1:a_ d8 A (al (Mu B g (u.sl 0) g6 c none (some (ag W 0))) 120):=by rw[<-g0];exact heap_setCell_same d9 A 14 _ 120 _ D9
    have J2:Fr [120] aF d9 d8:=by rw[<-g0];exact(Fr.refl [120] aF d9).set (p:=ag A 14) D9 rfl (QE (QE (by rw[f5.2];exact H) (QH _)) F.new.2.1) _
    have J3:Out (λk=>k=A) d9 d8:=by rw[<-g0];exact(Out.refl (λk=>k=A) d9).setCell (p:=ag A 14) (λ_=>rfl) _
    have Q2:d8.heap.size=d9.heap.size:=by rw[<-g0];exact RS _ _ _
    have t8:∀k o,k≠A->a_ d9 k o->a_ d8 k o:=λk o e0 e=>by rw[<-g0];exact(RN d9 (ag A 14) k _ e0).trans e
    rw[g0];have M:=aT J1 J2 Q2 J3;have t9:=ad (t8 D _ n1 ((d.block D d5).trans z.d));have J4:=ad (t8 (A+1) _ aa ((d.block (A+1) p5).trans G7));have u0:=ad (t8 T _ (λe=>by have:=z.tp;rw[e,s2.out]at this;cases this) ((d.block T t5).trans z.tp));clear g0 D9 J1 J2 t8 J3 d0 d1 d2 J a1 a2 N p1 p2 t0 t1 t2;obtain⟨d0,d1,d2⟩:=cr t9;obtain⟨J,a1,a2⟩:=cr M.1;obtain⟨N,p1,p2⟩:=cr J4;obtain⟨t0,t1,t2⟩:=cr u0;have z0:d8.cell? ⟨A+1,0,none⟩=some (ar A):=N 0;have z1:d8.cell? (ag T 0)=some (ar W):=t0 0;have z2:d8.cell? (ag A 5)=some (ae g.M):=J 5;have z3:d8.cell? (ag A 6)=some (ae g.c):=J 6;have z4:d8.cell? (ag A 7)=some (ae g.s):=J 7;have z5:d8.cell? (ag A 9)=some (.bool u.lz):=J 9;have z6:d8.cell? (ag A 13)=some (.pointer none):=J 13;have z7:d8.cell? (ag D 0)=some (aG 0):=d0 0;have v8:aC d8 B b:=aC.fr (z.cj.below d) M.2.1 rfl λ_ _ h=>h.elim;have Q3:QX (∀V,au d8 V->aE 57 #[ar B,.agg #[ae g.M,ae g.c,ae g.s],ar W,.bool u.lz] V (Iv B (some (ag W 0)) g u.lz V)):=λV G=>yS B (some (ag W 0)) g u.lz b V (v8.below G) b9.b_ F3;have o1:¬T=A:=Hw u0 M.1 aj;have o2:¬A=T:=λe=>o1 e.symm;have o3:¬T=D:=Hw u0 t9 aj;have o4:¬D=T:=λe=>o3 e.symm;clear J N t0 d0;go_region_held3(λE=>E.cell? ⟨A+1,0,none⟩=some (ar A)/\E.cell? (ag T 0)=some (ar W)/\E.cell? (ag A 5)=some (ae g.M)/\E.cell? (ag A 6)=some (ae g.c)/\E.cell? (ag A 7)=some (ae g.s)/\E.cell? (ag A 9)=some (.bool u.lz)) ((simp[*,go_sem];done)) (first
     |(go_at_call 57;refine(Q3 _ bF).mono ?_;rintro e O ⟨R,v9,rfl,J5,J6,u1,f8⟩;have n:au d8 O:=by first|exact f8|exact via bF f8
       obtain⟨k0,k1,k2⟩:=kp n A a2;obtain⟨k3,k4,k5⟩:=kp n (A+1) p2;obtain⟨k6,k7,k8⟩:=kp n T t2;obtain⟨k9,Q4,U5⟩:=kp n D d2;have s:=aT J5 J6 u1 n;clear f8 n J5 J6 u1))
    obtain⟨i8,e4⟩:=ah ((O.setCell (ag A 13) (ar R)).setCell (ag D 0) (aG 0));obtain⟨Z,N1⟩:∃Z:bm,Z=⟨A,B,R,W,r,v9,g6,u.N,u.lz⟩:=⟨_,rfl⟩;obtain⟨C,e5⟩:=ah (u.zg i6);have w0:Fr mH aF w O:=((((z.OI.then d).wide mH rfl).tr (M.2.1.wide mH rfl)).then s.2.2.2);have l0:=(s.2.2.2.block A a2).trans M.1;have x0:=(s.2.2.2.block D d2).trans t9;have e6:=heap_setCell_same O A 13 _ 120 (ar R) l0;have b5:=(RN O (ag A 13) D (ar R) n1).trans x0;have u2:a_ i8 A (al (Bu Z g C c true) 120):=by rw[<-e4,N1,<-e5];exact(RN _ (ag D 0) A (aG 0) n2).trans e6
    have E0:a_ i8 D (al #[aG 0] 35):=by rw[<-e4];exact heap_setCell_same _ D 0 _ 35 _ b5
    have u3:∀k o,k≠A->k≠D->a_ O k o->a_ i8 k o:=λk o h1 h2 e=>by rw[<-e4];exact(RN _ (ag D 0) k (aG 0) h2).trans ((RN O (ag A 13) k _ h1).trans e)
    have l4:Fr [35,120] aF O i8:=by rw[<-e4];exact((Fr.refl [35,120] aF O).set (p:=ag A 13) l0 rfl (QE (by rw[f5.2];exact H) F.new.2.1) _).set (p:=ag D 0) b5 rfl H _
    have J7:Out (λk=>k=A\/k=D) O i8:=by rw[<-e4];exact((Out.refl (λk=>k=A\/k=D) O).setCell (p:=ag A 13) (λ_=>.inl rfl) _).setCell (p:=ag D 0) (λ_=>.inr rfl) _
    have J8:Fr mH aF w i8:=by rw[<-e4];exact(w0.new (p:=ag A 13) F.new.2.1 _).new (p:=ag D 0) F.new.1 _
    rw[e4];clear e4 l0 x0 e6 b5 w0;have u4:Lo.lo<=d8.heap.size:=QE H (TL d2);have E1:d8.heap.size<=R:=s.2.1;have E2:d8.heap.size<=v9:=s.2.2.1;have Q5:Lo.lo<=A:=QE (by rw[f5.2];exact H) F.new.2.1;have Q6:Lo.lo<=g6:=QE (by rw[f5.2];exact H) F.new.2.2.2;obtain⟨x,F9⟩:=ah (Hv b8 t Y u.N L);have E3:cZ i8 Z g ⟨b,x,⟨u.lz,λ_=>none,[],false⟩⟩ C true:=by
     subst N1;refine⟨⟨⟨c,F.cap,u2⟩,?_,Q5,Q6⟩,⟨s.1.fr l4 rfl rfl rfl rfl,aC.fr (v8.below s.2.2.2) l4 rfl λ_ _ h=>h.elim,?_,QE u4 E1,QE u4 E2⟩⟩
     .obtain ⟨r0,e1,e2⟩:=F.uQ;refine⟨r0,l4.hp ((s.2.2.2.block _ ?_).trans (M.2.1.hp ((d.block _ (Z_ (z.bV.hp e1 rfl))).trans (z.bV.hp e1 rfl)) rfl)) rfl,λm C1=>by rw[e2 m C1,<-e5];rfl⟩;exact Z_ (M.2.1.hp ((d.block _ (Z_ (z.bV.hp e1 rfl))).trans (z.bV.hp e1 rfl)) rfl)
     .rw [<-F9];exact bH.fr (bH.fr (T:= []) (bH.fr (bH.fr (T:= []) z.kf (Fr.af d) rfl rfl rfl rfl) M.2.1 rfl rfl rfl rfl) (Fr.af s.2.2.2) rfl rfl rfl rfl) l4 rfl rfl rfl rfl
    have E4:C.ok g:=by rw[<-e5];exact Su.xT b9 F5
    have I:QX (Z.A=A/\Z.B=B/\Z.R=R/\Z.W=W/\Z.r=r/\Z.fb=v9/\Z.sb=g6/\Z.N=u.N/\Z.lz=u.lz):=by subst N1;exact⟨rfl,rfl,rfl,rfl,rfl,rfl,rfl,rfl,rfl⟩
    have R9:QX (aE 58 #[ar A] i8 (LP Z g (E_ g C) i8)):=by have:=nV Z g _ C true i8 E3 E4;rw[I.1]at this;rw[<-e5];rw[<-e5]at this;exact this
    have r4:=aM E3 E4 e5;have u5:=bZ u2 E0 u3 J7 J8;have E5:=u3 (A+1) _ aa aa ((s.2.2.2.block _ p2).trans J4);have J9:=u3 T _ o1 o3 ((s.2.2.2.block _ t2).trans u0);have K0:=aB E5 J9;have e7:=aT u4 E1 E2 F9;obtain⟨c0,c1,c2⟩:=cr E0;obtain⟨c3,c4,c5⟩:=cr E5;obtain⟨c6,c7,c8⟩:=cr u2;have c9:i8.cell? (ag A 2)=some (bg u.ev):=by rw[c6,<-e5];rfl
    have U6:∀(S0:Fn) (first d6:Array QC) (w:QA),(Instr.makeFunc S0 first d6).run prog w=.ok (.func S0 first d6) w:=λ_ _ _ _=>rfl;clear E3 E4 u2 E0 u3 J7 J8 E5 J9 u4 E1 E2 l4 F9 N1 e5 c6 k0 k1 k3 k4 k6 k7 k9 Q4 z0 z1 z2 z3 z4 z5 z6 z7;have e2:¬(4611686018427387904:Int)<=(u.ev:Nat):=aa;go_wp2_with fail;refine R9.mono ?_;rintro e f9 ⟨rfl,K1,g1⟩;have K2:d9.heap.size<=v9:=by have:=M.2.2.1;have:=e7.2.2.1;omega
    have K3:=d.size;have g2:Z.fb=v9:=I.2.2.2.2.2.1;rw[g2]at g1;have l5:∀k o,k<d9.heap.size->a_ i8 k o->a_ f9 k o:=λk o e0 e=>(g1.block k (Z_ e) aa).trans e;have b5:=l5 D _ aa u5.2.1;have e6:=l5 A _ aa u5.1;have x9:=l5 (A+1) _ aa K0.1;have y9:=l5 T _ aa K0.2;obtain⟨E6,Q7,Q8,S1,N2,Q9,K4,K5,A0,K6,U⟩:=U4.lift;have u6:=Q9.Mk;have E7:∀k,LZ r3 E6 Q7 k->wc.heap.size<=k:=λk e0=>by
     rcases e0 with e|e|e
     .rw [e];exact H0
     .rw [e];exact K6
     .exact U k e
    have l6:be f9 r3 E6 Q7 Q8 S1 N2:=by
     refine be.out (be.out (be.below (be.out Q9 M.2.2.2 aa aa (λk e0 e=>by have:=U k e0;omega) λk o e r5=>?_) s.2.2.2) u5.2.2.2.1 aa aa (λk e0 e=>by have:=U k e0;omega) λk o e r5=>?_) g1 (λe=>by have:=u6 _ (.inl rfl);omega) (λe=>by have:=u6 _ (.inr (.inl rfl));omega) (λk e0 e=>by have:=u6 _ (.inr (.inr e0));omega) λk o e r5=>?_
     .rw [e,(d.block A a5).trans s2.out]at r5;cases r5;exactλh=>absurd h (by show(120:Nat)≠5;decide)
     .rcases e with e|e
      .rw [e,(s.2.2.2.block A a2).trans M.1]at r5;cases r5;exactλh=>absurd h (by show(120:Nat)≠5;decide)
      .rw [e,(s.2.2.2.block D d2).trans t9.out]at r5;cases r5;exactλh=>absurd h (by show(35:Nat)≠5;decide)
     .have:=r4.1.rs.row.fy;rw[g2]at this;rw[e,this]at r5;cases r5;exactλh=>absurd h (by show(3:Nat)≠5;decide)
    have D8:Q8.length<=2048:=by have:=jC L;have:=z.lZ.2.2;have:=b9.ring.2;omega
    have A1:cZ f9 Z g ⟨b,x,E_ g C⟩ C true:=by have b3:=r4.1;refine⟨lX.out b3.arr (by rw[g2];exact g1) b3.rs.row.fy b3.rs.lo.2,?_⟩;exact ct.mark b3.rs K1 (by rw[g2];exact g1)
    have A2:Fr mH aF w f9:=u5.2.2.2.2.Mv g1 λk e0 e=>by have:=e7.2.2.1;have:=F.new;omega
    have A3:=ad (Ku r3 E6 Q7 Q8 S1 N2 f9 l6 aa λk e0=>by have:=E7 k e0;have:=H.out;omega);have a9:=HK A1 A2 K4 K5 A0 l6.mA E7 e6 K2;have i3:=aM b5 x9 y9;clear c0 c1 c2 c3 c4 c5 c7 c8 c9 K1 g1 l5 b5 e6 x9 y9 Q9 K4 K5 A0 K6 U u6 E7 l6 D8 A1 A2 g2 R9;obtain⟨d0,d1,d2⟩:=cr i3.1;obtain⟨N,p1,p2⟩:=cr i3.2.1;obtain⟨t0,t1,t2⟩:=cr i3.2.2;go_wp2_with fail;refine A3.mono ?_;rintro e g3 ⟨pv,l1,rfl,K7,u7,K8,i4⟩;obtain⟨C5,C6,R0⟩:∃a c,pv=.slice a (l1.map (dZ N2)).length c:=by obtain⟨a,c,h,-⟩:=u7.yj;exact⟨a,c,h⟩
    subst R0;obtain⟨l,E8⟩:=ah (l1.map (dZ N2));rw[E8]at u7|-;have l7:Bw (cc L) l:=by rw[<-E8];exact Bw.of a9.2.2.1 a9.2.2.2.1 a9.2.2.2.2.2.1 a9.2.2.2.2.1 K7
    have l8:=a9.1.fr i4 rfl;have A4:Fr mH aF w g3:=a9.2.1.Mv K8 λk e0 e=>by have:=a9.2.2.2.2.2.2.1 k e;have:=z.OI.size;omega
    have K9:QX (∀V,au g3 V->aE 121 #[ar A] V (OY Z g ⟨b,x,E_ g C⟩ C true V)):=λV G=>by have h0:=(R4 L l z.lZ.1 z.lZ.2.1 z.lZ.2.2 l7).e1;rw[r4.2.2]at h0;have:=ju Z g ⟨b,x,E_ g C⟩ C true V (l8.below G) r4.2.1 (by rw[<-r4.2.2];show u.ev<_;omega) (by rw[<-r4.2.2];exact i9) (M6.NN aa) F3 h0;rwa[I.1]at this
    obtain⟨X,D6⟩:=ah g3.heap.size;have L0:=QB g3 (al #[.slice C5 l.length C6] 162);have g8:v9<g3.heap.size:=RJ (by have:=Z_ a9.1.rs.row.fy;rwa[I.2.2.2.2.2.1]at this) i4.size;have K:=j_ l7 l8 A4 u7.yj D6 L0 g8;have b6:=aM (i4.hp i3.1 rfl) (i4.hp i3.2.1 rfl) (i4.hp i3.2.2 rfl);have A5:=aB F6 F7;have L1:QX (True/\cJ b8 Y):=⟨trivial,i2⟩;clear d0 d1 d2 N p1 p2 t0 t1 t2 E8 l7 l8 A4 u7 K7 K8 i4 A3 L0 g8 D6 F6 F7 e2;obtain⟨d0,d1,d2⟩:=cr b6.1;obtain⟨N,p1,p2⟩:=cr b6.2.1;obtain⟨t0,t1,t2⟩:=cr b6.2.2;obtain⟨L2,L3⟩:=ah l.length;rw[L3]at K|-;go_wp2_with fail;refine(K9 _ (by first|exact aI ak _|exact aI (cE ak _) _)).mono ?_;rintro e l9 ⟨rfl,e8,g9⟩;obtain⟨i7,u8⟩:=ah (g3.alloc (al #[.slice C5 L2 C6] 162));have g4:au g3 i7:=by rw[<-u8];exact aI ak _
    rw[u8]at g9;have L4:a_ i7 X (al #[.slice C5 L2 C6] 162):=by rw[<-u8,<-K.2.2.2.2.1];exact K.2.2.2.2.2.1
    have g8:v9<X:=by rw[<-K.2.2.2.2.1];exact K.2.2.2.2.2.2
    have g2:Z.fb=v9:=I.2.2.2.2.2.1;have R1:=M.2.2.1;have u1:=a9.2.2.2.2.2.2.2.2;have K3:=d.size;have E9:=K.2.1.below g4;have d7:Fr et aF i7 l9:=g9.a.wide E9.rs.row.fy E9.rs.lo.2;have A6:Fr mH aF w l9:=(K.2.2.1.then g4).Qe g9.a λk e0 e=>by have:=z.OI.size;omega
    have L5:ff l9 (.slice C5 L2 C6) l:=(K.2.2.2.1.fr (T:= []) (Fr.af g4) rfl rfl).fr d7 rfl rfl;have m0:=aT e8 A6 L5 (d7.hp L4 rfl);have b0:=aM (d7.hp ((g4.block D d2).trans b6.1) rfl) (d7.hp ((g4.block _ p2).trans b6.2.1) rfl) (d7.hp ((g4.block _ t2).trans b6.2.2) rfl);clear d0 d1 d2 N p1 p2 t0 t1 t2 u8 g4 L4 g8 g2 R1 u1 K3 E9 d7 A6 L5 e8 g9 K9;obtain⟨d0,d1,d2⟩:=cr b0.1;obtain⟨N,p1,p2⟩:=cr b0.2.1;obtain⟨t0,t1,t2⟩:=cr b0.2.2;have m7:∀l2:List Pt,l2.Perm l->Ks g C b l2 x:=λl2 g7=>by have:=R4 L l2 z.lZ.1 z.lZ.2.1 z.lZ.2.2 (K.1.perm g7);rwa[r4.2.2,e7.2.2.2]at this
    have D8:L2<=2048:=by rw[<-L3];have:=K.1.len;have:=jC L;have:=z.lZ.2.2;have:=b9.ring.2;omega
    have u9:Rm g u.N 9000 (Mt g C b).1:=M6.run (λa L6=>by
     obtain⟨k,-,rfl|rfl⟩:=gJ L6
     .exact sL _ _ _
     .exact yM _) (by
     have:=lJ b9.b_ C.tell g.M (QH _);unfold eC;simp only[QU,RA,SG,VT];omega)
    have e8:cZ l9 Z g ⟨(Mt g C b).1,x,cQ g C⟩ C.told true:=m0.1;have L7:QX (∀V,au l9 V->aE 134 #[ar A,.func (.func 135) #[] #[.pointer (some ⟨A+1,0,none⟩),ar X]] V λe E=>aK e (.tuple #[])/\∃l2:List Pt,l2.Perm l/\cZ E Z g ⟨(KT g C b l2).1,x,cQ g C⟩ C.told true/\Fr TB aF V E):=λV G=>by have:=OF (c6:=A+1) (c18:=X) (pv:=.slice C5 L2 C6) (l:=l) (e8.below G) ((G.block _ p2).trans (by rw[I.1];exact b0.2.1)) ((G.block _ (Z_ m0.2.2.2)).trans m0.2.2.2) (m0.2.2.1.fr (T:= []) (Fr.af G) rfl rfl) b9.b_ u9.de (λp g7=>F8 L p z.lZ.1 z.lZ.2.1 (K.1.mem g7)) K.1.mA aa (λm v C1 q0=>by have:=u9.mem m v C1 q0;omega) λl2 g7=>(m7 l2 g7).e2;rw[I.1]at this;exact this
    have L8:=ad m7;have L9:=ad u9;clear m7 u9 e8;go_wp2_with fail;rw[K.2.2.2.2.1];refine(L7 _ (by first|exact ak|exact cE ak _)).mono ?_;rintro e m8 ⟨rfl,l2,v0,A7,h6⟩;have i2:=L8.out l2 v0;have m9:Rm g u.N 6000 (KT g C b l2).1:=L9.run (λa L6=>gr a L6) (by rw[RA];have h1:(fM (cQ g C) l2).length<=l2.length:=VI _ _;have h2:=v0.length_eq;omega);have n0:cJ (b8+1) (Y+L.length)/\Y+L.length<4500000000000000000:=by have h1:=A5.2;have h2:1<=Y:=L1.out.2.2.1;have h3:=jS L;have h4:=z.lZ.2.2;have h5:=b9.ring.2;exact⟨⟨aa,aa,aa⟩,aa⟩
    have g5:x.ep=b8/\x.nx=Y+L.length/\x.bad=0/\x.sure=true/\x.N=u.N:=by rw[<-e7.2.2.2];exact⟨rfl,rfl,rfl,rfl,rfl⟩
    have M0:Fit g 0 ⟨(KT g C b l2).1,x,cQ g C⟩:=by
     refine⟨b9.b_,m9.de,λm v C1 q0=>?_,λv q0=>?_,g5.2.2.1,⟨?_,?_,?_⟩,QN _,λp g7=>(by cases g7),ZK⟩
     .have:=m9.mem m v C1 q0;exact⟨this.1,aa⟩
     .have:=m9.gy v q0;exact⟨by rw[g5.2.2.2.2];exact this.1,aa⟩
     .show x.ep+0<=_;rw[g5.1];have:=A5.2.1;omega
     .show 1<=x.nx;rw[g5.2.1];exact n0.1.2.1
     .show x.nx+0<=_;rw[g5.2.1];omega
    have o0:=h6.hp b0.1 rfl;have o5:=h6.hp b0.2.1 rfl;have o6:=h6.hp b0.2.2 rfl;have A8:Fr mH aF w m8:=m0.2.1.tr (h6.wide mH rfl);have M1:QX (∀V,au m8 V->aE 134 #[ar A,.func (.func 137) #[ar R] #[]] V λe E=>aK e (.tuple #[])/\cZ E Z g ⟨(E' g C b l2).1,x,cQ g C⟩ C.told true/\Fr iH aF V E):=λV G=>by have:=OG (A7.below G) M0 i2.e3;rw[I.1,I.2.2.1]at this;exact this
    obtain⟨S2,F0,h8⟩:=A7.arr.aL;rw[I.1]at h8;have b4:=IC v0 i2 m9 n0 g5 A8 o0 o5 o6 h8;clear d0 d1 d2 N p1 p2 t0 t1 t2 v0 i2 m9 n0 g5 M0 A8 F0;obtain⟨d0,d1,d2⟩:=cr o0;obtain⟨N,p1,p2⟩:=cr o5;obtain⟨t0,t1,t2⟩:=cr o6;obtain⟨J,a1,a2⟩:=cr h8;have z0:m8.cell? ⟨A+1,0,none⟩=some (ar A):=N 0;have z1:m8.cell? (ag A 13)=some (ar R):=by rw[J,<-I.2.2.1];rfl
    clear N J d0 t0 o0 o5 o6 h8 L7 L8 L9;go_wp2_with fail;go_region_held3(λE=>E.cell? ⟨A+1,0,none⟩=some (ar A)/\E.cell? (ag A 13)=some (ar R)) ((simp[*,go_sem];done)) (first
     |(go_at_call 134;refine(M1 _ bF).mono ?_;rintro e o7 ⟨rfl,o8,F1⟩;have o9:Fr iH aF m8 o7:=by first|exact F1|exact(Fr.af (cE ak _)).tr F1
       have p6:=o9.hp b4.2.2.2.2.2.2.2.1 rfl;obtain⟨S3,p7,h9⟩:=o8.arr.aL;rw[I.1]at h9;obtain⟨k0,k1,k2⟩:=cr p6;obtain⟨k3,k4,k5⟩:=cr h9;have y0:o7.cell? ⟨A+1,0,none⟩=some (ar A):=k0 0;have y1:o7.cell? (ag A 13)=some (ar R):=by rw[k3,<-I.2.2.1];rfl
       have e9:=bZ o8 o9 p6 p7 h9;clear k0 k3 F1 o9 o8 p6 h9 p7))
    have M2:Rm g u.N 5000 (E' g C b l2).1:=b4.2.2.1.run (λa L6=>wR a L6) (by rw[RA];have:=sC b9.b_ (cQ g C);omega);have f0:=e9.2.1.hp b4.2.2.2.2.2.2.2.2.1 rfl;have A9:=e9.2.1.hp b4.2.2.2.2.2.2.1 rfl;have B0:Fr mH aF w o7:=b4.2.2.2.2.2.1.tr (e9.2.1.wide mH rfl);have M3:QX (∀V,au o7 V->aE 134 #[ar A,.func (.func 138) #[] #[.pointer (some ⟨A+1,0,none⟩),ar T]] V λe E=>aK e (.tuple #[])/\cZ E Z g ⟨(Bx g C b l2 x).1,x.cy (b8+1),cQ g C⟩ C.told true/\Fr fT aF V E):=λV G=>by obtain⟨x1,x2,x3,x4,x5⟩:=b4.2.2.2.2.1;have:=OH (c6:=A+1) (c7:=T) (e9.1.below G) ((G.block _ (Z_ e9.2.2.1)).trans (by rw[I.1];exact e9.2.2.1)) ((G.block _ (Z_ f0)).trans (by rw[I.2.2.2.1];exact f0)) (by show g.M<(E' g C b l2).1.N;rw[M2.de];omega) (by show cJ (x.ep+1) x.nx;rw[x1,x2];exact b4.2.2.2.1.1) (λv q0=>by have:=M2.gy v q0;exact⟨by show 2+x.N<=_;rw[x5];exact this.1,aa⟩) x3 x4 b4.2.1.e4;rw[I.1]at this;rw[<-x1];exact this
    have F2:=aM f0 A9 B0;clear y0 y1 z0 z1 k1 k4 a1 p1 t1 d1 M1 A9;obtain⟨d0,d1,d3⟩:=cr F2.2.1;obtain⟨N,p1,p3⟩:=cr e9.2.2.1;obtain⟨t0,t1,t3⟩:=cr f0;clear f0 B0;go_wp2_with fail;refine(M3 _ (by first|exact ak|exact cE ak _)).mono ?_;rintro e v1 ⟨rfl,b1,i0⟩;have b7:=i0.hp F2.2.1 rfl;have B1:=i0.hp e9.2.2.1 rfl;have f4:Fr mH aF w v1:=F2.2.2.tr (i0.wide mH rfl);obtain⟨S4,p8,b2⟩:=b1.arr.aL;have Q:=b2;rw[I.1]at Q;obtain⟨y3,y4,y5⟩:=cr Q;obtain⟨y6,y7,y8⟩:=cr B1;obtain⟨x6,x7,x8⟩:=cr b7;have U7:=bZ b1 p8 b2 f4 b7;have S5:v1.cell? (ag A 18)=some ed:=by rw[y3];rfl
    clear d0 d1 d3 N p1 p3 t0 t1 t3 b1 i0 f4 b2 Q p8 b7 B1 y3 M3;go_wp2_with fail;have i5:∃W,(v1.setCell (ag A 18) iG).setCell (ag D 0) (aG 0)=W:=⟨_,rfl⟩;obtain⟨W,i5⟩:=i5;obtain⟨b1,M4,b2,f4,b7⟩:=U7.out;have i1:=b1.set M4 b2 18 iG (u':=C.told) (yg':=false) rfl rfl;rw[I.1]at i1;have p9:=i1.2.1.hp b7 rfl;have B2:a_ W D (al #[aG 0] 35):=by rw[<-i5];exact heap_setCell_same _ _ _ _ _ _ p9
    have B3:Fr [35] aF (v1.setCell (ag A 18) iG) W:=by rw[<-i5];exact(Fr.refl _ _ _).set (p:=ag D 0) p9 rfl H _
    have B4:=i1.1.fr B3 rfl;have B5:Fr mH aF w W:=by have Q:=b2;rw[I.1]at Q;have:=f4.set (p:=ag A 18) Q rfl (by have:=b1.arr.lo.1;rwa[I.1]at this) iG;rw[<-i5];exact this.new (p:=ag D 0) (RO f5.2) _
    have c0:W.cell? (ag D 0)=some (aG 0):=(cr B2).1 0;have M5:Kt B b g (u.zg i6) S b8 t Y w (.returned (.tuple #[ar A,aG 0])) W:=by
     have F3:C.N=u.N:=by rw[<-r4.2.2];rfl
     have v2:C.lz=u.lz:=by rw[<-r4.2.2];rfl
     rw[r4.2.2];unfold Kt;rw[F3,v2];refine⟨Z,L,l2,by rw[I.1],I.2.1,I.2.2.2.2.2.2.2.1,I.2.2.2.2.2.2.2.2,z.lZ.1,z.lZ.2.1,z.lZ.2.2,K.1.perm (by first|exact b4.1|exact b4.1.symm),?_,B5⟩;rw[show(Hv b8 t Y u.N L)=x from e7.2.2.2];exact B4
    clear i1 p9 B2 B3 B4 B5 b1 b2 f4 b7 M4;rw[i5];refine WY (f:=98) (args:= #[ar D]) aJ (by simp[go_sem]) ?_;refine(cN (ag D 0) _).mono ?_;rintro e u' U8 ⟨rfl,rfl,R2⟩;rw[R2];simp[Leaves,settle,RM,results72,go_sem,c0];exact M5
section
def Dk.nC(d:Dk)(a:Nat)(P:(Nat->Nat)->Prop):Prop:=P (d.fS a)/\∀i,i<d.cn->d.cat i=a->P (d.bS i)
variable {d:Dk} {a b:Nat} {P Q:(Nat->Nat)->Prop} {f:aQ}
theorem Dk.nC.mono(h:d.nC a P)(q:∀f,P f->Q f):d.nC a Q:=⟨q _ h.1,λi c e=>q _ (h.2 i c e)⟩
theorem Dk.nC.view(h:d.nC a P):P (d.view a):=by
 rcases d.pq a with e|⟨i,c,g,e⟩
 .rw [e];exact h.1
 .rw [e];exact h.2 i c g
theorem Dk.nC.wr(h:d.nC a P)(e:a=b->P f):(d.wr b f).nC a P:=by
 refine⟨h.1,λi g j=>?_⟩;have k:i<d.cn+1:=g;have c:(if i=d.cn then b else d.cat i)=a:=j;show P (if i=d.cn then f else d.bS i);by_cases q:i=d.cn
 .rw [ao q]at c|-;exact e c.symm
 .rw [aq q]at c|-;exact h.2 i J c
theorem Dk.nC.clean(c:d.cn=0)(h:P (d.view a)):d.nC a P:=⟨by rw[<-Dk.jr c];exact h,λi e=>J⟩
theorem Dk.nC.fl(h:P (d.view a)):(d.settled λ_=>true).nC a P:=⟨by rw[Dk.jt];exact h,λi c=>absurd c (RR _)⟩
theorem nD{g:dp}{cat:aQ}{c:dp}{kp:Nat->Bool}(h:P (g a)):∀n,(∀i,i<n->cat i=a->P (c i))->P (bJ g cat c kp n a)
 |0,_=>h
 |n+1,j=>by
  have k:=nD (kp:=kp) h n λi l=>j i J;unfold bJ;split
  .show P (if a=cat n then c n else bJ g cat c kp n a);split
   .exact j n (TK n) (by rename_i e;exact e.symm)
   .exact k
  .exact k
theorem Dk.nC.cut(h:d.nC a P)(kp:Nat->Bool):P ((d.settled kp).view a):=by rw[Dk.jr rfl];exact nD h.1 _ h.2
def JD(N t:Nat)(M W:Nat->(Nat->Nat)->Prop)(d:Dk):Prop:=∀q,q<N->d.nC (2+(t+q)%N) (M q)/\W q (d.view (2+(t+q)%N))
variable {N t:Nat} {M W M' W':Nat->(Nat->Nat)->Prop}
theorem Fa{x y:Nat}(i:x<N)(j:y<N)(e:(t+x)%N=(t+y)%N):x=y:=by
 have c:=WL (t+x) N;have k:=WL (t+y) N;rw[e]at c;have g:(t+x)/N=(t+y)/N:=by
  rcases Nat.lt_trichotomy ((t+x)/N) ((t+y)/N)with h|h|h
  .have:=Nat.mul_le_mul_left N (show(t+x)/N+1<=(t+y)/N by omega);rw[Nat.mul_succ]at this;omega
  .exact h
  .have:=Nat.mul_le_mul_left N (show(t+y)/N+1<=(t+x)/N by omega);rw[Nat.mul_succ]at this;omega
 rw[g]at c;omega
theorem JD.mono(h:JD N t M W d)(e:∀q f,q<N->M q f->M' q f)(g:∀q f,q<N->W q f->W' q f):JD N t M' W' d:=λq c=>⟨(h q c).1.mono λf=>e q f c,g q _ c (h q c).2⟩
theorem JD.wr(h:JD N t M W d){c:Nat}(i:c<N)(l:∀q f,q<N->M q f->M' q f)(m:M' c f)(n:∀q f,q<N->q≠c->W q f->W' q f)(j:W' c f):JD N t M' W' (d.wr (2+(t+c)%N) f):=λq g=>by
 have e:2+(t+q)%N=2+(t+c)%N->q=c:=λe=>Fa (t:=t) g i J;refine⟨((h q g).1.mono λf=>l q f g).wr λk=>by rw[e k];exact m,?_⟩;rw[Dk.eD];by_cases q:q=c
 .rw [q,ao rfl];exact j
 .rw [aq λk=>q (e k)];exact n _ _ g q (h _ g).2
theorem JD.else(h:JD N t M W d)(g:a<2):JD N t M W (d.wr a f):=λq c=>by refine⟨(h q c).1.wr λe=>J,?_⟩;rw[Dk.eD,aq J];exact(h q c).2
theorem Dk.lV(d:Dk)(a:Nat):(d.settled λ_=>true).view a=d.view a:=by rw[Dk.jr rfl,Dk.jt]
theorem JD.fl(h:JD N t M W d):JD N t W W (d.settled λ_=>true):=λq c=>⟨.fl (h q c).2,by rw[Dk.lV];exact(h q c).2⟩
theorem JD.nI{P W:(Nat->Nat)->Prop}(h:JD N t (λ_=>P) (λ_=>W) d)(i:t<N){c:Nat}:JD N c (λ_=>P) (λ_=>W) d:=λq j=>by
 have g:(c+q)%N<N:=RT _ J;generalize (c+q)%N=p at g;by_cases e:t<=p
 .have:=h (p-t) J;rwa[show t+(p-t)=p by omega,SA g]at this
 .have:=h (p+N-t) J;rwa[show t+(p+N-t)=p+N by omega,Nat.add_mod_right,SA g]at this
structure ko(n:Nat)(f:aQ):Prop where
 hd:∀h:Hd,h.ok->aD f h.enc->h.sq<n
 cm:∀h:Cm,h.ok->aD f h.enc->h.sq<n
theorem ko.mono{n c:Nat}(h:ko n f)(e:n<=c):ko c f:=⟨λx a b=>RJ (h.hd x a b) e,λx a b=>RJ (h.cm x a b) e⟩
theorem ko.congr{n:Nat}{c:aQ}(h:ko n f)(e:aD f c):ko n c:=⟨λx a b=>h.hd x a (e.trans b),λx a b=>h.cm x a (e.trans b)⟩
theorem rL{c:Nat}(h:gG c f):ht f=true:=rD h.Ip
theorem xU{h:Hd}(e:aD f h.enc):gG 1 f:=gG.of aj (λk=>kX _ _ _ _ _ _ k) e
theorem xV{h:Cm}(e:aD f h.enc):gG 2 f:=gG.of aj (λk=>cU (cI _) (cI _) k) e
theorem ko.plain{n:Nat}(h:ht f=false):ko n f:=
 ⟨λ_ _ b=>(Bool.noConfusion (h.symm.trans (rL (xU b)))),λ_ _ b=>(Bool.noConfusion (h.symm.trans (rL (xV b))))⟩
theorem ko.nt{n:Nat}(f:aQ):ko n (ei f):=.plain<|by
 rcases vE f with⟨_,h⟩|⟨_,h⟩
 .exact h
 .unfold xD at h;unfold ht;simp only[decide_eq_true_eq,decide_eq_false_iff_not]at h|-;omega
theorem ko.head{n:Nat}{h:Hd}(c:h.ok)(e:h.sq<n):ko n h.enc:=
 ⟨λx a b=>by rw[<-Hd.cG a b,Hd.cG c (aD.refl _)];exact e,λx _ b=>absurd ((xU (aD.refl h.enc)).kind.symm.trans (xV b).kind) aj⟩
theorem ko.td{n:Nat}{h:Cm}(c:h.ok)(e:h.sq<n):ko n h.enc:=
 ⟨λx _ b=>absurd ((xV (aD.refl h.enc)).kind.symm.trans (xU b).kind) aj,λx a b=>by rw[<-Cm.cG a b,Cm.cG c (aD.refl _)];exact e⟩
structure nQ(P:bX):Prop where
 ok:P.ok
 n:1<=P.N/\P.N<=1023
theorem nQ.vW{P:bX}(h:nQ P){e c n j:Nat}(g:cJ e c)(i:c<n)(k:j<=2*P.N):ko n (bp e c P j):=by
 unfold bp;split
 .exact ko.td (h:=⟨e,c,P.N,fA e c P P.N⟩) ⟨g,h.n,kY e c P P.N⟩ i
 .split
  .exact ko.head (h:=kN e c P (j/2)) (eo h.ok g h.n J) i
  .exact ko.nt _
structure Bj(P Q:bX):Prop where
 n:P.N=Q.N
 at_:∀i,i<P.N->P.me i=Q.me i/\P.row i=Q.row i/\aD (P.da i) (Q.da i)
theorem Mw{f h:aQ}(e:ht f=ht h)(j:aD (ei f) (ei h)):aD f h:=λk l=>by
 have:=j k l;unfold ei at this;rw[e]at this;by_cases c:ht h=true/\k<4
 .have g:=e.trans c.1;have i:=c.1;unfold ht at g i;simp only[decide_eq_true_eq]at g i;have:k=0\/k=1\/k=2\/k=3:=J;rcases this with rfl|rfl|rfl|rfl<;>omega
 .rwa [aq c,aq c]at this
theorem bK.uniq{F:dp}{j k c:Nat}{P Q:bX}(h:bK F j k c P)(g:bK F j k c Q):Bj P Q:=by
 have l:∀i,i<P.N->i<Q.N->kN j k P i=kN j k Q i:=λi a b=>by rw[<-Hd.cG (eo h.ok h.c h.cA a) (h.head a),Hd.cG (eo g.ok g.c g.cA b) (g.head b)]
 have n:P.N=Q.N:=congrArg Hd.cA (l 0 h.cA.1 g.cA.1);refine⟨n,λi m=>?_⟩;have e:=l i m J;exact⟨congrArg Hd.me e,congrArg Hd.row e,Mw (congrArg Hd.nt e) ((h.data m).symm.trans (g.data J))⟩
theorem Fb{F:dp}{l k j c:Nat}(h:∀x:Hd,x.ok->aD (F 0) x.enc->x.sq=k->x.cA=c)(m:2*c+1<=j->ko k (F (2*c)))(P:bX):¬bK F l k j P:=λg=>by have e:P.N=c:=h _ (eo g.ok g.c g.cA (i:=0) g.cA.1) (g.head g.cA.1) rfl;have:=(m (by rw[<-e];exact g.room)).cm ⟨l,k,P.N,fA l k P P.N⟩ ⟨g.c,g.cA,kY l k P P.N⟩ (by rw[<-e];exact g.td);exact TO _ this
theorem zh{F:dp}{j g c:Nat}(h:1<=c->ko g (F 0))(P:bX):¬bK F j g c P:=λe=>
 TO _ ((h (by have:=e.room;omega)).hd _ (eo e.ok e.c e.cA (i:=0) e.cA.1) (e.head e.cA.1))
end
section
def gW(ep:Nat):Nat->List bX->Nat->Nat->Nat
 |_,[],_=>zB
 |sq,P::l,q=>if q<=2*P.N then bp ep sq P q else gW ep (sq+1) l (q-(2*P.N+1))
theorem fc{ep:Nat}{P:bX}{j:Nat}(a:j<=2*P.N):∀{L:List bX} {sq i:Nat},L[i]?=some P->gW ep sq L (bl (L.take i)+j)=bp ep (sq+i) P j
 | [],_,_,h=>by simp at h
 |Q::l,sq,0,h=>by simp at h;subst h;show(if 0+j<=2*Q.N then bp ep sq Q (0+j)else _)=_;rw[RH,ao a];rfl
 |Q::l,sq,i+1,h=>by show(if 2*Q.N+1+bl (l.take i)+j<=2*Q.N then _ else gW ep (sq+1) l (2*Q.N+1+bl (l.take i)+j-(2*Q.N+1)))=_;rw[aq J,show 2*Q.N+1+bl (l.take i)+j-(2*Q.N+1)=bl (l.take i)+j by omega,fc a (sq:=sq+1) (show l[i]?=some P from h),show sq+1+i=sq+(i+1)by omega]
theorem mX{L:List bX}{P:bX}{i:Nat}(h:L[i]?=some P):bl (L.take (i+1))=bl (L.take i)+(2*P.N+1):=by rw[UF,h];exact iq _ _
theorem Hx(L:List bX)(i:Nat):bl (L.take i)<=bl L:=by have:=il (L.take i) (L.drop i);rw[WZ]at this;omega
theorem gX{ep:Nat}:∀{L:List bX} {_sq q:Nat},q<bl L->∃i P j,L[i]?=some P/\j<=2*P.N/\q=bl (L.take i)+j
 | [],_,_,h=>absurd h (RR _)
 |P::l,sq,q,h=>by
  by_cases e:q<=2*P.N
  .exact ⟨0,P,q,rfl,e,by show q=0+q;omega⟩
  .have c:bl (P::l)=2*P.N+1+bl l:=rfl;obtain⟨i,Q,j,a,b,d⟩:=gX (ep:=ep) (_sq:=sq+1) (L:=l) (q:=q-(2*P.N+1)) J;exact⟨i+1,Q,j,a,b,by show q=2*P.N+1+bl (l.take i)+j;omega⟩
variable {S:dp} {N ep t sq:Nat} {L L':List bX}
theorem kS(S:dp)(N t a j:Nat):AZ S N ((t+a)%N) j=S ((t+(a+j))%N):=by unfold AZ;rw[Nat.mod_add_mod,UO]
theorem pL.of(c:∀P,P∈L->nQ P)(d:∀i,i<L.length->cJ ep (sq+i))(g:bl L<=N)(h:∀q,q<bl L->aD (S ((t+q)%N)) (gW ep sq L q)):pL S N ep t sq L:=λi P a=>by have k:=mX a;have l:=Hx L (i+1);have e:i<L.length:=(QS.1 a).1;have b:=c P (QV a);refine⟨b.ok,b.n,d i e,J,λj f=>?_⟩;rw[kS,<-fc f a];exact h _ J
theorem pL.uniq(h:pL S N ep t sq L)(o:lQ S N ep t sq L)(l:pL S N ep t sq L')(g:lQ S N ep t sq L'):dX Bj L L':=by
 have b:∀i,i<=L.length->i<=L'.length->bl (L.take i)=bl (L'.take i)/\∀k P Q,k<i->L[k]?=some P->L'[k]?=some Q->Bj P Q:=by
  intro i;induction i with
  |zero=>exactλ_ _=>⟨rfl,λk P Q m=>absurd m (RR _)⟩
  |succ i p=>
   intro u v;obtain⟨e,q⟩:=p J J;have j:L[i]?=some L[i]:=QP J;have d:L'[i]?=some L'[i]:=QP J;have r:=h i _ j;have a:=l i _ d;rw[<-e]at a;have n:=r.uniq a;refine⟨by rw[mX j,mX d,e,n.n],λk P Q m x y=>?_⟩;by_cases s:k=i
   .subst s;rw[j]at x;rw[d]at y;cases x;cases y;exact n
   .exact q k P Q J x y
 have f:L.length=L'.length:=by
  rcases Nat.lt_trichotomy L.length L'.length with c|c|c
  .have d:L'[L.length]?=some L'[L.length]:=QP c;have a:=l _ _ d;rw[<-(b L.length (QH _) J).1,UC]at a;exact absurd a (o _)
  .exact c
  .have d:L[L'.length]?=some L[L'.length]:=QP c;have a:=h _ _ d;rw[(b L'.length J (QH _)).1,UC]at a;exact absurd a (g _)
 exact⟨f,λi P Q x y=>(b L.length (QH _) J).2 i P Q (QS.1 x).1 x y⟩
def OJ(p q:Pt):Prop:=f_ p=f_ q/\aD p.2.2 q.2.2
def Pr:Option (Nat->Nat)->Option (Nat->Nat)->Prop
 |some f,some h=>aD f h
 |none,none=>True
 |_,_=>False
theorem nE:∀{c d:List Pt} (_:dX OJ c d) (x:Nat × Nat),Pr (bu c x) (bu d x)
 | [],[],_,_=>trivial
 | [],_::_,h,_=>absurd h.1 aJ
 |_::_,[],h,_=>absurd h.1 aJ
 |p::c,q::d,h,x=>by
  obtain⟨f,g⟩:=h.tail;have e:=nE g x;unfold bu;cases a:bu c x<;>cases b:bu d x<;>rw[a,b]at e
  .show Pr (if f_ p=x then some p.2.2 else none) (if f_ q=x then some q.2.2 else none);rw[f.1];split
   .exact f.2
   .trivial
  .exact e.elim
  .exact e.elim
  .exact e
theorem dX.app{α β:Type}{P:α->β->Prop}{a f:List α}{b g:List β}(h:dX P a b)(j:dX P f g):dX P (a++f) (b++g):=by
 refine⟨by rw[QU,QU,h.1,j.1],λi x y c d=>?_⟩;by_cases e:i<a.length
 .rw [RD e]at c;rw[RD (by rw[<-h.1];exact e)]at d;exact h.2 i x y c d
 .rw [QZ J]at c;rw[QZ (by rw[<-h.1];omega),<-h.1]at d;exact j.2 _ x y c d
theorem Bj.Qi{P Q:bX}(h:Bj P Q):dX OJ (bM P P.N) (bM Q Q.N):=by
 refine⟨by rw[cT,cT,h.n],λi x y d e=>?_⟩;have f:i<P.N:=by have:=(QS.1 d).1;rwa[cT]at this
 have g:i<Q.N:=by rw[<-h.n];exact f
 unfold bM at d e;rw[RL,SF f,QY]at d;rw[RL,SF g,QY]at e;cases d;cases e;obtain⟨a,b,c⟩:=h.at_ i f;exact⟨by show(P.me i,P.row i)=(Q.me i,Q.row i);rw[a,b],c⟩
theorem pS:∀{L L':List bX},dX Bj L L'->dX OJ (cc L) (cc L')
 | [],[],_=>⟨rfl,λi x y a=>by simp[cc]at a⟩
 | [],_::_,h=>absurd h.1 aJ
 |_::_,[],h=>absurd h.1 aJ
 |P::l,Q::d,h=>by obtain⟨b,c⟩:=h.tail;exact b.Qi.app (pS c)
theorem jT:∀(b a:List Pt) (x:Nat × Nat),bu (b++a) x=match bu a x with|some f=>some f|none=>bu b x
 | [],a,x=>by show bu a x=_;cases bu a x<;>rfl
 |p::b,a,x=>by show(match bu (b++a) x with|some f=>some f|none=>if f_ p=x then some p.2.2 else none)=_;rw[jT b a x];cases bu a x<;>rfl
end
section
abbrev eW:=Nat->Nat->Nat->Nat
structure Cp where
 t:Nat
 K:(Nat->Nat)->Prop
 KW:(Nat->Nat)->Prop
 M:Nat->(Nat->Nat)->Prop
 W:Nat->(Nat->Nat)->Prop
 kU:Nat->Nat->Prop
 V:eW
structure Kv(g:az)(u:Su)(c:Cp)(k:Nat)(d:Dk):Prop where
 sup:d.nC 0 fun f=>aD f (fP g (u.sl k))
 row:∀r,r<g.R->¬c.kU k r->d.nC (1+r) fun f=>aD f (c.V k r)
structure Qj(g:az)(u:Su)(N:Nat)(c:Cp)(d:Dk):Prop where
 sup:d.nC 0 fun f=>aD f (fP g (u.sl g.M))
 ck:d.nC 1 c.K
 kw:c.KW (d.view 1)
 ring:JD N c.t c.M c.W d
def CQ(g:az)(u:Su)(N:Nat)(c:Cp)(k:Nat)(d:Dk):Prop:=(k<g.M->Kv g u c k d)/\(k=g.M->Qj g u N c d)
structure Fd(g:az)(N ep:Nat)(Vs:eW->Prop)(c:Cp)(f:aQ)(S:dp)(t sq:Nat)(L:List bX)(V:eW):Prop where
 ck:aD f (aX ep sq t)
 tN:t<N
 cn:cJ ep sq
 lZ:pL S N ep t sq L
 Bk:lQ S N ep t sq L
 used:bl L<=N
 lim:ep<4000000000000000000/\sq+L.length<4000000000000000000
 vs:Vs V
 f_:∀p,p∈cc L->p.1<g.M/\p.2.1<g.R
 val:∀m r f,bu (cc L) (m,r)=some f->aD f (V m r)
 vW:∀m r,m<g.M->r<g.R->bu (cc L) (m,r)=none->¬c.kU m r/\aD (c.V m r) (V m r)
def Yl(g:az)(N a:Nat)(Vs:eW->Prop)(c:Cp):Prop:=c.t<N/\∀f S,c.K f->(∀q,q<N->c.M q (S ((c.t+q)%N)))->∃t sq L V,Fd g N a Vs c f S t sq L V
def Can(g:az)(u:Su)(N a:Nat)(Vs:eW->Prop)(b:By):Prop:=∃c,qm none (CQ g u N c) b/\Yl g N a Vs c
structure Jl(g:az)(N sq:Nat)(x:Wl)(L:List bX)(Vp V:eW):Prop where
 n:x.N=N
 t:x.t<N
 u:x.u=bl L
 uN:x.u<=N
 nx:x.nx=sq+L.length
 c:cJ x.ep x.nx
 lim:x.ep<4000000000000000000/\x.nx<4000000000000000000
 sq:1<=sq
 pk:∀P,P∈L->nQ P
 pl:∀p,p∈cc L->p.1<g.M/\p.2.1<g.R
 val:∀m r f,bu (cc L) (m,r)=some f->aD f (V m r)
 sure:x.sure=true->Vp=V
 tail:x.sure=false->∃L' T,L=L'++ [T]/\(∀m r f,bu (cc L') (m,r)=some f->aD f (Vp m r))/\∀m r,m<g.M->r<g.R->bu (bM T T.N) (m,r)=none->aD (Vp m r) (V m r)
def Mp(x:Wl)(sq:Nat)(L:List bX)(P:bX)(q:Nat)(f:aQ):Prop:=
 if q<x.u then aD f (gW x.ep sq L q)\/(x.sure=false/\q+1=x.u/\ko (x.nx-1) f)else ko x.nx f\/(q<x.u+2*P.N/\aD f (bp x.ep x.nx P (q-x.u)))
def Wp(x:Wl)(sq:Nat)(L:List bX)(P:bX)(j q:Nat)(f:aQ):Prop:=
 if q<x.u then aD f (gW x.ep sq L q)else if q<x.u+j then aD f (bp x.ep x.nx P (q-x.u))else ko x.nx f
def tk(x:Wl)(L:List bX)(m r:Nat):Prop:=bu (cc (if x.sure=true then L else L.dropLast)) (m,r)≠none
def pT(x:Wl)(sq:Nat)(L:List bX)(P:bX)(j:Nat)(Vp:eW):Cp:=⟨x.t,λf=>aD f (aX x.ep sq x.t),λf=>aD f (aX x.ep sq x.t),Mp x sq L P,Wp x sq L P j,tk x L,Vp⟩
variable {g:az} {u:Su} {N sq:Nat} {x:Wl} {L:List bX} {Vp V:eW} {Vs:eW->Prop} {S:dp} {P:bX}
theorem cJ.le{a n k:Nat}(h:cJ a n)(b:1<=k)(c:k<=n):cJ a k:=⟨h.1,b,QE c h.2.2⟩
theorem jU(L:List bX)(T:bX):(L++ [T]).dropLast=L:=aJ
theorem Jl.vW(h:Jl g N sq x L Vp V){q:Nat}{f:aQ}(a:Mp x sq L P q f)(c:q<x.u):ko x.nx f:=by
 unfold Mp at a;rw[ao c]at a;rcases a with a|⟨-,-,a⟩
 .obtain ⟨i,Q,j,b,d,rfl⟩:=gX (ep:=x.ep) (_sq:=sq) (L:=L) (by rw[<-h.u];exact c);rw[fc d b]at a;have e:i<L.length:=(QS.1 b).1;have:=h.nx;have:=h.sq;exact((h.pk Q (QV b)).vW (h.c.le J J) (show sq+i<x.nx by omega) d).congr a.symm
 .exact a.mono (YW _ _)
theorem Jl.Bk(h:Jl g N sq x L Vp V)(l:P.N=0\/nQ P)(i:P.N≠0->x.u+2*P.N+1<=N)(e:∀q,q<N->Mp x sq L P q (S ((x.t+q)%N))):lQ S N x.ep x.t sq L:=by
 intro Q;rw[<-h.u,<-h.nx];by_cases b:P.N=0
 .refine zh (λm=>?_) Q;rw[kS];have:=e (x.u+0) J;unfold Mp at this;rw[aq J]at this;rcases this with a|⟨a,-⟩
  .exact a
  .omega
 .have d:=l.resolve_left b;have i:=i b;refine Fb (c:=P.N) (λy j f o=>?_) (λ_=>?_) Q
  .rw [kS]at f;have:=e (x.u+0) J;unfold Mp at this;rw[aq J]at this;rcases this with a|⟨-,a⟩
   .exact absurd (a.hd y j f) J
   .have n:aD (kN x.ep x.nx P 0).enc y.enc:=by
     have k:=a.symm.trans f;rw[show x.u+0-x.u=2*0 by omega,mg _ _ _ _ d.n.1]at k;exact k
    have:=(Hd.cG (eo d.ok h.c d.n d.n.1) (aD.refl _)).symm.trans (Hd.cG j n);rw[<-this];rfl
  .rw [kS];have:=e (x.u+2*P.N) J;unfold Mp at this;rw[aq J]at this;rcases this with a|⟨a,-⟩
   .exact a
   .omega
theorem nQ.Qk(h:nQ P){a sq:Nat}(c:cJ a sq){f:aQ}(d:aD f (bp a sq P 0)){y:Hd}(e:y.ok)(i:aD f y.enc):y.cA=P.N:=by have b:=d.symm.trans i;rw[show(0:Nat)=2*0 by omega,mg _ _ _ _ h.n.1]at b;have:=(Hd.cG (eo h.ok c h.n h.n.1) (aD.refl (kN a sq P 0).enc)).symm.trans (Hd.cG e b);rw[<-this];rfl
theorem Jl.yl(h:Jl g N sq x L Vp V)(Z:P.N=0\/nQ P)(B:P.N≠0->x.u+2*P.N+1<=N)(j:Nat)(H:Vs V)(C:x.sure=false->Vs Vp):Yl g N x.ep Vs (pT x sq L P j Vp):=by
 refine⟨h.t,λf S K A=>?_⟩;have a3:=h.u;have D:=h.nx;have M:=h.sq;have R:=h.uN;have l:∀i,i<L.length+1->cJ x.ep (sq+i):=λi O=>h.c.le aa aa;by_cases E:(∀q,q<x.u->aD (S ((x.t+q)%N)) (gW x.ep sq L q))
 .refine ⟨x.t,sq,L,V,K,h.t,l 0 aa,pL.of h.pk (λi O=>l i aa) aa (λq n=>E q aa),h.Bk Z B A,aa,by have:=h.lim;omega,H,h.pl,h.val,λm r I B o=>?_⟩;cases d:x.sure with
  |true=>refine⟨?_,by rw[show(pT x sq L P j Vp).V=Vp from rfl,h.sure d];exact aD.refl _⟩;show¬tk x L m r;unfold tk;rw[d,ao rfl];exactλa=>a o
  |false=>
   obtain⟨k,T,rfl,U,W⟩:=h.tail d;rw[gm,jT]at o;cases v:bu (bM T T.N) (m,r)with
   |some f=>rw[v]at o;cases o
   |none=>rw[v]at o;refine⟨?_,W m r I B v⟩;show¬tk x _ m r;unfold tk;rw[d,aq aj,jU];exactλa=>a o
 .
  have d:x.sure=false:=by
   cases d:x.sure with
   |false=>rfl
   |true=>refine absurd (λq n=>?_) E;have:=A q aa;simp only[pT,Mp,ao n,d]at this;exact this.resolve_right λa=>by simp at a
  obtain⟨k,T,rfl,U,W⟩:=h.tail d;have Y:=iq k T;rw[QU,List.length_singleton]at D l;have s:∀q,q+1<x.u->aD (S ((x.t+q)%N)) (gW x.ep sq (k++ [T]) q):=λq n=>by have:=A q aa;simp only[pT,Mp,ao (show q<x.u by omega)]at this;exact this.resolve_right λa=>aa
  have v:=h.pk T (YR _ (SP.2 rfl));have w:ko (x.nx-1) (S ((x.t+(x.u-1))%N)):=by
   have:=A (x.u-1) aa;simp only[pT,Mp,ao (show x.u-1<x.u by omega)]at this;refine(this.resolve_left λa=>E λq n=>?_).2.2;by_cases e:q+1<x.u
   .exact s q e
   .rwa [show q=x.u-1 by omega]
  have F:∀i Q,k[i]?=some Q->(k++ [T])[i]?=some Q:=λi Q n=>by rw[RD (QS.1 n).1];exact n
  have t:∀q,q<bl k->gW x.ep sq (k++ [T]) q=gW x.ep sq k q:=λq n=>by obtain⟨i,Q,j,a,b,rfl⟩:=gX (ep:=x.ep) (_sq:=sq) (L:=k) n;rw[fc b a,<-fc b (F i Q a),XC (by have:=(QS.1 a).1;omega)]
  refine⟨x.t,sq,k,Vp,K,h.t,l 0 aa,pL.of (λQ J=>h.pk Q (ZB _ J)) (λi O=>l i aa) aa (λq n=>by rw[<-t q n];exact s q aa),λQ=>?_,aa,by have:=h.lim;omega,C d,λp a0=>h.pl p (by rw[gm];exact ZB _ a0),U,λm r _ _ o=>⟨?_,aD.refl _⟩⟩
  .have z:(k++ [T])[k.length]?=some T:=aJ;have G:∀j,j<=2*T.N->gW x.ep sq (k++ [T]) (bl k+j)=bp x.ep (sq+k.length) T j:=λj a1=>by have:=fc (ep:=x.ep) (sq:=sq) a1 z;rwa[List.take_left' rfl]at this
   refine Fb (c:=T.N) (λy a2 X a4=>?_) (λ_=>?_) Q
   .rw [kS]at X;have:=s (bl k+0) (by have:=v.n;omega);rw[G 0 aa]at this;exact v.Qk (l _ aa) this a2 X
   .rw [kS,show bl k+2*T.N=x.u-1 by omega,show sq+k.length=x.nx-1 by omega];exact w
  .show ¬tk x _ m r;unfold tk;rw[d,aq aj,jU];exactλa=>a o
def KU(x:Wl)(sq:Nat)(L:List bX)(P:bX)(V:eW)(a:aQ):Cp:=⟨x.t,λf=>aD f (aX x.ep sq x.t)\/aD f a,λf=>aD f a,Mp x sq L P,Wp x sq L P 0,λ_ _=>False,V⟩
theorem Jl.Ql(h:Jl g N sq x L Vp V)(j:P.N=0)(k:x.sure=true)(l:Vs V):Yl g N x.ep Vs (KU x sq L P V (aX x.ep x.nx ((x.t+x.u)%x.N))):=by
 refine⟨h.t,λf S b d=>?_⟩;rcases b with b|b
 .obtain ⟨t,i,s,v,q⟩:=(h.yl (Vs:=Vs) (.inl j) (λa=>absurd j a) 0 l λa=>by rw[k]at a;cases a).2 f S b d;exact⟨t,i,s,v,q.ck,q.tN,q.cn,q.lZ,q.Bk,q.used,q.lim,q.vs,q.f_,q.val,λm r w y z=>⟨λa=>a,by rw[show(KU x sq L P V (aX x.ep x.nx ((x.t+x.u)%x.N))).V=V from rfl,<-h.sure k];exact(q.vW m r w y z).2⟩⟩
 .rw [h.n]at b;have n:0<N:=Nat.lt_of_le_of_lt (QN _) h.t;refine⟨_,_,[],V,b,RT _ n,h.c,pL.nil,λQ=>zh (λ_=>?_) Q,QN _,h.lim,l,λp A=>by simp[cc]at A,λm r f b=>(by cases b),λm r _ _ _=>⟨λa=>a,aD.refl _⟩⟩;rw[kS];have c:∀q,q<N->ko x.nx (S ((x.t+q)%N)):=λq o=>by
   by_cases e:q<x.u
   .exact h.vW (d q o) e
   .have:=d q o;simp only[KU,Mp,aq e]at this;exact this.resolve_right λa=>J
  show ko x.nx (S (((x.t+x.u)%N+0)%N));have:=c (x.u%N) (RT _ n);rwa[Nat.add_mod_mod,<-Nat.mod_mod (x.t+x.u) N]at this
end
section
def By.er(b:By):By:={b with aZ:=none}
theorem By.pU{b:By}{k:Nat}{a:Dv->Dv × Nat}(h:(b.op k a).2=0):b.er.op k a=((b.op k a).1.er,0):=by
 unfold By.op at h|-;by_cases d:b.out=true
 .rw [ao d]at h;cases h
 .rw [aq d]at h|-;have f:b.er.out=false:=by
   unfold By.out at d|-;show(b.br||(none:Option Nat)==some 0)=false;cases i:b.br with
   |true=>rw[i]at d;exact absurd rfl d
   |false=>rfl
  rw[f,aq aj];show(match b.dv k with|none=>(b.er.tick,51)|some v=>(b.er.tick.put k (a v.use).1,(a v.use).2))=_;cases e:b.dv k with
  |none=>rw[e]at h;cases h
  |some v=>rw[e]at h;exact Prod.ext rfl h
theorem By.vO{b:By}:∀{l:List fL},(b.run l).2.2=0->(b.run l).2.1=0:=by
 intro l;induction l generalizing b with
 |nil=>exactλ_=>rfl
 |cons a f d=>
  intro h;unfold By.run at h|-;by_cases e:(b.op a.1 a.2).2=0
  .rw [ao e]at h|-;exact d h
  .rw [aq e]at h;exact absurd h e
theorem By.pV:∀(l:List fL) {b:By},(b.run l).2.2=0->b.er.run l=((b.run l).1.er,0,0)
 | [],_,_=>rfl
 |a::d,b,h=>by
  unfold By.run at h|-;by_cases e:(b.op a.1 a.2).2=0
  .rw [ao e]at h|-;rw[By.pU e,ao rfl];exact By.pV d h
  .rw [aq e]at h;exact absurd h e
theorem By.Fc{b:By}{J:Nat}{a:aQ}{d:dp}:∀n,(b.dr J a d n).2=0->b.er.dr J a d n=((b.dr J a d n).1.er,0)
 |0,_=>rfl
 |n+1,h=>by
  unfold By.dr at h|-;by_cases e:(b.dr J a d n).2=0
  .rw [ao e]at h|-;rw[By.Fc n e,ao rfl];exact By.pU h
  .rw [aq e]at h;exact absurd h e
theorem By.Kw{b:By}{J:Nat}{a:aQ}{d:dp}{n:Nat}(h:(b.iE J a d n).2=0):b.er.iE J a d n=((b.iE J a d n).1.er,0):=by
 unfold By.iE at h|-;by_cases e:(b.dr J a d n).2=0
 .rw [ao e]at h|-;rw[By.Fc n e,ao rfl];exact By.pU h
 .rw [aq e]at h;exact absurd h e
theorem By.Mx{b:By}{J:Nat}{f:aQ}(h:(b.ck J f).2=0):b.er.ck J f=((b.ck J f).1.er,0):=by
 unfold By.ck at h|-;by_cases e:(b.op J (aN 1 f)).2=0
 .rw [ao e]at h|-;rw[By.pU e,ao rfl];exact By.pU h
 .rw [aq e]at h;exact absurd h e
def Rs.er(s:Rs):Rs:={s with b:=s.b.er}
variable {g:az} {s s':Rs} {k:Nat}
theorem mY(h:du s s' k 0):du s.er s'.er k 0:=by
 obtain⟨l,d,a,f,i⟩:=h;have e:(s.b.run ((fM s.ro l).map g_)).2.2=0:=by rw[a]
 refine⟨l,d,?_,f,i⟩;show s.b.er.run ((fM s.ro l).map g_)=_;have b:=By.vO e;rw[By.pV _ e,a];rw[a]at b;rw[show k=0 from b];rfl
theorem Bl(h:cz s s' k 0):cz s.er s'.er k 0:=by
 unfold cz at h|-;show if s.x.sure=true then _ else _
 split at h
 .rename_i c;rw[ao c];exact mY h
 .rename_i c;rw[aq c];exact⟨by rw[h.1],h.2⟩
theorem rM(h:(s.synced g).2=0):s.er.synced g=((s.synced g).1.er,0):=by
 unfold Rs.synced at h|-;show(if s.x.sure=true then(s.er,0)else _)=_;by_cases c:s.x.sure=true
 .rw [ao c,ao c]
 .rw [aq c]at h|-;rw[aq c];have e:(s.b.op g.M bc).2=0:=h;have a:s.er.b.op g.M bc=((s.b.op g.M bc).1.er,0):=By.pU e;rw[a,e];rfl
theorem Bm(h:bW g s s' k 0):bW g s.er s'.er k 0:=by have a:=d' h;unfold bW at h|-;rw[rM a,ao rfl];rw[ao a]at h;exact Bl h
theorem pW(h:eA g s s' k 0):eA g s.er s'.er k 0:=by
 obtain⟨a,d,f⟩:=h;have e:(s.b.run ((oT g s.ro).map dj)).2.2=0:=by rw[a]
 refine⟨?_,d,f⟩;show s.b.er.run ((oT g s.ro).map dj)=_;have b:=By.vO e;rw[By.pV _ e,a];rw[a]at b;rw[show k=0 from b];rfl
theorem pX(h:gv g s s' k 0):gv g s.er s'.er k 0:=by obtain⟨d,f,a⟩:=h;have e:s.er.nj g s.x.ep=((s.nj g s.x.ep).1.er,0):=By.Mx a.symm;refine⟨?_,f,by show 0=(s.er.nj g s.x.ep).2;rw[e]⟩;show s'.er={s.er with b:=(s.er.nj g s.x.ep).1,x:=s.x.qh s.x.ep (s.er.nj g s.x.ep).2};rw[e,d,<-a];rfl
theorem Lit.Hy{Q d:Nat->Dk->Prop}{b:By}(h:Lit none Q b){a:fL}(e:a.1<b.N)(f:eT Q d a):((b.op a.1 a.2).2=0/\Lit none d (b.op a.1 a.2).1)\/((b.op a.1 a.2).2=50/\b.aZ≠none/\qn none Q (b.op a.1 a.2).1):=by
 rcases h.op e f with q|⟨-,q,-⟩|⟨i,j,l⟩
 .exact .inl q
 .cases q
 .exact .inr ⟨i,by rw[j];simp,l⟩
theorem Lit.Hz{Q:Nat->Nat->Dk->Prop}{b:By}{l:List fL}(h:Lit none (Q 0) b)(d:∀i a,l[i]?=some a->a.1<b.N/\eT (Q i) (Q (i+1)) a):
  ((b.run l).2.2=0/\Lit none (Q l.length) (b.run l).1)\/((b.run l).2.2=50/\b.aZ≠none/\∃i,i<=l.length/\qn none (Q i) (b.run l).1):=by
 rcases Lit.run l Q b h d with q|⟨-,q,-⟩|q
 .exact .inl q
 .cases q
 .exact .inr q
variable {u:Su} {N:Nat} {c c':Cp}
theorem Kv.else{d:Dk}{r:Nat}{f:aQ}(h:Kv g u c k d)(a:c.kU k r):Kv g u c k (d.wr (1+r) f):=
 ⟨h.sup.wr λe=>J,λj b i=>(h.row j b i).wr λe=>absurd a (by rwa[show r=j by omega])⟩
def Cp.le(g:az)(c c':Cp):Prop:=∀m r,m<g.M->r<g.R->¬c'.kU m r->¬c.kU m r/\aD (c.V m r) (c'.V m r)
theorem Cp.le.refl(a:c'.kU=c.kU)(b:c'.V=c.V):Cp.le g c c':=λm r _ _ h=>by rw[a]at h;rw[b];exact⟨h,aD.refl _⟩
theorem Kv.le{d:Dk}(h:Kv g u c k d)(b:k<g.M)(e:Cp.le g c c'):Kv g u c' k d:=
 ⟨h.sup,λr a i=>(h.row r a (e k r b a i).1).mono λ_ j=>j.trans (e k r b a i).2⟩
theorem zi{q0:Nat}{f:aQ}(l:∀j,j<128->f j<256)(m:q0<N)(n:c'.t=c.t)(o:c'.K=c.K)(a:c'.KW=c.KW)(p:∀q f,q<N->c.M q f->c'.M q f)(b:c'.M q0 f)(r:∀q f,q<N->q≠q0->c.W q f->c'.W q f)(i:c'.W q0 f)(t:Cp.le g c c'):
  eT (CQ g u N c) (CQ g u N c') (g.M,aN (2+(c.t+q0)%N) f):=
 dP l (λd h=>⟨λe=>absurd e (TO _),λ_=>by
  obtain⟨v,w,x,y⟩:=h.2 rfl;refine⟨v.wr λe=>J,?_,?_,?_⟩
  .rw [o];exact w.wr λe=>J
  .rw [a,Dk.eD,aq J];exact x
  .rw [n];exact y.wr m p b r i⟩)
  λj d z h=>⟨λe=>(h.1 e).le e t,λe=>absurd e z⟩
theorem Fe(n:c'.t=c.t)(i:∀f,c.KW f->c'.K f/\c'.KW f)(l:∀q f,q<N->c.W q f->c'.M q f/\c'.W q f)(o:Cp.le g c c'):eT (CQ g u N c) (CQ g u N c') (dj g.M):=
 e' (λd h=>⟨λe=>absurd e (TO _),λ_=>by
  obtain⟨p,v,m,r⟩:=h.2 rfl;refine⟨.fl p.view,.fl (i _ m).1,?_,?_⟩
  .rw [Dk.lV];exact(i _ m).2
  .rw [n];exact r.fl.mono (λq f b a=>(l q f b a).1) λq f b a=>(l q f b a).2⟩)
  λj d t h=>⟨λe=>(h.1 e).le e o,λe=>absurd e t⟩
theorem Kx{p:Pt}(a:∀j,j<128->p.2.2 j<256)(b:p.1<g.M)(f:c.kU p.1 p.2.1):eT (CQ g u N c) (CQ g u N c) (g_ p):=
 dP a (λd h=>⟨λe=>(h.1 e).else f,λe=>absurd b J⟩) λj d i h=>h
theorem My{f:aQ}(b:∀j,j<128->f j<256)(i:c'.t=c.t)(l:∀f,c.K f->c'.K f)(a:c'.K f/\c'.KW f)(m:∀q f,q<N->c.M q f->c'.M q f)(n:∀q f,q<N->c.W q f->c'.W q f)(o:Cp.le g c c'):eT (CQ g u N c) (CQ g u N c') (g.M,aN 1 f):=
 dP b (λd h=>⟨λe=>absurd e (TO _),λ_=>by
  obtain⟨p,r,w,t⟩:=h.2 rfl;refine⟨p.wr λe=>J,(r.mono l).wr λ_=>a.1,?_,?_⟩
  .rw [Dk.eD,ao rfl];exact a.2
  .rw [i];exact(t.mono m n).else J⟩)
  λj d v h=>⟨λe=>(h.1 e).le e o,λe=>absurd e v⟩
theorem CQ.mono{d:Dk}{j:Nat}(h:CQ g u N c j d)(b:c'.t=c.t)(i:∀f,c.K f->c'.K f)(a:∀f,c.KW f->c'.KW f)(l:∀q f,q<N->c.M q f->c'.M q f)(m:∀q f,q<N->c.W q f->c'.W q f)(n:Cp.le g c c'):CQ g u N c' j d:=
 ⟨λe=>(h.1 e).le e n,λe=>⟨(h.2 e).sup,(h.2 e).ck.mono i,a _ (h.2 e).kw,by rw[b];exact(h.2 e).ring.mono l m⟩⟩
end
end Go.Proofs.YtbimjlmclegaeaaGreat
