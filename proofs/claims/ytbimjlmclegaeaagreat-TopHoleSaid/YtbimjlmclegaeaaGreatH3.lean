/- TopHole: a batch under way, the power gone, a member taken out in the dark: every block reads as ahead or as behind; part 4 of 6. Conditions: none. -/
import Derived.Test.YtbimjlmclegaeaaGreatH2
namespace Go.Proofs.YtbimjlmclegaeaaGreat
set_option linter.all false
set_option maxRecDepth 1000000
set_option maxHeartbeats 8000000
open Go.RowKit Go.Proofs.Tryz
open Go renaming World->QA,World->M,heap_alloc_new->QB,Value->QC,Value->H,cell_of_row->QS,bodyPost_ret->QT,heap_setCell_other->RJ,results->RP,Ending->RV,info_parts->SB,TypeId->SQ,Addr->SR,madeCells->TN,maxLen->UE,results_cell_tmp->UF,callsIn_wide->UR,callFunc->VF,leaves_cons->WZ,splice->YF
open Nat renaming le_trans->QD,le_refl->QE,zero_le->QO,zero_add->RE,lt_of_lt_of_le->RL,le_of_eq->RN,not_lt_zero->RQ,mod_eq_of_lt->SA,mod_lt->SC,le_of_lt->TF,mul_le_mul->TG,lt_succ_self->TI,lt_irrefl->TL,mul_one->TX,add_assoc->UP,add_sub_cancel_left->UW,mul_comm->VB,add_zero->VK,zero_mul->VY,ne_of_lt->WL,min_eq_left->WM,mod_one->YE,add_comm->YY,min_le_left->ZF,add_le_add_left->ZS
open List renaming setIfInBounds_toArray->QF,getElem_cons_zero->QH,getElem_cons_succ->QI,getElem_toArray->QK,set_cons_zero->QL,set_cons_succ->QM,getElem?_eq_some_iff->QR,length_append->QU,mem_of_getElem?->QV,getElem?_append_right->RA,length_map->RB,getElem?_append_left->RD,getElem?_eq_none->RF,getElem?_map->RI,mem_map->RK,mem_cons_self->RZ,length_cons->SE,getElem?_range->SF,mem_cons_of_mem->SG,map_append->SH,mem_singleton->SM,append_assoc->SV,getElem?_take->SX,mem_append->TH,ext_getElem?->TJ,range->TQ,mem_range->TY,append_nil->TZ,cons_append->UC,take_add_one->UG,mem_cons->UH,range_succ->UL,nil_append->UN,map_congr_left->UX,flatMap_append->UY,length_take->VD,length_nil->VW,size_toArray->WA,all_eq_true->WD,length_eq_zero_iff->WO,take_append_of_le_length->XC,append_toArray->XL,take_of_length_le->YG,perm_append_comm->YO,mem_of_mem_take->ZJ
open Go.IntKind renaming i64->QG,u64->VP
open Go.World renaming block_lt_of_cell?->QN,cell?_of_block->QP,size_setCell->RT,news_of_block->RW,ownsRow_nil->SD,putObj_heap_same->SO,size_alloc->SP
open Go.RowKit.Below renaming heap_alloc->QW,heap_setCell->RO,refl->SU
open Go.RowKit renaming Hid->QX,Below->SK,wrap64->WW
open _root_.Array renaming getElem?_eq_some_iff->RC,getElem?_eq_getElem->RU,replicate_zero->ZD,replicate_succ->ZE
open Go.Proofs renaming enters_of->RH
open Option.some renaming inj->RM,injEq->SI
open Go.Value renaming slice->RR,int->SJ
open Go.Act renaming put->RS,eval->VO
open Go.Instr renaming makeSlice->SY,endRound->ZB
open Int renaming natCast_mul->TK,ofNat_tmod->VL
open Go.Fence renaming wide->TT
open Go.Proofs.Tryz renaming underlying5->UA,underlying41->UO,underlying68->VV,underlying162->XY,underlying82->YC
open List.cons renaming injEq->UD
open BitVec renaming ofInt->UK,ofInt_natCast->WX,toNat_ofNat->XK
open Go.Region renaming ready->UT,wanted->VJ,noSelect->YD
open Go.Obj.cells renaming inj->UU
open Bool renaming and_eq_true->VN
open UInt8 renaming ofNat->WB
open Go.CallsIn renaming inRound->WC
open Go.Calls renaming quiet_of_same->WE
open Go.Oper renaming semAt_some->WK
open Go.AllReadyH renaming cons->WY,nil->XI
open Go.DataW renaming trod->YK
open Go.Result renaming ok->YT
variable {w W z:World}{n m k i j r C:Nat}{c:Int}{v x y:Value}{T:List Nat}{p:Addr}{P:Option Addr}{A:Array Value}{d:Bool}{S Q X:Nat->Prop}{t:TypeId}{L:List Value}{O:Obj}{f:aN}{F:dp}{g:aA}{K:bq}{l:List Pt}{D:Dk}{U:Dv}{b:By}{o:Ro}{s:Rs}{u:Su}
section
abbrev GX(Z:bm)(g:aA)(u:Su)(a:Nat)(c d:H):Array H:= #[ar Z.B,bg u.id,bg u.ev,bg u.sf,Y u.rl,Y g.M,Y g.c,Y g.s,Y u.N,.bool u.lz,.bool u.lost,a' Z.sb g.M a,Y u.cur,c,d,.bool false,aH 0,.bool true,.bool false]
theorem JL{w:M}{b n a:Nat}{f:aN}(c:n<=a)(h:aX w b (ao (bu n λm=>.int .u8 (f m:Nat)) 122)):ko w (a' b n a) n f:=
 ⟨b,0,a,_,_,rfl,c,h,λk d=>by rw[RE,cg _ _ _ d]⟩
theorem Ei[Lo](Z:bm)(g:aA)(u:Su)(a:Nat)(t x:QC)(b:By)(k:Nat)(w:QA)(f:g.M<=a)(p:aX w Z.A (ao (GX Z g u a t x) 120))(q:aX w Z.sb (ao (bu g.M λm=>.int .u8 (u.st m:Nat)) 122))(y:aC w Z.B b)(z:(u.at k).ok g)(A:k<b.N)(B:∀v,b.dv k=some v->0<v.d.n/\v.d.cn<1000000000000):
  aF 55 #[ar Z.A,ae k] w (CC Z.B b k (aR 0 (fZ g (u.at k))) w):=by
 have C:=JL f q;obtain⟨U,f0,V⟩:=cr p;obtain⟨o,d⟩:=ah (w.alloc (ao (dy g (u.at k) (a' Z.sb g.M a)) 117));have c:aq w o:=by rw[<-d];exact aK aj _
 have h:aX o w.heap.size (ao (dy g (u.at k) (a' Z.sb g.M a)) 117):=by rw[<-d];exact QB _ _
 obtain⟨D,i⟩:=ah w.heap.size;rw[i]at h;have j:=ad (kL g (u.at k) (a' Z.sb g.M a) o (C.below c) z);have r:QX (∀(v:QC) W,aq o W->cA W v 128 (fZ g (u.at k))->aF 52 #[ar Z.B,ae k,ae 0,v] W (CC Z.B b k (aR 0 (fZ g (u.at k))) w)):=λv W l E=>(gF Z.B k 0 v (fZ g (u.at k)) b W ((y.below c).below l) A E B).mono λe X ⟨F,G,K⟩=>⟨F,G,((Fr.af c).then l).tr K⟩;have L:=aB c ((c.block _ (Z_ p)).trans p);obtain⟨d1,d2,d3⟩:=cr h;obtain⟨H,M,O⟩:=cr L.2;go_enter func55,ntmps55;go_wp2_with fail
 try simp only[d,i]
 go_wp2_with(first|(go_at_call 88;refine j.mono ?_;rintro e R ⟨I,Y,rfl,P,n⟩;obtain⟨J,p2,p3⟩:=kp n Z.A O;have s:=aB (yX P) n)|(go_at_call 52;refine(r _ _ s.2 s.1).mono ?_;rintro e w4 ⟨rfl,Q,S⟩;have T:=aB Q S));go_ret;exact⟨rfl,T⟩
def xH(g:aA)(u:Su):List fR:=(j_ g).map (dD g u)++(j_ g).map dq
theorem lU(g:aA):(j_ g).length=g.M+1:=by simp[j_]
theorem vo{g:aA}{j:Nat}(h:j<g.M+1):(j_ g)[j]?=some (if j=0 then g.M else j-1):=by
 unfold j_
 match j,h with
 |0,_=>rfl
 |j+1,h=>simp[SF (show j<g.M by omega)]
def ek(g:aA)(j:Nat):Nat:=if j=0 then g.M else j-1
theorem oo{g:aA}{j:Nat}(a:g.ok)(h:j<g.M+1):ek g j<g.M+1:=by unfold ek;have:=a.m3;split<;>omega
theorem sT{g:aA}{u:Su}{i j:Nat}(a:j<g.M+1)(c:i<2):(xH g u)[i*(g.M+1)+j]?=some (if i=0 then dD g u (ek g j)else dq (ek g j)):=by
 unfold xH
 match i,c with
 |0,_=>rw[VY,RE,RD (by rw[RB,lU];exact a),RI,vo a];rfl
 |1,_=>rw[Nat.one_mul,RA (by rw[RB,lU];omega),RB,lU,UW,RI,vo a];rfl
theorem oq(g:aA)(u:Su):(xH g u).length=2*(g.M+1):=by unfold xH;rw[QU,RB,RB,lU];omega
section
variable {g:aA} {N:Nat} {lz:Bool} {b:By}
theorem qA.LQ(h:qA g N b):∀a,a∈eO g g.M->a.1<b.N/\lQ a:=λa c=>by obtain⟨e,r,f,d⟩:=lR c;rw[d,h.bN];exact⟨by show a.1<_;omega,ho _ _ _⟩
theorem qA.zr(j:g.ok)(h:qA g N b){m r:Nat}(u:m<g.M)(w:r<g.R):((b.run (eO g m++rE m r)).1.op m (aR (1+r) λ_=>0)).2=0/\((b.run (eO g m++rE m r)).1.op m (aR (1+r) λ_=>0)).1=(b.run (eO g m++rE m (r+1))).1/\m<(b.run (eO g m++rE m r)).1.N/\∀v,(b.run (eO g m++rE m r)).1.dv m=some v->1+r<v.d.n/\v.d.cn<1000000000000:=by
 have c:∀a,a∈eO g m++rE m r->a.1<b.N/\lQ a:=λa d=>by
  rw[h.bN];rcases TH.1 d with d|d
  .obtain ⟨i,n,e,f⟩:=lR d;rw[f];exact⟨by show a.1<_;omega,ho _ _ _⟩
  .obtain ⟨n,e,rfl⟩:=RK.1 d;exact⟨by show m<_;omega,ho _ _ _⟩
 obtain⟨o,p⟩:=h.lv.run _ c;have k:(b.run (eO g m++rE m r)).1.N=b.N:=By.gb _ _;obtain⟨q,x⟩:=p.op (a:=(m,aR (1+r) λ_=>0)) (by show m<_;rw[k,h.bN];omega) (ho _ _ _);refine⟨q,?_,by rw[k,h.bN];omega,λv s=>?_⟩
 .rw [Ef,<-SV];exact(By.jo (a:=(m,aR (1+r) λ_=>0)) o).1.symm
 .obtain ⟨y,i,e,f⟩:=By.gI (λa d=>(c a d).2.dv) s;rw[h.dv m J]at i;obtain rfl:=RM i;rw[al J]at e f;have e:v.d.n=1+g.R:=e;have f:v.d.cn<=0+_:=f;have l:(eO g m++rE m r).length<=100000:=by
   rw[QU,lT];have z:(rE m r).length=r:=by simp[rE]
   have t:=aA.iJ j;have A:=j.m16;have B:m*g.R<=16*4096:=TG J t;omega
  exact⟨by rw[e];omega,J⟩
theorem qA.fmt(o:g.ok)(h:qA g N b)(F:N<=2048):(qy g b).N=g.M+1/\Lv (qy g b)/\(∀v,(qy g b).dv g.M=some v->2+N<=v.d.n/\v.d.cn+10000<1000000000000)/\(∀k,k<=N->((qy g b).db g.M (λp=>2+p) (λ_ _=>0) k).2=0)/\(((qy g b).db g.M (λp=>2+p) (λ_ _=>0) N).1.ck g.M (aV 1 1 0)).2=0
  /\(j' g N b).N=g.M+1/\Lv (j' g N b)/\∀j v,j<g.M+1->(j' g N b).dv j=some v->0<v.d.n/\v.d.cn<=90000:=by
 obtain⟨-,q⟩:=h.lv.run _ h.LQ;have d:(qy g b).N=g.M+1:=(By.gb _ _).trans h.bN;have G:(eO g g.M).length<=65536:=by rw[lT];exact TG o.m16 (aA.iJ o)
 have d1:∀j v,(qy g b).dv j=some v->j<g.M+1->v.d.n=(if j=g.M then 2+N else 1+g.R)/\v.d.cn<=65536:=λj v c i=>by obtain⟨K,e,r,s⟩:=By.gI (λa w=>(h.LQ a w).2.dv) c;rw[h.dv j i]at e;obtain rfl:=RM e;have s:v.d.cn<=0+_:=s;exact⟨r,aa⟩
 have t:=λn=>q.db (J:=g.M) (by rw[show(b.run (eO g g.M)).1.N=_ from d];omega) (pl:=λp=>2+p) (sf:=λ_ _=>0) n;obtain⟨-,x,u,d2⟩:=t N;obtain⟨y,z,A,d3⟩:=x.ck (J:=g.M) (by rw[u,show(b.run (eO g g.M)).1.N=_ from d];omega) (f:=aV 1 1 0);refine⟨d,q,λv c=>?_,λk _=>(t k).1,y,by show(j' g N b).N=_;exact A.trans (u.trans d),z,λj v i c=>?_⟩
 .obtain ⟨e,r⟩:=d1 _ v c aa;rw[ak rfl]at e;omega
 .obtain ⟨B,C,L,O⟩:=d3 j v c;obtain⟨l,D,P,Q⟩:=d2 j B C;have m:(qy g b).dv j=some l:=D;obtain⟨E,S⟩:=d1 j l m i;have:0<l.d.n:=by rw[E];split<;>omega
  exact⟨aa,aa⟩
theorem qA.step(o:g.ok)(h:qA g N b)(s:5<=N/\N<=2048){i j:Nat}(t:i<2)(p:j<g.M+1):
  (((j' g N b).run ((xH g (Su.born N lz)).take (i*(g.M+1)+j))).1.op (ek g j) (if i=0 then dD g (Su.born N lz) (ek g j)else dq (ek g j)).2).2=0/\
  (((j' g N b).run ((xH g (Su.born N lz)).take (i*(g.M+1)+j))).1.op (ek g j) (if i=0 then dD g (Su.born N lz) (ek g j)else dq (ek g j)).2).1=((j' g N b).run ((xH g (Su.born N lz)).take (i*(g.M+1)+(j+1)))).1/\
  ek g j<((j' g N b).run ((xH g (Su.born N lz)).take (i*(g.M+1)+j))).1.N/\
  ∀v,((j' g N b).run ((xH g (Su.born N lz)).take (i*(g.M+1)+j))).1.dv (ek g j)=some v->0<v.d.n/\v.d.cn<1000000000000:=by
 obtain⟨-,-,-,-,-,m,w,d2⟩:=h.fmt o s.2;have c:∀a,a∈xH g (Su.born N lz)->a.1<(j' g N b).N/\lQ a:=λa e=>by
  obtain⟨k,n,rfl|rfl⟩:=vn e
  .exact ⟨by rw[m];exact n,ho _ _ _⟩
  .exact ⟨by rw[m];exact n,sS _⟩
 obtain⟨n,x⟩:=w.run ((xH g (Su.born N lz)).take (i*(g.M+1)+j)) λa e=>c a (ZJ e);have q:=By.gb (j' g N b) ((xH g (Su.born N lz)).take (i*(g.M+1)+j));have f:=oo o p;have d:=sT (u:=Su.born N lz) p t;obtain⟨a,e⟩:=ah (if i=0 then dD g (Su.born N lz) (ek g j)else dq (ek g j));have l:a.1=ek g j:=by rw[<-e];split<;>rfl
 rw[e]at d|-;obtain⟨r,B⟩:=x.op (a:=a) (by rw[q,m,l];exact f) (c a (QV d)).2;rw[l]at r;refine⟨r,?_,by rw[q,m];exact f,λv y=>?_⟩
 .rw [<-UP,UG,d];have:=(By.jo (a:=a) n).1.symm;rw[l]at this;exact this
 .obtain ⟨z,A,C,D⟩:=By.gI (λa e=>(c a (ZJ e)).2.dv) y;obtain⟨E,F⟩:=d2 _ z f A;have G:((xH g (Su.born N lz)).take (i*(g.M+1)+j)).length<=34:=by rw[VD,oq];have:=o.m16;omega
  exact⟨J,J⟩
end
end
def GY(b:Int):Option H:=if b=12 then some (.agg #[.func (.func 41) #[] #[],.bool true])else if b=11 then some (.agg #[.func (.func 40) #[] #[],.bool false])else if b=10 then some (.agg #[.func (.func 39) #[] #[],.bool false])else if b=9 then some (.agg #[.func (.func 38) #[] #[],.bool false])else if b=8 then some (.agg #[.func (.func 37) #[] #[],.bool false])else if b=7 then some (.agg #[.func (.func 36) #[] #[],.bool false])else if b=6 then some (.agg #[.func (.func 35) #[] #[],.bool true])else if b=5 then some (.agg #[.func (.func 34) #[] #[],.bool true])else if b=4 then some (.agg #[.func (.func 33) #[] #[],.bool false])else if b=3 then some (.agg #[.func (.func 32) #[] #[],.bool true])else if b=2 then some (.agg #[.func (.func 31) #[] #[],.bool true])else if b=1 then some (.agg #[.func (.func 30) #[] #[],.bool true])else none
theorem GZ(w:QA):aF 20 #[] w λe q=>aL e (.map (some w.heap.size))/\UM q w.heap.size GY/\aq w q:=by
 obtain⟨w1,S,r,_,_,s⟩:=bc (UM.made w) 68 5 66 VV UA 1 (.agg #[.func (.func 30) #[] #[],.bool true]);obtain⟨w2,T,t,_,_,u⟩:=bc r 68 5 66 VV UA 2 (.agg #[.func (.func 31) #[] #[],.bool true]);obtain⟨w3,U,u3,_,_,v⟩:=bc t 68 5 66 VV UA 3 (.agg #[.func (.func 32) #[] #[],.bool true]);obtain⟨w4,V,x,_,_,y⟩:=bc u3 68 5 66 VV UA 4 (.agg #[.func (.func 33) #[] #[],.bool false]);obtain⟨w5,W,z,_,_,A⟩:=bc x 68 5 66 VV UA 5 (.agg #[.func (.func 34) #[] #[],.bool true]);obtain⟨w6,X,B,_,_,C⟩:=bc z 68 5 66 VV UA 6 (.agg #[.func (.func 35) #[] #[],.bool true]);obtain⟨w7,Z,D,_,_,E⟩:=bc B 68 5 66 VV UA 7 (.agg #[.func (.func 36) #[] #[],.bool false]);obtain⟨w8,H,F,_,_,G⟩:=bc D 68 5 66 VV UA 8 (.agg #[.func (.func 37) #[] #[],.bool false]);obtain⟨w9,N,K,_,_,L⟩:=bc F 68 5 66 VV UA 9 (.agg #[.func (.func 38) #[] #[],.bool false]);obtain⟨M,m,d,_,_,f⟩:=bc K 68 5 66 VV UA 10 (.agg #[.func (.func 39) #[] #[],.bool false]);obtain⟨R,n,g,_,_,h⟩:=bc d 68 5 66 VV UA 11 (.agg #[.func (.func 40) #[] #[],.bool false]);obtain⟨I,p,i,_,_,j⟩:=bc g 68 5 66 VV UA 12 (.agg #[.func (.func 41) #[] #[],.bool true]);have O:aq w (w.alloc (.map #[] 0)):=aK aj _;have c:∀{a b:QA} {o:Obj},aq w a->b=a.putObj w.heap.size o->aq w b:=λ{a b o} P Y=>by rw[Y];exact P.grown (grownBy_putObj' _ _ _) P.size (λk e=>by cases e;exact QE _)
 have Q:=aB i (c (c (c (c (c (c (c (c (c (c (c (c O s) u) v) y) A) C) E) G) L) f) h) j);have J:=λw=>eJ 68 w;obtain⟨a0,l⟩:=ah w.heap.size;rw[l]at Q S T U V W X Z H N m n p|-;clear r t u3 x z B D F K d g i s u v y A C E G L f h j O c;go_enter func20,ntmps20;go_wp2
 try simp only[l]
 go_ret;exact⟨rfl,Q⟩
abbrev dw(a:Nat)(b:H)(n:Int):H:=.agg #[aH a,b,Y n]
theorem jQ(a:Nat)(w:M):aF 21 #[aH a] w λe b=>aL e (dw a aO 0)/\aq w b:=by
 obtain⟨g,c,d,f⟩:=qi w (N #[aH 0,aO,Y 0] 46);clear c;go_enter func21,ntmps21;go_wp2_with fail
 try simp only[HB.out.1]
 go_wp2;refine QT (v:=dw a aO 0) (by simp[RP,results21,go_sem]) rfl ⟨rfl,aK aj _⟩
def bX(w:QA)(G:Nat)(Z:bm)(g:aA):Prop:=w.heap[G]?=some (N #[ar Z.B,ar Z.A,Y g.R,Y g.M,Y g.c,Y g.s] 73)
abbrev fO(a:Nat)(b n c:Int)(pv d:H):H:=.agg #[eb a,Y b,Y n,Y c,pv,d]
theorem Ej[Lo](c G:Nat)(Z:bm)(g:aA)(b:By)(w:M)(d:aX w c (N #[ar G] 40))(f:bX w G Z g)(a:aC w Z.B b):aF 42 #[ar c] w λe h=>∃n:Int,aL e (Y n)/\aq w h:=by obtain⟨k,l,c3⟩:=cr d;obtain⟨d1,d2,d3⟩:=cr f;have i:=I (uh Z.B b w a);go_enter func42,ntmps42;go_wp2_with(go_at_call 43;refine i.mono ?_;rintro e m ⟨o,p,q,rfl,a⟩;have j:=I a);go_ret;exact⟨_,rfl,aK j _⟩
def TM:List Nat:=73::eG
structure Pa[Lo](w:M)(G fn:Nat)(act:H)(Z0:bm)(g:aA)(Q:Nat->H->M->Prop):Prop where
 enters:∀args w,(VF fn args).run prog w= .ok (.enter fn args) w
 iw:bX w G Z0 g
 ct:∃b,aC w Z0.B b
 call:∀W,aq w W->aF fn #[ar G,act] W fun e w'=>∃er a n c,aL e (dw er (.slice a n c) 0)/\(∃Z,bX w' G Z g/\∃b,aC w' Z.B b)/\Fr TM aG W w'/\Q er (.slice a n c) w'
 below:∀er v W W',Q er v W->aq W W'->Q er v W'
 cell:∀er v W p o cs x,Q er v W->W.heap[p]? =some (N cs 46)->w.heap.size<=p->Q er v (W.setCell (R p o) x)
abbrev z46:Obj:= N #[aH 0,aO,Y 0] 46
theorem vp[Lo](w0 w:QA)(G d0 d4 b4 V a6:Nat)(a7 n a8:Int)(pv a9:QC)(Z0:bm)(g:aA)(Q:Nat->QC->QA->Prop)(H:Pa w0 G d0 (fO a6 a7 n a8 pv a9) Z0 g Q)(b5:aq w0 w)(hF:aX w d4 (ao #[.func (.func 42) #[] #[ar V]] 55))(d5:aX w b4 (ao #[.func (.func d0) #[] #[]] 64))(d6:aX w V (ao #[ar G] 40)):
  aF 44 #[fO a6 a7 n a8 pv a9,ar d4,ar b4,ar V] w λe d7=>∃s a n c b6,aL e (dw s (.slice a n c) b6)/\Q s (.slice a n c) d7/\∀(k:Nat) (o:Obj),w.heap[k]?=some o->TM.contains (ty o)=false->d7.heap[k]?=some o:=by
 have e7:=H.enters;have d8:∀y w,(VF 42 y).run prog w=.ok (.enter 42 y) w:=RH func42 aE rfl;obtain⟨e0,b7⟩:=ah ((w.alloc (ao #[eb a6,ae a7,ae n,ae a8,pv,a9] 50)).alloc z46);obtain⟨b1,b3,d⟩:=sR w (ao #[eb a6,ae a7,ae n,ae a8,pv,a9] 50) z46;rw[b7]at b1 b3 d;obtain⟨bA,l⟩:=ah w.heap.size;obtain⟨m,B⟩:=ah (w.heap.size+1);rw[l]at b1;rw[B]at b3;have b8:=(d.block _ (Z_ hF)).trans hF;have W:=(d.block _ (Z_ d5)).trans d5;have C:=(d.block _ (Z_ d6)).trans d6;obtain⟨y1,y2,y3⟩:=cr hF;obtain⟨d1,d2,d3⟩:=cr W;obtain⟨r1,r2,r3⟩:=cr C;obtain⟨a1,a2,a3⟩:=cr b1;obtain⟨e1,e2,e3⟩:=cr b3;obtain⟨b0,b9⟩:=H.ct;have D:=b5.trans (d.mono b5.size);have c3:=ad (Ej V G Z0 g b0 e0 C ((D.block _ (Z_ H.iw)).trans H.iw) (b9.below D));have u:=f' b8 W C b1 b3 D;have b:=aY b7 l B b5;have E:=ad H;have c4:=ad d;clear b7 l B;go_enter func44,ntmps44;go_wp2_with fail;rw[b.1,b.2.2.1,b.2.1];go_wp2_with(first
  |(go_at_call 42;refine c3.mono ?_;rintro e w1 ⟨z,rfl,f⟩
    have p:=ad f;obtain⟨p1,p2,p3⟩:=kp f b4 d3;obtain⟨p4,p5,p6⟩:=kp f V r3;obtain⟨p7,p8,p9⟩:=kp f bA a3;have e4:=ad (E.call w1 (u.2.2.2.2.2.trans (f.mono u.2.2.2.2.2.size)));clear f)
  |(refine e4.mono ?_;rintro e t ⟨s,a,F,c,rfl,⟨Z,K,b2,X⟩,i,N⟩
    have M:=i.hp ((p.block _ (Z_ u.1)).trans u.1) rfl;have L:=i.hp ((p.block _ (Z_ u.2.2.1)).trans u.2.2.1) rfl;have O:=i.hp ((p.block _ (Z_ u.2.2.2.2.1)).trans u.2.2.2.2.1) rfl;have R:=i.size;have c5:QX (∀(k:Nat) (o:Obj),aX w1 k o->TM.contains (ty o)=false->aX t k o):=λk o h c6=>i.hp h c6;have I:¬m=t.heap.size:=WL (Z_ O);have e5:¬t.heap.size=m:=Ne.symm I;have q:aq t (t.alloc (ao #[aH s,.slice a F c,ae 0] 46)):=aK aj _;have Y:=QB t (ao #[aH s,.slice a F c,ae 0] 46);have J:=ad (Ej V G Z g b2 _ ((q.block _ (Z_ L)).trans L) ((q.block _ (Z_ K)).trans K) (X.below q));obtain⟨q1,q2,q3⟩:=cr M;have j:=ca N q Y O R;clear K X i N M L O R q Y)
  |(go_at_call 42;refine J.mono ?_;rintro e w4 ⟨A,rfl,x⟩
    have P:=(x.block _ (Z_ j.2.2.1)).trans j.2.2.1;have S:=(x.block _ (Z_ ((j.2.1.block _ (Z_ j.2.2.2.1)).trans j.2.2.2.1))).trans ((j.2.1.block _ (Z_ j.2.2.2.1)).trans j.2.2.2.1);obtain⟨t1,t2,t3⟩:=cr P;obtain⟨u1,u2,u3⟩:=cr S;have H4:=aT x P S;clear x P S))
 go_wp2;have T:w0.heap.size<=m:=by have h1:=b.2.2.1;have h2:=b.2.2.2.size;omega
 have c7:w0.heap.size<=t.heap.size:=by have h1:=u.2.2.2.2.2.size;have h2:=p.size;have h3:=j.2.2.2.2;omega
 have x2:=(RJ w4 (ag t.heap.size 2) m (ae (WW (A-z))) I).trans H4.2.2;have x3:=heap_setCell_same _ m 0 _ 46 (aH s) x2;have x4:=heap_setCell_same _ m 1 _ 46 (.slice a F c) x3;have x5:=heap_setCell_same _ m 2 _ 46 (ae (WW (A-z))) x4;have q4:=E.below _ _ _ _ (E.below _ _ _ _ j.1 j.2.1) H4.1;have q5:=E.cell _ _ _ _ 2 _ (ae (WW (A-z))) q4 H4.2.1 c7;have q6:=E.cell _ _ _ _ 0 _ (aH s) q5 x2 T;have q7:=E.cell _ _ _ _ 1 _ (.slice a F c) q6 x3 T;have q8:=E.cell _ _ _ _ 2 _ (ae (WW (A-z))) q7 x4 T;have c0:=(cr x5).1 0;have c1:=(cr x5).1 1;have c2:=(cr x5).1 2;refine QT (v:=dw s (.slice a F c) (WW (A-z))) (by simp[RP,results44,go_sem,c0,c1,c2]) rfl ⟨s,a,F,c,WW (A-z),rfl,q8,λk o d9 c6=>?_⟩;have c8:=Z_ d9;have e6:w.heap.size=bA:=b.2.1;have r:k≠m:=by have h1:=b.2.2.1;omega
 have a0:=(c4.block k c8).trans d9;have U:=c5.out k o ((p.block k (Z_ a0)).trans a0) c6;have a4:k≠t.heap.size:=WL (Z_ U);have a5:=(j.2.1.block k (Z_ U)).trans U;have c9:=(H4.1.block k (Z_ a5)).trans a5;exact(RJ _ (ag m 2) k (ae (WW (A-z))) r).trans ((RJ _ (ag m 1) k (.slice a F c) r).trans ((RJ _ (ag m 0) k (aH s) r).trans ((RJ _ (ag t.heap.size 2) k (ae (WW (A-z))) a4).trans c9)))
theorem xI(G c:Nat)(w:M):aF 22 #[ar G,.func (.func c) #[] #[]] w λe d=>∃i j h,aL e (.func (.func 44) #[] #[ar i,ar j,ar h])/\d.heap[i]?=some (N #[.func (.func 42) #[] #[ar h]] 55)/\d.heap[j]?=some (N #[.func (.func c) #[] #[]] 64)/\d.heap[h]?=some (N #[ar G] 40)/\aq w d:=by
 obtain⟨f,g⟩:=ah ((w.alloc (N #[ar G] 40)).alloc (N #[.func (.func c) #[] #[]] 64));obtain⟨k,l,b⟩:=sR w (N #[ar G] 40) (N #[.func (.func c) #[] #[]] 64);rw[g]at k l b;have m:∀o,aq f (f.alloc o):=λo=>aK aj o;have a:=aY k l b m;have n:=I g;have p:QX (w.heap.size+1+1=f.heap.size):=by show w.heap.size+1+1=f.heap.size;rw[<-g];simp
 clear g m;go_enter func22,ntmps22;go_wp2;rw[n.out];go_ret;rw[p.out];exact⟨_,_,_,rfl,QB _ _,((a.2.2.2 _).block _ (Z_ a.2.1)).trans a.2.1,((a.2.2.2 _).block _ (Z_ a.1)).trans a.1,a.2.2.1.trans ((a.2.2.2 _).mono a.2.2.1.size)⟩
theorem Iz[Lo](w:QA)(G U:Nat)(a0:Bool)(i:Nat)(z n A:Int)(pv B:QC)(Z0:bm)(g:aA)(Q:Nat->QC->QA->Prop)(H:Pa w G U (fO i z n A pv B) Z0 g Q)(b3:GY (i:Nat)=some (.agg #[.func (.func U) #[] #[],.bool a0])):
  aF 11 #[ar G,fO i z n A pv B] w λe d=>∃C a m c f,aL e (dw C (.slice a m c) f)/\Q C (.slice a m c) d:=by
 have a9:∀x w,(VF 44 x).run prog w=.ok (.enter 44 x) w:=RH func44 aE rfl;obtain⟨D,a4⟩:=ah ((w.alloc (ao #[eb i,ae z,ae n,ae A,pv,B] 50)).alloc z46);obtain⟨Y,a5,E⟩:=sR w (ao #[eb i,ae z,ae n,ae A,pv,B] 50) z46;rw[a4]at Y a5 E;obtain⟨bA,j⟩:=ah w.heap.size;obtain⟨F,K⟩:=ah (w.heap.size+1);rw[j]at Y;rw[K]at a5;obtain⟨a1,a2,a3⟩:=cr Y;have X:=(E.block _ (Z_ H.iw)).trans H.iw;obtain⟨r1,r2,r3⟩:=cr X;have a6:=ad (λW=>(GZ W).mono λe d h=>And.intro h (show∀k o,W.heap[k]?=some o->d.heap[k]?=some o fromλk o q=>(h.2.2.block k (Z_ q)).trans q));have V:=aY Y a5 E X;have s:=aT a4 j K;have J:=ad H;have b0:=ad b3;clear a4 j K;go_enter func11,ntmps11;go_wp2_with fail;rw[s.1,s.2.2,s.2.1];go_cut [5,6] (λs5 s6 b1=>∃T:Nat,s5= ar T/\s6=.bool true/\QX (D.heap.size<=T/\b1.heap[T]?=some (ao #[.func (.func U) #[] #[],.bool a0] 66)/\aq D b1))
 case first=>
  go_region_held3(λd=>d.cell? ⟨bA,0,none⟩=some (eb i)) ((simp[*,go_sem];done)) (first
   |(go_at_call 20;refine(a6 _).mono ?_;rintro e w1 ⟨⟨rfl,L,r⟩,q⟩
     (try(have h7:=q _ _ (QB D (ao #[.nilFunc,.bool false] 66));obtain⟨c7,f7,z7⟩:=cr h7;have H7:=ad h7))
     obtain⟨p1,p2,p3⟩:=kp r bA dG;have O:QX (aq D w1):=via bF r;have Z:=dQ L 68 5 66 (.agg #[.nilFunc,.bool false]) true VV UA (zeroValue66 _) (i:Nat);rw[b0.out]at Z;have N:=dQ (L.out ((Out.af (S:=λ_=>False) (aK aj (ao #[.nilFunc,.bool false] 66)))) id) 68 5 66 (.agg #[.nilFunc,.bool false]) true VV UA (zeroValue66 _) (i:Nat);rw[b0.out]at N;simp at Z N;clear L r q))
  all_goals go_wp2
  all_goals go_meet
  all_goals first
   |exact⟨_,rfl,rfl,QE _,heap_setCell_same _ _ 1 _ 66 _ (heap_setCell_same w1 D.heap.size 0 _ 66 _ H7),(O.setCell (p:=⟨D.heap.size,0,none⟩) (QE _) _).setCell (p:=⟨D.heap.size,1,none⟩) (QE _) _⟩
   |exact⟨_,rfl,rfl,O.size,QB _ _,aK O _⟩
 case rest=>
  rename_i b4;refine b4 _ _ ?_;obtain⟨T,rfl,rfl,y⟩:=hcut;have M:=y.2.2;obtain⟨t1,t2,t3⟩:=cr y.2.1;obtain⟨p1,p2,p3⟩:=kp M bA a3;obtain⟨p4,p5,p6⟩:=kp M G r3;have a7:=ad (λW=>xI G U W);have l:=aT y.2.1 y.2.2 (V.2.2.1.trans (y.2.2.mono V.2.2.1.size));have b:QX (wc.heap[bA]?=some (ao #[eb i,ae z,ae n,ae A,pv,B] 50)/\wc.heap[F]?=some z46):=⟨(y.2.2.block _ (Z_ V.1)).trans V.1,(y.2.2.block _ (Z_ V.2.1)).trans V.2.1⟩;have P:w.heap.size<=F:=by have:=s.2.2;omega
  have b5:¬T=F:=gU y.2.1 b.2 ai;have b6:¬bA=F:=gU b.1 b.2 ai;cases a0
  all_goals
   go_wp2;go_region_held3(λd=>d.cell? ⟨T,0,none⟩=some (.func (.func U) #[] #[])/\d.cell? ⟨bA,0,none⟩=some (eb i)/\d.cell? ⟨bA,1,none⟩=some (ae z)/\d.cell? ⟨bA,2,none⟩=some (ae n)/\d.cell? ⟨bA,3,none⟩=some (ae A)/\d.cell? ⟨bA,4,none⟩=some pv/\d.cell? ⟨bA,5,none⟩=some B) ((simp[*,go_sem];done)) (first
    |(go_at_call 22;refine(a7 _).mono ?_;rintro e w3 ⟨b7,b8,b9,rfl,h1,h2,h3,R⟩
      have r:aq wc w3:=by first|exact R|exact via (cK aj _) R
      obtain⟨v1,v2,v3⟩:=kp r T t3;obtain⟨v4,v5,v6⟩:=kp r bA (Z_ b.1);have H3:=aY r h1 h2 h3;have I:=ad (λW (t:aq w3 W)=>vp w W G U b7 b8 b9 i z n A pv B Z0 g Q J ((l.2.2.trans (r.mono l.2.2.size)).trans (t.mono (QD l.2.2.size r.size))) ((t.block _ (Z_ h1)).trans h1) ((t.block _ (Z_ h2)).trans h2) ((t.block _ (Z_ h3)).trans h3));clear h1 h2 h3 r)
    |(go_at_call 44;refine(I _ (by first|exact aj|exact cK aj _)).mono ?_;rintro e w4 ⟨C,a,m,c,f,rfl,b2,q⟩
      have u:=H3.1;have g1:=q _ _ ((u.block _ (Z_ l.1)).trans l.1) rfl;have g2:=q _ _ ((u.block _ (Z_ b.1)).trans b.1) rfl;have g3:=q _ _ ((u.block _ (Z_ b.2)).trans b.2) rfl;obtain⟨x1,x2,x3⟩:=cr g1;obtain⟨x4,x5,x6⟩:=cr g2;obtain⟨x7,x8,x9⟩:=cr g3;have a8:=aB b2 g3;clear b2 q g1 g2 g3 u))
   go_wp2;have y1:=heap_setCell_same w4 F 0 _ 46 (aH C) a8.2;have y2:=heap_setCell_same _ F 1 _ 46 (.slice a m c) y1;have y3:=heap_setCell_same _ F 2 _ 46 (ae f) y2;have q5:=J.cell _ _ _ _ 0 _ (aH C) a8.1 a8.2 P;have q6:=J.cell _ _ _ _ 1 _ (.slice a m c) q5 y1 P;have q7:=J.cell _ _ _ _ 2 _ (ae f) q6 y2 P;have c0:=(cr y3).1 0;have c1:=(cr y3).1 1;have c2:=(cr y3).1 2;refine QT (v:=dw C (.slice a m c) f) (by simp[RP,results11,go_sem,c0,c1,c2]) rfl ⟨C,a,m,c,f,rfl,q7⟩
theorem mW(R B:Nat)(b:Option SR)(g:aA)(c:Nat)(a:Ro)(w:M)(h:fg w R B b g c a):aF 106 #[ar R] w λe d=>aL e (.bool a.sl)/\w=d:=by obtain⟨i,l,j,-⟩:=h.aM;obtain⟨k,f,z⟩:=cr j;go_enter func106,ntmps106;go_wp2;go_ret;exact⟨rfl,rfl⟩
theorem vq[Lo](Z:bm)(g:aA)(j:Option Nat)(V:cH)(C:Nat)(o:100000<=C):DX Z g j V C (λs=>s.x.sure=true) (λ_=>True) 112 cd where
 enters:=RH func112 aE rfl
 call:=λe W s b h hF=>rj Z.R Z.B Z.W Z.r g Z.fb s e W h hF J
 step:=λe s l k p b m hF f c=>by
  obtain⟨d,i,a⟩:=m.finish f c;refine⟨d,(py hF J c).less J,?_,?_,by rw[i],λn=>n.finish c,?_⟩
  .rcases a with a|a<;>rw[a.2]
  .rcases a with a|a<;>rw[a.2]
  .rcases a with a|a
   .exact .inl ⟨a.1,trivial⟩
   .exact .inr ⟨a.1,by rw[i];exact f⟩
 cV:=λs l d _ _ h=>by rw[d];exact h
structure XH(g:aA)(aw:Option Nat)(Bt:bq)(X0 X1:Rs->Su->Prop):Prop where
 go:∀s u s' k,X0 s u->eS g Bt s s' k 0->X1 s' u
 hN:∀s u s' k er,X0 s u->tu g aw s.ro s' k er->(bK s.b->bK s'.b)->s'.b.N=g.M+1->k<g.M->∀s u,X1 s u
 none:∀s u,Bt.n=0->X0 s u->X1 s u
def NQ[Lo](Z:bm)(g:aA)(a:Option Nat)(V:cH)(C b:Nat)(c d:Rs->Su->Prop)(w:M)(q:Bool)(W:M):Prop:=
 ∃s u,Inv W Z g a V (if q=true then C-70000 else C) s u/\s.x.N=b/\(q=true->rD a s/\∀s u,d s u)/\(q=false->c s u)/\iK Z w W
def LR[Lo](Z:bm)(g:aA)(a:Option Nat)(V:cH)(C:Nat)(b:Rs->Su->Prop)(w W:M):Prop:=∃s u,Inv W Z g a V (C-250000) s u/\b s u/\iK Z w W
theorem G_[Lo](Z:bm)(g:aA)(L:Option Nat)(V:cH)(C Q:Nat)(m:bq)(pv:QC)(w:QA)(a7:1000000<=C)(S:m.ok g)(a3:m.n<=256)(e_:1<=m.n)(T O:Rs->Su->Prop)(H:XH g L m T O)(q:Bool)(W:QA)(a4:NQ Z g L V C Q T O w q W)(U:fj W pv m)(j:2*m.c_ g+1<=Q):
  aF 105 #[ar Z.R,pv] W λe p=>∃k n,aL e (hN k n)/\Fr eG aG W p/\((n=0/\LR Z g L (m.fQ g V) C O w p)\/
   (q=false/\nT n/\k<g.M/\(∀s u,O s u)/\∃X P,(∃a2,p.heap[Z.R]?=some (ao a2 164)/\a2[8]?=some (.bool X))/\(∃u,p.heap[Z.A]?=some (ao (DF Z g u P false) 120))/\(∃u,lK p Z g u false)/\
    (∀c,aq p c->aF 106 #[ar Z.R] c λe v=>aL e (.bool X)/\c=v)/\
    ∀c,aq p c->aF 111 #[ar Z.A,hN k n] c λe v=>aL e (.tuple #[])/\Fr eG aG p v/\if X=true then∃s u,Inv v Z g L (m.fQ g V) (C-61000) s u/\s.x.sure=true/\iK Z w v else NQ Z g L V C Q T O w true v)):=by
 obtain⟨s,u,f,N,M,R,hF⟩:=a4;subst N;obtain⟨x,r⟩:=ah (if q=true then C-70000 else C);rw[r]at f;have a5:C-70000<=x/\x<=C:=by rw[<-r];split<;>omega
 obtain⟨r1,r2,-,-⟩:=f.ay.rs.ring;refine(vc Z.R Z.B Z.W Z.r g Z.fb s x m pv W f.ay.rs f.fit aa S a3 e_ j U (f.gt.LN f.fit aa S e_ r2 j)).mono ?_;rintro e p ⟨K,k,n,y,rfl,I,z⟩;have o:=f.gt.write f.fit aa S e_ r2 j y;refine⟨k,n,rfl,f.ay.wide (Fr.ra z),?_⟩;rcases o.res with⟨rfl,A⟩|⟨i,l,A⟩|⟨i,l,Y,A⟩
 .exact .inl ⟨rfl,K,u,(f.rows I z A o.fit o.fr o.lz o.N (λt=>t.write y) aa).less aa,(by cases q with|true=>exact(M rfl).2 _ _|false=>exact H.go s u K k (R rfl) y),hF.trans (Fr.ra z)⟩
 .have a:=f.rows I z A o.fit o.fr o.lz o.N (λt=>t.write y) aa;obtain⟨B,D⟩:=f.hit i;have E:q=false:=by
   cases q with
   |false=>rfl
   |true=>exact((M rfl).1.no i).elim
  subst E;have F:x=C:=by rw[<-r];rfl
  subst F;obtain⟨J,a6,a0,-⟩:=a.ay.rs.row.aM;obtain⟨P,-,a1⟩:=a.ay.arr.aM;have h:=H.hN s u K k n (R rfl) i (λt=>t.write y) A.gd.N B;have G:=i.slot;subst G;refine .inr ⟨rfl,i.gone,B,h,false,P,⟨_,a0,by rw[<-l];rfl⟩,⟨u,a1⟩,⟨u,a.ay.arr⟩,λc b=>by rw[<-l];exact mW _ _ _ _ _ _ c (a.ay.rs.row.below b),λc b=>?_⟩;refine(iu Z g k V (x-60000) n K u c (a.below b) B D aa i.gone).mono ?_;rintro e v ⟨rfl,s2,u2,d⟩;refine⟨rfl,a.ay.wide ((iK.af b).trans d.bY.a),?_⟩;rw[al ai];exact⟨s2,u2,d.inv.less (by rw[ak rfl];omega),by rw[d.x];exact o.N,λ_=>⟨d.inv.quiet d.down,h⟩,λe=>(by cases e),(hF.trans (Fr.ra z)).trans ((iK.af b).trans d.bY.a)⟩
 .have a:=f.rows I z A o.fit o.fr o.lz o.N (λt=>t.write y) aa;obtain⟨B,D⟩:=f.hit i;have E:q=false:=by
   cases q with
   |false=>rfl
   |true=>exact((M rfl).1.no i).elim
  subst E;have F:x=C:=by rw[<-r];rfl
  subst F;obtain⟨J,a6,a0,-⟩:=a.ay.rs.row.aM;obtain⟨P,-,a1⟩:=a.ay.arr.aM;have h:=H.hN s u K k n (R rfl) i (λt=>t.write y) A.gd.N B;have G:=i.slot;subst G;refine .inr ⟨rfl,i.gone,B,h,true,P,⟨_,a0,by rw[<-l];rfl⟩,⟨u,a1⟩,⟨u,a.ay.arr⟩,λc b=>by rw[<-l];exact mW _ _ _ _ _ _ c (a.ay.rs.row.below b),λc b=>?_⟩;refine(iu Z g k (m.fQ g V) (x-60000) n K u c (a.below b) B D aa i.gone).mono ?_;rintro e v ⟨rfl,s2,u2,d⟩;refine⟨rfl,a.ay.wide ((iK.af b).trans d.bY.a),?_⟩;rw[ak rfl];exact⟨s2,u2,d.inv.less aa,by rw[d.x];exact Y,(hF.trans (Fr.ra z)).trans ((iK.af b).trans d.bY.a)⟩
open Classical in
noncomputable def NR (S:Bool->M->Prop)(w:M):Nat:=if S true w then 0 else 1
theorem vr(h:K.n=0)(V:cH):K.fQ g V=V:=by
 funext m r;have a:K.gd g m r=false:=by unfold bq.gd;rw[h];rfl
 have b:aZ g K K.n r=false:=by rw[h];rfl
 exact sM a λ_=>b
def NS[Lo](Z:bm)(g:aA)(c:Option Nat)(V:cH)(C d:Nat)(f:Rs->Su->Prop)(a:bq)(w:M)(e:RV)(b:M):Prop:=
 if 2*a.c_ g+1>d then aL e (aH 122)/\aq w b else aL e (aH 0)/\LR Z g c (a.fQ g V) C f w b
structure Fu[Lo](Z:bm)(g:aA)(aw:Option Nat)(V:cH)(C N0:Nat)(X0 X1:Rs->Su->Prop)(Bt:bq)(pv:H)(D:Nat)(w:M)(q:Bool)(W:M):Prop where
 st:NQ Z g aw V C N0 X0 X1 w q W
 pv:fj W pv Bt
 cell:∃v,W.heap[D]? =some (N #[.int .u16 v] 35)
theorem Ek[Lo](Z:bm)(g:aA)(m:Option Nat)(V:cH)(C:Nat)(s:Rs)(u:Su)(a:bq)(pv:QC)(w:QA)(h:Inv w Z g m V C s u)(i0:1000000<=C)(h3:a.ok g)(h4:a.n<=256)(S:fj w pv a)(x r:Rs->Su->Prop)(H:XH g m a x r)(i2:x s u):
  aF 60 #[ar Z.A,pv] w (NS Z g m V C u.N r a w):=by
 have i3:∀(h5:Fn) (first U:Array QC) (w:QA),(Instr.makeFunc h5 first U).run prog w=.ok (.func h5 first U) w:=λ_ _ _ _=>rfl;obtain⟨h6,D,i4,d6,B,a9⟩:=eL w (ao #[aH 0] 35);have X:=h.below B;obtain⟨U,-,b0⟩:=X.ay.arr.aM;obtain⟨k0,f0,z0⟩:=cr b0;obtain⟨d1,d2,d3⟩:=cr a9;have i5:=h.kr.ring.2;have N:=ad (js Z g u false h6 X.ay.arr);have y:=ad (sy g a pv h6 h.kr.cJ h3 h4 (S.below B));have d4:=aB H i2;have t:=ca X a9 B h.low (S.below B);have b1:=aT i0 h3 h4;have n:=aB i4 d6;have d7:=bq.sH h.kr.cJ a;obtain⟨i6,i9,A,-⟩:=id S;have d8:=ad A;rw[A];obtain⟨h7,b2⟩:=ah (a.c_ g);have d9:=ad b2;rw[b2]at y d7;rw[A]at y;obtain⟨p2,b3⟩:=ah (2*h7);obtain⟨a8,b4⟩:=ah (p2+1);have e1:QG.wrap (2*(h7:Int))=((p2:Nat):Int):=by rw[<-b3];go_arith
 have e2:QG.wrap ((p2:Int)+1)=((a8:Nat):Int):=by rw[<-b4];go_arith
 have b5:QX (2*a.c_ g+1=a8):=by rw[<-b4,<-b3,<-d9.out];rfl
 unfold NS;rw[b5.out];have j0:QX (g.M<=16):=t.1.kr.cJ.m16;by_cases j3:a8<=u.N
 .simp only[al (show¬a8>u.N by omega)];by_cases b6:a.n=0
  .rw [b6]at y|-;have b7:=ad b6;obtain⟨b,i,j⟩:=g
   go_enter_defers func60,ntmps60
   go_wp2_with fail
   try rw[n.1,n.2]
   go_wp2_with(first|(go_at_call 99;refine N.mono ?_;rintro e w1 ⟨rfl,rfl⟩)|(go_at_call 104;refine y.mono ?_;rintro e E ⟨rfl,c⟩;obtain⟨p1,p2,p3⟩:=kp c D d3;obtain⟨p4,p5,p6⟩:=kp c Z.A z0;have d:=aB c p6));refine WZ (f:=98) (args:= #[ar D]) aJ (by simp[go_sem]) ?_;refine(cY (ag D 0) _).mono ?_;rintro e e6 M ⟨rfl,rfl,rfl⟩;have l:w.heap.size<=D:=RN n.2;have R:=QD t.2.2.2.1 l;have o:=(d.1.block D d3).trans t.2.1;have F:=heap_setCell_same E D 0 _ _ (aH 0) o;have I:=heap_setCell_same _ D 0 _ _ (aH 0) F;have Y:QX (LR Z ⟨b,i,j⟩ m (bq.fQ ⟨b,i,j⟩ a V) C r w ((E.setCell (ag D 0) (aH 0)).setCell (ag D 0) (aH 0))):=by rw[vr b7.out];exact⟨s,u,(((t.1.below d.1).cell o R rfl _).cell F R rfl _).less aa,d4.1.none s u b7 d4.2,(((iK.af t.2.2.1).then d.1).new l _).new l _⟩
   have O:=(cr I).1 0;simp[Leaves,settle,RP,results60,go_sem,O];exact Y
  .have e_:¬(a.n:Int)=0:=aa;have l:w.heap.size<=D:=RN n.2;have v:=aB l (QD t.2.2.2.1 l);have e7:QX (∀q W,Fu Z g m V C u.N x r a pv D w q W->aF 105 #[ar Z.R,.slice i6 a.n i9] W _):=λq W h8=>by rw[<-d8.out];exact G_ Z g m V C u.N a pv w b1.1 b1.2.1 b1.2.2 aa x r d4.1 q W h8.st h8.pv (by rw[b5.out];exact j3)
   have l0:=ad (show∃j4,j4=g from⟨g,rfl⟩);obtain⟨b,i,j⟩:=g
   go_enter_defers func60,ntmps60
   go_wp2_with fail
   try rw[n.1,n.2]
   go_wp2_with(first|(go_at_call 99;refine N.mono ?_;rintro e w1 ⟨rfl,rfl⟩)|(go_at_call 104;refine y.mono ?_;rintro e E ⟨rfl,c⟩;obtain⟨p1,p2,p3⟩:=kp c D d3;obtain⟨p4,p5,p6⟩:=kp c Z.A z0;have d:=aB c p6));have o:=(d.1.block D d3).trans t.2.1;have e8:QX (∃q,Fu Z ⟨b,i,j⟩ m V C u.N x r a pv D w q (E.setCell (ag D 0) (aH 0))):=⟨false,⟨s,u,(t.1.below d.1).cell o v.2 rfl _,t.1.same.1.symm,λe=>(by cases e),λ_=>d4.2,((iK.af t.2.2.1).then d.1).new v.1 _⟩,(t.2.2.2.2.below d.1).fr (T:= [35]) ((Fr.refl [35] aG E).set (p:=ag D 0) o rfl v.2 _) rfl rfl,0,heap_setCell_same E D 0 _ _ (aH 0) o⟩;have e9:decide (u.N<a8)=false:=aS;have f1:((a.n:Int)==0)=false:=by rw[beq_eq_false_iff_ne];omega
   simp only[e9,f1];go_loopw [6] (λ_ wr=>QX (∃q,Fu Z ⟨b,i,j⟩ m V C u.N x r a pv D w q wr)) (λ_ wr=>NR (Fu Z ⟨b,i,j⟩ m V C u.N x r a pv D w) wr)
   case atStart=>exact e8
   case round=>
    obtain⟨q,b8⟩:∃q,QX (Fu Z ⟨b,i,j⟩ m V C u.N x r a pv D w q wr/\(q=false->¬Fu Z ⟨b,i,j⟩ m V C u.N x r a pv D w true wr)):=by
     by_cases e:Fu Z ⟨b,i,j⟩ m V C u.N x r a pv D w true wr
     .exact ⟨true,e,λh=>by cases h⟩
     .obtain ⟨q,j5⟩:=hrel.out;exact⟨q,j5,λ_=>e⟩
    obtain⟨s1,u1,i1,-⟩:=b8.1.st;obtain⟨h9,-,f2⟩:=i1.ay.arr.aM;obtain⟨k0,f0,z0⟩:=cr f2;have f3:=ad (e7 q wr b8.1);go_wp2_with fail;refine f3.mono ?_;rintro e G ⟨k,d5,rfl,b9,J⟩;obtain⟨v0,f4⟩:=b8.1.cell;have a0:=b9.hp f4 rfl;have K:=ad a0;have j6:=Z_ a0;have f6:=ad b9;rcases J with⟨rfl,j8⟩|⟨rfl,j9,k1,c3,k2,l1,-,⟨u5,a1⟩,⟨u6,f8⟩,f9,g0⟩
    .have k3:=ad j8;obtain⟨O,c1,c2⟩:=cr a0;rw[di];go_wp2;refine WZ (f:=98) (args:= #[ar D]) aJ (by simp[go_sem]) ?_;refine(cY (ag D 0) _).mono ?_;rintro e e6 M ⟨rfl,rfl,rfl⟩;have c4:=heap_setCell_same G D 0 _ _ (aH 0) K;have a2:SK (G.setCell (ag D 0) (aH 0)).heap.size (G.setCell (ag D 0) (aH 0)) ((G.setCell (ag D 0) (aH 0)).alloc (ao #[ae 0,aH 0] 172)):=aK aj _;have O:=(cr ((a2.block D (Z_ c4)).trans c4)).1 0;have Y:QX (LR Z ⟨b,i,j⟩ m (bq.fQ ⟨b,i,j⟩ a V) C r w ((G.setCell (ag D 0) (aH 0)).alloc (ao #[ae 0,aH 0] 172))):=by obtain⟨s2,u2,j1,k4,j2⟩:=k3.out;exact⟨s2,u2,(j1.cell K v.2 rfl _).below a2,k4,(j2.new v.1 _).then a2⟩
     simp[Leaves,settle,RP,results60,go_sem,O];exact Y
    .have P:d5≠0:=j9.ne;have c5:=ad c3;have l2:¬(d5:Int)=0:=aa;have a3:((k:Int)==(b:Int))=false:=by rw[beq_eq_false_iff_ne];have:k<b:=k1;omega
     obtain⟨c6,T,k6,g1,a4,g2⟩:=eL G (ao #[ae k,aH d5] 172);have g3:=(a4.block _ (Z_ a1)).trans a1;obtain⟨k0,f0,z0⟩:=cr g3;obtain⟨k5,f5,z5⟩:=cr a1;obtain⟨t0,t1,t2⟩:=cr g2;have g4:=ad (f9 c6 a4);have k8:=ad (λW (b0:aq G W)=>dK Z ⟨b,i,j⟩ u6 false W (f8.fr (T:= []) (Fr.af b0) rfl rfl));have c7:QX (∀W,aq G W->aF 111 #[ar Z.A,.agg #[ae k,aH d5]] W _):=λW b0=>by rw[<-bl k P];exact g0 W b0
     have L:=ad a4;have Q:=aB k6 g1;rw[bl k P];go_wp2_with fail
     try rw[Q.1,Q.2]
     go_wp2_with(go_at_call 106;refine g4.mono ?_;rintro e w6 ⟨rfl,rfl⟩);go_quiet((go_at_call 107;exact WE ((k8 _ (L.trans ((cK aj _).mono L.size))).mono λe l3 h=>⟨h.1,h.2.symm⟩)));have a5:QX (aq G (c6.drewN nq)):=L.trans ((cK aj _).mono L.size);have a3:aq c6 (c6.drewN nq):=cK aj _;obtain⟨e0,g5,g6⟩:=kp a3 T t2;obtain⟨e3,e4,e5⟩:=kp a3 Z.A z0;obtain⟨l4,g7⟩:=ah (c6.drewN nq);rw[g7]at a5 e0 g5 g6 e3 e4 e5|-;cases k2 with
     |true=>
      go_wp2_with(go_at_call 111;refine(c7 _ a5).mono ?_;rintro e w7 ⟨rfl,f7,z⟩;rw[ak rfl]at z;obtain⟨s7,u7,i7,j7,l7⟩:=z;have a6:=f7.hp K rfl;obtain⟨c8,-,a7⟩:=i7.ay.arr.aM;obtain⟨k7,g8,z7⟩:=cr a7;have H7:=aY i7 j7 l7 a6;have c9:QX (1000000<=C):=b1.1;have g9:=ad (pE Z ⟨b,i,j⟩ i7.kr.cJ.m16 112 _ _ _ _ _ (zd Z ⟨b,i,j⟩ m _ (C-61000) _ _ 112 _ (vq Z ⟨b,i,j⟩ m _ (C-61000) (by have:=c9.out;omega)) (by have:=c9.out;omega) w7) false w7 ⟨s7,u7,i7,j7,λe=>(by cases e),iK.af aj⟩));go_wp2_with(go_at_call 101;refine g9.mono ?_;rintro e w8 ⟨rfl,s8,u8,i8,-,l8⟩;have d0:=(H7.1.ay.wide l8).hp H7.2.2.2 rfl;obtain⟨x1,x2,x3⟩:=cr d0;have H8:=aT i8 l8 d0);refine WZ (f:=98) (args:= #[ar D]) aJ (by simp[go_sem]) ?_;refine(cY (ag D 0) _).mono ?_;rintro e e6 M ⟨rfl,rfl,rfl⟩;have O:=(cr (heap_setCell_same w8 D 0 _ _ (aH 0) H8.2.2)).1 0;have k9:=b1.1;have Y:QX (LR Z ⟨b,i,j⟩ m (bq.fQ ⟨b,i,j⟩ a V) C r w (w8.setCell (ag D 0) (aH 0))):=
       ⟨s8,u8,(H8.1.cell H8.2.2 v.2 rfl _).less aa,c5 _ _,(H7.2.2.1.trans H8.2.1).new v.1 _⟩
      simp[Leaves,settle,RP,results60,go_sem,O];exact Y
     |false=>
      go_wp2_with fail;refine(c7 _ a5).mono ?_;rintro e w7 ⟨rfl,f7,z⟩;rw[al Bool.false_ne_true]at z;have a6:=f7.hp K rfl;have h0:=(b8.1.pv.fr f6 rfl rfl).fr f7 rfl rfl;have H7:QX (Fu Z ⟨b,i,j⟩ m V C u.N x r a pv D w true w7):=⟨z,h0,_,a6⟩;obtain⟨s7,u7,i7,-⟩:=z;obtain⟨c8,-,a7⟩:=i7.ay.arr.aM;obtain⟨k7,g8,z7⟩:=cr a7;go_wp2;go_roundw
      case rel=>exact⟨true,H7⟩
      case measure=>have h1:NR (Fu Z ⟨b,i,j⟩ m V C u.N x r a pv D w) w7=0:=ak H7;have h2:NR (Fu Z ⟨b,i,j⟩ m V C u.N x r a pv D w) wr=1:=al (b8.2 trivial);rw[h1,h2];exact Nat.zero_lt_one
 .simp only[ak (show a8>u.N by omega)];obtain⟨b,i,j⟩:=g
  go_enter_defers func60,ntmps60
  go_wp2_with fail
  try rw[n.1,n.2]
  go_wp2_with(first|(go_at_call 99;refine N.mono ?_;rintro e w1 ⟨rfl,rfl⟩)|(go_at_call 104;refine y.mono ?_;rintro e E ⟨rfl,c⟩;obtain⟨p1,p2,p3⟩:=kp c D d3;obtain⟨p4,p5,p6⟩:=kp c Z.A z0;have d:=aB c p6));refine WZ (f:=98) (args:= #[ar D]) aJ (by simp[go_sem]) ?_;refine(cY (ag D 0) _).mono ?_;rintro e e6 M ⟨rfl,rfl,rfl⟩;have l:w.heap.size<=D:=RN n.2;have R:=QD t.2.2.2.1 l;have o:=(d.1.block D d3).trans t.2.1;have F:=heap_setCell_same E D 0 _ _ (aH 0) o;have I:=heap_setCell_same _ D 0 _ _ (aH 122) F;have Y:QX (aq w ((E.setCell (ag D 0) (aH 0)).setCell (ag D 0) (aH 122))):=((t.2.2.1.trans (d.1.mono t.2.2.1.size)).setCell (p:=ag D 0) l _).setCell (p:=ag D 0) l _;have O:=(cr I).1 0;simp[Leaves,settle,RP,results60,go_sem,O];exact Y
theorem bX.fr[Lo]{Z:bm}(h:bX w n Z g)(a:Fr T aG w W)(b:T.contains 73=false):bX W n Z g:=a.hp h b
theorem Fr.tm[Lo](h:Fr eG aG w W):Fr TM aG w W:=h.wide TM rfl
theorem pL(w:M)(b:Nat)(c n d:Int)(pv e:H):∃a bA f,(w.alloc (N #[eb b,Y c,Y n,Y d,pv,e] 50)).alloc z46=a/\w.heap.size=bA/\w.heap.size+1=f/\a.heap[bA]?=some (N #[eb b,Y c,Y n,Y d,pv,e] 50)/\a.heap[f]?=some z46/\aq w a:=by obtain⟨g,h,i⟩:=sR w (N #[eb b,Y c,Y n,Y d,pv,e] 50) z46;exact⟨_,_,_,rfl,rfl,rfl,g,h,i⟩
theorem xJ[Lo](h:aX W n (N A 46))(i:A.size=3)(d:w.heap.size<=n)(j:Lo.lo<=w.heap.size)(x y z:H):
  ((W.setCell (R n 0) x).setCell (R n 1) y|>.setCell (R n 2) z).heap[n]?=some (N #[x,y,z] 46)/\Fr [46] aG W ((W.setCell (R n 0) x).setCell (R n 1) y|>.setCell (R n 2) z)/\(∀{T:List Nat} {S:Nat->Prop},Fr T S w W->Fr T S w ((W.setCell (R n 0) x).setCell (R n 1) y|>.setCell (R n 2) z)):=by
 obtain⟨a,b,c,rfl⟩:∃a b c,A= #[a,b,c]:=by
  match A,i with
  |⟨[a,b,c]⟩,_=>exact⟨a,b,c,rfl⟩
 have e:=QD j d;have f:=heap_setCell_same W n 0 _ 46 x h;have g:=heap_setCell_same _ n 1 _ 46 y f;have k:=heap_setCell_same _ n 2 _ 46 z g;exact⟨k,(((Fr.refl [46] aG W).set (p:=R n 0) h rfl e x).set (p:=R n 1) f rfl e y).set (p:=R n 2) g rfl e z,λl=>((l.new (p:=R n 0) d x).new (p:=R n 1) d y).new (p:=R n 2) d z⟩
theorem El[Lo](Z:bm)(g:aA)(z:Option Nat)(V:cH)(C G:Nat)(s:Rs)(u:Su)(O k n:Nat)(P:Int)(pv Q:QC)(w:QA)(h:Inv w Z g z V C s u)(A:bX w G Z g)(M:1000<=C)(R:k+n<=g.B):
  aF 30 #[ar G,fO O P n k pv Q] w λe b=>∃a c,aL e (dw 0 (.slice a (n*128) c) 0)/\(cA b (.slice a (n*128) c) (n*128) (λj=>cR g V (k+j/128) (j%128))/\n*128<=c)/\Fr eG aG w b/\∃s u,Inv b Z g z V (C-1000) s u:=by
 obtain⟨S,bA,I,T,p,r,B,U,d⟩:=pL w O P n k pv Q;have l:=h.below d;have m:=(d.block _ (Z_ A)).trans A;obtain⟨a1,a2,a3⟩:=cr B;obtain⟨r1,r2,r3⟩:=cr m;have D:=ad (λW (E:aq S W)=>(GW Z g z V C s u k n W (l.below E) M R).mono λe b X=>And.intro X (show Fr eG aG S b from by obtain⟨_,_,_,_,_,q,a0,a4,_,_,i,_⟩:=X;exact(Fr.af E).tr ((l.below E).ay.wide i.a)));have o:=ca B U m h.low d;have f:=aT T p r;clear h A T p r B U d l m;go_enter func30,ntmps30;go_wp2_with fail;rw[f.1,f.2.2,f.2.1];go_region_held3(λb=>b.cell? (ag G 1)=some (ar Z.A)/\b.cell? (ag bA 3)=some (ae k)/\b.cell? (ag bA 2)=some (ae n)) ((simp[*,go_sem];done)) (first|(go_at_call 59;refine(D _ (by first|exact aj|exact cK aj _)).mono ?_;rintro e w2 ⟨⟨a,c,rfl,t,x,q,Y,J,H,j2,f2,-⟩,i⟩;have v1:=(cr (i.hp o.2.2.1 rfl)).1 1;have v2:=(cr (i.hp o.1 rfl)).1 3;have v3:=(cr (i.hp o.1 rfl)).1 2;have F:=i.hp o.2.1 rfl;obtain⟨x1,x2,x3⟩:=cr F;have y:=aY (And.intro t x) H i F;clear t x H i F));go_wp2;have K:w.heap.size<=I:=by have:=f.2.2;omega
 obtain⟨L,N,y3⟩:=xJ (w:=w) y.2.2.2 rfl K o.2.2.2.1 (aH 0) (.slice a (n*128) c) (ae 0);have c0:=(cr L).1 0;have c1:=(cr L).1 1;have c2:=(cr L).1 2;refine QT (v:=dw 0 (.slice a (n*128) c) 0) (by simp[RP,results30,go_sem,c0,c1,c2]) rfl ⟨a,c,rfl,⟨y.1.1.fr N rfl,y.1.2⟩,y3 ((Fr.af o.2.2.2.2).tr y.2.2.1),Y,J,(y.2.1.fr N rfl).less (by split<;>omega)⟩
section
def LS[Lo](Z:bm)(g:aA)(m:Nat)(V:cH)(C:Nat)(w:QA)(k:Nat)(W:QA):Prop:=
 iK Z w W/\match k with
  |0=>∃s u,jZ W Z g (some m) V C s u
  |1=>∃s u,Inv W Z g (some m) V (C-1000) s u/\u.st m=2/\uV s.b m
  |_=>∃s u,Inv W Z g (some m) V (C-1000) s u/\u.st m=2/\bK s.b
theorem LS.below[Lo]{Z:bm}{g:aA}{m:Nat}{V:cH}{C:Nat}{w W c:QA}{k:Nat}(h:LS Z g m V C w k W)(a:aq W c):LS Z g m V C w k c:=by
 refine⟨h.1.then a,?_⟩
 match k,h.2 with
 |0,⟨s,u,h⟩=>exact⟨s,u,h.below a⟩
 |1,⟨s,u,h,b⟩=>exact⟨s,u,h.below a,b⟩
 |_+2,⟨s,u,h,b⟩=>exact⟨s,u,h.below a,b⟩
theorem LS.ay[Lo]{Z:bm}{g:aA}{m:Nat}{V:cH}{C:Nat}{w W:QA}{k:Nat}(h:LS Z g m V C w k W):∃s u,jZ W Z g (some m) V (C-1000) s u:=by
 match k,h.2 with
 |0,⟨s,u,h⟩=>exact⟨s,u,h.ay,h.gt,h.kr,h.vZ,h.only,h.fit.less (Nat.sub_le _ _),QD (ZS (Nat.sub_le _ _) _) h.ev,h.same,h.v_⟩
 |1,⟨s,u,h,a⟩=>exact⟨s,u,h.GN⟩
 |_+2,⟨s,u,h,a⟩=>exact⟨s,u,h.GN⟩
section
variable [Lo] (Z:bm) (g:aA) (m:Nat) (V:cH) (C G bR bA kd:Nat) (n bk:Int) (pv kv:QC) (w W:QA) (hm:m<g.M) (hC:1000<=C) (hR:W.heap[bR]? =some (ao #[ar G] 40)) (hA:W.heap[bA]? =some (ao #[eb kd,ae m,ae n,ae bk,pv,kv] 50)) (hr:bX W G Z g)
include hm hC hR hA hr
end
end
theorem vt{f:Nat->H}(h:w.ownsRow m t 1 (a' k n n) n (bQ n f))(l:0<n):w.heap[k]?=some (.cells (bu n f) t (0,0)):=by
 rcases h.2 with⟨e,-⟩|⟨b,c,a,e,-,d,-,-,o,g⟩
 .cases e
 .cases e;rw[d];have i:a.toList=bQ n f:=by rw[<-g,YG (by rw[Array.length_toList];omega)]
  have j:a=bu n f:=by apply Array.ext';rw[i];simp[bu,bQ]
  rw[j]
def LU(E n:Nat)(v:H)(w:M)(e:RV)(a:M):Prop:=
 ∃g,aL e (a' g n n)/\a.heap[g]?=some (.cells (bu n λ_=>v) E (0,0))/\w.heap.size<=g/\aq w a
theorem AY(n b:Nat)(c:Int)(w:QA)(U:0<n)(a3:n<=4096)(o:w.cell? (ag b 0)=some (ae c)):
  aF 92 #[a' b 1 1,ae n] w (LU 3 n (ae c) w):=by
 obtain⟨V,W,x,y,z⟩:=SB wC;have A:∀w,(SY 82 (ae (n:Int)) (ae (n:Int))).run prog w=.ok (a' w.heap.size n n) (w.alloc (ao (bu n λ_=> ae 0) 3)):=λw=>by have:=run_make (P:=prog) w 82 3 V (ae 0) YC W x .i64 .i64 n n aa aa (by rw[z];omega) aa;rw[this,y,TX,iY];simp
 have e2:(n:Int)%18446744073709551616=n:=aa;have e3:¬(9223372036854775807:Int)<n:=aa;have e4:¬(n:Int)<0:=aa;have X:=ad (λw=>mul_one n w aa);have C:=QN w _ o;go_enter func92,ntmps92;go_wp2_with fail;refine(X _).mono ?_;rintro e r ⟨rfl,rfl⟩;have s:=ad (iZ (w:=w.alloc (ao (bu n λ_=> ae 0) 3)) (B:=w.heap.size) (QB w _) (QE _) (by unfold UE;omega));have G:(w.alloc (ao (bu n λ_=> ae 0) 3)).cell? (ag b 0)=some (ae c):=by rw[(aK aj _).cell (p:=ag b 0) C];exact o
 go_wp2_with(refine ee _ rfl (.tmp 31) (.tmp 32) 82 82 rfl 3 w.heap.size w.heap.size n n 0 n n (bQ n λ_=> ae 0) s (ag b 0) 1 1 [ae c] YC Ce rfl rfl (by show 1=Nat.min 1 n;exact(WM aa).symm) aS (λj v d=>by cases j with|zero=>simp at d;subst d;rw[iQ];exact G|succ j=>simp at d) (by simp[Value.oneCell']) ?_);intro K t a;have L:QX (K.ownsRow w.heap.size 3 1 (a' w.heap.size n n) n (bQ n λk=>if k<1 then ae c else ae 0)/\SK w.heap.size w K):=by refine⟨?_,((Out.af (S:=λk=>k=w.heap.size) (aK (SU w.heap.size w) _)).tr a).below (λk _ e=>aa) (QE _)⟩;rw[kE _ _ _ aa]at t;exact t
 obtain⟨g,D⟩:=ah w.heap.size;have O:=ad D;rw[D]at L|-;clear s G D A;go_wp2;go_loopw [8] (λE wr=>∃m:Nat,1<=m/\m<=n/\E= ae m/\QX (wr.ownsRow g 3 1 (a' g n n) n (bQ n λk=>if k<m then ae c else ae 0)/\SK g w wr)) (λE _=>n-(intOf E).toNat)
 case atStart=>exact⟨1,aa,aa,rfl,L⟩
 case round=>
  obtain⟨m,Z,H,rfl,f⟩:=hrel;by_cases N:m<n
  .obtain ⟨q,h⟩:=ah (Nat.min m (n-m));have M:1<=q:=by subst h;exact Nat.le_min.2 ⟨aa,aa⟩
   have R:q<=m:=by subst h;exact ZF _ _
   have I:q<=n-m:=by subst h;exact Nat.min_le_right _ _
   have Y:=ad h;have J:QX (YF (bQ n λk=>if k<m then ae c else ae 0) m (bQ q λ_=> ae c)=bQ n λk=>if k<m+q then ae c else ae 0):=ie n m q _ _ aa;have a0:QX (∀r,SK wr.heap.size wr r->∀j u,(bQ q λ_=>.int .i64 c)[j]?=some u->r.cell? (((ag g 0):SR).add j)=some u):=λr o j u d=>by
    by_cases F:j<q
    .rw [cc _ _ _ F]at d;rw[iQ,RE];have i:=(bC f.1 (k:=j) (u:= ae c) (by rw[cc _ _ _ aa,ak aa])).1;rw[o.cell (p:=ag g j) (QN wr _ i),i,d]
    .rw [RF (by rw[bG];omega)]at d;cases d
   have a1:QG.wrap ((m:Int)+q)=((m+q:Nat):Int):=bs;have j1:¬n=m:=aa;have i1:(0:Int)<=m:=aa;have i2:(m:Int)<=n:=aa;clear h;go_wp2
   go_region_law (refine gD _ rfl (.tmp 41) (.tmp 44) 82 82 rfl 3 g g n n m (n-m) (n-m) (bQ n λk=>if k<m then ae c else ae 0) (aP (w:=wr) bF f.1) (ag g 0) m n (bQ q λ_=> ae c) YC Ce (by simp[VO,RS, *]) (by simp[VO,RS, *]) (by rw[bG];exact Y.symm) (by rw[bG];omega) (a0 _ bF) (oH λ_ _=>rfl) ?_;intro Q t a;rw[bG];have s:=ad t;have l:=ad a)
   all_goals(try simp only[QK,QH,QI])
   all_goals go_frame
   all_goals go_roundw
   all_goals(
    have T:QX (Q.ownsRow g 3 1 (a' g n n) n (bQ n λk=>if k<m+q then ae c else ae 0)/\SK g w Q):=by refine⟨by rw[<-J.out];exact s,f.2.trans (((Out.af (S:=λk=>k=g) (a_ (SU wr.heap.size wr))).tr l).below (λk _ e=>aa) ?_)⟩;have:=(f.1.lt g rfl).2;omega)
   all_goals first
    |exact⟨m+q,aa,aa,by go_num,T⟩
    |((repeat apply Exists.intro);exact⟨⟨m+q,aa,aa,by go_num,T⟩,rfl⟩)
    |(simp[intOf];omega)
  .obtain rfl:m=n:=aa;go_wp2;go_ret;have i:=f.1;rw[oG (g:=λ_=> ae c) λk a2=>ak a2]at i;exact⟨_,rfl,vt i U,RN O,(O▸f.2:SK w.heap.size w wr)⟩
theorem AZ(n b:Nat)(c:Int)(w:QA)(U:0<n)(a3:n<=4096)(o:w.cell? (ag b 0)=some (.int .u8 c)):
  aF 54 #[a' b 1 1,ae n] w (LU 122 n (.int .u8 c) w):=by
 obtain⟨V,W,x,y,z⟩:=SB oI;have A:∀w,(SY 115 (ae (n:Int)) (ae (n:Int))).run prog w=.ok (a' w.heap.size n n) (w.alloc (ao (bu n λ_=>.int .u8 0) 122)):=λw=>by have:=run_make (P:=prog) w 115 122 V (.int .u8 0) underlying115 W x .i64 .i64 n n aa aa (by rw[z];omega) aa;rw[this,y,TX,iY];simp
 have e2:(n:Int)%18446744073709551616=n:=aa;have e3:¬(9223372036854775807:Int)<n:=aa;have e4:¬(n:Int)<0:=aa;have X:=ad (λw=>mul_one n w aa);have C:=QN w _ o;go_enter func54,ntmps54;go_wp2_with fail;refine(X _).mono ?_;rintro e r ⟨rfl,rfl⟩;have s:=ad (iZ (w:=w.alloc (ao (bu n λ_=>.int .u8 0) 122)) (B:=w.heap.size) (QB w _) (QE _) (by unfold UE;omega));have G:(w.alloc (ao (bu n λ_=>.int .u8 0) 122)).cell? (ag b 0)=some (.int .u8 c):=by rw[(aK aj _).cell (p:=ag b 0) C];exact o
 go_wp2_with(refine ee _ rfl (.tmp 31) (.tmp 32) 115 115 rfl 122 w.heap.size w.heap.size n n 0 n n (bQ n λ_=>.int .u8 0) s (ag b 0) 1 1 [.int .u8 c] underlying115 tQ rfl rfl (by show 1=Nat.min 1 n;exact(WM aa).symm) aS (λj v d=>by cases j with|zero=>simp at d;subst d;rw[iQ];exact G|succ j=>simp at d) (by simp[Value.oneCell']) ?_);intro K t a;have L:QX (K.ownsRow w.heap.size 122 1 (a' w.heap.size n n) n (bQ n λk=>if k<1 then .int .u8 c else .int .u8 0)/\SK w.heap.size w K):=by refine⟨?_,((Out.af (S:=λk=>k=w.heap.size) (aK (SU w.heap.size w) _)).tr a).below (λk _ e=>aa) (QE _)⟩;rw[kE _ _ _ aa]at t;exact t
 obtain⟨g,D⟩:=ah w.heap.size;have O:=ad D;rw[D]at L|-;clear s G D A;go_wp2;go_loopw [8] (λE wr=>∃m:Nat,1<=m/\m<=n/\E= ae m/\QX (wr.ownsRow g 122 1 (a' g n n) n (bQ n λk=>if k<m then .int .u8 c else .int .u8 0)/\SK g w wr)) (λE _=>n-(intOf E).toNat)
 case atStart=>exact⟨1,aa,aa,rfl,L⟩
 case round=>
  obtain⟨m,Z,H,rfl,f⟩:=hrel;by_cases N:m<n
  .obtain ⟨q,h⟩:=ah (Nat.min m (n-m));have M:1<=q:=by subst h;exact Nat.le_min.2 ⟨aa,aa⟩
   have R:q<=m:=by subst h;exact ZF _ _
   have I:q<=n-m:=by subst h;exact Nat.min_le_right _ _
   have Y:=ad h;have J:QX (YF (bQ n λk=>if k<m then SJ .u8 c else .int .u8 0) m (bQ q λ_=>.int .u8 c)=bQ n λk=>if k<m+q then .int .u8 c else .int .u8 0):=ie n m q _ _ aa;have a0:QX (∀r,SK wr.heap.size wr r->∀j u,(bQ q λ_=>SJ .u8 c)[j]?=some u->r.cell? (((ag g 0):SR).add j)=some u):=λr o j u d=>by
    by_cases F:j<q
    .rw [cc _ _ _ F]at d;rw[iQ,RE];have i:=(bC f.1 (k:=j) (u:=.int .u8 c) (by rw[cc _ _ _ aa,ak aa])).1;rw[o.cell (p:=ag g j) (QN wr _ i),i,d]
    .rw [RF (by rw[bG];omega)]at d;cases d
   have a1:QG.wrap ((m:Int)+q)=((m+q:Nat):Int):=bs;have j1:¬n=m:=aa;have i1:(0:Int)<=m:=aa;have i2:(m:Int)<=n:=aa;clear h;go_wp2
   go_region_law (refine gD _ rfl (.tmp 41) (.tmp 44) 115 115 rfl 122 g g n n m (n-m) (n-m) (bQ n λk=>if k<m then .int .u8 c else .int .u8 0) (aP (w:=wr) bF f.1) (ag g 0) m n (bQ q λ_=>.int .u8 c) underlying115 tQ (by simp[VO,RS, *]) (by simp[VO,RS, *]) (by rw[bG];exact Y.symm) (by rw[bG];omega) (a0 _ bF) (oH λ_ _=>rfl) ?_;intro Q t a;rw[bG];have s:=ad t;have l:=ad a)
   all_goals(try simp only[QK,QH,QI])
   all_goals go_frame
   all_goals go_roundw
   all_goals(
    have T:QX (Q.ownsRow g 122 1 (a' g n n) n (bQ n λk=>if k<m+q then .int .u8 c else .int .u8 0)/\SK g w Q):=by refine⟨by rw[<-J.out];exact s,f.2.trans (((Out.af (S:=λk=>k=g) (a_ (SU wr.heap.size wr))).tr l).below (λk _ e=>aa) ?_)⟩;have:=(f.1.lt g rfl).2;omega)
   all_goals first
    |exact⟨m+q,aa,aa,by go_num,T⟩
    |((repeat apply Exists.intro);exact⟨⟨m+q,aa,aa,by go_num,T⟩,rfl⟩)
    |(simp[intOf];omega)
  .obtain rfl:m=n:=aa;go_wp2;go_ret;have i:=f.1;rw[oG (g:=λ_=>.int .u8 c) λk a2=>ak a2]at i;exact⟨_,rfl,vt i U,RN O,(O▸f.2:SK w.heap.size w wr)⟩
def IA(B:Nat)(c:Option SR)(g:aA)(d:Bool)(w:M)(e:RV)(a:M):Prop:=
 ∃R b,aL e (.tuple #[ar R,aH 0])/\fg a R B c g b ⟨d,λ_=>none,[],false⟩/\w.heap.size<=R/\w.heap.size<=b/\aq w a
theorem zf[Lo](B:Nat)(s:Option SR)(g:aA)(t:Bool)(b:By)(w:QA)(P:aC w B b)(n:g.ok)(Q:b.N=g.M+1):
  aF 57 #[ar B,g.V,.pointer s,.bool t] w (IA B s g t w):=by
 obtain⟨o,D,C,u,h,i⟩:=eL w (ao #[ae g.M,ae g.c,ae g.s] 39);obtain⟨d1,d2,d3⟩:=cr i;have p:=aB h i;have E:=ad (fp n o);have v:=ad (λW (x:aq o W)=>(by obtain⟨S,T,R,I,r,wc,f,U⟩:=(P.below h).below x;exact ly U:aF 49 #[ar B] W λe a=>aL e (ae b.N)/\W=a));rw[Q]at v;have y:=n.m3;have j:=n.m16;have F:=ad (λW G (V:W.cell? (ag G 0)=some (ae (-1)))=>AY g.M G (-1) W aa aa V);have X:=ad n;obtain⟨M,K,L⟩:=g;simp only at d1 p v F C j y E;have Y:QG.wrap ((M:Int)+1)=((M+1:Nat):Int):=bs;go_enter func57,ntmps57;go_wp2_with fail
 try simp only[C,u]
 go_wp2_with(go_at_call 26;refine E.mono ?_;rintro e J ⟨rfl,k⟩;obtain⟨k0,f0,z0⟩:=kp k D d3;have c:=ad k);go_region_held3(λa=>a.cell? (ag D 0)=some (ae M)) ((simp[*,go_sem];done)) (first|(go_at_call 49;refine(v _ (via c bF)).mono ?_;rintro e d ⟨rfl,rfl⟩));go_wp2;go_region_held3(λa=>a.cell? (ag D 0)=some (ae M)/\a.cell? (ag D 1)=some (ae K)/\a.cell? (ag D 2)=some (ae L)) ((simp[*,go_sem];done)) (first|(go_at_call 92;refine(F _ _ aJ).mono ?_;rintro e d ⟨q,rfl,Z,H,N⟩;have l:QX (aq o d):=via (via c bF) N;obtain⟨p1,p2,p3⟩:=kp l D d3;have O:=ad Z;have z:QX (o.heap.size<=q):=QD (via c bF).size H));go_wp2;have m:aq w d:=p.1.trans (l.mono p.1.size);have A:=aK (SU d.heap.size d) (ao #[ar B,ae M,ae K,ae L,.pointer s,.bool t,a' q M M,aO,.bool false] 164);go_ret2;exact⟨d.heap.size,q,rfl,⟨⟨M,aO,QB _ _,e'.nil _⟩,(A.block q (Z_ O)).trans O⟩,m.size,QD p.1.size z,aK m _⟩
section
structure KC[Lo](B:Nat)(g:aA)(b:By)(m r:Nat)(w W:M):Prop where
 ct:aC W B (b.run (eO g m++rE m r)).1
 bY:Fr TB aG w W
theorem G'{g:aA}(a:g.ok){N:Nat}(h:5<=N/\N<=2048)(lz:Bool){k:Nat}(m:k<g.M+1):((Su.born N lz).at k).ok g:=by obtain⟨c,d,e,n,f,i,j,l⟩:=Su.oh a h lz;exact⟨c,d,e,by show k<=g.M;omega,f,i,j,l⟩
structure zg[Lo](B:Nat)(g:aA)(N:Nat)(lz:Bool)(b:By)(w W:M)(n:Nat):Prop where
 ct:aC W B ((j' g N b).run ((xH g (Su.born N lz)).take n)).1
 bY:Fr TB aG w W
section
variable [Lo] {B:Nat} {g:aA} {N:Nat} {lz:Bool} {b:By} {w W:QA}
theorem zg.below{a:M}{n:Nat}(h:zg B g N lz b w W n)(c:aq W a):zg B g N lz b w a n:=⟨h.ct.below c,h.bY.then c⟩
theorem zg.tell(Z:bm)(d f:QC)(c:g.ok)(H:qA g N b)(a:5<=N/\N<=2048)(m:aX w Z.A (ao (GX Z g (Su.born N lz) g.M d f) 120))(o:aX w Z.sb (ao (bu g.M λ_=>.int .u8 1) 122))(p:Z.B=B){j:Nat}(k:j<g.M+1)(h:zg B g N lz b w W (0*(g.M+1)+j)):
  aF 55 #[ar Z.A,Y (ek g j:Nat)] W λe l=>aL e (aH 0)/\zg B g N lz b w l (0*(g.M+1)+(j+1)):=by
 obtain⟨q,r,s,t⟩:=H.step c a (lz:=lz) (i:=0) (j:=j) ai k;subst p;refine(Ei Z g (Su.born N lz) g.M d f _ (ek g j) W (QE _) (h.bY.hp m rfl) (h.bY.hp o rfl) h.ct (G' c a lz (oo c k)) s t).mono ?_;rintro e l ⟨u,v,x⟩;exact⟨by rw[u];exact congrArg (λn:Nat=>Ending.returned (aH n)) q,by rw[<-r];exact v,h.bY.tr x⟩
theorem zg.flush(d:g.ok)(H:qA g N b)(a:5<=N/\N<=2048){j:Nat}(f:j<g.M+1)(h:zg B g N lz b w W (1*(g.M+1)+j)):
  aF 56 #[ar B,Y (ek g j:Nat)] W λe c=>aL e (aH 0)/\zg B g N lz b w c (1*(g.M+1)+(j+1)):=by
 obtain⟨k,l,m,r⟩:=H.step d a (lz:=lz) (i:=1) (j:=j) ai f;refine(ik B (ek g j) _ W h.ct m).mono ?_;rintro e c ⟨o,p,q⟩;exact⟨by rw[o];exact congrArg (λn:Nat=>Ending.returned (aH n)) k,by rw[<-l];exact p,h.bY.tr q⟩
end
theorem A_[Lo](B:Nat)(g:aA)(N:Nat)(lz:Bool)(b:By)(w:QA)(h:aC w B b)(c8:g.ok)(z:5<=N/\N<=2048)(H:qA g N b)(h0:Lo.lo<=w.heap.size):
  aF 29 #[ar B,.int .u64 1,g.V,ae N,.bool lz] w λe C=>∃Z:bm,aL e (.tuple #[ar Z.A,aH 0])/\Z.B=B/\Z.N=N/\Z.lz=lz/\Fr fV aG w C/\de C Z g (oj g N lz (qz g N (Su.born N lz) b)) (Su.born N lz) false:=by
 obtain⟨t0,s0,l4,l5,l6⟩:=SB wC;have t1:∀w:QA,(SY 41 (ae 128) (ae 128)).run prog w=.ok (a' w.heap.size 128 128) (w.alloc (ao (cw 128 λ_=>0) 5)):=λw=>oa w 128 ai;obtain⟨a3,D,t2,l7,h4,h5⟩:=eL w (ao #[ae g.M,ae g.c,ae g.s] 39);obtain⟨d1,d2,d3⟩:=cr h5;have U:=h.below h4;have l8:=ad (fp c8);have d8:=ad (λW (b5:aq a3 W)=>DC (U.below b5));have b7:=ad (lL c8);have h6:=ad (λW (b5:aq a3 W) k (X:k<g.M+1)=>show aF 50 #[ar B,ae k] W λe C=>aL e ec/\∃q,C=W.drewN q by obtain⟨S,l9,t3,t4,r,wc,f,m0⟩:=U.below b5;exact IZ m0 k (by rw[H.bN];exact X) _ (H.dv k X));have d9:=ad (λW (b5:aq a3 W) k (X:k<g.M+1)=>show aF 51 #[ar B,ae k] W λe C=>aL e (ae ((if k=g.M then 2+N else 1+g.R:Nat):Nat))/\W=C by obtain⟨S,l9,t3,t4,r,wc,f,m0⟩:=U.below b5;exact yE m0 k (by rw[H.bN];exact X) _ (H.dv k X));have m1:=c8.m3;have h7:=c8.m16;have t5:=aA.iJ c8;have J:=ca U h5 h4 H c8;have h8:=aB t2 l7;obtain⟨d,a,c⟩:=g;obtain⟨R,h9⟩:=ah (aA.R ⟨d,a,c⟩);rw[h9]at b7 t5 d9;have m2:b.N=d+1:=H.bN;rw[m2]at d8;have f1:QG.wrap ((d:Int)+1)=((d+1:Nat):Int):=by have:d<=16:=h7;go_arith
 have f2:decide ((N:Int)<5)=false:=aS;have f3:decide ((2048:Int)<(N:Nat))=false:=aS;have f4:QG.wrap (1+(R:Int))=((1+R:Nat):Int):=bs;have f5:QG.wrap (2+(N:Int))=((2+N:Nat):Int):=by have:N<=2048:=z.2;go_arith
 have f6:decide (N<5)=false:=aS;have f7:decide (2048<N)=false:=aS;have i0:=ad h9;go_enter func29,ntmps29;go_wp2_with fail
 try simp only[h8.out.1,h8.out.2]
 go_wp2_with(first|(go_at_call 26;refine(l8 _).mono ?_;rintro e w1 ⟨rfl,i6⟩;obtain⟨k0,k1,k2⟩:=kp i6 D d3;have e0:=ad i6));go_region_held3(λC=>C.cell? (ag D 0)=some (ae d)) ((simp[*,go_sem];done)) (first|(go_at_call 49;refine(d8 _ (by first|exact e0|exact cK e0 _)).mono ?_;rintro e w2 ⟨rfl,rfl⟩));have b8:QX (aq a3 w1.drew):=cK e0 1;obtain⟨w2,m3⟩:=ah w1.drew;rw[m3]at b8|-;obtain⟨k0,k1,k2⟩:=kp b8 D d3;go_wp2_with(first|(go_at_call 49;refine(d8 _ b8).mono ?_;rintro e w3 ⟨rfl,i7⟩;subst i7));go_loopw [13,14,47] (λt6 t7 e1 wr=>∃k:Nat,k<=d+1/\e1= ae k/\QX (aq a3 wr)) (λ_ _ e1 _=>d+1-(intOf e1).toNat)
 case atStart=>exact⟨0,QO _,rfl,b8⟩
 case round=>
  obtain⟨k,X,rfl,a4⟩:=hrel;obtain⟨k0,k1,k2⟩:=kp a4 D d3;by_cases L:k<d+1
  .have i1:(k:Int)<((d+1:Nat):Int):=aa;have i2:(k:Int)<(d:Int)+1:=aa;by_cases e2:k=d
   .subst e2;have a5:=ad (λW b5=>d9.out W b5 k L);simp only[ak]at a5;have i3:¬((2+N:Nat):Int)<((2+N:Nat):Int):=aa;go_wp2_with(first|(go_at_call 27;refine(b7 _).mono ?_;rintro e w3 ⟨rfl,E⟩;have P:=ad (via a4 E);obtain⟨p0,p1,p2⟩:=kp E D k2)|(go_at_call 50;refine(h6 _ P k (TI k)).mono ?_;rintro e w4 ⟨rfl,q,rfl⟩)|(go_at_call 51;refine(a5 _ (cK P _)).mono ?_;rintro e w5 ⟨rfl,i7⟩;subst i7));exact⟨⟨k+1,QE _,rfl,cK P _⟩,by first|(simp[intOf];done)|(simp[intOf];omega)⟩
   .have a5:=ad (λW b5=>d9.out W b5 k L);have s1:¬(⟨d,a,c⟩:aA).M=k:=λe=>e2 e.symm;simp only[show¬k=(⟨d,a,c⟩:aA).M from e2,if_false]at a5;have i3:¬((1+R:Nat):Int)<((1+R:Nat):Int):=aa;have i5:¬(k:Int)=(d:Int):=aa;go_wp2_with(first|(go_at_call 27;refine(b7 _).mono ?_;rintro e w3 ⟨rfl,E⟩;have P:=ad (via a4 E);obtain⟨p0,p1,p2⟩:=kp E D k2)|(go_at_call 50;refine(h6 _ P k L).mono ?_;rintro e w4 ⟨rfl,q,rfl⟩)|(go_at_call 51;refine(a5 _ (cK P _)).mono ?_;rintro e w5 ⟨rfl,i7⟩;subst i7));exact⟨⟨k+1,L,rfl,cK P _⟩,by first|(simp[intOf];done)|(simp[intOf];omega)⟩
  .obtain rfl:k=d+1:=aa;have m4:QX (KC B ⟨d,a,c⟩ b 0 0 a3 wr):=⟨J.1.below a4,Fr.af a4⟩;obtain⟨v4,m5⟩:=ah wr;subst m5;go_wp2_with fail;go_loopw [15,73] (λt8 e3 wr=>∃m:Nat,m<=d/\e3= ae m/\QX (KC B ⟨d,a,c⟩ b m 0 a3 wr)) (λ_ e3 _=>d-(intOf e3).toNat)
   case atStart=>exact⟨0,QO _,rfl,m4⟩
   case round=>
    obtain⟨m,s2,rfl,M⟩:=hrel;obtain⟨m6,m7⟩:=ah wr;subst m7;have s3:=M.bY.hp J.2.1 rfl;obtain⟨k0,k1,k2⟩:=cr s3;by_cases L:m<d
    .have i1:(m:Int)<(d:Int):=aa;go_wp2_with(first|(go_at_call 27;refine(b7 _).mono ?_;rintro e w3 ⟨rfl,E⟩;have m8:QX (KC B ⟨d,a,c⟩ b m 0 a3 w3):=⟨M.ct.below E,M.bY.then E⟩));go_loopw [16,17,78] (λt9 u0 e4 wr=>∃r:Nat,r<=R/\e4= ae r/\QX (KC B ⟨d,a,c⟩ b m r a3 wr)) (λ_ _ e4 _=>R-(intOf e4).toNat)
     case atStart=>exact⟨0,QO _,rfl,m8⟩
     case round=>
      obtain⟨r,s4,rfl,e5⟩:=hrel;by_cases a6:r<R
      .have i2:(r:Int)<(R:Int):=aa;have f8:QG.wrap (1+(r:Int))=((1+r:Nat):Int):=bs;obtain⟨z1,z2,z3,z4⟩:=J.2.2.2.1.zr J.2.2.2.2 (m:=m) (r:=r) L (by rw[i0.out];exact a6);have m9:QX (aF 52 #[ar B,ae m,ae (1+r:Nat),a' wr.heap.size 128 128] (wr.alloc (ao (cw 128 λ_=>0) 5)) λe C=>aL e (aH 0)/\KC B ⟨d,a,c⟩ b m (r+1) a3 C):=(gF B m (1+r) (a' wr.heap.size 128 128) (λ_=>0) _ (wr.alloc (ao (cw 128 λ_=>0) 5)) (e5.ct.below (aK aj _)) z3 (qX _ _ _) z4).mono λe C ⟨q1,q2,q3⟩=>⟨by rw[q1,z1];rfl,by rw[<-z2];exact q2,(e5.bY.then (aK aj _)).tr q3⟩;go_wp2_with(first|(go_at_call 52;refine m9.mono ?_;rintro e w4 ⟨rfl,n0⟩;have n1:=ad n0));exact⟨⟨r+1,a6,rfl,n1⟩,by first|(simp[intOf];done)|(simp[intOf];omega)⟩
      .obtain rfl:r=R:=aa;have n2:QX (KC B ⟨d,a,c⟩ b (m+1) 0 a3 wr):=by
        have e:eO ⟨d,a,c⟩ (m+1)++rE (m+1) 0=eO ⟨d,a,c⟩ m++rE m r:=by rw[rF,i0.out];exact TZ _
        obtain⟨q1,q2⟩:=e5.out;exact⟨by rw[e];exact q1,q2⟩
       go_wp2_with fail;go_roundw
       case rel=>((repeat apply Exists.intro);exact⟨⟨m+1,L,rfl,n2⟩,rfl⟩)
       case measure=>first|(simp[intOf];done)|(simp[intOf];omega)
    .obtain rfl:m=d:=aa;have n3:QX (aC wr B (qy ⟨m,a,c⟩ b)):=by have q1:=M.ct;have e:eO ⟨m,a,c⟩ m++rE m 0=eO ⟨m,a,c⟩ m:=TZ _;rw[e]at q1;exact q1
     obtain⟨x1,x2,x3,x4,x5,x6,x7,x8⟩:=J.2.2.2.1.fmt J.2.2.2.2 z.2;have v5:=aT x6 x7 x8;have n4:=ad (Au B m N 1 _ wr n3 (QD (QD h0 J.2.2.1.size) M.bY.size) (by rw[x1];exact TI _) z.1 z.2 ai x3 x4 x5);have e6:=ad (M.bY);go_wp2_with fail;refine n4.mono ?_;rintro e w5 ⟨W,r,rfl,n5,n6,i8,i9,s4⟩;have n7:QX (aC w5 B (j' ⟨m,a,c⟩ N b)):=n5;have b9:=aY n6 i8 i9 s4;have j0:=i8.hp s3 rfl;obtain⟨k0,k1,k2⟩:=cr j0;go_wp2_with fail;obtain⟨A,c0⟩:=ah w5.heap.size;obtain⟨v6,u1⟩:=ah (RR none 0 0);obtain⟨w6,a7⟩:=ah ((w5.alloc (ao #[ar B,.int .u64 1,.int .u64 1,.int .u64 1,ae 0,ae m,ae a,ae c,ae N,.bool lz,.bool false,aO,ae 0,.pointer none,ar W,.bool false,aH 0,.bool true,.bool false] 120)).alloc (ao #[.int .u8 1] 122));have e7:aq w5 w6:=by rw[<-a7];exact aK (aK aj _) _
     have j1:aX w6 A (ao #[ar B,.int .u64 1,.int .u64 1,.int .u64 1,ae 0,ae m,ae a,ae c,ae N,.bool lz,.bool false,aO,ae 0,.pointer none,ar W,.bool false,aH 0,.bool true,.bool false] 120):=by rw[<-a7,<-c0];exact e_ _ _ _
     have n8:aX w6 (A+1) (ao #[.int .u8 1] 122):=by rw[<-a7,<-c0];exact eZ _ _ _
     have s5:=aB c0 a7;simp only[a7,c0];have n9:=AZ m (A+1) 1 w6 (by have:=m1;show 0<m;omega) aa ((cr n8).1 0);refine n9.mono ?_;rintro e w7 ⟨V,rfl,o0,o1,e8⟩;have j2:=(e8.block _ (Z_ j1)).trans j1;have j3:=((e7.trans (e8.mono e7.size)).block _ k2).trans j0;have H7:=ca e7 e8 o0 o1 j2;obtain⟨k0,k1,k2⟩:=cr j3;obtain⟨a0,a1,a2⟩:=cr j2;have e9:=ad j3;go_wp2_with fail;obtain⟨O,l2⟩:=ah w7.heap.size;obtain⟨w8,a8⟩:=ah ((w7.setCell (ag A 11) (a' V m m)).alloc (ao #[ae m] 3));have c9:(w7.setCell (ag A 11) (a' V m m)).heap.size=O:=by rw[RT];exact l2
     have j4:aX w8 A (ao (GX ⟨A,B,0,W,r,0,V,N,lz⟩ ⟨m,a,c⟩ (Su.born N lz) m (.pointer none) (ar W)) 120):=by rw[<-a8];refine(QW _ _ _ (by rw[c9];omega)).trans ?_;exact heap_setCell_same w7 A 11 _ 120 _ H7.2.2.2.2
     have o2:aX w8 O (ao (bu 1 λk=> ae (ek ⟨m,a,c⟩ k:Nat)) 3):=by rw[<-a8,<-c9];exact QB _ _
     have o3:Out (λk=>k=A) w7 w8:=by rw[<-a8];exact((Out.refl (λk=>k=A) w7).setCell (p:=ag A 11) (λ_=>rfl) _).then (aK aj _)
     have I:=ca j4 o2 o3 l2 (Z_ j4);have u2:=aB a8 l2;simp only[a8,l2];have j5:=(I.2.2.1.heap e9 (λe=>by have s:=H7.2.2.2.2;rw[<-e,e9.out]at s;cases s));obtain⟨k0,k1,k2⟩:=cr j5;have o4:=ad j5;go_loopw [19,125] (λo5 a9 wr=>∃j:Nat,j<=m/\a9= ae j/\QX (wr.ownsRow O 3 1 o5 (j+1) (bQ (j+1) λk=> ae (ek ⟨m,a,c⟩ k:Nat))/\SK O w8 wr)) (λ_ a9 _=>m-(intOf a9).toNat)
     case atStart=>exact⟨0,QO _,rfl,iZ I.2.1 (QE _) (by unfold UE;omega),aj⟩
     case round=>
      obtain⟨j,v7,rfl,b6⟩:=hrel;by_cases o6:j<m
      .have i1:(j:Int)<(m:Int):=aa;obtain⟨s6,j6,f0,-⟩:=au b6.1;subst f0;have j7:O<=(wr.alloc (ao #[ae j] 3)).heap.size:=by rw[SP];have s:=b6.2.size;have h2:=Z_ I.2.1;omega
       go_wp2_with(first|(at_builtin;refine aU _ rfl _ _ 82 rfl O 3 t0 (ae 0) 1 8 YC s0 l4 l5 l6 rfl ai (.slice s6 (j+1) j6) (j+1) (bQ (j+1) λk=> ae (ek ⟨m,a,c⟩ k:Nat)) rfl (b6.1.alloc _) (ag wr.heap.size 0) 1 1 [ae j] rfl rfl (RW (cs:= #[ae j]) (t:=3) (fr:=(0,0)) (QB wr _)) (by intro u u3;rw[SM.1 u3];rfl) aa (by unfold UE;omega) aa j7 ?_));intro v8 C b0 j8;have u4:(bQ (j+1) λk=>.int .i64 (ek ⟨m,a,c⟩ k:Nat))++ [ae j] =bQ (j+1+1) λk=> ae (ek ⟨m,a,c⟩ k:Nat):=by unfold bQ;rw[UL (n:=j+1),SH];rfl
       rw[u4]at b0;have o7:=j8.below (B:=O) (b6.2.trans ((aK aj _:aq wr (wr.alloc (ao #[ae j] 3))).mono (QD (TF (Z_ I.2.1)) b6.2.size))) j7 λk X=>(b6.1.lt k X).1;obtain⟨v9,u5,o8,-⟩:=au b0;subst o8;have u6:=aB b0 o7;go_wp2_with fail;exact⟨⟨j+1,o6,rfl,u6⟩,by first|(simp[intOf];done)|(simp[intOf];omega)⟩
      .obtain rfl:j=m:=aa;obtain⟨s6,j6,f0,o9⟩:=au b6.1;obtain⟨g9,rfl⟩:=o9.resolve_left aa;subst f0;go_wp2_with fail;obtain⟨w9,u7⟩:=ah wr;obtain⟨Q,f9⟩:=ah (wr.alloc (ao #[Ix 55 A,Ix 56 B] 123));obtain⟨F,hF⟩:=ah wr.heap.size;rw[f9,hF];have j9:aq wr Q:=by rw[<-f9];exact aK aj _
       have p3:aX Q F (ao #[Ix 55 A,Ix 56 B] 123):=by rw[<-f9,<-hF];exact QB _ _
       have p4:A<O:=by have:=I.2.2.2.2;have s:=Z_ H7.2.2.2.2;rw[I.2.2.2.1]at s;exact s
       have u8:=J.2.2.2.1;have p5:=J.2.2.2.2;have b1:SK O w8 Q:=b6.2.trans (j9.mono (QD (TF (Z_ I.2.1)) b6.2.size));have p6:aX Q A (ao (GX ⟨A,B,0,W,r,0,V,N,lz⟩ ⟨j,a,c⟩ (Su.born N lz) j (.pointer none) (ar W)) 120):=(b1.block _ p4).trans I.1;have k3:aX w8 V (ao (bu j λ_=>.int .u8 1) 122):=I.2.2.1.heap H7.2.2.1 (λe=>by have h2:=H7.2.2.2.2;rw[<-e,H7.2.2.1]at h2;have h3:=congrArg ty (RM h2);exact absurd (show(122:Nat)=120 from h3) ai);have p7:V<O:=by rw[<-I.2.2.2.1];exact Z_ H7.2.2.1
       have p8:aX Q V (ao (bu j λ_=>.int .u8 1) 122):=(b1.block _ p7).trans k3;have p9:D<O:=by rw[<-I.2.2.2.1];exact Z_ e9
       have q0:=(b1.block _ p9).trans o4;have g0:=aP j9 b6.1;have g1:aq w5 Q:=by
        have s:aq w5 w7:=H7.1.trans (H7.2.1.mono H7.1.size);have h2:SK w5.heap.size w7 w8:=I.2.2.1.below (λk _ e=>by have e:k=A:=e;have:=s5.1;omega) s.size;have h3:w5.heap.size<=O:=by rw[<-I.2.2.2.1];exact s.size
        exact(s.trans h2).trans (b1.mono h3)
       have g2:aC Q B (j' ⟨j,a,c⟩ N b):=n7.below g1;have g3:=aB g1 (b9.1.fr (T:= []) (Fr.af g1) rfl rfl rfl rfl);have q4:QX (zg B ⟨j,a,c⟩ N lz b Q Q 0):=⟨g2,Fr.refl _ _ _⟩;have G:=f' p6 p8 q0 g0 p3 b1;have K:=aB u8 p5;have q5:∀l w,(VF 55 l).run prog w=.ok (.enter 55 l) w:=λ_ _=>rfl;have q6:∀l w,(VF 56 l).run prog w=.ok (.enter 56 l) w:=λ_ _=>rfl;go_loopw [10,22,139] (λg4 u9 b2 wr=>∃i:Nat,i<=2/\b2= ae i/\g4= ar A/\QX (zg B ⟨j,a,c⟩ N lz b Q wr (i*(j+1)))) (λ_ _ b2 _=>2-(intOf b2).toNat)
       case atStart=>exact⟨0,ai,rfl,rfl,by rw[VY];exact q4⟩
       case round=>
        obtain⟨i,s0,rfl,rfl,o⟩:=hrel;by_cases c3:i<2
        .have g5:∃k4 x,wr.cell? (ag F i)=some (.func (.func k4) #[x] #[])/\(∀l w,(VF k4 l).run prog w=.ok (.enter k4 l) w)/\∀k l3,k<j+1->zg B ⟨j,a,c⟩ N lz b Q l3 (i*(j+1)+k)->aF k4 #[x,ae (ek ⟨j,a,c⟩ k:Nat)] l3 λe C=>aL e (aH 0)/\zg B ⟨j,a,c⟩ N lz b Q C (i*(j+1)+(k+1)):=by
          obtain⟨c1,-,-⟩:=cr (o.bY.hp G.2.2.2.2.1 rfl)
          match i,c3,o with
          |0,_,o=>exact⟨55,_,c1 0,q5,λk l3 X i9=>i9.tell ⟨A,B,0,W,r,0,V,N,lz⟩ _ _ K.2 K.1 z G.1 G.2.1 rfl X⟩
          |1,_,o=>exact⟨56,_,c1 1,q6,λk l3 X i9=>i9.flush K.2 K.1 z X⟩
         obtain⟨k4,x,c1,w0,v0⟩:=g5;have q7:=ad v0;have v1:(i:Int)<2:=aa;have s7:(0:Int)<=(i:Int):=aa;obtain⟨m6,rfl⟩:∃m6:QA,m6=wr:=⟨_,rfl⟩;go_wp2_with fail;go_loopw [10,24,145] (λg4 v2 b3 wr=>∃k:Nat,k<=j+1/\b3= ae k/\g4= ar A/\QX (zg B ⟨j,a,c⟩ N lz b Q wr (i*(j+1)+k))) (λ_ _ b3 _=>j+1-(intOf b3).toNat)
         case atStart=>exact⟨0,QO _,rfl,rfl,o⟩
         case round=>
          obtain⟨k,X,rfl,rfl,b4⟩:=hrel;by_cases g6:k<j+1
          .have i1:(k:Int)<((j+1:Nat):Int):=aa;have i2:(k:Int)<(j:Int)+1:=aa;have i3:(0:Int)<=(k:Int):=aa;have c2:wr.cell? (ag g9 k)=some (ae (ek ⟨j,a,c⟩ k:Nat)):=by
            obtain⟨c4,d0⟩:∃c4,aX Q g9 (ao c4 3):=by
             rcases G.2.2.2.1.2 with⟨q8,_⟩|⟨x0,s8,c4,q8,b5,c8,i1,i2,i3,i4⟩
             .cases q8
             .cases q8;exact⟨c4,c8⟩
            have s:=(bC G.2.2.2.1 (k:=k) (by rw[cc _ _ _ g6])).1;rw[QP ((b4.bY.hp d0 rfl).trans d0.symm)];exact s
           have s9:=ad (q7 k wr g6 b4);obtain⟨y,v3⟩:=ah (ek ⟨j,a,c⟩ k);rw[v3]at c2 s9;go_wp2_with fail;refine s9.mono ?_;rintro e w4 ⟨rfl,n0⟩;have q9:=ad n0;go_wp2_with fail;exact⟨⟨k+1,g6,rfl,rfl,q9⟩,by first|(simp[intOf];done)|(simp[intOf];omega)⟩
          .obtain rfl:k=j+1:=aa;go_wp2_with fail;go_roundw
           case rel=>first|exact⟨i+1,c3,rfl,rfl,by rw[Nat.succ_mul];exact b4⟩|exact⟨_,⟨i+1,c3,rfl,rfl,by rw[Nat.succ_mul];exact b4⟩,rfl⟩|exact⟨_,_,⟨i+1,c3,rfl,rfl,by rw[Nat.succ_mul];exact b4⟩,rfl⟩
           case measure=>first|(simp[intOf];done)|(simp[intOf];omega)
        .obtain rfl:i=2:=aa;have k5:aC wr B (qz ⟨j,a,c⟩ N (Su.born N lz) b):=by have s:=o.ct;rw[YG (by rw[oq];exact QE _)]at s;exact s
         have k6:=o.bY.hp G.1 rfl;have r0:=o.bY.hp G.2.2.1 rfl;have r1:=o.bY.hp G.2.1 rfl;have r2:=ad (zf B (some (ag W 0)) ⟨j,a,c⟩ lz _ wr k5 K.2 (pJ K.2 K.1 z.2 lz).1.gd.N);obtain⟨k0,k1,k2⟩:=cr r0;obtain⟨a0,a1,a2⟩:=cr k6;have Y:=aT k5 k6 r1;go_wp2_with fail;refine r2.mono ?_;rintro e c5 ⟨R1,k7,rfl,r3,r4,r5,d4⟩;have d5:=(d4.block _ (Z_ Y.2.1)).trans Y.2.1;have v:=ca r3 r4 r5 d4 d5;obtain⟨a0,a1,a2⟩:=cr d5;go_wp2_with fail;obtain⟨g7,c6⟩:=ah (c5.setCell (ag A 13) (ar R1));have d6:=s5.1;have k8:Lo.lo<=A:=by rw[<-d6];exact QD (QD (QD h0 J.2.2.1.size) e6.size) b9.2.1.size
         have d7:Lo.lo<=V:=by have s:=H7.2.2.2.1;have h2:=H7.1.size;omega
         have c7:Fr [120] aG c5 g7:=by rw[<-c6];exact(Fr.refl _ _ _).set (p:=ag A 13) v.2.2.2.2 rfl k8 _
         have r6:aX g7 A (ao (DF ⟨A,B,R1,W,r,k7,V,N,lz⟩ ⟨j,a,c⟩ (Su.born N lz) j false) 120):=by rw[<-c6];exact heap_setCell_same c5 A 13 _ 120 _ v.2.2.2.2
         have k9:bH g7 W r B j (Wl.fresh N 1):=((g3.2.fr o.bY rfl rfl rfl rfl).fr (T:= []) (Fr.af v.2.2.2.1) rfl rfl rfl rfl).fr c7 rfl rfl rfl rfl;have r7:aX g7 V (ao (bu j λ_=>.int .u8 1) 122):=c7.hp ((v.2.2.2.1.block _ (Z_ Y.2.2)).trans Y.2.2) rfl;have a6:Lo.lo<=wr.heap.size:=QD d7 (TF (Z_ Y.2.2));have l0:de g7 ⟨A,B,R1,W,r,k7,V,N,lz⟩ ⟨j,a,c⟩ ⟨qz ⟨j,a,c⟩ N (Su.born N lz) b,Wl.fresh N 1,Ro.born lz⟩ (Su.born N lz) false:=
          ⟨⟨⟨j,QE _,r6⟩,⟨_,r7,λm s2=>cg _ _ _ s2⟩,k8,d7⟩,⟨v.1.fr c7 rfl rfl rfl rfl,(Y.1.below v.2.2.2.1).fn c7 rfl,k9,QD a6 v.2.1,QD a6 v.2.2.1⟩⟩
         have r8:=ad (oc _ _ _ _ _ g7 l0 (Su.oh K.2 z lz));have g8:Fr fV aG w g7:=by
          have s:Fr fV aG w w5:=((Fr.af J.2.2.1).tr (e6.wide fV rfl)).tr b9.2.1;have r9:w.heap.size<=A:=by rw[<-d6];exact s.size
          have h2:Fr fV aG w Q:=s.low g3.1 s.size;have h3:Fr fV aG w c5:=(h2.tr (o.bY.wide fV rfl)).then v.2.2.2.1;rw[<-c6];exact h3.low (Below.setCell aj (p:=ag A 13) (QE A) _) r9
         have l1:=aY l0 g8 v.2.2.1 c6;simp only[l1.out.2.2.2];go_wp2_with fail;refine r8.mono ?_;rintro e C ⟨rfl,q1,q2⟩;have q9:QX (Fr fV aG w C/\de C ⟨A,B,R1,W,r,k7,V,N,lz⟩ ⟨j,a,c⟩ (oj ⟨j,a,c⟩ N lz (qz ⟨j,a,c⟩ N (Su.born N lz) b)) (Su.born N lz) false):=by obtain⟨y1,y2,y3,-⟩:=l1.out;have s:w.heap.size<=wr.heap.size:=QD (QD (QD J.2.2.1.size e6.size) b9.2.1.size) (QD g3.1.size o.bY.size);exact⟨y2.low (q2.below (B:=w.heap.size) (λk _ e=>by have e:k=k7:=e;omega) y2.size) (QE _),⟨y1.arr.out q2 y1.rs.row.fJ y1.rs.lo.2,y1.rs.mark q1 q2⟩⟩
         go_wp2_with fail;go_ret2;exact⟨⟨A,B,R1,W,r,k7,V,N,lz⟩,rfl,rfl,rfl,rfl,q9⟩
end
def Em(g:aA)(N k:Nat):Nat:=if k=g.M then 2+N else 1+g.R
theorem hX{N:Nat}:qA g N (By.part (g.M+1) (Em g N) (g.M+1)):=
 ⟨rfl,λk a=>ak a,rfl,rfl⟩
def zh[Lo](g:aA)(N:Nat)(a:Bool)(w:QA)(e:RV)(b:QA):Prop:=
 ∃G Z,aL e (.tuple #[ar G,aH 0])/\bX b G Z g/\Z.N=N/\Z.lz=a/\w.heap.size<=G/\Fr fV aG w b/\
  de b Z g (oj g N a (qz g N (Su.born N a) (By.part (g.M+1) (Em g N) (g.M+1)))) (Su.born N a) false
theorem vu[Lo](g:aA)(N:Nat)(e7:Bool)(w:QA)(Q:g.ok)(b6:5<=N/\N<=2048)(f9:Lo.lo<=w.heap.size):
  aF 16 #[g.V,ae N,.bool e7] w (zh g N e7 w):=by
 obtain⟨t,D,g9,b7,b8,S⟩:=eL w (ao #[ae g.M,ae g.c,ae g.s] 39);obtain⟨d1,d2,d3⟩:=cr S;have g0:=ad (fp Q);have b9:=ad (lL Q);have h3:=Q.m3;have C:=Q.m16;have h4:=aA.iJ Q;obtain⟨c,U⟩:=ah (g.M+1);have g1:=ad (λv W (h5:Ints W v (g.M+1) (Em g N)) (g2:Lo.lo<=W.heap.size)=>FN v (g.M+1) (Em g N) W h5 g2 aa aa (λk h7=>by unfold Em;split<;>omega));have g3:=ad (λB b W (e8:aC W B b) (h8:qA g N b) (g2:Lo.lo<=W.heap.size)=>A_ B g N e7 b W e8 Q b6 h8 g2);have q:=aT S b8 f9;have c3:=aB g9 b7;obtain⟨a,r,s⟩:=g;obtain⟨R,V⟩:=ah (aA.R ⟨a,r,s⟩);rw[V]at b9 h4;obtain⟨h9,e9,c4,c5,c6⟩:=SB wC;have i0:∀w,(SY 82 (ae (c:Int)) (ae (c:Int))).run prog w=.ok (a' w.heap.size c c) (w.alloc (ao (bu c λ_=> ae 0) 3)):=λw=>by
  have i6:c<=17:=by rw[<-U];show a+1<=17;have:a<=16:=C;omega
  have:=run_make (P:=prog) w 82 3 h9 (ae 0) YC e9 c4 .i64 .i64 c c aa aa (by rw[c6];omega) aa;rw[this,c5,TX,iY];simp
 have f1:QG.wrap ((a:Int)+1)=((c:Nat):Int):=by have:a<=16:=C;have:a+1=c:=U;go_arith
 have f2:decide ((N:Int)<5)=false:=aS;have f3:decide ((2048:Int)<(N:Nat))=false:=aS;have f4:QG.wrap (1+(R:Int))=((1+R:Nat):Int):=bs;have f5:QG.wrap (2+(N:Int))=((2+N:Nat):Int):=by have:N<=2048:=b6.2;go_arith
 have f6:decide (N<5)=false:=aS;have f7:decide (2048<N)=false:=aS;have X:=aB V U;clear g9 b7 S b8 V e9 c4 c5 c6 Q;go_enter func16,ntmps16;go_wp2_with fail
 try simp only[c3.out.1,c3.out.2]
 go_wp2_with(first|(go_at_call 26;refine(g0 _).mono ?_;rintro e w1 ⟨rfl,H⟩;obtain⟨k0,k1,k2⟩:=kp H D d3;have c7:=ad H;clear H));go_region_held3(λE=>E.cell? (ag D 0)=some (ae a)/\E.cell? (ag D 1)=some (ae r)/\E.cell? (ag D 2)=some (ae s)) ((simp[*,go_sem];done)) (first|(go_at_call 27;refine(b9 _).mono ?_;rintro e w2 ⟨rfl,M⟩;have I:QX (SK t.heap.size t w2):=via (via c7 bF) M;obtain⟨p0,p1,p2⟩:=kp M D dG;clear M));obtain⟨G,f0⟩:=ah w2.heap.size;obtain⟨F,u⟩:=ah (w2.alloc (ao #[.pointer none,.pointer none,ae R,ae a,ae r,ae s] 73));have c8:F.heap[G]?=some (ao #[.pointer none,.pointer none,ae R,ae a,ae r,ae s] 73):=by rw[<-u,<-f0];exact QB _ _
 have Y:SK t.heap.size t F:=by rw[<-u];exact aK I _
 have c9:t.heap.size<=G:=by rw[<-f0];exact I.size
 simp only[u,f0];have d:=aT c8 Y c9;clear u f0 k0 k2 p0 p1 p2 c7 I;obtain⟨k0,k1,k2⟩:=kp Y D d3;clear Y c8 c9;obtain⟨L,f8⟩:=ah F.heap.size;obtain⟨w4,x⟩:=ah (F.alloc (ao (bu c λ_=> ae 0) 3));have d0:w4.heap[L]?=some (ao (bu c λ_=> ae 0) 3):=by rw[<-x,<-f8];exact QB _ _
 have d4:SK L F w4:=by rw[<-x,<-f8];exact aK aj _
 have j:=aY x f8 d0 d4;clear x f8 d0 d4;go_wp2_with fail
 try simp only[j.out.1,j.out.2.1]
 go_loopw [11,34] (λi3 J wr=>∃k:Nat,k<=c/\J= ae k/\QX (wr.heap[L]?=some (ao (bu c λi=>if i<k then ae (1+R:Nat)else ae 0) 3)/\SK L F wr)) (λ_ J _=>c-(intOf J).toNat)
 case atStart=>exact⟨0,QO _,rfl,by rw[j.2.2.1];rfl,j.2.2.2⟩
 case round=>
  obtain⟨k,h7,rfl,a3⟩:=hrel;have d5:=j.2.1;have a4:G<L:=by rw[<-d5];exact Z_ d.1
  have d6:D<L:=by rw[<-d5];exact k2
  have a5:=(a3.2.block G a4).trans d.1;have a6:=(a3.2.block D d6).trans ((d.2.1.block D d3).trans q.1);obtain⟨a0,a1,a2⟩:=cr a5;obtain⟨b0,b1,b2⟩:=cr a3.1;by_cases d7:k<c
  .have i1:(k:Int)<(c:Int):=aa;have i2:(0:Int)<=(k:Int):=aa;have b3:wr.cell? (ag L k)=some (ae 0):=by rw[b0,cg _ _ _ d7,al (TL k)]
   clear b0 a5 a6;go_wp2_with fail;have h:=heap_setCell_same wr L k _ 3 (ae (1+R:Nat)) a3.1;rw[eQ]at h;rw[show(1:Int)+(R:Int)=((1+R:Nat):Int)by omega];refine⟨⟨k+1,d7,rfl,?_,a3.2.setCell (p:=ag L k) (QE L) _⟩,by first|(simp[intOf];done)|(simp[intOf];omega)⟩;rw[h];congr 2;refine k' λi e9=>?_;by_cases e:i=k
   .rw [ak e,ak aa]
   .rw [al e];by_cases e2:i<k
    .rw [ak e2,ak aa]
    .rw [al e2,al aa]
  .obtain rfl:k=c:=aa;have g4:a+1=k:=X.2;have i1:(a:Int)<(k:Int):=aa;have i2:(0:Int)<=(a:Int):=aa;have b3:wr.cell? (ag L a)=some (ae (1+R:Nat)):=by rw[b0,cg _ _ _ aa,ak aa]
   obtain⟨c0,c1,c2⟩:=cr a6;have h:=heap_setCell_same wr L a _ 3 (ae (2+N:Nat)) a3.1;rw[eQ]at h;have l:SK L F (wr.setCell (ag L a) (ae (2+N:Nat))):=a3.2.setCell (p:=ag L a) (QE L) _;obtain⟨w5,a7⟩:=ah (wr.setCell (ag L a) (ae (2+N:Nat)));rw[a7]at h l;have h0:Ints w5 (a' L (a+1) (a+1)) (a+1) (Em ⟨a,r,s⟩ N):=by
    refine⟨_,_,rfl,.inr ⟨L,0,_,_,rfl,h,λi e9=>?_⟩⟩;rw[RE,cg _ _ _ aa];unfold Em;by_cases e:i=a
    .rw [ak e,ak e]
    .rw [al e,al e,ak aa,X.1]
   have a8:Lo.lo<=w5.heap.size:=QD (QD (QD q.2.2 q.2.1.size) d.2.1.size) l.size;have y:=aY l a8 a4 d6;have m:=(l.block G a4).trans d.1;have d8:=g1.out _ w5 h0 a8;have d9:QX (aF 28 #[a' L k k] w5 (HY (a+1) (Em ⟨a,r,s⟩ N) w5)):=by rw[<-g4];exact d8
   have e0:=ad a7;clear b0 a5 a6 a0 h l a7 h0 a8 d8;have g5:=Z_ m;clear m;go_wp2_with fail;rw[show(2:Int)+(N:Int)=((2+N:Nat):Int)by omega,e0.out];refine d9.mono ?_;rintro e w6 ⟨B,rfl,K,a9⟩;have m:w5.heap[G]?=some (ao #[.pointer none,.pointer none,ae R,ae a,ae r,ae s] 73):=(y.1.block G y.2.2.1).trans d.1;have z:=(a9.block _ g5).trans m;have h6:=heap_setCell_same w6 G 0 _ 73 (ar B) z;obtain⟨w7,n⟩:=ah (w6.setCell (ag G 0) (ar B));rw[n]at h6;have b4:Lo.lo<=G:=QD (QD q.2.2 q.2.1.size) d.2.2;have o:aC w7 B (By.part (a+1) (Em ⟨a,r,s⟩ N) (a+1)):=by rw[<-n];exact K.fn (T:= [73]) ((Fr.refl _ _ _).set (p:=ag G 0) z rfl b4 _) rfl
   have A:SK t.heap.size t w7:=by have h:=d.2.1;have h2:SK t.heap.size F w5:=y.1.mono (QD d.2.2 (TF y.2.2.1));rw[<-n];exact((h.trans h2).trans (a9.mono (h.trans h2).size)).setCell (p:=ag G 0) d.2.2 _
   have e1:=(A.block D d3).trans q.1;have g6:=ad (λW (e8:SK w7.heap.size w7 W)=>g3.out B _ W (o.below e8) hX (QD (QD q.2.2 q.2.1.size) (QD A.size e8.size)));have H7:=aY h6 A b4 e1;have e3:=ad n;obtain⟨q0,q1,q2⟩:=cr z;clear K a9 m z b1 b3 c0 h6 n o A b4 e1;go_wp2_with fail;rw[e3.out];obtain⟨a0,a1,a2⟩:=cr H7.1;obtain⟨b0,b1,b2⟩:=cr H7.2.2.2;clear q0 q1;have i4:¬D=G:=by have:=d.2.2;omega
   have g7:¬G=D:=by have:=d.2.2;omega
   go_region_held3(λE=>E.cell? (ag G 0)=some (ar B)/\E.cell? (ag D 0)=some (ae a)/\E.cell? (ag D 1)=some (ae r)/\E.cell? (ag D 2)=some (ae s)) ((simp[*,go_sem];done)) (first|(go_at_call 29;refine(g6 _ bF).mono ?_;rintro e w8 ⟨Z,rfl,z1,z2,z3,z4,z5⟩;have b5:QX (Fr fV aG w7 w8):=(Fr.af bF).tr z4;have f:=b5.hp H7.1 rfl;have e4:=b5.hp H7.2.2.2 rfl;have H8:=ca z1 z2 z3 z5 f;obtain⟨p0,p1,p2⟩:=cr f;obtain⟨r0,r1,r2⟩:=cr e4;clear z1 z2 z3 z4 z5 f e4));have O:zh ⟨a,r,s⟩ N e7 w (.returned (.tuple #[ar G,aH 0])) (w8.setCell (ag G 1) (ar Z.A)):=by
    obtain⟨z1,z2,z3,z5,f⟩:=H8.out;have g8:w.heap.size<=t.heap.size:=q.2.1.size;have e5:w.heap.size<=G:=QD g8 d.2.2;have i5:=heap_setCell_same w8 G 1 _ 73 (ar Z.A) f;refine⟨G,Z,rfl,?_,z2,z3,e5,?_,z5.fr (T:= [73]) ((Fr.refl _ _ _).set (p:=ag G 1) f rfl H7.2.2.1 _) rfl⟩
    .unfold bX;rw[i5,z1,X.1];rfl
    .have h:Fr fV aG w w7:=(Fr.af q.2.1).tr (Fr.af H7.2.1);exact(h.tr b5).low (Below.setCell aj (p:=ag G 1) (QE G) _) e5
   have e6:=ad O;clear O p0 p1 p2 r0 g7;go_wp2_with fail;go_ret2;exact e6
structure En[Lo](w:M)(f:Nat)(args:Array H)(R:Nat->M->Prop):Prop where
 call:∀W,aq w W->aF f args W fun e w'=>∃er:Nat,aL e (.int .u16 er)/\Fr eG aG W w'/\R er w'
 stay:∀er W W',R er W->Fr [46] aG W W'->R er W'
 low:Lo.lo<=w.heap.size
theorem rG[Lo](G:Nat)(Z:bm)(g:aA)(t:Nat)(u n x:Int)(pv y:QC)(w:QA)(R:Nat->QA->Prop)(z:bX w G Z g)(H:En w 60 #[ar Z.A,pv] R):
  aF 31 #[ar G,fO t u n x pv y] w λe i=>∃a:Nat,aL e (dw a aO 0)/\Fr eG aG w i/\R a i:=by
 obtain⟨A,bA,m,L,o,p,q,r,b⟩:=pL w t u n x pv y;have c:=(b.block _ (Z_ z)).trans z;obtain⟨a1,a2,a3⟩:=cr q;obtain⟨s1,s2,s3⟩:=cr c;have B:=ad H;have Q:QX (∀W,aq A W->aF 60 #[ar Z.A,pv] W λe i=>∃a:Nat,aL e (.int .u16 a)/\Fr eG aG A i/\R a i):=λW O=>(H.call W (b.trans (O.mono b.size))).mono λe i ⟨a,S,T,U⟩=>⟨a,S,(Fr.af O).tr T,U⟩;have V:=ad jQ;have C:QX (∀k,Fr eG aG A k->k.heap[G]?=some (ao #[ar Z.B,ar Z.A,ae g.R,ae g.M,ae g.c,ae g.s] 73)/\k.heap[bA]?=some (ao #[eb t,ae u,ae n,ae x,pv,y] 50)/\k.heap[m]?=some z46):=λk l=>⟨l.hp c rfl,l.hp q rfl,l.hp r rfl⟩;have X:=aY q r c b;have j:=aT L o p;have N:¬G=m:=gU c r ai;have M:¬bA=m:=gU q r ai;clear z H L o p q r b c;go_enter func31,ntmps31;go_wp2_with fail;rw[j.1,j.2.2,j.2.1];go_region_held3(λi=>i.cell? ⟨G,1,none⟩=some (ar Z.A)/\i.cell? ⟨bA,4,none⟩=some (pv)) ((simp[*,go_sem];done)) (first
  |(go_at_call 60;refine(Q _ (by first|exact aj|exact cK aj _)).mono ?_;rintro e k ⟨a,rfl,l,P⟩
    have d:=C.out k l;obtain⟨v1,v2,I⟩:=cr d.1;obtain⟨v4,v5,Y⟩:=cr d.2.1;obtain⟨v7,v8,J⟩:=cr d.2.2;have s:=aT l P d;clear l P d)
  |(go_at_call 21;refine(V a _).mono ?_;rintro e w3 ⟨rfl,f⟩
    have h:aq k w3:=by first|exact f|exact via (cK aj _) f
    obtain⟨u1,u2,u3⟩:=kp h G I;obtain⟨u4,u5,u6⟩:=kp h bA Y;obtain⟨u7,u8,u9⟩:=kp h m J;have D:=ad h;clear h f))
 go_wp2;have E:w.heap.size<=m:=by have:=j.2.2;omega
 have F:=(D.block _ (Z_ s.2.2.2.2)).trans s.2.2.2.2;obtain⟨K,y2,y3⟩:=xJ (w:=w) F rfl E B.low (aH a) aO (ae 0);have c0:=(cr K).1 0;have c1:=(cr K).1 1;have c2:=(cr K).1 2;refine QT (v:=dw a aO 0) (by simp[RP,results31,go_sem,c0,c1,c2]) rfl ⟨a,rfl,y3 (((Fr.af X.2.2.2).tr s.1).then D),B.stay a _ _ (B.stay a _ _ s.2.1 (Fr.af D)) y2⟩
theorem A'[Lo](G:Nat)(Z:bm)(g:aA)(r:Nat)(s n t:Int)(pv u:QC)(w:QA)(R:Nat->QA->Prop)(p:bX w G Z g)(H:En w 61 #[ar Z.A] R):
  aF 32 #[ar G,fO r s n t pv u] w λe l=>∃a:Nat,aL e (dw a aO 0)/\Fr eG aG w l/\R a l:=by
 obtain⟨x,bA,y,L,m,o,z,A,b⟩:=pL w r s n t pv u;have i:=(b.block _ (Z_ p)).trans p;obtain⟨r1,r2,r3⟩:=cr p;have B:=ad H;have Q:QX (∀W,aq x W->aF 61 #[ar Z.A] W λe l=>∃a:Nat,aL e (.int .u16 a)/\Fr eG aG x l/\R a l):=λW O=>(H.call W (b.trans (O.mono b.size))).mono λe l ⟨a,S,T,U⟩=>⟨a,S,(Fr.af O).tr T,U⟩;have V:=ad jQ;have C:QX (∀h,Fr eG aG x h->aX h G (ao #[ar Z.B,ar Z.A,ae g.R,ae g.M,ae g.c,ae g.s] 73)/\aX h bA (ao #[eb r,ae s,ae n,ae t,pv,u] 50)/\aX h y z46):=λh j=>⟨j.hp i rfl,j.hp z rfl,j.hp A rfl⟩;have X:=aY z A i b;have f:=aT L m o;clear p H L m o z A b i;go_enter func32,ntmps32;go_wp2_with fail;rw[f.1,f.2.2,f.2.1];go_wp2_with(first
  |(go_at_call 61;refine(Q _ (by first|exact aj|exact cK aj _)).mono ?_;rintro e h ⟨a,rfl,j,P⟩
    have c:=C.out h j;obtain⟨v1,v2,v3⟩:=cr c.1;obtain⟨v4,v5,v6⟩:=cr c.2.1;obtain⟨v7,v8,N⟩:=cr c.2.2;have q:=aT j P c;clear j P c)
  |(go_at_call 21;refine(V a _).mono ?_;rintro e M ⟨rfl,d⟩
    have k:aq h M:=by first|exact d|exact via (cK aj _) d
    obtain⟨u7,u8,u9⟩:=kp k y N;have D:=ad k;clear k d))
 have E:w.heap.size<=y:=by have:=f.2.2;omega
 have F:=(D.block _ (Z_ q.2.2.2.2)).trans q.2.2.2.2;obtain⟨K,I,Y⟩:=xJ (w:=w) F rfl E B.low (aH a) aO (ae 0);have J:=(cr K).1 0;have c1:=(cr K).1 1;have c2:=(cr K).1 2;refine QT (v:=dw a aO 0) (by simp[RP,results32,go_sem,J,c1,c2]) rfl ⟨a,rfl,Y (((Fr.af X.2.2.2).tr q.1).then D),B.stay a _ _ (B.stay a _ _ q.2.1 (Fr.af D)) I⟩
theorem Eo[Lo](G:Nat)(Z:bm)(g:aA)(x:Nat)(m n y:Int)(pv z:QC)(w:QA)(R:Nat->QA->Prop)(t:bX w G Z g)(H:En w 63 #[ar Z.A,ae m] R):
  aF 33 #[ar G,fO x m n y pv z] w λe i=>∃a:Nat,aL e (dw a aO 0)/\Fr eG aG w i/\R a i:=by
 obtain⟨A,bA,o,L,p,q,r,s,b⟩:=pL w x m n y pv z;have c:=(b.block _ (Z_ t)).trans t;obtain⟨a1,a2,a3⟩:=cr r;obtain⟨r1,r2,r3⟩:=cr t;obtain⟨s1,s2,s3⟩:=cr c;have B:=ad H;have Q:QX (∀W,aq A W->aF 63 #[ar Z.A,ae m] W λe i=>∃a:Nat,aL e (.int .u16 a)/\Fr eG aG A i/\R a i):=λW O=>(H.call W (b.trans (O.mono b.size))).mono λe i ⟨a,S,T,U⟩=>⟨a,S,(Fr.af O).tr T,U⟩;have V:=ad jQ;have C:QX (∀k,Fr eG aG A k->k.heap[G]?=some (ao #[ar Z.B,ar Z.A,ae g.R,ae g.M,ae g.c,ae g.s] 73)/\k.heap[bA]?=some (ao #[eb x,ae m,ae n,ae y,pv,z] 50)/\k.heap[o]?=some z46):=λk l=>⟨l.hp c rfl,l.hp r rfl,l.hp s rfl⟩;have X:=aY r s c b;have j:=aT L p q;have N:¬G=o:=gU c s ai;have M:¬bA=o:=gU r s ai;clear t H L p q r s b c;go_enter func33,ntmps33;go_wp2_with fail;rw[j.1,j.2.2,j.2.1];go_region_held3(λi=>i.cell? ⟨G,1,none⟩=some (ar Z.A)/\i.cell? ⟨bA,1,none⟩=some (ae m)) ((simp[*,go_sem];done)) (first
  |(go_at_call 63;refine(Q _ (by first|exact aj|exact cK aj _)).mono ?_;rintro e k ⟨a,rfl,l,P⟩
    have d:=C.out k l;obtain⟨v1,v2,I⟩:=cr d.1;obtain⟨v4,v5,Y⟩:=cr d.2.1;obtain⟨v7,v8,J⟩:=cr d.2.2;have u:=aT l P d;clear l P d)
  |(go_at_call 21;refine(V a _).mono ?_;rintro e w3 ⟨rfl,f⟩
    have h:aq k w3:=by first|exact f|exact via (cK aj _) f
    obtain⟨u1,u2,u3⟩:=kp h G I;obtain⟨u4,u5,u6⟩:=kp h bA Y;obtain⟨u7,u8,u9⟩:=kp h o J;have D:=ad h;clear h f))
 go_wp2;have E:w.heap.size<=o:=by have:=j.2.2;omega
 have F:=(D.block _ (Z_ u.2.2.2.2)).trans u.2.2.2.2;obtain⟨K,y2,y3⟩:=xJ (w:=w) F rfl E B.low (aH a) aO (ae 0);have c0:=(cr K).1 0;have c1:=(cr K).1 1;have c2:=(cr K).1 2;refine QT (v:=dw a aO 0) (by simp[RP,results33,go_sem,c0,c1,c2]) rfl ⟨a,rfl,y3 (((Fr.af X.2.2.2).tr u.1).then D),B.stay a _ _ (B.stay a _ _ u.2.1 (Fr.af D)) y2⟩
theorem Ep[Lo](G:Nat)(Z:bm)(g:aA)(t:Nat)(u n x:Int)(pv y:QC)(w:QA)(R:Nat->QA->Prop)(z:bX w G Z g)(H:En w 69 #[ar Z.B,ae n] R):
  aF 36 #[ar G,fO t u n x pv y] w λe i=>∃a:Nat,aL e (dw a aO 0)/\Fr eG aG w i/\R a i:=by
 obtain⟨A,bA,m,L,o,p,q,r,b⟩:=pL w t u n x pv y;have c:=(b.block _ (Z_ z)).trans z;obtain⟨a1,a2,a3⟩:=cr q;obtain⟨s1,s2,s3⟩:=cr c;have B:=ad H;have Q:QX (∀W,aq A W->aF 69 #[ar Z.B,ae n] W λe i=>∃a:Nat,aL e (.int .u16 a)/\Fr eG aG A i/\R a i):=λW O=>(H.call W (b.trans (O.mono b.size))).mono λe i ⟨a,S,T,U⟩=>⟨a,S,(Fr.af O).tr T,U⟩;have V:=ad jQ;have C:QX (∀k,Fr eG aG A k->k.heap[G]?=some (ao #[ar Z.B,ar Z.A,ae g.R,ae g.M,ae g.c,ae g.s] 73)/\k.heap[bA]?=some (ao #[eb t,ae u,ae n,ae x,pv,y] 50)/\k.heap[m]?=some z46):=λk l=>⟨l.hp c rfl,l.hp q rfl,l.hp r rfl⟩;have X:=aY q r c b;have j:=aT L o p;have N:¬G=m:=gU c r ai;have M:¬bA=m:=gU q r ai;clear z H L o p q r b c;go_enter func36,ntmps36;go_wp2_with fail;rw[j.1,j.2.2,j.2.1];go_region_held3(λi=>i.cell? ⟨G,0,none⟩=some (ar Z.B)/\i.cell? ⟨bA,2,none⟩=some (ae n)) ((simp[*,go_sem];done)) (first
  |(go_at_call 69;refine(Q _ (by first|exact aj|exact cK aj _)).mono ?_;rintro e k ⟨a,rfl,l,P⟩
    have d:=C.out k l;obtain⟨v1,v2,I⟩:=cr d.1;obtain⟨v4,v5,Y⟩:=cr d.2.1;obtain⟨v7,v8,J⟩:=cr d.2.2;have s:=aT l P d;clear l P d)
  |(go_at_call 21;refine(V a _).mono ?_;rintro e w3 ⟨rfl,f⟩
    have h:aq k w3:=by first|exact f|exact via (cK aj _) f
    obtain⟨u1,u2,u3⟩:=kp h G I;obtain⟨u4,u5,u6⟩:=kp h bA Y;obtain⟨u7,u8,u9⟩:=kp h m J;have D:=ad h;clear h f))
 go_wp2;have E:w.heap.size<=m:=by have:=j.2.2;omega
 have F:=(D.block _ (Z_ s.2.2.2.2)).trans s.2.2.2.2;obtain⟨K,y2,y3⟩:=xJ (w:=w) F rfl E B.low (aH a) aO (ae 0);have c0:=(cr K).1 0;have c1:=(cr K).1 1;have c2:=(cr K).1 2;refine QT (v:=dw a aO 0) (by simp[RP,results36,go_sem,c0,c1,c2]) rfl ⟨a,rfl,y3 (((Fr.af X.2.2.2).tr s.1).then D),B.stay a _ _ (B.stay a _ _ s.2.1 (Fr.af D)) y2⟩
theorem Er[Lo](G:Nat)(Z:bm)(g:aA)(u:Nat)(m n x:Int)(pv y:QC)(w:QA)(R:Nat->QA->Prop)(z:bX w G Z g)(H:En w 73 #[ar Z.B,ae m] R):
  aF 39 #[ar G,fO u m n x pv y] w λe i=>∃a:Nat,aL e (dw a aO 0)/\Fr eG aG w i/\R a i:=by
 obtain⟨A,bA,o,L,p,q,r,s,b⟩:=pL w u m n x pv y;have c:=(b.block _ (Z_ z)).trans z;obtain⟨a1,a2,a3⟩:=cr r;obtain⟨s1,s2,s3⟩:=cr c;have B:=ad H;have Q:QX (∀W,aq A W->aF 73 #[ar Z.B,ae m] W λe i=>∃a:Nat,aL e (.int .u16 a)/\Fr eG aG A i/\R a i):=λW O=>(H.call W (b.trans (O.mono b.size))).mono λe i ⟨a,S,T,U⟩=>⟨a,S,(Fr.af O).tr T,U⟩;have V:=ad jQ;have C:QX (∀k,Fr eG aG A k->k.heap[G]?=some (ao #[ar Z.B,ar Z.A,ae g.R,ae g.M,ae g.c,ae g.s] 73)/\k.heap[bA]?=some (ao #[eb u,ae m,ae n,ae x,pv,y] 50)/\k.heap[o]?=some z46):=λk l=>⟨l.hp c rfl,l.hp r rfl,l.hp s rfl⟩;have X:=aY r s c b;have j:=aT L p q;have N:¬G=o:=gU c s ai;have M:¬bA=o:=gU r s ai;clear z H L p q r s b c;go_enter func39,ntmps39;go_wp2_with fail;rw[j.1,j.2.2,j.2.1];go_region_held3(λi=>i.cell? ⟨G,0,none⟩=some (ar Z.B)/\i.cell? ⟨bA,1,none⟩=some (ae m)) ((simp[*,go_sem];done)) (first
  |(go_at_call 73;refine(Q _ (by first|exact aj|exact cK aj _)).mono ?_;rintro e k ⟨a,rfl,l,P⟩
    have d:=C.out k l;obtain⟨v1,v2,I⟩:=cr d.1;obtain⟨v4,v5,Y⟩:=cr d.2.1;obtain⟨v7,v8,J⟩:=cr d.2.2;have t:=aT l P d;clear l P d)
  |(go_at_call 21;refine(V a _).mono ?_;rintro e w3 ⟨rfl,f⟩
    have h:aq k w3:=by first|exact f|exact via (cK aj _) f
    obtain⟨u1,u2,u3⟩:=kp h G I;obtain⟨u4,u5,u6⟩:=kp h bA Y;obtain⟨u7,u8,u9⟩:=kp h o J;have D:=ad h;clear h f))
 go_wp2;have E:w.heap.size<=o:=by have:=j.2.2;omega
 have F:=(D.block _ (Z_ t.2.2.2.2)).trans t.2.2.2.2;obtain⟨K,y2,y3⟩:=xJ (w:=w) F rfl E B.low (aH a) aO (ae 0);have c0:=(cr K).1 0;have c1:=(cr K).1 1;have c2:=(cr K).1 2;refine QT (v:=dw a aO 0) (by simp[RP,results39,go_sem,c0,c1,c2]) rfl ⟨a,rfl,y3 (((Fr.af X.2.2.2).tr t.1).then D),B.stay a _ _ (B.stay a _ _ t.2.1 (Fr.af D)) y2⟩
theorem pM(h:n=30\/n=31\/n=32\/n=33\/n=34\/n=35\/n=36\/n=37\/n=38\/n=39):∀a w,(VF n a).run prog w=.ok (.enter n a) w:=by
 rcases h with rfl|rfl|rfl|rfl|rfl|rfl|rfl|rfl|rfl|rfl
 .exact RH func30 aE rfl
 .exact RH func31 aE rfl
 .exact RH func32 aE rfl
 .exact RH func33 aE rfl
 .exact RH func34 aE rfl
 .exact RH func35 aE rfl
 .exact RH func36 aE rfl
 .exact RH func37 aE rfl
 .exact RH func38 aE rfl
 .exact RH func39 aE rfl
theorem pN[Lo](w:M)(G f:Nat)(z:Bool)(k:Nat)(r n s:Int)(pv t:H)(Z:bm)(g:aA)(R:Nat->H->M->Prop)(u:f=30\/f=31\/f=32\/f=33\/f=34\/f=35\/f=36\/f=37\/f=38\/f=39)(K:GY (k:Nat)=some (.agg #[.func (.func f) #[] #[],.bool z]))(A:bX w G Z g)(l:∃b,aC w Z.B b)(L:∀W,aq w W->aF f #[ar G,fO k r n s pv t] W λe i=>∃d a m c,aL e (dw d (.slice a m c) 0)/\Fr eG aG W i/\R d (.slice a m c) i)(O:∀d v W,R d v W->∃b,aC W Z.B b)(B:∀d v W q,R d v W->Fr [46] aG W q->R d v q)(P:Lo.lo<=w.heap.size):
  aF 11 #[ar G,fO k r n s pv t] w λe i=>∃d a m c y,aL e (dw d (.slice a m c) y)/\Fr eG aG w i/\R d (.slice a m c) i:=by
 refine(Iz w G f z k r n s pv t Z g (λd v W=>Fr eG aG w W/\R d v W) ⟨pM u,A,l,λW C=>?_,λd v W q h l=>⟨h.1.then l,B d v W q h.2 (Fr.af l)⟩,λd v W p o T x h Q j=>⟨h.1.new j x,B d v W _ h.2 ((Fr.refl [46] aG W).set (p:=ag p o) Q rfl (QD P j) x)⟩⟩ K).mono λe i h=>h;refine(L W C).mono ?_;rintro e i ⟨d,a,m,c,S,D,E⟩;have F:=(Fr.af C).tr D;exact⟨d,a,m,c,S,⟨Z,F.hp A rfl,O d _ i E⟩,D.tm,F,E⟩
theorem rH(x:Nat)(w:M):aF 17 #[eb x] w λe q=>∃b,aL e (a' b 128 128)/\w.heap.size<=b/\q.heap[b]?=some (N (cw 128 λ_=>x) 5)/\aq w q:=by
 have s:∀w:M,(SY 41 (Y 128) (Y 128)).run prog w=.ok (a' w.heap.size 128 128) (w.alloc (N (cw 128 λ_=>0) 5)):=λw=>oa w 128 ai;obtain⟨h,j⟩:=ah (w.alloc (N (cw 128 λ_=>0) 5));have f:aq w h:=by rw[<-j];exact aK aj _
 have c:h.heap[w.heap.size]?=some (N (cw 128 λ_=>0) 5):=by rw[<-j];exact QB _ _
 obtain⟨D,d⟩:=ah w.heap.size;rw[d]at c;have l:QX (h.heap[D]?=some (N (cw 128 λi=>if i<0 then x else 0) 5)/\aq w h):=⟨c,f⟩;have a:=aB j d;clear f c j d;go_enter func17,ntmps17;go_wp2_with fail
 try simp only[a.out.1,a.out.2]
 go_wp2;go_loopw [4] (λi wr=>∃k:Nat,i= Y k/\k<=128/\QX (wr.heap[D]?=some (N (cw 128 λi=>if i<k then x else 0) 5)/\aq w wr)) (λi _=>128-(intOf i).toNat)
 case atStart=>exact⟨0,rfl,J,l⟩
 case round=>
  obtain⟨k,rfl,v,g⟩:=hrel;obtain⟨m,n,c3⟩:=cr g.1;by_cases o:k<128
  .have t:(k:Int)<128:=J;have c4:=(m k).trans (dV 128 _ k o);have c5:=n k;have u:QX ((wr.setCell (R D k) (eb x)).heap[D]?=some (N (cw 128 λi=>if i<k+1 then x else 0) 5)/\aq w (wr.setCell (R D k) (eb x))):=by
    refine⟨?_,g.2.setCell (p:=R D k) (by rw[a.2];exact QE _) _⟩;rw[heap_setCell_same wr D k _ 5 _ g.1,tw];congr 2;exact kz _ _ _ λy _=>by
     by_cases e:y=k
     .simp [e]
     .simp only[al e];by_cases r:y<k
      .rw [ak r,ak J]
      .rw [al r,al J]
   clear m n;go_wp2;go_roundw
   case rel=>exact⟨k+1,by go_num,J,u⟩
   case measure=>simp[intOf];omega
  .obtain rfl:k=128:=J;clear m n;go_wp2;go_ret;refine⟨D,rfl,RN a.2,?_,g.2⟩;rw[g.1];congr 2
def Ba(w:M)(v:H)(L:Nat)(d e:aN):Prop:=
 ∃a c,v=.slice a L c/\(L=0\/∃b o,a=some (R b o)/\∀i,i<L->w.cell? ⟨b,o+i*2,none⟩=some (.int .u16 (d i:Nat))/\w.cell? ⟨b,o+i*2+1,none⟩=some (.int .u8 (e i:Nat)))
def cu(g:aA)(L:Nat)(a b:aN):bq:=⟨min L 100,λi=>a i%g.B,λi _=>b i⟩
def dF(f:dp)(k:Nat):Nat:=f (k/128) (k%128)
def BN:H->Prop
 | .slice _ n c=>n<=c
 |_=>False
structure KD(w:QA)(P G:Nat)(g:aA)(N:Nat)(lz:Bool)(f:dp)(aw:Int)(wn:Bool):Prop where
 aM:∃wv bv uv la,w.heap[P]? =some (ao #[Y g.M,Y g.c,Y g.s,Y N,.bool lz,ar G,wv,bv,uv,Y g.B,Y aw,.bool wn,.bool true,.int .u16 la,.bool false] 44)/\cA w wv (g.B*128) (dF f)/\BN wv
section
theorem xK(n:Nat)(f:aN)(i v:Nat):(az n f).set i (eb v)=az n λj=>if j=i then v else f j:=by
 apply TJ;intro j;rw[List.getElem?_set];by_cases a:j<n
 .rw [ba _ _ _ a,ba _ _ _ a,aI];by_cases e:i=j
  .subst e;simp[a]
  .rw [al e,al (Ne.symm e)]
 .rw [RF (l:=az n _) (by rw[aI];omega),RF (l:=az n _) (by rw[aI];omega),aI];by_cases e:i=j
  .rw [ak e,al J]
  .rw [al e]
def nU(n:Nat)(a sb:aN):List H:=(TQ n).flatMap λj=> [Y (a j:Nat),.slice (some ⟨sb j,0,none⟩) 128 128]
theorem hY(n:Nat)(a sb:aN):nU (n+1) a sb=nU n a sb++ [Y (a n:Nat),.slice (some ⟨sb n,0,none⟩) 128 128]:=by unfold nU;rw[UL,UY];rfl
theorem pO{a sb sb':aN}:∀{n:Nat},(∀j,j<n->sb j=sb' j)->nU n a sb=nU n a sb'
 |0,_=>rfl
 |n+1,h=>by rw[hY,hY,pO λj b=>h j J,h n J]
structure Es(g:aA)(B:bq)(f:dp)(bn n rn ab ac hb rb L0:Nat)(w:M)(i:Nat)(pl:H)(sb:aN)(W:M):Prop where
 dA:aq w W
 base:w.heap.size<=ab/\ab<L0/\hb<L0/\rb<L0/\w.heap.size<=hb/\w.heap.size<=rb/\hb≠rb/\L0<=W.heap.size
 all:W.ownsRow w.heap.size 5 1 (a' ab n ac) n (az n (dF (hW B f i)))
 has:W.heap[hb]? =some (N (bu bn fun b=> .bool (gP B i b)) 4)
 rows:W.heap[rb]? =some (N (bu rn fun r=> .bool (aZ g B i r)) 4)
 put:W.ownsRow L0 61 2 pl i (nU i B.aM sb)
 sec:∀j,j<i->L0<=sb j/\∃x,(∀k,B.da j k=x)/\W.heap[sb j]? =some (N (cw 128 fun _=>x) 5)
theorem Es.below{g:aA}{B:bq}{f:dp}{bn n rn ab ac hb rb L0:Nat}{w:M}{i:Nat}{pl:H}{sb:aN}{W b:M}(h:Es g B f bn n rn ab ac hb rb L0 w i pl sb W)(a:aq W b):Es g B f bn n rn ab ac hb rb L0 w i pl sb b:=
 ⟨h.dA.trans (a.mono h.dA.size),⟨h.base.1,h.base.2.1,h.base.2.2.1,h.base.2.2.2.1,h.base.2.2.2.2.1,h.base.2.2.2.2.2.1,h.base.2.2.2.2.2.2.1,QD h.base.2.2.2.2.2.2.2 a.size⟩,aP a h.all,(a.block _ (Z_ h.has)).trans h.has,(a.block _ (Z_ h.rows)).trans h.rows,aP a h.put,λj c=>⟨(h.sec j c).1,(h.sec j c).2.imp λ_ q=>⟨q.1,(a.block _ (Z_ q.2)).trans q.2⟩⟩⟩
structure MM(g:aA)(B:bq)(f:dp)(bn n rn ab ac hb rb L0:Nat)(w:M)(i:Nat)(pl:H)(sb:aN)(W:M):Prop where
 dA:aq w W
 base:w.heap.size<=ab/\ab<L0/\hb<L0/\rb<L0/\w.heap.size<=hb/\w.heap.size<=rb/\hb≠rb/\L0<=W.heap.size
 all:W.ownsRow w.heap.size 5 1 (a' ab n ac) n (az n (dF (hW B f i)))
 has:W.heap[hb]? =some (N (bu bn fun b=> .bool (gP B i b)) 4)
 rows:W.heap[rb]? =some (N (bu rn fun r=> .bool (aZ g B i r)) 4)
 put:W.ownsRow L0 61 2 pl (i+1) (nU (i+1) B.aM sb)
 sec:∀j,j<i+1->L0<=sb j/\∃x,(∀k,B.da j k=x)/\W.heap[sb j]? =some (N (cw 128 fun _=>x) 5)
section
variable {g:aA} {B:bq} {f:dp} {bn n rn ab ac hb rb L0 k sg x s:Nat} {w w4 w4' w5 W:QA} {pa:Option SR} {pc:Nat} {v' pl:QC} {sb:aN}
theorem Es.take(h:Es g B f bn n rn ab ac hb rb L0 w k (.slice pa k pc) sb w4)(p:L0<=sg)(q:w4.heap[sg]?=some (N (cw 128 λ_=>x) 5))(A:∀j,B.da k j=x)(d:aq w4 w4')(i:w5.ownsRow L0 61 2 v' (k+1) (nU k B.aM sb++ [Y (B.aM k:Nat),a' sg 128 128]))(a:nO s w4' (.slice pa k pc) k 1 v' w5):MM g B f bn n rn ab ac hb rb L0 w k v' (λj=>if j=k then sg else sb j) w5:=by
 have b:=h.below d;have c:∀{x T:Nat} {C:Array H} {D:Nat × Nat},w4'.heap[x]?=some (.cells C T D)->T≠61->(RR pa k pc).ownBlock≠some x:=λl r e=>by obtain⟨-,E,F,t⟩:=fw b.put e;rw[l]at t;exact r (UU (RM t)).2.1
 have G:w.heap.size<=L0:=by have:=b.base;omega
 have m:aq w w5:=a.below b.dA b.dA.size λz o=>QD G (fw b.put o).1;have K:w4'.heap.size<=w5.heap.size:=(a.below (SU L0 w4') b.base.2.2.2.2.2.2.2 λz o=>(fw b.put o).1).size;refine⟨m,?_,a.cV b.all λz o e=>?_,a.heap b.has (c b.has ai),a.heap b.rows (c b.rows ai),?_,λj u=>?_⟩
 .have:=b.base;exact⟨this.1,this.2.1,this.2.2.1,this.2.2.2.1,this.2.2.2.2.1,this.2.2.2.2.2.1,this.2.2.2.2.2.2.1,J⟩
 .have l:=(fw b.put e).1;have r:ab=z:=RM o;have:=b.base;omega
 .rw [hY,ak rfl,pO (sb':=sb) λj u=>al (WL u)];exact i
 .by_cases e:j=k
  .subst e;rw[ak rfl];have l:=(d.block _ (Z_ q)).trans q;exact⟨p,x,A,a.heap l (c l ai)⟩
  .rw [al e];obtain⟨L,y,O,v⟩:=b.sec j J;exact⟨L,y,O,a.heap v (c v ai)⟩
theorem MM.fin(h:MM g B f bn n rn ab ac hb rb L0 w k pl sb w5)(d:Out (λz=>z=ab) w5 W)(i:W.ownsRow w.heap.size 5 1 (a' ab n ac) n (az n (dF (hW B f (k+1)))))(A:B.aM k<bn)(C:g.row (B.aM k)<rn):
  Es g B f bn n rn ab ac hb rb L0 w (k+1) pl sb ((W.setCell ⟨hb,B.aM k,none⟩ ec).setCell ⟨rb,g.row (B.aM k),none⟩ ec)/\W.heap[hb]?=some (N (bu bn λb=>.bool (gP B k b)) 4)/\W.heap[rb]?=some (N (bu rn λr=>.bool (aZ g B k r)) 4):=by
 have a:=h.base;have q:hb≠ab:=λe=>by have l:=h.has;rw[e]at l;obtain⟨-,D,E,c⟩:=fw h.all (show(a' ab n ac).ownBlock=some ab from rfl);rw[l]at c;exact absurd (UU (RM c)).2.1 ai
 have t:rb≠ab:=λe=>by have l:=h.rows;rw[e]at l;obtain⟨-,D,E,c⟩:=fw h.all (show(a' ab n ac).ownBlock=some ab from rfl);rw[l]at c;exact absurd (UU (RM c)).2.1 ai
 have u:=d.heap h.has q;have v:=d.heap h.rows t;have F:=heap_setCell_same W hb (B.aM k) _ 4 ec u;have G:=(RJ W ⟨hb,B.aM k,none⟩ rb ec (Ne.symm a.2.2.2.2.2.2.1)).trans v;have K:=heap_setCell_same _ rb (g.row (B.aM k)) _ 4 ec G;have x4:=(RJ _ ⟨rb,g.row (B.aM k),none⟩ hb ec a.2.2.2.2.2.2.1).trans F;have m:Out (λz=>z=hb\/z=rb) W ((W.setCell ⟨hb,B.aM k,none⟩ ec).setCell ⟨rb,g.row (B.aM k),none⟩ ec):=((Out.refl (λz=>z=hb\/z=rb) W).setCell (p:=⟨hb,B.aM k,none⟩) (λ_=>.inl rfl) _).setCell (p:=⟨rb,g.row (B.aM k),none⟩) (λ_=>.inr rfl) _;refine⟨⟨?_,⟨a.1,a.2.1,a.2.2.1,a.2.2.2.1,a.2.2.2.2.1,a.2.2.2.2.2.1,a.2.2.2.2.2.2.1,QD (QD a.2.2.2.2.2.2.2 d.size) m.size⟩,m.own i λz o e=>?_,?_,?_,?_,λj L=>?_⟩,u,v⟩
 .refine ((h.dA.trans (d.below (λz _ e=>?_) h.dA.size))).trans (m.below (λz _ e=>?_) (QD h.dA.size d.size))
  .rw [e];exact a.1
  .rcases e with e|e<;>rw[e]
   .exact a.2.2.2.2.1
   .exact a.2.2.2.2.2.1
 .have c:ab=z:=RM o;rcases e with e|e
  .exact q (e.symm.trans c.symm)
  .exact t (e.symm.trans c.symm)
 .rw [x4,eQ];congr 2;apply congrArg;funext b;rw[gP];by_cases e:b=B.aM k
  .rw [ak e,e];simp
  .rw [al e,show(B.aM k==b)=false from beq_eq_false_iff_ne.2 (Ne.symm e),Bool.false_or]
 .rw [K,eQ];congr 2;apply congrArg;funext r;rw[aZ];by_cases e:r=g.row (B.aM k)
  .rw [ak e,e];simp
  .rw [al e,show(g.row (B.aM k)==r)=false from beq_eq_false_iff_ne.2 (Ne.symm e),Bool.false_or]
 .refine m.own (d.own h.put λz o e=>?_) λz o e=>?_
  .have:=(fw h.put o).1;omega
  .have:=(fw h.put o).1;rcases e with e|e<;>omega
 .obtain ⟨O,y,P,Q⟩:=h.sec j L;exact⟨O,y,P,m.heap (d.heap Q J) (λe=>by rcases e with e|e<;>omega)⟩
end
theorem Et(n:Nat)(a sb:aN){j:Nat}(d:j<n):(nU n a sb)[j*2]?=some (Y (a j:Nat))/\(nU n a sb)[j*2+1]?=some (.slice (some ⟨sb j,0,none⟩) 128 128):=by
 have b:∀n,(nU n a sb).length=n*2:=λn=>by
  induction n with
  |zero=>rfl
  |succ n c=>rw[hY,QU,c];simp;omega
 induction n with
 |zero=>omega
 |succ n c=>
  rw[hY];by_cases e:j=n
  .subst e;rw[RA (by rw[b];omega),RA (by rw[b];omega),b,Nat.sub_self,show j*2+1-j*2=1 by omega];exact⟨rfl,rfl⟩
  .rw [RD (by rw[b];omega),RD (by rw[b];omega)];exact c J
theorem Es.NT{g:aA}{B:bq}{f:dp}{bn n rn ab ac hb rb L0 i:Nat}{w W:M}{pl:H}{sb:aN}(h:Es g B f bn n rn ab ac hb rb L0 w i pl sb W)(o:i=B.n):fj W pl B:=by
 subst o;rcases h.put.2 with⟨e,d⟩|⟨p,b,a,e,-,q,r,A,C,t⟩
 .exact ⟨none,0,by rw[e,d],J,.inl d⟩
 .refine ⟨_,b,e,r,.inr ⟨p,0,a,_,rfl,q,λj l=>?_⟩⟩;have m:∀k,k<B.n*2->a[k]?=(nU B.n B.aM sb)[k]?:=λk c=>by rw[<-t,SX,ak c];simp
  obtain⟨u,v⟩:=Et B.n B.aM sb l;obtain⟨-,x,y,z⟩:=h.sec j l;rw[RE];refine⟨(m _ J).trans u,_,(m _ J).trans v,sb j,0,128,_,_,rfl,QE _,z,λk c=>?_⟩;rw[RE,dV _ _ _ c,y k]
theorem vv(w:M)(n:Nat)(h:n<=1000000):(SY 56 (Y (n:Int)) (Y (n:Int))).run prog w=.ok (a' w.heap.size n n) (w.alloc (N (bu n λ_=>.bool false) 4)):=by
 obtain⟨d,j,a,b,c⟩:=SB Ig;have:=run_make (P:=prog) w 56 4 d iL underlying56 j a .i64 .i64 n n J J (by rw[c];omega) J;rw[this,b,TX];show YT _ (w.alloc (N (TN #[.bool false] n) 4))=_;have e:TN #[.bool false] n=bu n λ_=>.bool false:=by
  apply Array.ext
  .simp [TN,bu]
  .intro i l m;have:i%1=0:=YE i;simp[TN,bu,this]
 rw[e];rfl
theorem aA.JM{g:aA}(h:g.ok):g.B<=65536:=by have a:=h.m16;unfold aA.B aA.E;exact QD (TG h.iS (TG (show g.M-1<=16 by omega) h.tC)) ai
theorem aA.Eu{g:aA}(h:g.ok):1<=g.B:=by have a:=h.m3;unfold aA.B aA.E;exact TG h.s1 (TG (show 1<=g.M-1 by omega) h.c1)
theorem lV(g:aA)(B:bq):∀n,n<=100->gh g B n<=2*n
 |0,_=>QE _
 |n+1,h=>by have:=lV g B n J;unfold gh;split<;>split<;>omega
theorem JN:(prog.info? 61).map (λi=>(i.zero,i.size,i.bytes))=some (some (.agg #[Y 0,aO]),2,32):=aE
theorem zi(P G:Nat)(g:aA)(N:Nat)(n6:Bool)(f:dp)(n7:Int)(n8:Bool)(m0:QC)(L:Nat)(m l:aN)(w:QA)(h:KD w P G g N n6 f n7 n8)(h8:g.ok)(h9:Ba w m0 L m l)(m1:L<=20000)(i0:∀i,i<L->m i<65536):
  aF 23 #[ar P,m0] w λe i1=>∃pv i2,aL e (.tuple #[pv,i2,ae (2*gh g (cu g L m l) (cu g L m l).n+1:Nat)])/\fj i1 pv (cu g L m l)/\cA i1 i2 (g.B*128) (dF (hW (cu g L m l) f (cu g L m l).n))/\aq w i1/\BN i2:=by
 obtain⟨n9,i3,i4,a0,i5⟩:=SB kg;obtain⟨s0,s1,s2,s3,d8,a1,o0⟩:=h.aM;obtain⟨s4,wc,rfl,m2⟩:=a1;have i6:=aA.Eu h8;have i7:=aA.JM h8;obtain⟨b5,o5,i8,i9,rfl,e0,a2⟩:=m2.resolve_left aa;obtain⟨B,j0⟩:=ah g.B;obtain⟨n,j1⟩:=ah (B*128);rw[j0]at d8 a2 i6 i7;rw[j1]at d8 a2;have j2:QX (∀j u,(az n (dF f))[j]?=some u->w.cell? (((ag b5 o5):SR).add j)=some u):=λj u b3=>by
  by_cases f0:j<n
  .rw [ba _ _ _ f0]at b3;rw[iQ,<-b3];exact(QS w b5 (o5+j) i8 5 i9 e0).trans (a2 j f0)
  .rw [RF (by rw[aI];omega)]at b3;cases b3
 obtain⟨p1,p2,p3⟩:=cr d8;have o1:∀w:QA,(SY 56 (ae (B:Int)) (ae (B:Int))).run prog w=.ok (a' w.heap.size B B) (w.alloc (ao (bu B λ_=>.bool false) 4)):=λw=>vv w B aa;have j3:=aA.iJ h8;obtain⟨R,b7⟩:=ah g.R;rw[b7]at j3;have m3:∀w:QA,(SY 56 (ae (R:Int)) (ae (R:Int))).run prog w=.ok (a' w.heap.size R R) (w.alloc (ao (bu R λ_=>.bool false) 4)):=λw=>vv w R aa;have s5:QG.wrap ((g.s:Int)*(g.c:Nat))=((R:Nat):Int):=by rw[show(g.s:Int)*(g.c:Nat)=((R:Nat):Int)by rw[<-b7];unfold aA.R;rw[TK]];go_arith
 have K:=nh d8 h8 h9 m1 j0 j1 b7;obtain⟨j4,o2,U,f1⟩:=id h9;rw[U];have o3:=ad U;have b8:=ad (Z_ d8);have f2:QX (∀wr,aq w wr->∀i,i<L->∃b o,j4=some (ag b o)/\wr.cell? ⟨b,o+i*2,none⟩=some (.int .u16 (m i:Nat))/\wr.cell? ⟨b,o+i*2+1,none⟩=some (.int .u8 (l i:Nat))):=λwr hb i m4=>by obtain⟨b,o,e,q⟩:=f1.resolve_left aa;exact⟨b,o,e,(Out.af (S:=λ_=>False) hb).cell (q i m4).1 id,(Out.af (S:=λ_=>False) hb).cell (q i m4).2 id⟩
 clear f1;have m5:n<=8388608:=aa;have o4:0<n:=aa;clear h m2 e0 a2 d8 h9 m1 U j1 b7 j0;obtain⟨c,a,d⟩:=g;go_enter func23,ntmps23;go_wp2_with(first
  |(at_builtin;refine aU _ rfl _ _ 41 rfl w.heap.size 5 n9 (.int .u8 0) 1 1 UO i3 i4 a0 i5 rfl ai aO 0 [] rfl (SD _ _ _ _) (ag b5 o5) n _ (az n (dF f)) rfl (by rw[aI,TX]) j2 (dr _ _) aa (by unfold UE;omega) aa (QE _) ?_;intro v' w1 v A
    simp only[RE,UN]at v A;have a3:aq w w1:=A.below aj (QE _) (λk j5=>by cases j5);obtain⟨⟨ac,rfl⟩,-⟩:=A.resolve_left (by rintro⟨s6,o6,e,-⟩;cases e);simp only[RE]at v;obtain⟨Q,q2,q3⟩:=kp a3 P p3;have H1:=aB v a3;have j6:QX (aX w1 P _):=(a3.block P p3).trans K.1;clear v A a3))
 obtain⟨w2,V⟩:=ah (w1.alloc (ao (bu B λ_=>.bool false) 4));have a4:aq w1 w2:=by rw[<-V];exact aK aj _
 have f3:aX w2 w1.heap.size (ao (bu B λ_=>.bool false) 4):=by rw[<-V];exact QB _ _
 have f4:w2.heap.size=w1.heap.size+1:=by rw[<-V];simp
 rw[V];clear V Q q2;obtain⟨Q,q2,q4⟩:=kp a4 P q3;have b9:=(a4.block P q3).trans j6;obtain⟨r1,r2,r3⟩:=cr b9;have H2:=aY a4 f3 f4 b9;clear a4 f3 f4 b9 Q q2 q3 q4 p1 p3;go_region;obtain⟨w3,X⟩:=ah ((w2.alloc (ao (bu R λ_=>.bool false) 4)).drew);have c0:aq w2 w3:=by rw[<-X];exact a_ (aK aj _)
 have f5:aX w3 w2.heap.size (ao (bu R λ_=>.bool false) 4):=by rw[<-X];exact QB _ _
 have j7:w3.heap.size=w2.heap.size+1:=by rw[<-X];simp
 rw[X];have a0:=Z_ H2.2.1;have f6:=H1.2.size;have Z:=H2.1.trans (c0.mono H2.1.size);obtain⟨ab,a5⟩:=ah w.heap.size;obtain⟨hb,c1⟩:=ah w1.heap.size;obtain⟨rb,c2⟩:=ah w2.heap.size;have f7:ab<w1.heap.size:=by obtain⟨-,cs,fr,q⟩:=fw H1.1 (show(a' w.heap.size n ac).ownBlock=some w.heap.size from rfl);rw[<-a5];exact Z_ q
 have c3:QX (Es ⟨c,a,d⟩ (cu ⟨c,a,d⟩ L m l) f B n R ab ac hb rb w3.heap.size w 0 aO (λ_=>0) w3):=by
  refine⟨H1.2.trans (Z.mono f6),⟨aa,aa,aa,aa,aa,aa,aa,QE _⟩,?_,?_,?_,SD _ _ _ _,λj b3=>aa⟩
  .rw [<-a5];exact aP Z H1.1
  .rw [<-c1];exact(c0.block _ a0).trans H2.2.1
  .rw [<-c2];exact f5
 simp only[a5,c1,c2];obtain⟨L0,f8⟩:=ah w3.heap.size;rw[f8]at c3;clear c0 f5 j7 X a0 f6 Z c1 c2 f7 r1 f8 a5;have m6:QX ((cu ⟨c,a,d⟩ L m l).n=min L 100):=rfl;go_wp2;go_loopw [7,11,12] (λpl o7 i wr=>∃(k:Nat) (sb:aN),i= ae k/\k<=min L 100/\o7= ae (gh ⟨c,a,d⟩ (cu ⟨c,a,d⟩ L m l) k:Nat)/\QX (Es ⟨c,a,d⟩ (cu ⟨c,a,d⟩ L m l) f B n R ab ac hb rb L0 w k pl sb wr)) (λ_ _ i _=>min L 100-(intOf i).toNat)
 case atStart=>exact⟨0,λ_=>0,rfl,QO _,rfl,c3⟩
 case round=>
  clear c3;obtain⟨k,sb,rfl,j5,rfl,c4⟩:=hrel;have a6:=(c4.dA.block P b8).trans K.1;obtain⟨p1,p2,p3⟩:=cr a6;by_cases c5:k<min L 100
  .have a7:k<L:=aa;have o8:(k:Int)<(L:Int):=aa;have o9:(k:Int)<100:=aa;obtain⟨s7,s8,rfl,x1,x2⟩:=f2.out wr c4.dA k a7;have p0:WW ((m k:Nat):Int)=((m k:Nat):Int):=by have:=i0 k a7;go_arith
   obtain⟨r,a8⟩:=ah (m k%B);have c6:r<B:=by rw[<-a8];exact SC _ aa
   have f9:QX ((cu ⟨c,a,d⟩ L m l).aM k=r):=by show m k%aA.B ⟨c,a,d⟩=_;rw[K.2.2.2.2.1,a8]
   have g0:QX (B*128=n):=K.2.2.2.2.2.1;have p5:((m k:Nat):Int).tmod (B:Nat)=((r:Nat):Int):=by rw[<-a8];exact VL _ _
   have m7:=aT c5 a7 a6;clear a6 c5 a8;go_wp2;go_quiet(fail);have a9:aq wr (wr.drewN nq):=cK aj _;obtain⟨m8,g1⟩:=ah (wr.drewN nq);rw[g1]at a9|-;have b0:=ad (c4.below a9);obtain⟨y1,y2,y3⟩:=kp a9 P p3;obtain⟨p6,p7,j8,x3,x4⟩:=f2.out m8 b0.dA k a7;cases j8;have j9:=ad (rH (l k) m8);obtain⟨pa,pc,rfl,-⟩:=au b0.put;clear g1 a9 p1 p3 x1;obtain⟨p8,k0,l0,l1,l2⟩:=SB JN;go_wp2_with(first
    |(go_at_call 17;refine j9.mono ?_;rintro e w4 ⟨sg,rfl,g2,g3,c7⟩
      have H4:=aY g2 g3 c7 (b0.below c7);clear g2 g3 c7)
    |(at_builtin;refine aU _ rfl _ _ 48 rfl L0 61 p8 (.agg #[ae 0,aO]) 2 32 underlying48 k0 l0 l1 l2 rfl ai (.slice pa k pc) k _ rfl (aP (aK aj _) H4.2.2.2.put) (ag w4.heap.size 0) 1 1 [ae r,a' sg 128 128] rfl rfl (RW (cs:= #[ae r,a' sg 128 128]) (t:=61) (fr:=(0,0)) (QB w4 _)) (by intro u m9;simp at m9;rcases m9 with rfl|rfl<;>rfl) ai (by unfold UE;omega) aa (QD H4.2.2.2.base.2.2.2.2.2.2.2 (aK aj _).size) ?_;intro v' w5 v A
      obtain⟨s9,t0,rfl,-⟩:=au v;rw[<-f9.out]at v;have d9:=Es.take H4.2.2.2 (QD b0.base.2.2.2.2.2.2.2 H4.1) H4.2.1 (λ_=>rfl) (aK aj _) v A;have H5:=ad d9;have c8:=(d9.dA.block P b8).trans K.1;obtain⟨p1,p2,p3⟩:=cr c8;have l3:=ad c8;clear v A d9 c8 y3 x3 x4))
   obtain⟨n0,rfl⟩:∃n0:QA,n0=wr:=⟨_,rfl⟩;have g4:QX (Out (λz=>z=ab) w5 w5/\w5.ownsRow w.heap.size 5 1 (a' ab n ac) n (az n λj=>if r*128<=j/\j<r*128+0 then l k else dF (hW (cu ⟨c,a,d⟩ L m l) f k) j)):=by refine⟨Out.refl _ _,?_⟩;rw[ed (g:=dF (hW (cu ⟨c,a,d⟩ L m l) f k)) λj b3=>al aa];exact H5.all
   clear p5 p0 p1;go_loopw [15] (λj g5=>∃q:Nat,j= ae q/\q<=128/\QX (Out (λz=>z=ab) w5 g5/\g5.ownsRow w.heap.size 5 1 (a' ab n ac) n (az n λj=>if r*128<=j/\j<r*128+q then l k else dF (hW (cu ⟨c,a,d⟩ L m l) f k) j))) (λj _=>128-(intOf j).toNat)
   case atStart=>exact⟨0,rfl,aa,g4⟩
   case round=>
    clear g4;obtain⟨q,rfl,p9,c9⟩:=hrel;by_cases T:q<128
    .have b1:(q:Int)<128:=aa;obtain⟨-,q0,l4,H⟩:=H5.sec k (TI k);rw[ak rfl]at H;have l5:q0=l k:=(l4 0).symm;rw[l5]at H;have l6:=c9.1.heap H (by have h1:=H5.base;have h2:=(H5.sec k (TI k)).1;rw[ak rfl]at h2;show¬sg=ab;omega);have z1:=((cr l6).1 q).trans (dV 128 _ q T);obtain⟨M,q5⟩:=ah (r*128+q);have l7:M<n:=by have:=g0.out;omega
     have d0:=ow c9.2 (k:=M) (u:=_) (ba n _ M l7);obtain⟨z2,z3⟩:=d0;have e1:QG.wrap ((r:Int)*128)=((r*128:Nat):Int):=by have:=g0.out;go_arith
     have e2:QG.wrap (((r*128:Nat):Int)+(q:Nat))=((M:Nat):Int):=by rw[show(((r*128:Nat):Int)+(q:Nat))=((M:Nat):Int)by omega];go_arith
     have m6:QX (Out (λz=>z=ab) w5 (wr.setCell (ag ab M) (.int .u8 (l k:Nat)))/\(wr.setCell (ag ab M) (.int .u8 (l k:Nat))).ownsRow w.heap.size 5 1 (a' ab n ac) n (az n λj=>if r*128<=j/\j<r*128+(q+1)then l k else dF (hW (cu ⟨c,a,d⟩ L m l) f k) j)):=by
      refine⟨c9.1.setCell (p:=ag ab M) (λ_=>rfl) _,?_⟩;have:=Fw c9.2 M (.int .u8 (l k:Nat));rw[xK]at this;rw[ed (g:=λj=>if j=M then l k else if r*128<=j/\j<r*128+q then l k else dF (hW (cu ⟨c,a,d⟩ L m l) f k) j) λj b3=>?_]
      .exact this
      .by_cases e:j=M
       .rw [ak e,ak aa]
       .rw [al e];by_cases e2:r*128<=j/\j<r*128+q
        .rw [ak e2,ak aa]
        .rw [al e2,al aa]
     go_wp2;exact⟨⟨q+1,by go_num,aa,m6⟩,by simp[intOf];omega⟩
    .obtain rfl:q=128:=aa;clear T p9;have y:(cu ⟨c,a,d⟩ L m l).aM k=r:=f9.out;have b4:wr.ownsRow w.heap.size 5 1 (a' ab n ac) n (az n (dF (hW (cu ⟨c,a,d⟩ L m l) f (k+1)))):=by
      rw[ed (g:=λj=>if r*128<=j/\j<r*128+128 then l k else dF (hW (cu ⟨c,a,d⟩ L m l) f k) j) λj b3=>?_]
      .exact c9.2
      .unfold dF;rw[hW,y];by_cases e:r=j/128
       .rw [ak e,ak aa];rfl
       .rw [al e,al aa]
     have I:aA.B ⟨c,a,d⟩=B:=K.2.2.2.2.1;have g6:aA.R ⟨c,a,d⟩=R:=K.2.2.2.2.2.2;have g7:aA.row ⟨c,a,d⟩ r<R:=by rw[<-g6];exact aA.iU K.2.1 (by rw[I];exact c6)
     obtain⟨D,O⟩:=ah (aA.row ⟨c,a,d⟩ r);rw[O]at g7;have C:=aY b4 y g7 O;have g8:=c9.1.heap l3 (by have h1:=H5.base;have h2:=b8.out;show¬P=ab;omega);obtain⟨p1,p2,p4⟩:=cr g8;have l8:=H5.base.2.2.2.2.2.2.1;have n1:=Ne.symm l8;have g9:=K.2.1.m16;have b6:=K.2.1.tC;have l9:=K.2.1.m3;have h0:=K.2.1.c1;clear b4 I g6 g8 y;simp only at g9 b6 l9 h0;obtain⟨E,h3⟩:=ah ((c-1)*a);have q6:1<=E:=by rw[<-h3];exact TG (show 1<=c-1 by omega) h0
     have q7:E<=240:=by rw[<-h3];exact TG (show c-1<=15 by omega) b6
     have e3:QG.wrap ((c:Int)-1)=((c-1:Nat):Int):=by rw[show(c:Int)-1=((c-1:Nat):Int)by omega];go_arith
     have e4:QG.wrap (((c-1:Nat):Int)*(a:Nat))=((E:Nat):Int):=by rw[show(((c-1:Nat):Int)*(a:Nat))=((E:Nat):Int)by rw[<-h3,TK]];go_arith
     have h4:r/E*a+r%E%a=D:=by rw[<-O,<-h3];rfl
     obtain⟨Q,b2⟩:=ah (r/E);obtain⟨q2,T⟩:=ah (r%E);obtain⟨q3,b1⟩:=ah (q2%a);obtain⟨q4,d1⟩:=ah (Q*a);rw[b2,T,b1,d1]at h4;have e5:((r:Nat):Int).tdiv (E:Nat)=((Q:Nat):Int):=by rw[<-b2];exact Int.ofNat_tdiv _ _
     have e6:((r:Nat):Int).tmod (E:Nat)=((q2:Nat):Int):=by rw[<-T];exact VL _ _
     have e7:((q2:Nat):Int).tmod (a:Nat)=((q3:Nat):Int):=by rw[<-b1];exact VL _ _
     have n2:Q<=65536:=by rw[<-b2];exact QD (Nat.div_le_self _ _) aa
     have n3:D<=4096:=aa;have e8:QG.wrap (((Q:Nat):Int)*(a:Nat))=((q4:Nat):Int):=by rw[show(((Q:Nat):Int)*(a:Nat))=((q4:Nat):Int)by rw[<-d1,TK]];go_arith
     have e9:QG.wrap (((q4:Nat):Int)+(q3:Nat))=((D:Nat):Int):=by rw[show(((q4:Nat):Int)+(q3:Nat))=((D:Nat):Int)by omega];go_arith
     have q8:QG.wrap ((Q:Nat):Int)=((Q:Nat):Int):=bs;have q9:¬(E:Int)=0:=aa;have r0:¬(a:Int)=0:=aa;clear b2 T b1 d1 h4 h3 O;go_wp2;go_quiet(fail);obtain⟨wc,d2⟩:=ah (wr.drewN nq);have d3:aq wr wc:=by rw[<-d2];exact cK aj _
     rw[d2];obtain⟨r1,r2,r3⟩:=kp d3 P p4;clear d2;go_wp2;go_quiet(fail);obtain⟨r4,d4⟩:=ah (wc.drewN nq);have d5:aq wr r4:=by rw[<-d4];exact via d3 (cK aj _)
     rw[d4];have y:=C.2.1;obtain⟨hF,d9,b7⟩:=MM.fin H5 (c9.1.then d5) (aP d5 C.1) (by rw[y];exact c6) (by rw[y,C.2.2.2];exact C.2.2.1);rw[y,C.2.2.2]at hF;have r5:=ad hF;obtain⟨k1,k2,k3⟩:=cr d9;obtain⟨k4,k5,k6⟩:=cr b7;have k7:=(k1 r).trans (cg _ _ _ c6);have k8:=(k4 D).trans (cg _ _ _ C.2.2.1);have k9:=k2 r;have r6:=k5 D;have gU:gh ⟨c,a,d⟩ (cu ⟨c,a,d⟩ L m l) (k+1)=gh ⟨c,a,d⟩ (cu ⟨c,a,d⟩ L m l) k+(if gP (cu ⟨c,a,d⟩ L m l) k r=true then 0 else 1)+if aZ ⟨c,a,d⟩ (cu ⟨c,a,d⟩ L m l) k D=true then 0 else 1:=by rw[gh,y,C.2.2.2]
     have h5:=ad gU;have h6:gh ⟨c,a,d⟩ (cu ⟨c,a,d⟩ L m l) k<=200:=QD (lV _ _ _ aa) aa;obtain⟨Y,F⟩:=ah (gh ⟨c,a,d⟩ (cu ⟨c,a,d⟩ L m l) k);rw[F]at h6 h5;simp only[F];have r7:QG.wrap ((Y:Int)+1)=((Y+1:Nat):Int):=bs;have r8:QG.wrap (((Y+1:Nat):Int)+1)=((Y+2:Nat):Int):=bs;clear d4 d3 d5 hF d9 b7 k1 k2 k4 k5 y gU F r1;cases d6:gP (cu ⟨c,a,d⟩ L m l) k r<;>cases d7:aZ ⟨c,a,d⟩ (cu ⟨c,a,d⟩ L m l) k D
     all_goals
      rw[d6]at k7;rw[d7]at k8;have n4:=aB d6 d7;clear d6 d7;go_wp2
     all_goals exact⟨⟨k+1,_,by go_num,m7.1,by rw[h5.out,n4.1,n4.2];simp<;>omega,r5⟩,by have:=m7.1;simp[intOf];omega⟩
  .obtain rfl:k=min L 100:=aa;obtain⟨Y,F⟩:=ah (gh ⟨c,a,d⟩ (cu ⟨c,a,d⟩ L m l) (min L 100));have h6:Y<=200:=by rw[<-F];exact QD (lV _ _ _ aa) aa
   have r9:QG.wrap (2*(Y:Int))=((2*Y:Nat):Int):=by rw[show 2*(Y:Int)=((2*Y:Nat):Int)by omega];go_arith
   have a1:cA wr (a' ab n ac) n (dF (hW (cu ⟨c,a,d⟩ L m l) f (min L 100))):=gj c4.all;have I:aA.B ⟨c,a,d⟩*128=n:=by rw[show aA.B ⟨c,a,d⟩=B from K.2.2.2.2.1];exact K.2.2.2.2.2.1
   have n5:QX (fj wr u7 (cu ⟨c,a,d⟩ L m l)/\cA wr (a' ab n ac) (aA.B ⟨c,a,d⟩*128) (dF (hW (cu ⟨c,a,d⟩ L m l) f (cu ⟨c,a,d⟩ L m l).n))/\aq w wr/\BN (a' ab n ac)):=⟨c4.NT rfl,by rw[I];exact a1,c4.dA,by obtain⟨t1,o6,Q,q2,-⟩:=eP c4.all;cases Q;exact q2⟩;have h7:QX (gh ⟨c,a,d⟩ (cu ⟨c,a,d⟩ L m l) (cu ⟨c,a,d⟩ L m l).n=Y):=F;rw[F];clear a1 I a6 F c5 j5 p1;by_cases e:L<=100
   .have J:min L 100=L:=WM e;simp only[J];clear J e;go_wp2;go_ret3;rw[h7.out];exact⟨_,_,rfl,n5⟩
   .have J:min L 100=100:=Nat.min_eq_right aa;have h1:(100:Int)<(L:Int):=aa;have h2:100<L:=aa;simp only[J];clear J e;go_wp2;go_ret3;rw[h7.out];exact⟨_,_,rfl,n5⟩
end
def PN:Option Nat->Int
 |none=> -1
 |some m=>(m:Nat)
def TP:List Nat:=44::eG
structure nF[Lo](w:M)(P G:Nat)(Z:bm)(g:aA)(a:Int)(aw:Option Nat)(V:cH)(C:Nat)(wn:Bool):Prop where
 pl:KD w P G g Z.N Z.lz (cR g V) a wn
 iw:bX w G Z g
 inv:∃s u,Inv w Z g aw V C s u
 lo:Lo.lo<=P
theorem KD.fr[Lo]{a:Bool}(h:KD w n m g k d F c a)(b:Fr T aG w W)(e:T.contains 44=false)(f:T.contains 5=false):KD W n m g k d F c a:=by obtain⟨i,j,l,o,p,q,r⟩:=h.aM;exact⟨i,j,l,o,b.hp p e,q.fr b f,r⟩
abbrev qB[Lo](w:M)(P G:Nat)(Z:bm)(g:aA)(a:Option Nat)(V:cH)(C:Nat)(b:Bool):Prop:=nF w P G Z g (PN a) a V C b
theorem nF.below[Lo]{Z:bm}{b:Option Nat}{V:cH}(h:nF w n m Z g c b V C d)(a:aq w W):nF W n m Z g c b V C d:=
 ⟨h.pl.fr (T:= []) (Fr.af a) rfl rfl,(a.block _ (Z_ h.iw)).trans h.iw,by obtain⟨s,u,q⟩:=h.inv;exact⟨s,u,q.below a⟩,h.lo⟩
def Bb[Lo](Z:bm)(g:aA)(a:Option Nat)(V:cH)(C:Nat)(d e:Rs->Su->Prop)(b:bq)(c:Nat)(W:M):Prop:=
 if 2*b.c_ g+1>Z.N then c=122/\∃s u,Inv W Z g a V (C-250000) s u/\d s u else c=0/\∃s u,Inv W Z g a (b.fQ g V) (C-250000) s u/\e s u
theorem Bb.stay[Lo]{Z:bm}{c:Option Nat}{V:cH}{d f:Rs->Su->Prop}(h:Bb Z g c V C d f K n W)(i:Fr [46] aG W w):Bb Z g c V C d f K n w:=by
 unfold Bb at h|-;split
 .rename_i e;rw[ak e]at h;obtain⟨b,s,u,a⟩:=h;exact⟨b,s,u,a.1.fr i rfl,a.2⟩
 .rename_i e;rw[al e]at h;obtain⟨b,s,u,a⟩:=h;exact⟨b,s,u,a.1.fr i rfl,a.2⟩
theorem Bb.ct[Lo]{Z:bm}{c:Option Nat}{V:cH}{d e:Rs->Su->Prop}(h:Bb Z g c V C d e K n W):∃b,aC W Z.B b:=by
 unfold Bb at h;split at h
 .obtain ⟨-,s,u,a⟩:=h;exact⟨_,a.1.ay.rs.ct⟩
 .obtain ⟨-,s,u,a⟩:=h;exact⟨_,a.1.ay.rs.ct⟩
theorem Ev[Lo]{Z:bm}{k:Option Nat}{V:cH}(A:bX w n Z g)(o:Inv w Z g k V C s u){l p:Rs->Su->Prop}(H:XH g k K l p)(G:l s u)(O:1000000<=C)(P:K.ok g)(Q:K.n<=256)(B:fj w x K):
  aF 11 #[ar n,fO 2 0 0 0 x aO] w λe q=>∃b f,aL e (dw b aO f)/\Fr eG aG w q/\Bb Z g k V C l p K b q:=by
 refine(pN w n 31 true 2 0 0 0 x aO Z g (λb v W=>v= aO/\Bb Z g k V C l p K b W) aJ rfl A ⟨_,o.ay.rs.ct⟩ (λW z=>?_) (λb v W h=>h.2.ct) (λb v W L h D=>⟨h.1,h.2.stay D⟩) o.low).mono ?_
 .refine (rG n Z g 2 0 0 0 x aO W (λb W=>Bb Z g k V C l p K b W) ((z.block _ (Z_ A)).trans A) ⟨λL r=>?_,λb X N h D=>h.stay D,QD o.low z.size⟩).mono λe q ⟨b,i,d,t⟩=>⟨b,none,0,0,i,d,rfl,t⟩;have j:=(o.below z).below r;refine(Ek Z g k V C s u K x L j O P Q ((B.below z).below r) l p H G).mono ?_;intro e q y;unfold NS at y;rw[o.v_.1]at y;unfold Bb;split at y
  .rename_i E;obtain⟨i,d⟩:=y;exact⟨122,i,Fr.af d,by rw[ak E];exact⟨rfl,s,u,(j.below d).less (Nat.sub_le _ _),G⟩⟩
  .rename_i E;obtain⟨i,S,T,d,F,t⟩:=y;exact⟨0,i,j.ay.wide t,by rw[al E];exact⟨rfl,S,T,d,F⟩⟩
 .rintro e q ⟨b,a,m,c,f,i,d,t,U⟩;exact⟨b,f,by rw[i,t],d,U⟩
theorem vw(b:g.ok){L:Nat}{bk a:aN}(c:∀i,i<L->a i<256):(cu g L bk a).ok g/\(cu g L bk a).n<=100:=
 ⟨⟨λi _=>SC _ (aA.Eu b),λi d k _=>c i (RL d (ZF _ _))⟩,Nat.min_le_right _ _⟩
theorem qB.pP[Lo]{Z:bm}{b:Option Nat}{V:cH}{e:Int}(f:bX w m Z g)(i:∃s u,Inv w Z g b V C s u)(a:Fr [44] aG w W)(j:aX W n (ao #[Y g.M,Y g.c,Y g.s,Y Z.N,.bool Z.lz,ar m,v,x,y,Y g.B,Y c,.bool d,.bool true,.int .u16 e,.bool false] 44))(k:cA w v (g.B*128) (dF (cR g V)))(l:BN v)(o:Lo.lo<=n):nF W n m Z g c b V C d:=
 ⟨⟨v,x,y,e,j,k.fr a rfl,l⟩,a.hp f rfl,by obtain⟨s,u,h⟩:=i;exact⟨s,u,h.fr a rfl⟩,o⟩
theorem qB.LV[Lo]{Z:bm}{a:Option Nat}{V:cH}{b:Int}(e:bX w m Z g)(f:∃s u,Inv w Z g a V C s u)(h:aX w n (ao #[Y g.M,Y g.c,Y g.s,Y Z.N,.bool Z.lz,ar m,v,x,y,Y g.B,Y c,.bool d,.bool true,.int .u16 b,.bool false] 44))(i:cA w v (g.B*128) (dF (cR g V)))(j:BN v)(k:Lo.lo<=n):nF w n m Z g c a V C d:=qB.pP e f (Fr.refl _ _ _) h i j k
theorem qB.zj[Lo]{X:Rs->Su->Prop}{Z:bm}{a:Option Nat}{V:cH}{e:Int}(f:bX w m Z g)(i:∃s u,Inv w Z g a V C s u/\X s u)(b:Fr [44] aG w W)(j:aX W n (ao #[Y g.M,Y g.c,Y g.s,Y Z.N,.bool Z.lz,ar m,v,x,y,Y g.B,Y c,.bool d,.bool true,.int .u16 e,.bool false] 44))(k:cA w v (g.B*128) (dF (cR g V)))(l:BN v)(o:Lo.lo<=n):nF W n m Z g c a V C d/\∃s u,Inv W Z g a V C s u/\X s u:=by obtain⟨s,u,h,p⟩:=i;exact⟨qB.pP f ⟨s,u,h⟩ b j k l o,s,u,h.fr b rfl,p⟩
theorem Ha[Lo](P G:Nat)(Z:bm)(g:aA)(a:Int)(E:Option Nat)(V:cH)(C:Nat)(a7:Bool)(a8:QC)(L:Nat)(bk U:aN)(w:QA)(h:nF w P G Z g a E V C a7)(c7:1000000<=C)(c8:Ba w a8 L bk U)(c9:L<=20000)(a9:∀i,i<L->bk i<65536)(b0:∀i,i<L->U i<256)(K X:Rs->Su->Prop)(H:XH g E (cu g L bk U) K X)(d0:∃s u,Inv w Z g E V C s u/\K s u):
  aF 12 #[ar P,a8] w λe b1=>aL e ec/\Fr TP aG w b1/\∃c3,nF b1 P G Z g a E c3 (C-250000) a7/\∃s u,Inv b1 Z g E c3 (C-250000) s u/\(K s u\/X s u):=by
 obtain⟨s0,u0,F,b2⟩:=d0;have M:=F.kr.cJ;have b3:=F.low;have t:=ad (λW (O:aq w W)=>zi P G g Z.N Z.lz (cR g V) a a7 a8 L bk U W (h.below O).pl M (by obtain⟨a,b4,rfl,q⟩:=c8;refine⟨a,b4,rfl,q.imp id ?_⟩;rintro⟨b,o,R,q3⟩;exact⟨b,o,R,λi r=>⟨(Out.af (S:=λ_=>False) O).cell (q3 i r).1 id,(Out.af (S:=λ_=>False) O).cell (q3 i r).2 id⟩⟩) c9 a9);obtain⟨b5,d3⟩:=vw (L:=L) (bk:=bk) M b0;obtain⟨k,b6⟩:=ah (cu g L bk U);rw[b6]at t b5 d3 H;rw[mV M b5]at t;obtain⟨a4,I⟩:=ah (k.c_ g);obtain⟨N,Y⟩:=ah Z.N;have d4:=ad (λW pv (O:aq w W) (b7:fj W pv k)=>Ev ((O.block _ (Z_ h.iw)).trans h.iw) (F.below O) H b2 c7 b5 aa b7);rw[I]at t;obtain⟨e1,e2,e3,e4,c4,b8,b9⟩:=h.pl.aM;obtain⟨J,wc,rfl,d5⟩:=b8;have f:=f' c4 h b3 (show cA w (.slice J (g.B*128) wc) (g.B*128) (dF (cR g V))from⟨J,wc,rfl,d5⟩) M (show BN (.slice J (g.B*128) wc)from b9);obtain⟨p1,p2,p3⟩:=cr c4;have c0:=aB I Y;rw[Y]at p1;go_enter func12,ntmps12;go_wp2_with(first
  |(go_at_call 23;refine(t _ (by first|exact aj|exact cK aj _)).mono ?_;rintro e w1 ⟨pv,e5,rfl,h1,h2,h3,h4⟩
    obtain⟨e6,e7,rfl⟩:∃a c,pv=.slice a k.n c:=by obtain⟨a,c,q,_⟩:=h1;exact⟨a,c,q⟩
    obtain⟨a5,a6,rfl⟩:=h2.form;obtain⟨k1,k2,k3⟩:=kp h3 P p3;have v:=aY h1 h2 h3 h4))
 refine(d4 w1 _ v.2.2.1 v.1).mono ?_;rintro e x ⟨c5,l,rfl,a0,m⟩;have y:=a0.hp ((v.2.2.1.block _ (Z_ f.1)).trans f.1) rfl;have d6:(c5=122/\∃s u,Inv x Z g E V (C-250000) s u/\(K s u\/X s u))/\N<2*a4+1\/(c5=0/\∃s u,Inv x Z g E (k.fQ g V) (C-250000) s u/\(K s u\/X s u))/\2*a4+1<=N:=by
  unfold Bb at m;rw[c0.1,c0.2]at m;split at m
  .obtain ⟨y1,s,u,y2,y3⟩:=m;exact .inl ⟨⟨y1,s,u,y2,.inl y3⟩,aa⟩
  .obtain ⟨y1,s,u,y2,y3⟩:=m;exact .inr ⟨⟨y1,s,u,y2,.inr y3⟩,aa⟩
 have z:=ad a0;rcases d6 with⟨⟨rfl,r⟩,d7⟩|⟨⟨rfl,r⟩,d7⟩
 .have d1:decide (2*(a4:Int)+1<=(N:Int))=false:=aS;have j:aq x (x.alloc (ao #[aH 122,aO,ae l] 46)):=aK aj _;have A:=QB x (ao #[aH 122,aO,ae l] 46);have n:=(j.block _ (Z_ y)).trans y;obtain⟨t1,t2,t3⟩:=cr A;obtain⟨R,q2,q3⟩:=cr n;rw[c0.2]at R;have d:=aY r j n A;rw[d1];go_wp2_with fail;go_ret;refine⟨rfl,?_,V,?_⟩
  .exact ((((Fr.af (T:=TP) v.2.2.1).tr (z.wide TP rfl)).then d.2.1).set (p:=ag P 13) d.2.2.1 rfl f.2.1.lo _)
  .have B:=((Fr.af (T:=eG) v.2.2.1).tr z).then d.2.1;exact qB.zj (B.hp f.2.1.iw rfl) (by obtain⟨s,u,r,c1⟩:=d.1;exact⟨s,u,r.below d.2.1,c1⟩) ((Fr.refl [44] aG _).set (p:=ag P 13) d.2.2.1 rfl f.2.1.lo _) (heap_setCell_same _ P 13 _ 44 _ d.2.2.1) (f.2.2.2.1.fr B rfl) f.2.2.2.2.2 f.2.1.lo
 .have d1:decide (2*(a4:Int)+1<=(N:Int))=true:=aS;have j:aq x (x.alloc (ao #[aH 0,aO,ae l] 46)):=aK aj _;have A:=QB x (ao #[aH 0,aO,ae l] 46);have n:=(j.block _ (Z_ y)).trans y;obtain⟨t1,t2,t3⟩:=cr A;obtain⟨R,q2,q3⟩:=cr n;have B:=((Fr.af (T:=eG) v.2.2.1).tr z).then j;have c2:∃s u,Inv (x.alloc (ao #[aH 0,aO,ae l] 46)) Z g E (k.fQ g V) (C-250000) s u/\(K s u\/X s u):=by obtain⟨s,u,r,c1⟩:=r;exact⟨s,u,r.below j,c1⟩
  have D:=v.2.1.fr (z.then j) rfl;have d:=aY c2 B n D;rw[d1];rcases Nat.eq_zero_or_pos k.n with e0|e0
  .rw [e0];go_wp2_with fail;go_ret;have c6:=(Fr.refl [44] aG _).set (p:=ag P 13) d.2.2.1 rfl f.2.1.lo (aH 0);have a1:=f.2.2.2.1.fr d.2.1 rfl;rw[<-vr (g:=g) e0 V]at a1;exact⟨rfl,(d.2.1.wide TP rfl).tr (c6.wide TP rfl),_,qB.zj (d.2.1.hp f.2.1.iw rfl) d.1 c6 (heap_setCell_same _ P 13 _ 44 _ d.2.2.1) a1 f.2.2.2.2.2 f.2.1.lo⟩
  .have d2:decide ((0:Int)<(k.n:Nat))=true:=aS;have D:=d.2.2.2;rw[show hW k (cR g V) k.n=cR g (k.fQ g V)from funext λb=>(sQ M k V b).symm]at D;have a2:=ad D;have x1:=heap_setCell_same _ P 13 _ 44 (aH 0) d.2.2.1;have f1:=(Fr.refl [44] aG _).set (p:=ag P 13) d.2.2.1 rfl f.2.1.lo (aH 0);have x2:=heap_setCell_same _ P 7 _ 44 aO x1;have f2:=f1.set (p:=ag P 7) x1 rfl f.2.1.lo aO;have Q:=aB x2 f2;obtain⟨d8,a3⟩:=ah Z.lz;rw[a3]at R;have d9:=ad a3;cases d8
   .go_wp2_with fail;go_ret;have x3:=heap_setCell_same _ P 6 _ 44 (.slice a5 (g.B*128) a6) Q.1;have f3:=Q.2.set (p:=ag P 6) Q.1 rfl f.2.1.lo (.slice a5 (g.B*128) a6);exact⟨rfl,(d.2.1.wide TP rfl).tr (f3.wide TP rfl),_,qB.zj (d.2.1.hp f.2.1.iw rfl) d.1 f3 x3 a2 v.2.2.2 f.2.1.lo⟩
   .go_wp2_with fail;go_ret;have x3:=heap_setCell_same _ P 7 _ 44 (.slice J (g.B*128) wc) Q.1;have f3:=Q.2.set (p:=ag P 7) Q.1 rfl f.2.1.lo (.slice J (g.B*128) wc);have x4:=heap_setCell_same _ P 6 _ 44 (.slice a5 (g.B*128) a6) x3;have f4:=f3.set (p:=ag P 6) x3 rfl f.2.1.lo (.slice a5 (g.B*128) a6);exact⟨rfl,(d.2.1.wide TP rfl).tr (f4.wide TP rfl),_,qB.zj (d.2.1.hp f.2.1.iw rfl) d.1 f4 x4 a2 v.2.2.2 f.2.1.lo⟩
theorem XH.any(g:aA)(a:Option Nat)(b:bq):XH g a b (λ_ _=>True) λ_ _=>True:=⟨λ_ _ _ _ _ _=>trivial,λ_ _ _ _ _ _ _ _ _ _ _ _=>trivial,λ_ _ _ _=>trivial⟩
theorem xL[Lo]{Z:bm}{q:Option Nat}{V:cH}(t:bX w i Z g)(x:Inv w Z g q V C s u)(D:1000<=C)(E:k+n<=g.B):
  aF 11 #[ar i,fO 1 0 n k aO aO] w λe l=>∃a c b,aL e (dw 0 (.slice a (n*128) c) b)/\Fr eG aG w l/\(cA l (.slice a (n*128) c) (n*128) (λj=>cR g V (k+j/128) (j%128))/\n*128<=c)/\∃s u,Inv l Z g q V (C-1000) s u:=by
 refine(pN w i 30 true 1 0 n k aO aO Z g (λr v W=>r=0/\∃a c,v=.slice a (n*128) c/\(cA W v (n*128) (λj=>cR g V (k+j/128) (j%128))/\n*128<=c)/\∃s u,Inv W Z g q V (C-1000) s u) aJ rfl t ⟨_,x.ay.rs.ct⟩ (λW y=>?_) (λr v W h=>?_) (λr v W K h z=>?_) x.low).mono ?_
 .refine (El Z g q V C i s u 1 k n 0 aO aO W (x.below y) ((y.block _ (Z_ t)).trans t) D E).mono λe l ⟨a,c,o,p,f,d⟩=>⟨0,a,n*128,c,o,f,rfl,a,c,rfl,p,d⟩
 .obtain ⟨-,a,c,-,-,A,B,d⟩:=h;exact⟨_,d.ay.rs.ct⟩
 .obtain ⟨o,a,c,p,f,A,B,d⟩:=h;exact⟨o,a,c,p,⟨f.1.fr z rfl,f.2⟩,A,B,d.fr z rfl⟩
 .rintro e l ⟨r,a,m,c,b,o,p,f,L,O,d,F,G⟩;cases d;subst f;exact⟨_,_,b,o,p,F,G⟩
theorem Hb{n a lo hi:Nat}(h:cA w (.slice P n a) n f)(k:lo<=hi)(l:hi<=n)(m:n<=a):cA w (.slice (if a=lo then P else P.map λx=>x.add lo) (hi-lo) (a-lo)) (hi-lo) λj=>f (lo+j):=by
 obtain⟨p,q,e,h⟩:=h;cases e;refine⟨_,_,rfl,?_⟩;by_cases e:hi=lo
 .exact .inl J
 rw[al J];rcases h with h|⟨b,o,c,d,g,i,h⟩
 .exact absurd h J
 refine .inr ⟨b,o+lo,c,d,by rw[g];simp[Addr.add],i,λj r=>?_⟩;rw[UP];exact h _ J
theorem Ew(j:Nat):dF F (k*128+j)=F (k+j/128) (j%128):=by unfold dF;rw[show(k*128+j)/128=k+j/128 by omega,show(k*128+j)%128=j%128 by omega]
theorem JO[Lo](P G:Nat)(Z:bm)(g:aA)(a:Int)(I:Option Nat)(V:cH)(C:Nat)(Y:Bool)(k n:Nat)(w:QA)(h:nF w P G Z g a I V C Y)(a3:1000<=C)(a4:k+n<=g.B):
  aF 10 #[ar P,ae k,ae n] w λe p=>aL e (.tuple #[.bool true,aH 0])/\Fr TP aG w p/\nF p P G Z g a I V (C-1000) Y:=by
 obtain⟨s0,u0,r⟩:=h.inv;have J:=r.kr.cJ;have T:=r.low;have a5:=ad (λW (a0:aq w W)=>xL ((a0.block _ (Z_ h.iw)).trans h.iw) (r.below a0) a3 a4);have a6:=aA.JM J;obtain⟨b0,b1,b2,b3,a1,U,l⟩:=h.pl.aM;obtain⟨y,wc,rfl,a7⟩:=U;have l:g.B*128<=wc:=l;have A:=f' a1 h T (show cA w (.slice y (g.B*128) wc) (g.B*128) (dF (cR g V))from⟨y,wc,rfl,a7⟩) J (show BN (.slice y (g.B*128) wc)from l);obtain⟨p1,p2,p3⟩:=cr a1;obtain⟨Q,B⟩:=ah (k+n);obtain⟨lo,D⟩:=ah (k*128);obtain⟨hi,X⟩:=ah (Q*128);have e1:QG.wrap ((k:Int)*128)=((lo:Nat):Int):=by rw[show(k:Int)*128=((lo:Nat):Int)by omega];go_arith
 have e2:QG.wrap ((k:Int)+n)=((Q:Nat):Int):=by rw[<-B];go_arith
 have e3:QG.wrap ((Q:Int)*128)=((hi:Nat):Int):=by rw[show(Q:Int)*128=((hi:Nat):Int)by omega];go_arith
 have s0:(0:Int)<=lo:=aa;have s1:(lo:Int)<=hi:=aa;have s2:(hi:Int)<=wc:=aa;have b:=aT D X B;go_enter func10,ntmps10;go_wp2_with fail;refine(a5 w aj).mono ?_;rintro e m ⟨q,c,d,rfl,t,⟨E,-⟩,H⟩;have F:=t.hp A.1 rfl;have i:aq m (m.alloc (ao #[aH 0,.slice q (n*128) c,ae d] 46)):=aK aj _;have N:=QB m (ao #[aH 0,.slice q (n*128) c,ae d] 46);have K:=(i.block _ (Z_ F)).trans F;obtain⟨t1,t2,t3⟩:=cr N;obtain⟨q1,q2,q3⟩:=cr K;have L:=t.then i;have O:=A.2.2.2.1.fr L rfl;have z:=nh L (E.below i) H K O i t;have S:QX (∀W,SK (m.alloc (ao #[aH 0,.slice q (n*128) c,ae d] 46)).heap.size (m.alloc (ao #[aH 0,.slice q (n*128) c,ae d] 46)) W->aF 18 #[.slice q (n*128) c,.slice (if wc=lo then y else y.map λx=>x.add lo) (hi-lo) (wc-lo)] W λe p=>aL e ec/\SK (m.alloc (ao #[aH 0,.slice q (n*128) c,ae d] 46)).heap.size (m.alloc (ao #[aH 0,.slice q (n*128) c,ae d] 46)) p):=λW M=>by
  have a8:n*128=hi-lo:=by have:=b.1;have:=b.2.1;have:=b.2.2;omega
  have a9:=(E.below i).below M;have a2:=Hb (lo:=lo) (hi:=hi) ((O).below M) aa (by have:=b.2.1;have:=b.2.2;omega) l;rw[show(λj=>dF (cR g V) (lo+j))=λj=>cR g V (k+j/128) (j%128)from funext λj=>by rw[<-b.1];exact Ew j]at a2;refine(wF _ _ _ _ _ _ W a9.wj a2.wj (by have:=b.2.1;have:=b.2.2;omega)).mono λe p ⟨h1,h2⟩=>⟨by rw[h1,show∀f,ll (n*128) (hi-lo) f f=true fromλf=>by rw[a8];exact fD λ_ _=>rfl],via M h2⟩
 have R:QX (wc=lo\/¬wc=lo):=Decidable.em _;rcases R.out with o|o
 all_goals
  first|(rw[ak o]at S;subst o;rw[Nat.sub_self]at S)|rw[al o]at S
  go_wp2_with fail;go_region_held3(λp=>p.cell? (ag m.heap.size 1)=some (.slice q (n*128) c)/\p.cell? (ag P 6)=some (.slice y (g.B*128) wc)) ((simp[*,go_sem];done)) (first|(go_at_call 18;refine(S _ (by first|exact aj|exact cK aj _)).mono ?_;rintro e w4 ⟨rfl,v⟩;obtain⟨k1,k2,k3⟩:=kp v P q3;obtain⟨k4,k5,k6⟩:=kp v m.heap.size t3;have H4:=ad v));go_wp2;go_ret2;refine⟨rfl,(z.1.wide TP rfl).then H4,?_⟩;exact(qB.LV (z.1.hp A.2.1.iw rfl) (by obtain⟨s,u,hi⟩:=z.2.2.1;exact⟨s,u,hi.below z.2.2.2.2.2.1⟩) z.2.2.2.1 z.2.2.2.2.1 A.2.2.2.2.2 A.2.1.lo).below H4
theorem JP[Lo]{Z:bm}{o:Option Nat}{V:cH}(x:bX w n Z g)(t:Inv w Z g o V C s u)(E:1000000<=C):
  aF 11 #[ar n,fO 3 0 0 0 aO aO] w λe p=>∃i,aL e (dw 0 aO i)/\Fr eG aG w p/\∃s u,Inv p Z g o V (C-250000) s u:=by
 refine(pN w n 32 true 3 0 0 0 aO aO Z g (λb v W=>b=0/\v= aO/\∃s u,Inv W Z g o V (C-250000) s u) aJ rfl x ⟨_,t.ay.rs.ct⟩ (λW y=>?_) (λb v W h=>?_) (λb v W B h z=>?_) t.low).mono ?_
 .refine (A' n Z g 3 0 0 0 aO aO W (λb W=>b=0/\∃s u,Inv W Z g o V (C-250000) s u) ((y.block _ (Z_ x)).trans x) ⟨λB A=>?_,λb F G h z=>?_,QD t.low y.size⟩).mono λe p ⟨b,d,f,j⟩=>⟨b,none,0,0,d,f,j.1,rfl,j.2⟩
  .have q:=(t.below y).below A;refine(DY Z g o V C s u B q J).mono ?_;rintro e p ⟨d,k,l,f,-,j⟩;exact⟨0,d,q.ay.wide j,rfl,k,l,f.less J⟩
  .obtain ⟨d,k,l,f⟩:=h;exact⟨d,k,l,f.fr z rfl⟩
 .obtain ⟨-,-,k,l,r⟩:=h;exact⟨_,r.ay.rs.ct⟩
 .obtain ⟨d,f,k,l,r⟩:=h;exact⟨d,f,k,l,r.fr z rfl⟩
 .rintro e p ⟨b,a,m,c,i,d,f,j,r,D⟩;exact⟨i,by rw[d,j,r],f,D⟩
theorem Inv.DT[Lo]{Z:bm}{V:cH}(h:Inv w Z g none V C s u)(a:m<g.M):Inv w Z g (some m) V C s u:=
 ⟨h.ay,h.gt.DT a,h.kr,h.vZ,λk b e=>absurd (h.only k b e) (by intro e;cases e),h.kO,h.fit,h.ev,h.same,h.v_⟩
structure LW[Lo](Z:bm)(Q:M->Prop):Prop where
 ct:∀W,Q W->∃b,aC W Z.B b
 stay:∀W W',Q W->Fr [46] aG W W'->Q W'
theorem JQ[Lo](w:M)(G d:Nat)(s:Bool)(j:Nat)(l n:Int)(Z:bm)(g:aA)(Q:M->Prop)(H:LW Z Q)(o:d=30\/d=31\/d=32\/d=33\/d=34\/d=35\/d=36\/d=37\/d=38\/d=39)(t:GY (j:Nat)=some (.agg #[.func (.func d) #[] #[],.bool s]))(u:bX w G Z g)(x:∃b,aC w Z.B b)(y:Lo.lo<=w.heap.size)(z:∀W,aq w W->aF d #[ar G,fO j l n 0 aO aO] W λe f=>aL e (dw 0 aO 0)/\Fr eG aG W f/\Q f):
  aF 11 #[ar G,fO j l n 0 aO aO] w λe f=>∃i,aL e (dw 0 aO i)/\Fr eG aG w f/\Q f:=by
 refine(pN w G d s j l n 0 aO aO Z g (λk v W=>k=0/\v= aO/\Q W) o t u x (λW A=>?_) (λk v W h=>H.ct W h.2.2) (λk v W B h C=>⟨h.1,h.2.1,H.stay W B h.2.2 C⟩) y).mono ?_
 .exact (z W A).mono λe f ⟨p,q,r⟩=>⟨0,none,0,0,p,q,rfl,rfl,r⟩
 .rintro e f ⟨k,a,m,c,i,p,q,r,D,E⟩;exact⟨i,by rw[p,r,D],q,E⟩
theorem Hc[Lo](Z:bm)(g:aA)(a:Option Nat)(V:cH)(C:Nat):LW Z (λW=>∃s u,Inv W Z g a V C s u):=
 ⟨λ_ ⟨_,_,h⟩=>⟨_,h.ay.rs.ct⟩,λ_ _ ⟨s,u,h⟩ b=>⟨s,u,h.fr b rfl⟩⟩
theorem Ex[Lo]{Z:bm}{V:cH}(m:Nat)(h:bX w n Z g)(d:Inv w Z g (some m) V C s u)(p:m<g.M)(q:1000<=C):
  aF 11 #[ar n,fO 4 m 0 0 aO aO] w λe f=>∃i,aL e (dw 0 aO i)/\Fr eG aG w f/\∃s u,Inv f Z g (some m) V (C-1000) s u:=by
 refine JQ w n 33 false 4 m 0 Z g _ (Hc Z g (some m) V (C-1000)) aJ rfl h ⟨_,d.ay.rs.ct⟩ d.low λW j=>?_;refine(Eo n Z g 4 m 0 0 aO aO W (λk W=>k=0/\∃s u,Inv W Z g (some m) V (C-1000) s u) ((j.block _ (Z_ h)).trans h) ⟨λy l=>?_,λk z A ⟨a,s,u,b⟩ r=>⟨a,s,u,b.fr r rfl⟩,QD d.low j.size⟩).mono λe f ⟨k,a,b,o,t⟩=>⟨by rw[a,o],b,t⟩;have c:=(d.below j).below l;refine(GR m c.GN p q).mono ?_;rintro e f ⟨a,v,x,b,-,-,o⟩;exact⟨0,a,c.ay.wide o,rfl,v,x,b⟩
def JR[Lo](Z:bm)(g:aA)(d:Option Nat)(V:cH)(C:Nat)(b:Su)(a:Bool)(c:Nat)(W:QA):Prop:=
 ((c=160/\a=false)\/c=0)/\∃s u,Inv W Z g d V C s u/\(a=true->bK s.b/\∀k,k<g.M->u.st k=1)/\∀m,m<g.M->b.st m=3->c=0/\a=decide (b.cur+1=g.s)/\bK s.b/\(a=false->u.st m=3/\u.cur=b.cur+1)
theorem JR.fr[Lo]{Z:bm}{a:Option Nat}{V:cH}{b:Su}(h:JR Z g a V C b d n W)(c:Fr T aG W w)(e:(120::122::TA).all (λt=> !T.contains t)=true):JR Z g a V C b d n w:=by obtain⟨f,s,u,i,j⟩:=h;exact⟨f,s,u,i.fr c e,j⟩
section
theorem nF.less[Lo]{w:M}{P G:Nat}{Z:bm}{g:aA}{a:Int}{aw:Option Nat}{V:cH}{C C':Nat}{wn:Bool}(h:nF w P G Z g a aw V C wn)(b:C'<=C):nF w P G Z g a aw V C' wn:=
 ⟨h.pl,h.iw,by obtain⟨s,u,q⟩:=h.inv;exact⟨s,u,q.less b⟩,h.lo⟩
theorem qB.less[Lo]{w:M}{P G:Nat}{Z:bm}{g:aA}{aw:Option Nat}{V:cH}{C C':Nat}{wn:Bool}(h:qB w P G Z g aw V C wn)(a:C'<=C):qB w P G Z g aw V C' wn:=nF.less h a
theorem gv[Lo]{w:M}{T:Nat}(h:aX w T z46)(c:Lo.lo<=T)(b:Nat)(v:H)(a:Int):
  (((w.setCell (R T 0) (.int .u16 b)).setCell (R T 1) v).setCell (R T 2) (Y a)).heap[T]?=some (N #[.int .u16 b,v,Y a] 46)/\Fr [46] aG w (((w.setCell (R T 0) (.int .u16 b)).setCell (R T 1) v).setCell (R T 2) (Y a)):=by
 have d:=heap_setCell_same w T 0 _ 46 (.int .u16 b) h;have e:=heap_setCell_same _ T 1 _ 46 v d;have f:=heap_setCell_same _ T 2 _ 46 (Y a) e;exact⟨f,(((Fr.refl [46] aG w).set (p:=R T 0) h rfl c _).set (p:=R T 1) d rfl c _).set (p:=R T 2) e rfl c _⟩
section
variable [Lo] (P G:Nat) (Z:bm) (g:aA) (aw:Option Nat) (V:cH) (C:Nat) (wn:Bool) (kd x y L lc rn rc:Nat) (la ra:Option SR) (w:QA) (h:qB w P G Z g aw V C wn) (hC:1000000<=C) (hkd:kd<256) (hx:x<256) (hy:y<256)
include h hC hkd hx hy
end
end
section
section
variable [Lo] (P G:Nat) (Z:bm) (g:aA) (aw:Option Nat) (V:cH) (C:Nat) (wn:Bool) (kd x y L lc rn rc:Nat) (la ra:Option SR) (w:QA) (h:qB w P G Z g aw V C wn) (hC:1000000<=C)
include h hC
end
end
section
section
variable [Lo] (P G:Nat) (Z:bm) (g:aA) (aw:Option Nat) (V:cH) (C:Nat) (wn:Bool) (kd x y L lc rn rc:Nat) (la ra:Option SR) (w:QA) (h:qB w P G Z g aw V C wn) (hC:1000000<=C) (hx:x<256) (hy:y<256)
include h hC hx hy
end
end
section
section
variable [Lo] (P G:Nat) (Z:bm) (g:aA) (aw:Option Nat) (V:cH) (C:Nat) (wn:Bool) (kd x y L lc rn rc:Nat) (la ra:Option SR) (w:QA) (h:qB w P G Z g aw V C wn) (hC:1000000<=C) (hx:x<256) (hy:y<256)
include h hC hx hy
end
end
section
section
variable [Lo] (P G:Nat) (Z:bm) (g:aA) (aw:Option Nat) (V:cH) (C:Nat) (wn:Bool) (kd x y L lc rn rc:Nat) (la ra:Option SR) (w:QA) (h:qB w P G Z g aw V C wn) (hC:1000000<=C) (hx:x<256) (hy:y<256)
include h hC hx hy
end
end
@[reducible] def KE (a b c d:Nat)(e:Bool)(f:Option SR)(L g:Nat):H:=.agg #[eb a,eb b,eb c,aH d,.bool e,.slice f L g]
abbrev KF(a b c d:Nat)(e:Bool)(f:Option SR)(L g:Nat):Array H:= #[eb a,eb b,eb c,aH d,.bool e,.slice f L g]
def fx(a b c:Nat):aA:=⟨3+a%14,1+b%16,1+c⟩
def gi(a:Nat):Nat:=5+a%2044
theorem ot{z0 z1 a:Nat}(h:a<256):(fx z0 z1 a).ok:=by have b:=SC z0 (show 0<14 by decide);have c:=SC z1 (show 0<16 by decide);exact⟨by show 3<=3+z0%14;omega,by show 3+z0%14<=16;omega,by show 1<=1+z1%16;omega,by show 1+z1%16<=16;omega,by show 1<=1+a;omega,by show 1+a<=256;omega⟩
theorem lW(a:Nat):5<=gi a/\gi a<=2048:=by have b:=SC a (show 0<2044 by decide);unfold gi;omega
theorem nG(d f c k:Nat)(l:Bool)(m:Option SR)(L n:Nat)(w:M)(q:d<256)(r:f<256)(s:c<256):aF 14 #[KE d f c k l m L n] w λe o=>aL e (fx d f c).V/\aq w o:=by
 obtain⟨a,g⟩:=ah (d%14);obtain⟨b,h⟩:=ah (f%16);have t:((d:Nat):Int).tmod 14=(a:Nat):=by rw[<-g];exact VL _ _
 have u:((f:Nat):Int).tmod 16=(b:Nat):=by rw[<-h];exact VL _ _
 have x:QG.wrap (d:Int)=(d:Nat):=bs;have y:QG.wrap (f:Int)=(f:Nat):=bs;have z:QG.wrap (c:Int)=(c:Nat):=bs;have i:a<14:=by rw[<-g];exact SC _ ai
 have j:b<16:=by rw[<-h];exact SC _ ai
 have A:QG.wrap (3+(a:Int))=((3+a:Nat):Int):=bs;have B:QG.wrap (1+(b:Int))=((1+b:Nat):Int):=bs;have C:QG.wrap (1+(c:Int))=((1+c:Nat):Int):=bs;have p:QX ((fx d f c).V=.agg #[Y (3+a:Nat),Y (1+b:Nat),Y (1+c:Nat)]):=by rw[<-g,<-h];rfl
 rw[p.out];go_enter func14,ntmps14;go_wp2;refine QT (v:=.agg #[Y (3+a:Nat),Y (1+b:Nat),Y (1+c:Nat)]) (by simp[RP,results14,go_sem]) rfl ⟨rfl,aK (aK aj _) _⟩
theorem zk(f g i b:Nat)(j:Bool)(k:Option SR)(L l:Nat)(w:M)(h:b<65536):aF 15 #[KE f g i b j k L l] w λe m=>aL e (Y (gi b:Nat))/\aq w m:=by
 unfold gi;obtain⟨a,c⟩:=ah (b%2044);have n:((b:Nat):Int).tmod 2044=(a:Nat):=by rw[<-c];exact VL _ _
 have o:QG.wrap (b:Int)=(b:Nat):=bs;have d:a<2044:=by rw[<-c];exact SC _ ai
 have p:QG.wrap (5+(a:Int))=((5+a:Nat):Int):=bs;rw[c];go_enter func15,ntmps15;go_wp2;go_ret;exact⟨by simp[*],aK aj _⟩
def xM[Lo](a b c d:Nat)(f:Bool)(w:QA)(e:RV)(g:QA):Prop:=
 ∃P G Z,(aL e (ar P)/\qB g P G Z (fx a b c) none om 100000000000 false/\Fr fV aG w g/\w.heap.size<=P)/\Z.N=gi d/\Z.lz=f/\w.heap.size<=G/\
  de g Z (fx a b c) (oj (fx a b c) (gi d) f (qz (fx a b c) (gi d) (Su.born (gi d) f) (By.part ((fx a b c).M+1) (Em (fx a b c) (gi d)) ((fx a b c).M+1)))) (Su.born (gi d) f) false/\
  ∃h,g.heap[P]?=some (ao #[Y ((fx a b c).M:Nat),Y ((fx a b c).c:Nat),Y ((fx a b c).s:Nat),Y (gi d:Nat),.bool f,ar G,h,aO,aO,Y ((fx a b c).B:Nat),Y (-1),.bool false,.bool true,aH 0,.bool false] 44)/\cA g h ((fx a b c).B*128) (dF (cR (fx a b c) om))/\BN h
theorem Ey(w:M)(n:Nat)(h:n<=100000000):(SY 41 (Y (n:Int)) (Y (n:Int))).run prog w=.ok (a' w.heap.size n n) (w.alloc (N (cw n λ_=>0) 5)):=by
 obtain⟨d,f,a,b,c⟩:=SB kg;have:=run_make (P:=prog) w 41 5 d (.int .u8 0) UO f a .i64 .i64 n n J J (by rw[c];omega) J;rw[this,b,TX];show YT _ (w.alloc (N (TN #[.int .u8 0] n) 5))=_;have e:TN #[.int .u8 0] n=cw n λ_=>0:=by
  apply Array.ext
  .simp [TN,cw]
  .intro i g j;have:i%1=0:=YE i;simp[TN,cw,this]
 rw[e];rfl
theorem Bc[Lo](z0 z1 l i:Nat)(h:Bool)(s:Option SR)(L t:Nat)(w:QA)(h0:z0<256)(h1:z1<256)(h2:l<256)(h3:i<65536)(b3:Lo.lo<=w.heap.size):
  aF 7 #[KE z0 z1 l i h s L t] w (xM z0 z1 l i h w):=by
 have b4:=ot (z0:=z0) (z1:=z1) h2;have V:=ad (λW=>nG z0 z1 l i h s L t W h0 h1 h2);have u:=ad (λW=>zk z0 z1 l i h s L t W h3);have v:=ad (λW d8=>vu (fx z0 z1 l) (gi i) h W b4 (lW i) d8);unfold xM;obtain⟨g,z⟩:=ah (fx z0 z1 l);obtain⟨N,A⟩:=ah (gi i);have c9:=lW i;rw[A]at c9;simp only[z]at V v;simp only[A]at u v;rw[z]at b4;simp only[z,A];obtain⟨b5,b6⟩:=ah (w.alloc (ao (KF z0 z1 l i h s L t) 25));have b7:aq w b5:=by rw[<-b6];exact aK aj _
 have B:b5.heap[w.heap.size]?=some (ao (KF z0 z1 l i h s L t) 25):=by rw[<-b6];exact QB _ _
 obtain⟨D,X⟩:=ah w.heap.size;rw[X]at B;obtain⟨d1,d2,d3⟩:=cr B;have U:=aT B b7 b3;have H:=aB b6 X;have M:=ad b4;obtain⟨a,b,c⟩:=g;go_enter func7,ntmps7;go_wp2_with fail
 try simp only[H.out.1,H.out.2]
 go_wp2_with(first|(go_at_call 14;refine(V _).mono ?_;rintro e w1 ⟨rfl,R⟩;obtain⟨k0,k1,k2⟩:=kp R D d3;have b8:=ad R));obtain⟨E,d0⟩:=ah w1.heap.size;obtain⟨C,F⟩:=ah (w1.alloc (ao #[ae a,ae b,ae c] 39));have I:C.heap[E]?=some (ao #[ae a,ae b,ae c] 39):=by rw[<-F,<-d0];exact QB _ _
 have K:aq b5 C:=by rw[<-F];exact aK b8 _
 have Y:=(K.block D d3).trans U.1;have b9:Lo.lo<=C.heap.size:=QD (QD U.2.2 U.2.1.size) K.size;have O:=aY I K Y b9;rw[F,d0];obtain⟨a0,a1,a2⟩:=cr I;obtain⟨b0,b1,b2⟩:=cr Y;go_region_held3(λd=>d.cell? (ag E 0)=some (ae a)/\d.cell? (ag E 1)=some (ae b)/\d.cell? (ag E 2)=some (ae c)/\d.cell? (ag D 0)=some (eb z0)/\d.cell? (ag D 1)=some (eb z1)/\d.cell? (ag D 2)=some (eb l)/\d.cell? (ag D 3)=some (aH i)/\d.cell? (ag D 4)=some (.bool h)/\d.cell? (ag D 5)=some (.slice s L t)) ((simp[*,go_sem];done)) (first|(go_at_call 15;refine(u _).mono ?_;rintro e w3 ⟨rfl,c0⟩;have f:QX (aq C w3):=via bF c0;obtain⟨p0,p1,p2⟩:=kp f D b2;obtain⟨q0,q1,q2⟩:=kp f E a2)|(go_at_call 16;refine(v _ (QD O.2.2.2 (by first|exact f.size|exact(via f bF:aq C _).size))).mono ?_;rintro e q ⟨G,Z,rfl,g1,J,g3,g4,g5,g6⟩;have p:QX (Fr fV aG C q):=(by first|exact(Fr.af f).tr g5|exact(Fr.af (via f bF)).tr g5);have c1:=p.hp O.1 rfl;have c2:=p.hp O.2.2.1 rfl;have c3:w.heap.size<=G:=QD (QD U.2.1.size O.2.1.size) (QD (by first|exact f.size|exact(via f bF:aq C _).size) g4);have H4:=ca g1 J g3 c3 g6;obtain⟨r0,r1,r2⟩:=cr c1;obtain⟨s0,s1,s2⟩:=cr c2));have d9:3<=a:=M.m3;have d4:a<=16:=M.m16;have a3:b<=16:=M.tC;have Q:c<=256:=M.iS;obtain⟨x,c4⟩:=ah (c*b);have c5:x<=4096:=by rw[<-c4];exact TG Q a3
 obtain⟨y,d5⟩:=ah (a-1);obtain⟨n,c6⟩:=ah (x*y);have d6:n<=61440:=by rw[<-c6];exact TG c5 (show y<=15 by omega)
 have a7:(⟨a,b,c⟩:aA).B=n:=by show c*((a-1)*b)=n;rw[<-c6,<-c4,<-d5,Nat.mul_assoc,VB b]
 have e1:QG.wrap ((c:Int)*(b:Int))=((x:Nat):Int):=by rw[show(c:Int)*(b:Int)=((x:Nat):Int)by rw[<-c4,TK]];go_arith
 have e2:QG.wrap ((a:Int)-1)=((y:Nat):Int):=by rw[<-d5];go_arith
 have e3:QG.wrap ((x:Int)*(y:Int))=((n:Nat):Int):=by rw[show(x:Int)*(y:Int)=((n:Nat):Int)by rw[<-c6,TK]];go_arith
 obtain⟨m,T⟩:=ah (n*128);have e4:QG.wrap ((n:Int)*128)=((m:Nat):Int):=by rw[<-T];go_arith
 have e0:=λw=>Ey w m aa;have e8:=aB a7 T;have e5:w.heap.size<=q.heap.size/\Lo.lo<=q.heap.size:=by have h1:=U.2.1.size;have h2:=O.2.1.size;have h3:=p.size;have h4:=O.2.2.2;omega
 have c7:QX (Fr fV aG w q):=((Fr.af U.2.1).tr (Fr.af O.2.1)).tr p;have r:QX (∀o P S,aq q o->q.heap.size<=P->o.heap[P]?=some (ao #[ae a,ae b,ae c,ae N,.bool h,ar G,a' S m m,aO,aO,ae n,ae (-1),.bool false,.bool true,aH 0,.bool false] 44)->o.heap[S]?=some (ao (cw m λ_=>0) 5)->∃a8 G Z,(Ending.returned (ar P)=.returned (ar a8)/\qB o a8 G Z ⟨a,b,c⟩ none om 100000000000 false/\Fr fV aG w o/\w.heap.size<=a8)/\Z.N=N/\Z.lz=h/\w.heap.size<=G/\de o Z ⟨a,b,c⟩ (oj ⟨a,b,c⟩ N h (qz ⟨a,b,c⟩ N (Su.born N h) (By.part (a+1) (Em ⟨a,b,c⟩ N) (a+1)))) (Su.born N h) false/\∃c8,o.heap[a8]?=some (ao #[ae a,ae b,ae c,ae N,.bool h,ar G,c8,aO,aO,ae ((⟨a,b,c⟩:aA).B:Nat),ae (-1),.bool false,.bool true,aH 0,.bool false] 44)/\cA o c8 ((⟨a,b,c⟩:aA).B*128) (dF (cR ⟨a,b,c⟩ om))/\BN c8):=λo P S a9 e9 d7 e6=>by
  obtain⟨g1,J,g3,g4,g6⟩:=H4.out;have a4:cA o (a' S m m) ((⟨a,b,c⟩:aA).B*128) (dF (cR ⟨a,b,c⟩ om)):=by rw[a7,T];exact⟨_,_,rfl,.inr ⟨S,0,_,_,rfl,e6,λk e7=>by rw[RE];exact cg _ _ _ e7⟩⟩
  refine⟨P,G,Z,⟨rfl,⟨⟨a' S m m,aO,aO,0,?_,a4,QE m⟩,(a9.block _ (Z_ g1)).trans g1,⟨_,_,pK M hX c9 ⟨J,g3⟩ (g6.below a9)⟩,aa⟩,c7.then a9,aa⟩,J,g3,g4,g6.below a9,_,?_,a4,QE m⟩
  .rw [d7,J,g3,a7];rfl
  .rw [d7,a7]
 go_wp2_with fail;go_region_held3(λd=>d.cell? (ag E 0)=some (ae a)/\d.cell? (ag E 1)=some (ae b)/\d.cell? (ag E 2)=some (ae c)/\d.cell? (ag D 0)=some (eb z0)/\d.cell? (ag D 1)=some (eb z1)/\d.cell? (ag D 2)=some (eb l)/\d.cell? (ag D 3)=some (aH i)/\d.cell? (ag D 4)=some (.bool h)/\d.cell? (ag D 5)=some (.slice s L t)) ((simp[*,go_sem];done)) (first|(go_at_call 15;refine(u _).mono ?_;rintro e w5 ⟨rfl,a5⟩;have j:QX (aq q w5):=via bF a5;have a6:=ad a5;obtain⟨p0,p1,p2⟩:=kp j D s2;obtain⟨q0,q1,q2⟩:=kp j E r2))
 .clear p0 p1 p2 q0 q1 q2;go_wp2_with fail;go_ret;refine r _ _ w5.heap.size (aK (aK j _) _) ?_ ?_ ?_
  .have:=j.size;omega
  .exact eZ _ _ _
  .exact e_ _ _ _
 .clear p0 p1 p2 q0 q1 q2;go_wp2_with fail;go_ret;refine r _ _ q.heap.size (aK j _) j.size (QB _ _) ?_;rw[QW _ _ _ (by have:=a6.size;simp at this;omega)];rw[a6.block _ aJ];exact QB _ _
structure lX where
 kd:Nat
 x:Nat
 y:Nat
 la:Option SR
 L:Nat
 lc:Nat
 ra:Option SR
 rn:Nat
 rc:Nat
 bk:Nat->Nat
 fl:Nat->Nat
 kn:Nat->Nat
structure lX.fit(a:lX):Prop where
 u8:a.kd<256/\a.x<256/\a.y<256
 len:a.L<=140737488351232/\a.rn<=140737488351232
 kn:∀k,k<a.rn->a.kn k<=140737488351232
 bk:∀k,k<a.L->a.bk k<65536
 fl:∀k,k<a.L->a.fl k<256
structure jx[Lo](w:M)(pa:Option SR)(L:Nat)(A:Nat->lX):Prop where
 l:L=0\/∃b o,pa=some (R b o)/\b<Lo.lo/\∀i,i<L->w.cell? ⟨b,o+i*5,none⟩=some (.int .u8 ((A i).kd:Nat))/\w.cell? ⟨b,o+i*5+1,none⟩=some (.int .u8 ((A i).x:Nat))/\w.cell? ⟨b,o+i*5+2,none⟩=some (.int .u8 ((A i).y:Nat))/\w.cell? ⟨b,o+i*5+3,none⟩=some (.slice (A i).la (A i).L (A i).lc)/\w.cell? ⟨b,o+i*5+4,none⟩=some (.slice (A i).ra (A i).rn (A i).rc)
 aM:∀i,i<L->(A i).L=0\/∃b o,(A i).la=some (R b o)/\b<Lo.lo/\∀k,k<(A i).L->w.cell? ⟨b,o+k*2,none⟩=some (.int .u16 ((A i).bk k:Nat))/\w.cell? ⟨b,o+k*2+1,none⟩=some (.int .u8 ((A i).fl k:Nat))
 kp:∀i,i<L->(A i).rn=0\/∃b o,(A i).ra=some (R b o)/\b<Lo.lo/\∀k,k<(A i).rn->∃a c,w.cell? ⟨b,o+k,none⟩=some (.slice a ((A i).kn k) c)
 fit:∀i,i<L->(A i).fit
 lo:Lo.lo<=w.heap.size
theorem jx.fr[Lo]{A:Nat->lX}(h:jx w P n A)(f:Fr T aG w W):jx W P n A:=by
 refine⟨h.l.imp id ?_,λi g=>(h.aM i g).imp id ?_,λi g=>(h.kp i g).imp id ?_,h.fit,QD h.lo f.size⟩
 .rintro ⟨b,o,e,d,q⟩;exact⟨b,o,e,d,λi g=>by obtain⟨m,l,p,r,s⟩:=q i g;exact⟨f.fS h.lo d m,f.fS h.lo d l,f.fS h.lo d p,f.fS h.lo d r,f.fS h.lo d s⟩⟩
 .rintro ⟨b,o,e,d,q⟩;exact⟨b,o,e,d,λk j=>⟨f.fS h.lo d (q k j).1,f.fS h.lo d (q k j).2⟩⟩
 .rintro ⟨b,o,e,d,q⟩;exact⟨b,o,e,d,λk j=>by obtain⟨a,c,l⟩:=q k j;exact⟨a,c,f.fS h.lo d l⟩⟩
theorem jx.below[Lo]{A:Nat->lX}(h:jx w P n A)(a:aq w W):jx W P n A:=h.fr (T:= []) (Fr.af a)
def NU(L:Nat)(A:Nat->lX)(w:M)(e:RV)(a:M):Prop:=∃r:Bool,aL e (.bool r)/\aq w a/\(r=false->L<=200/\∀i,i<L->(A i).L<=20000)
theorem JS[Lo](z0 z1 V v:Nat)(b4:Bool)(Z:Option SR)(L b5:Nat)(A:Nat->lX)(w:QA)(h0:z0<256)(h1:z1<256)(h2:V<256)(h3:v<65536)(g4:jx w Z L A)(g8:L<=140737488351232):
  aF 6 #[KE z0 z1 V v b4 Z L b5] w (NU L A w):=by
 have e0:=ot (z0:=z0) (z1:=z1) h2;have b7:=ad (λW=>nG z0 z1 V v b4 Z L b5 W h0 h1 h2);have b8:=ad (λW=>zk z0 z1 V v b4 Z L b5 W h3);obtain⟨g,H⟩:=ah (fx z0 z1 V);obtain⟨N,M⟩:=ah (gi v);have g9:=lW v;rw[M]at g9;simp only[H]at b7;simp only[M]at b8;rw[H]at e0;clear H M;obtain⟨b6,z⟩:=ah (w.alloc (ao (KF z0 z1 V v b4 Z L b5) 25));have b9:aq w b6:=by rw[<-z];exact aK aj _
 have B:aX b6 w.heap.size (ao (KF z0 z1 V v b4 Z L b5) 25):=by rw[<-z];exact QB _ _
 obtain⟨D,R⟩:=ah w.heap.size;rw[R]at B;obtain⟨d1,d2,d3⟩:=cr B;have h:=aY B b9 g4 g8;have c0:=aB z R;have e7:=ad e0;clear z R B b9 e0 g4;obtain⟨I,Y,J⟩:=g;go_enter func6,ntmps6;go_wp2_with fail
 try simp only[c0.out.1,c0.out.2]
 go_wp2_with(first|(go_at_call 14;refine(b7 _).mono ?_;rintro e w1 ⟨rfl,a3⟩;obtain⟨k0,k1,k2⟩:=kp a3 D d3;have c1:=ad a3;clear a3));obtain⟨E,e8⟩:=ah w1.heap.size;obtain⟨w2,C⟩:=ah (w1.alloc (ao #[ae I,ae Y,ae J] 39));have a4:aX w2 E (ao #[ae I,ae Y,ae J] 39):=by rw[<-C,<-e8];exact QB _ _
 have a5:aq b6 w2:=by rw[<-C];exact aK c1 _
 have a6:=(a5.block D d3).trans h.1;have H2:=aT a4 a5 a6;rw[C,e8];clear C e8 k2 c1 a5;obtain⟨a0,a1,a2⟩:=cr a4;obtain⟨b0,b1,b2⟩:=cr a6;clear a4 a6;have c2:I<=16:=e7.m16;have c3:Y<=16:=e7.tC;have a7:J<=256:=e7.iS;obtain⟨x,e9⟩:=ah (I*Y);have f0:x<=256:=by rw[<-e9];exact TG c2 c3
 obtain⟨y,f1⟩:=ah (x*J);have h4:y<=65536:=by rw[<-f1];exact TG f0 a7
 have e1:QG.wrap ((I:Int)*(Y:Int))=((x:Nat):Int):=by rw[show(I:Int)*(Y:Int)=((x:Nat):Int)by rw[<-e9,TK]];go_arith
 have e2:QG.wrap ((x:Int)*(J:Int))=((y:Nat):Int):=by rw[show(x:Int)*(J:Int)=((y:Nat):Int)by rw[<-f1,TK]];go_arith
 have e3:QG.wrap ((y:Int)+(N:Int))=((y+N:Nat):Int):=bs;obtain⟨m,h5⟩:=ah (min L 1000);have h6:m<=1000:=aa;have e4:min (L:Int) 1000=((m:Nat):Int):=aa;have e5:QG.wrap ((m:Int)+4)=((m+4:Nat):Int):=bs;obtain⟨p,f2⟩:=ah ((y+N)*(m+4));have h7:p<=67584*1004:=by rw[<-f2];exact TG aa aa
 have e6:QG.wrap (((y+N:Nat):Int)*((m+4:Nat):Int))=((p:Nat):Int):=by rw[show((y+N:Nat):Int)*((m+4:Nat):Int)=((p:Nat):Int)by rw[<-f2,TK]];go_arith
 obtain⟨i4,c4⟩:=ah (y+N);obtain⟨m4,c5⟩:=ah (m+4);rw[c4]at e3 e6;rw[c5]at e5 e6;clear e9 f1 h5 f2 c4 c5;go_wp2_with fail;go_region_held3(λF=>F.cell? (ag E 0)=some (ae I)/\F.cell? (ag E 1)=some (ae Y)/\F.cell? (ag E 2)=some (ae J)/\F.cell? (ag D 0)=some (eb z0)/\F.cell? (ag D 1)=some (eb z1)/\F.cell? (ag D 2)=some (eb V)/\F.cell? (ag D 3)=some (aH v)/\F.cell? (ag D 4)=some (.bool b4)/\F.cell? (ag D 5)=some (.slice Z L b5)) ((simp[*,go_sem];done)) (first|(go_at_call 15;refine(b8 _).mono ?_;rintro e w3 ⟨rfl,c6⟩;have G:QX (aq w2 w3):=via bF c6;obtain⟨p0,p1,p2⟩:=kp G D b2;obtain⟨q0,q1,q2⟩:=kp G E a2;clear c6))
 all_goals
  clear a0 a2 q0;by_cases c7:131072<p
  .have j1:(131072:Int)<(p:Int):=aa;clear b0 b1 b2 p0;have d7:QX (aq w w3):=h.2.1.trans ((H2.2.1.trans (G.mono H2.2.1.size)).mono h.2.1.size);go_wp2_with fail;go_ret;exact⟨true,rfl,d7,λe=>by cases e⟩
  have j1:¬(131072:Int)<(p:Int):=aa;have d7:QX (aq b6 w3):=H2.2.1.trans (G.mono H2.2.1.size);clear c7 b0 b1 b2 p0 e1 e2 e3 e4 e5 e6;have f3:=(d7.block D d3).trans h.1;obtain⟨b0,b1,b2⟩:=cr f3;go_wp2_with fail;go_loopw [4,5] (λs4 s5 wr=>∃i n:Nat,i<=L/\s5= ae i/\s4= ae n/\QX (aq b6 wr/\L<=n/\n<=600000000000000/\∀j,j<i->(A j).L<=n)) (λ_ s5 _=>L-(intOf s5).toNat)
  case atStart=>exact⟨0,L,QO _,rfl,rfl,d7,QE _,aa,λj d8=>absurd d8 (RQ j)⟩
  case round=>
   obtain⟨i,n,i5,rfl,rfl,K⟩:=hrel;have c8:=(K.1.block D d3).trans h.1;have d:=h.2.2.1.below (h.2.1.trans (K.1.mono h.2.1.size));clear b0 b1 b2;obtain⟨b0,b1,b2⟩:=cr c8;by_cases q:i<L
   .by_cases d9:n<=20000
    .have f4:=d.fit i q;obtain⟨b,o,f5,f6,g5⟩:=d.l.resolve_left aa;obtain⟨-,-,-,q3,q4⟩:=g5 i q;subst f5;have j2:(i:Int)<(L:Int):=aa;have j3:(n:Int)<=20000:=aa;have j4:(0:Int)<=(i:Int):=aa;obtain⟨l1,O⟩:=ah ((A i).L);obtain⟨l,P⟩:=ah ((A i).rn);obtain⟨i6,f⟩:=ah ((A i).ra);have r:=f4.len;have h8:=ad (d.kp i q);have h9:=ad f4;rw[O]at q3;rw[P,f]at q4;rw[O,P]at r;have s:=aT O P f;have e1:QG.wrap ((l1:Int)+(l:Int))=((l1+l:Nat):Int):=bs;have e2:QG.wrap ((n:Int)+((l1+l:Nat):Int))=((n+(l1+l):Nat):Int):=bs;obtain⟨i0,a8⟩:=ah (l1+l);rw[a8]at e1 e2;obtain⟨n2,eZ⟩:=ah (n+i0);rw[eZ]at e2;have f7:=aY q3 q4 f6 q;have Q:=aY a8 eZ r d9;clear g5 f4 O P f a8 eZ r d q d9;go_wp2_with fail;go_quiet(fail);go_wp2_with fail;obtain⟨f8,rfl⟩:∃f8:QA,f8=wr:=⟨_,rfl⟩;go_loopw [4,6] (λs4 s6 ws=>∃k c:Nat,k<=l/\s6= ae k/\s4= ae c/\QX (aq f8 ws/\n2<=c/\c<=600000000000000)) (λ_ s6 _=>l-(intOf s6).toNat)
     case atStart=>have:=Q.out;exact⟨0,n2,QO _,rfl,rfl,cK aj _,QE _,aa⟩
     case round=>
      obtain⟨k,c,i1,rfl,rfl,a⟩:=hrel;have f9:=(a.1.block D b2).trans c8;have g6:l<=140737488351232:=Q.2.2.1.2;have g0:k<l->QG.wrap ((k:Int)+1)=((k+1:Nat):Int):=λi1=>bs;have i2:=(Out.af (S:=λ_=>False) a.1).cell f7.2.1 id;clear q3 q4 b0 b1;obtain⟨b0,b1,b3⟩:=cr f9;have c9:QX (aq b6 wr):=via K.1 a.1;have d0:QX (∀j,j<i+1->(A j).L<=c):=λj d8=>by
       have h1:=Q.out;have h2:=a.2.1;by_cases e:j=i
       .rw [e,s.1];omega
       .have:=K.2.2.2 j aa;omega
      have a9:QX (L<=c):=by have h1:=Q.out;have h2:=a.2.1;have h3:=K.2.1;show L<=c;omega
      by_cases T:k<l
      .have k2:(k:Int)<(l:Int):=aa;have k3:(0:Int)<=(k:Int):=aa;by_cases i3:c<=20000
       .have k4:(c:Int)<=20000:=aa;obtain⟨i7,i8,f,g7,d4⟩:=h8.resolve_left (by rw[s.2.1];omega);rw[s.2.2]at f;subst f;obtain⟨i9,j0,t⟩:=d4 k (by rw[s.2.1];exact T);have U:=(Out.af (S:=λ_=>False) a.1).cell t id;have g1:=h9.kn k (by rw[s.2.1];exact T);obtain⟨g2,X⟩:=ah ((A i).kn k);rw[X]at U g1;have e3:QG.wrap ((c:Int)+(g2:Int))=((c+g2:Nat):Int):=bs;have e4:=g0 T;clear X t d4;go_wp2_with fail;exact⟨⟨k+1,c+g2,T,rfl,rfl,a.1,by have:=a.2.1;omega,aa⟩,by first|(simp[intOf];done)|(simp[intOf];omega)⟩
       .have k4:¬(c:Int)<=20000:=aa;go_wp2_with fail;exact⟨⟨i+1,c,f7.2.2.2,rfl,rfl,c9,a9,a.2.2,d0⟩,by first|(simp[intOf];done)|(simp[intOf];omega)⟩
      .have k2:¬(k:Int)<(l:Int):=aa;go_wp2_with fail;exact⟨⟨i+1,c,f7.2.2.2,rfl,rfl,c9,a9,a.2.2,d0⟩,by first|(simp[intOf];done)|(simp[intOf];omega)⟩
    .have j2:(i:Int)<(L:Int):=aa;have j3:¬(n:Int)<=20000:=aa;have j5:(20000:Int)<(n:Int):=aa;clear d;have u:QX (aq w wr):=h.2.1.trans (K.1.mono h.2.1.size);go_wp2_with fail;go_ret;exact⟨true,rfl,u,λe=>by cases e⟩
   .have j2:¬(i:Int)<(L:Int):=aa;have d5:i=L:=aa;have u:QX (aq w wr):=h.2.1.trans (K.1.mono h.2.1.size);have g3:QX (∀j,j<L->(A j).L<=n):=by rw[<-d5];exact K.2.2.2
    have a9:QX (L<=n):=K.2.1;clear d d5;by_cases d9:n<=20000
    .have j3:¬(20000:Int)<(n:Int):=aa;by_cases d6:L<=200
     .have j4:¬(200:Int)<(L:Int):=aa;go_wp2_with fail;go_ret;exact⟨false,rfl,u,λ_=>⟨d6,λj d8=>QD (g3 j d8) d9⟩⟩
     .have j4:(200:Int)<(L:Int):=aa;go_wp2_with fail;go_ret;exact⟨true,rfl,u,λe=>by cases e⟩
    .have j3:(20000:Int)<(n:Int):=aa;go_wp2_with fail;go_ret;exact⟨true,rfl,u,λe=>by cases e⟩
section
open Go.ChangeShapes Go.WideShapes Go.ChangeAt
theorem ZT:laidOutB prog=true:=aE
theorem own:ownKnob prog.godebug=none:=aE
theorem c3:prog.cellsOf 3=1:=aE
theorem c4:prog.cellsOf 4=1:=aE
theorem c5:prog.cellsOf 5=1:=aE
theorem Pb:prog.cellsOf 22=1:=aE
theorem PO:prog.cellsOf 23=1:=aE
theorem PQ:prog.cellsOf 25=6:=aE
theorem PR:prog.cellsOf 31=1:=aE
theorem PS:prog.cellsOf 32=1:=aE
theorem PT:prog.cellsOf 34=5:=aE
theorem PU:prog.cellsOf 56=1:=aE
theorem PV:prog.cellsOf 92=2:=aE
theorem PW:prog.bytesOf 4=1:=aE
theorem NV:prog.bytesOf 34=56:=aE
theorem NW:prog.bytesOf 56=24:=aE
theorem NX:prog.bytesOf 92=4:=aE
theorem vx{H:Type}{enc:SQ × QC->H}{P:Program}(o:laidOutB P=true){W p:M}(q:aq W p):∀(c:List SQ) (g:List QC) (i:List (DataW H)) (f:List MemPlace),
  (∀t∈c,P.readableRec t=true/\t<P.types.size)->DataW.TrodAll enc P W 0 (λ_=>true) true c g i f->(∀x∈f,x.block<W.heap.size)->
  DataW.TrodAll enc P p 0 (λb=>decide (b<W.heap.size)) true c g i f
 | [],_,_,_,_,h,_=>by obtain⟨rfl,rfl,rfl⟩:=trodAll_nil h;exact trodAll_mk0
 |t::c,g,i,f,j,h,e=>by
  obtain⟨v,k,d,l,a,b,rfl,rfl,rfl,r,s⟩:=trodAll_cons h;exact trodAll_cons_mk (Below.trod o (j t aJ).1 (j t aJ).2 r q (λx m=>e x (by simp[m])))
   (vx o q c k l b (λu n=>j u (by simp[n])) s (λx m=>e x (by simp[m])))
theorem jy{H:Type}{P:Program}{e:SQ}{x:DataW H}{k:Nat}:∀{b:List (DataW H)} {i:Nat},b[i]?=some x->k∈x.weights P e->k∈DataW.weightsAll P e b
 |y::r,0,h,a=>by simp only[List.getElem?_cons_zero,SI]at h;subst h;simp only[DataW.weightsAll,TH];exact .inl a
 |y::r,i+1,h,a=>by simp only[List.getElem?_cons_succ]at h;simp only[DataW.weightsAll,TH];exact .inr (jy h a)
def nV{H:Type}(t:SQ)(d:DataW H):Prop:=∀k∈d.weights prog t,k<=140737488351232
theorem xN{H:Type}{b:List SQ}{c:List (DataW H)}{t:SQ}{d:DataW H}{j:Nat}(a:(DataW.weightsEach prog b c).all (· <=reachBytes)=true)(e:b[j]?=some t)(f:c[j]?=some d):nV t d:=λk g=>by have:=of_decide_eq_true (WD.1 a _ (DataW.weights_mem_each e f _ g));simpa only[reachBytes]using this
theorem vy{H:Type}{t e:SQ}{a b:List (DataW H)}{x:DataW H}{i:Nat}(h:nV t (.slice a b))(c:prog.underlying t=some (.slice e))(d:a[i]?=some x):nV e x:=λk f=>
 h k (by simp only[DataW.weights,c,UH,TH];exact .inr (.inl (jy d f)))
theorem ou{H:Type}{t e:SQ}{a b:List (DataW H)}(h:nV t (.slice a b))(c:prog.underlying t=some (.slice e)):(a.length+b.length)*prog.bytesOf e<=140737488351232:=
 h _ (by simp only[DataW.weights,c];exact RZ)
theorem pQ{H:Type}{t:SQ}{a:Array Field}{b:List (DataW H)}{x:DataW H}{j:Nat}{f:Field}(h:nV t (.agg b))(c:prog.underlying t=some (.struct a))(d:a[j]?=some f)(e:b[j]?=some x):nV f.type x:=λk g=>
 h k (by simp only[DataW.weights,c];exact DataW.weights_mem_each (by simp[d]) e _ g)
section
variable {H:Type} {enc:SQ × QC->H} {W:QA}
theorem gw{a:Nat}{v:QC}{x:DataW H × List MemPlace}(h:YK enc prog W 0 (λ_=>true) true a 5 [v] =some x):∃z:Nat,v= eb z/\z<256:=by obtain⟨z,b,_,c⟩:=DataW.trod_int UA h;simp only[UD,and_true]at b;have d:IntKind.u8.min=0:=rfl;have e:IntKind.u8.max=255:=rfl;simp only[Lit.wf,VN,decide_eq_true_eq]at c;exact⟨z.toNat,by rw[b,Int.toNat_of_nonneg J],J⟩
theorem vz{a:Nat}{v:QC}{x:DataW H × List MemPlace}(h:YK enc prog W 0 (λ_=>true) true a 22 [v] =some x):∃z:Nat,v= aH z/\z<65536:=by obtain⟨z,b,_,c⟩:=DataW.trod_int underlying22 h;simp only[UD,and_true]at b;have d:IntKind.u16.min=0:=rfl;have e:IntKind.u16.max=65535:=rfl;simp only[Lit.wf,VN,decide_eq_true_eq]at c;exact⟨z.toNat,by rw[b,Int.toNat_of_nonneg J],J⟩
theorem zl{a:Nat}{v:QC}{x:DataW H × List MemPlace}(h:YK enc prog W 0 (λ_=>true) true a 4 [v] =some x):∃b:Bool,v=.bool b:=by obtain⟨b,c,_⟩:=DataW.trod_bool underlying4 h;simp only[UD,and_true]at c;exact⟨b,c⟩
theorem jR{a:SR}{v:QC}(h:W.cell? (a.add 0)=some v):∃b o,a=R b o/\b<W.heap.size:=by
 obtain⟨b,o,c⟩:=a;have d:c=none:=by simpa[Addr.add]using World.cell?_spot h
 subst d;exact⟨b,o,rfl,QN W _ h⟩
theorem rI{p:Nat}{v:QC}{x:DataW H × List MemPlace}(h:YK enc prog W 0 (λ_=>true) true p 31 [v] =some x)(P:nV 31 x.1):
  ∃(a:Option SR) (L c:Nat) (F G:aN),v=.slice a L c/\L<=140737488351232/\(L=0\/∃b o,a=some (ag b o)/\b<W.heap.size/\∀k,k<L->W.cell? ⟨b,o+k*2,none⟩=some (.int .u16 (F k:Nat))/\W.cell? ⟨b,o+k*2+1,none⟩=some (.int .u8 (G k:Nat)))/\(∀k,k<L->F k<65536)/\∀k,k<L->G k<256:=by
 rcases Deep.open_slice underlying31 h with⟨d,z⟩|⟨a,g,Q,m,n,D,Pl,d,_,M,R,r,rfl,z⟩
 .simp only[UD,and_true]at d;subst d;exact⟨none,0,0,λ_=>0,λ_=>0,rfl,QO _,.inl rfl,λ_ h=>absurd h (RQ _),λ_ h=>absurd h (RQ _)⟩
 .simp only[UD,and_true]at d;subst d;simp only[if_true]at r;subst r;rw[PV]at z;have s:∀i,i<g->∃q:Nat × Nat,W.cell? (a.add (i*2))=some (aH q.1)/\W.cell? (a.add (i*2+1))=some (eb q.2)/\q.1<65536/\q.2<256:=λi l=>by
   obtain⟨A,u,w⟩:=z i aa;obtain⟨_,j,e⟩:=World.cells?_some u;obtain⟨xs,k,I,S,_,B,t⟩:=DataW.trod_struct underlying92 w;have C:=e 0 aa;have E:=e 1 aa;have K:=t 0 _ rfl;have O:=t 1 _ rfl;rw[Deep.add_add]at C E
   match xs,B,A,j with
   | [Y,J],_,[v0,v1],_=>simp[Pb,c5]at K O;simp at C E;obtain⟨T,rfl,U⟩:=vz K;obtain⟨V,rfl,X⟩:=gw O;exact⟨(T,V),C,E,U,X⟩
  obtain⟨q,y⟩:=Deep.choose_lt (α:=Nat × Nat) s;have f:=ou P underlying31;rw[NX]at f;simp at f;refine⟨some a,g,m,λi=>(q i).1,λi=>(q i).2,rfl,aa,?_,λi l=>(y i l).2.2.1,λi l=>(y i l).2.2.2⟩;by_cases Z:g=0
  .exact .inl Z
  .obtain ⟨b,o,rfl,N⟩:=jR (a:=a) (by have:=(y 0 aa).1;rwa[VY]at this);refine .inr ⟨b,o,rfl,N,λi l=>?_⟩;obtain⟨u,w,-⟩:=y i l;rw[iQ]at u w;exact⟨u,by rw[UP];exact w⟩
theorem xO{g:Nat}{v:QC}{x:DataW H × List MemPlace}(h:YK enc prog W 0 (λ_=>true) true g 56 [v] =some x)(t:nV 56 x.1):
  ∃(a:Option SR) (n c:Nat) (u:Nat->Bool),v=.slice a n c/\n<=140737488351232/\(n=0\/∃b o,a=some (R b o)/\b<W.heap.size/\∀k,k<n->W.cell? ⟨b,o+k,none⟩=some (.bool (u k))):=by
 rcases Deep.open_slice1 underlying56 c4 h with⟨d,r⟩|⟨a,f,w,m,n,V,D,Pl,d,_,C,E,j,rfl,r⟩
 .simp only[UD,and_true]at d;subst d;exact⟨none,0,0,λ_=>false,rfl,QO _,.inl rfl⟩
 .simp only[UD,and_true]at d;subst d;simp only[if_true]at j;subst j;obtain⟨q,s⟩:=Deep.choose_lt (α:=Bool) (p:=λi b=>W.cell? (a.add i)=some (.bool b)) (n:=f) λi F=>by obtain⟨y,z⟩:=r i J;obtain⟨b,l⟩:=zl z;exact⟨b,by rw[y,l]⟩
  have e:=ou t underlying56;rw[PW]at e;simp at e;refine⟨some a,f,m,q,rfl,J,?_⟩;by_cases A:f=0
  .exact .inl A
  .obtain ⟨b,o,rfl,l⟩:=jR (a:=a) (s 0 J);exact .inr ⟨b,o,rfl,l,λk B=>by rw[<-iQ];exact s k B⟩
theorem pR{j:Nat}{v:QC}{x:DataW H × List MemPlace}(h:YK enc prog W 0 (λ_=>true) true j 32 [v] =some x)(u:nV 32 x.1):
  ∃(a:Option SR) (n c:Nat) (r:aN) (A:Nat->Nat->Bool),v=.slice a n c/\n<=140737488351232/\(∀k,k<n->r k<=140737488351232)/\(n=0\/∃b o,a=some (R b o)/\b<W.heap.size/\∀k,k<n->∃w B,W.cell? ⟨b,o+k,none⟩=some (.slice w (r k) B)/\
   (r k=0\/∃t y,w=some (R t y)/\t<W.heap.size/\∀i,i<r k->W.cell? ⟨t,y+i,none⟩=some (.bool (A k i)))):=by
 rcases Deep.open_slice1 underlying32 PU h with⟨d,z⟩|⟨a,f,C,m,n,V,D,Pl,d,_,X,Z,l,rfl,z⟩
 .simp only[UD,and_true]at d;subst d;exact⟨none,0,0,λ_=>0,λ_ _=>false,rfl,QO _,λ_ h=>absurd h (RQ _),.inl rfl⟩
 .simp only[UD,and_true]at d;subst d;simp only[if_true]at l;subst l;obtain⟨q,s⟩:=Deep.choose_lt (α:=Option SR × Nat × Nat × (Nat->Bool)) (p:=λi q=>W.cell? (a.add i)=some (.slice q.1 q.2.1 q.2.2.1)/\q.2.1<=140737488351232/\(q.2.1=0\/∃b o,q.1=some (R b o)/\b<W.heap.size/\∀k,k<q.2.1->W.cell? ⟨b,o+k,none⟩=some (.bool (q.2.2.2 k)))) (n:=f) λi g=>by obtain⟨E,F⟩:=z i J;obtain⟨G,K,L,O,P,Q,S⟩:=xO F (vy u underlying32 (i:=i) (by simp[g]));exact⟨(G,K,L,O),by rw[E,P],Q,S⟩
  have e:=ou u underlying32;rw[NW]at e;simp at e;refine⟨some a,f,m,λi=>(q i).2.1,λi=>(q i).2.2.2,rfl,J,λi g=>(s i g).2.1,?_⟩;by_cases T:f=0
  .exact .inl T
  .obtain ⟨b,o,rfl,U⟩:=jR (a:=a) (s 0 J).1;exact .inr ⟨b,o,rfl,U,λi g=>⟨(q i).1,(q i).2.2.1,(by have:=(s i g).1;rw[iQ]at this;exact this),(s i g).2.2⟩⟩
theorem Bd{t:Nat}{v:QC}{x:DataW H × List MemPlace}(h:YK enc prog W 0 (λ_=>true) true t 23 [v] =some x)(U:nV 23 x.1):
  letI:Lo:=⟨W.heap.size⟩
  ∃(a:Option SR) (L c:Nat) (A:Nat->lX),v=.slice a L c/\L<=140737488351232/\jx W a L A:=by
 letI:Lo:=⟨W.heap.size⟩
 rcases Deep.open_slice underlying23 h with⟨e,C⟩|⟨a,p,a0,m,n,D,Pl,e,_,b3,b4,u,rfl,C⟩
 .simp only[UD,and_true]at e;subst e;exact⟨none,0,0,λ_=>⟨0,0,0,none,0,0,none,0,0,λ_=>0,λ_=>0,λ_=>0⟩,rfl,QO _,⟨.inl rfl,λ_ h=>absurd h (RQ _),λ_ h=>absurd h (RQ _),λ_ h=>absurd h (RQ _),QE _⟩⟩
 .simp only[UD,and_true]at e;subst e;simp only[if_true]at u;subst u;rw[PT]at C;have w:∀i,i<p->∃q:lX,W.cell? (a.add (i*5))=some (eb q.kd)/\W.cell? (a.add (i*5+1))=some (eb q.x)/\W.cell? (a.add (i*5+2))=some (eb q.y)/\W.cell? (a.add (i*5+3))=some (.slice q.la q.L q.lc)/\W.cell? (a.add (i*5+4))=some (.slice q.ra q.rn q.rc)/\q.fit/\
    (q.L=0\/∃b o,q.la=some (ag b o)/\b<W.heap.size/\∀k,k<q.L->W.cell? ⟨b,o+k*2,none⟩=some (.int .u16 (q.bk k:Nat))/\W.cell? ⟨b,o+k*2+1,none⟩=some (.int .u8 (q.fl k:Nat)))/\
    (q.rn=0\/∃b o,q.ra=some (ag b o)/\b<W.heap.size/\∀k,k<q.rn->∃a c,W.cell? ⟨b,o+k,none⟩=some (.slice a (q.kn k) c)):=λi g=>by
   obtain⟨E,z,B⟩:=C i aa;obtain⟨_,r,d⟩:=World.cells?_some z;obtain⟨xs,k,V,F,_,G,f⟩:=DataW.trod_struct underlying34 B;have s:nV 34 (D i):=vy U underlying23 (i:=i) (by simp[g]);have K:=d 0 aa;have O:=d 1 aa;have P:=d 2 aa;have Q:=d 3 aa;have S:=d 4 aa;have X:=f 0 _ rfl;have Z:=f 1 _ rfl;have N:=f 2 _ rfl;have M:=f 3 _ rfl;have R:=f 4 _ rfl;rw[Deep.add_add]at K O P Q S
   match xs,G,E,r with
   | [y0,T,y2,y3,y4],_,[v0,v1,v2,v3,v4],_=>
    simp[c5,PR,PS]at X Z N M R;simp at K O P Q S;obtain⟨z0,rfl,i0⟩:=gw X;obtain⟨z1,rfl,i1⟩:=gw Z;obtain⟨z2,rfl,i2⟩:=gw N;have a1:D i=.agg [y0.1,T.1,y2.1,y3.1,y4.1]:=by have:=congrArg Prod.fst F;simpa using this
    rw[a1]at s;obtain⟨a2,L,a3,a4,a5,rfl,l1,l2,l3,l4⟩:=rI M (pQ s underlying34 (j:=3) rfl rfl);obtain⟨a6,a7,a8,a9,b5,rfl,r1,r2,r3⟩:=pR R (pQ s underlying34 (j:=4) rfl rfl);exact⟨⟨z0,z1,z2,a2,L,a3,a6,a7,a8,a4,a5,a9⟩,K,O,P,Q,S,⟨⟨i0,i1,i2⟩,⟨l1,r1⟩,r2,l3,l4⟩,l2,r3.imp id λ⟨b,o,x1,x2,x3⟩=>⟨b,o,x1,x2,λk V=>by obtain⟨b0,b1,T,-⟩:=x3 k V;exact⟨b0,b1,T⟩⟩⟩
  haveI:Inhabited lX:=⟨⟨0,0,0,none,0,0,none,0,0,λ_=>0,λ_=>0,λ_=>0⟩⟩
  obtain⟨q,y⟩:=Deep.choose_lt (α:=lX) w;have l:=ou U underlying23;rw[NV]at l;simp at l;refine⟨some a,p,m,q,rfl,aa,?_,λi g=>(y i g).2.2.2.2.2.2.1,λi g=>(y i g).2.2.2.2.2.2.2,λi g=>(y i g).2.2.2.2.2.1,QE _⟩;by_cases h0:p=0
  .exact .inl h0
  .obtain ⟨b,o,rfl,b2⟩:=jR (a:=a) (by have:=(y 0 aa).1;rwa[VY]at this);refine .inr ⟨b,o,rfl,b2,λi g=>?_⟩;obtain⟨z,B,I,Y,J,-⟩:=y i g;rw[iQ]at z B I Y J;exact⟨z,by rw[UP];exact B,by rw[UP];exact I,by rw[UP];exact Y,by rw[UP];exact J⟩
theorem Be{v:QC}{d:DataW H}{B:List MemPlace}(e:Value.okWide prog W .any 0 25 v)(m:DataW.Trod enc prog W 0 (λ_=>true) true 25 v d B)(q:nV 25 d):
  letI:Lo:=⟨W.heap.size⟩
  ∃(g h i r:Nat) (n:Bool) (a:Option SR) (L c:Nat) (A:Nat->lX),v=KE g h i r n a L c/\g<256/\h<256/\i<256/\r<65536/\L<=140737488351232/\jx W a L A:=by
 obtain⟨C,rfl,f⟩:=okWide_struct underlying25 e;rw[PQ]at f;obtain⟨l⟩:=C;obtain⟨s,m⟩:=m
 match l,f with
 | [v0,Z,N,M,R,I],_=>
  obtain⟨xs,k,Y,o,_,p,b⟩:=DataW.trod_struct underlying25 m;have t:=b 0 _ rfl;have u:=b 1 _ rfl;have w:=b 2 _ rfl;have x:=b 3 _ rfl;have y:=b 4 _ rfl;have z:=b 5 _ rfl
  match xs,p with
  | [D,E,F,G,K,O],_=>
   simp[c5,Pb,c4,PO,Value.cells]at t u w x y z;obtain⟨g,rfl,P⟩:=gw t;obtain⟨h,rfl,Q⟩:=gw u;obtain⟨i,rfl,S⟩:=gw w;obtain⟨z3,rfl,T⟩:=vz x;obtain⟨n,rfl⟩:=zl y;have U:d=.agg [D.1,E.1,F.1,G.1,K.1,O.1]:=by have:=congrArg Prod.fst o;simpa using this
   rw[U]at q;obtain⟨a,L,c,A,rfl,V,X⟩:=Bd z (pQ q underlying25 (j:=5) rfl rfl);exact⟨g,h,i,z3,n,a,L,c,A,rfl,P,Q,S,T,V,X⟩
end
end
def fP(w:M)(p n:Nat)(f:aN)(q:Nat):Prop:=
 ∃g c,n<=c/\w.heap[p]?=some (N #[a' g n c,Y q,aH 0,Y 0] 364)/\∃a b,w.heap[g]?=some (.cells a 5 b)/\∀k,k<n->a[k]?=some (.int .u8 (f k))
theorem fP.below(h:fP w m n f k)(a:aq w W):fP W m n f k:=by obtain⟨g,c,e,b,i,j,d,l⟩:=h;exact⟨g,c,e,(a.block _ (Z_ b)).trans b,i,j,(a.block _ (Z_ d)).trans d,l⟩
def ka:List Nat:= [364]
theorem He(w:M)(p n q:Nat)(f:aN)(h:fP w p n f q)(i:q<=n)(j:n<=1000000):aF 319 #[ar p] w λe a=>aL e (Y (n-q:Nat))/\aq w a:=by obtain⟨g,c,-,b,-⟩:=h;obtain⟨k,d,z⟩:=cr b;have e:QG.wrap ((n:Int)-q)=((n-q:Nat):Int):=bs;go_enter func319,ntmps319;go_wp2_with fail;go_quiet(fail);go_wp2;go_ret;exact⟨rfl,cK aj _⟩
theorem sU(w:M)(p n q k:Nat)(f:aN)(h:fP w p n f q)(B:1<=k)(C:q+k<=n)(l:n<=1000000):aF 279 #[ar p,Y k] w λe o=>(∃g c,n<=c/\aL e (.slice (some (R g q)) k (c-q))/\∃a b,w.heap[g]?=some (.cells a 5 b)/\∀k,k<n->a[k]?=some (.int .u8 (f k)))/\aq w o:=by
 have r:=I (λW (s:aq w W)=>He W p n q f (h.below s) J l);obtain⟨g,c,t,u,a,b,v,x⟩:=h;have y:QX (∃a b,aX w g (.cells a 5 b)/\∀k,k<n->a[k]?=some (.int .u8 (f k))):=⟨a,b,v,x⟩;obtain⟨D,d,z⟩:=cr u;obtain⟨m,A⟩:=ah (q+k);have E:QG.wrap ((q:Int)+k)=((m:Nat):Int):=by rw[<-A];go_arith
 have F:¬((n-q:Nat):Int)<(k:Int):=J;have G:(0:Int)<=(q:Int):=J;have K:(q:Int)<=(m:Int):=J;have L:(m:Int)<=(c:Int):=J;have O:¬c=q:=J;have P:m-q=k:=J;go_enter func279,ntmps279;go_wp2_with(first|(go_at_call 319;refine(r w aj).mono ?_;rintro e Q ⟨rfl,i⟩;obtain⟨S,T,U⟩:=kp i p z;have j:=I i));go_quiet(fail);go_wp2;go_ret;exact⟨⟨g,c,t,by simp[*],y⟩,cK j _⟩
theorem Ez(n:Nat)(h:n<18446744073709551616):(UK 64 (n:Int)).toNat=n:=by rw[WX,XK];exact SA J
theorem JT(a b:Nat)(c:a<18446744073709551616)(d:b<18446744073709551616):bits .or .u64 (a:Int) (b:Int)=((a|||b:Nat):Int):=by have e:a|||b<2^64:=Nat.or_lt_two_pow J J;show VP.wrap ((UK 64 (a:Int)|||UK 64 (b:Int)).toNat:Int)=_;rw[BitVec.toNat_or,Ez a c,Ez b d,IntKind.wrap_u64];omega
theorem EA{x y j:Nat}(a:x<256^j)(i:y<256)(k:j<8):bits .or .u64 (x:Int) (VP.wrap (VP.wrap (y:Int)*2^(8*j)))=((x+y*256^j:Nat):Int):=by
 have e:((256^j:Nat):Int)=2^(8*j):=by rw[show 256=2^8 from rfl,<-Nat.pow_mul,Int.natCast_pow];rfl
 have b:256^(j+1)<=256^8:=Nat.pow_le_pow_right ai J;have l:y*256^j<=255*256^j:=Nat.mul_le_mul_right _ J;rw[Nat.pow_succ]at b;have c:y*256^j<18446744073709551616:=J;have d:x<18446744073709551616:=J;have f:VP.wrap (VP.wrap (y:Int)*2^(8*j))=((y*256^j:Nat):Int):=by
  have g:VP.wrap (y:Int)=y:=by rw[IntKind.wrap_u64];omega
  rw[g,<-e,<-TK,IntKind.wrap_u64];omega
 rw[f,JT _ _ d c];congr 1;have h:y*256^j=y<<<(8*j):=by rw[Nat.shiftLeft_eq,Nat.pow_mul]
 rw[h,Nat.or_comm,<-Nat.shiftLeft_add_eq_or_of_lt (by rw[Nat.pow_mul];exact a),YY]
theorem Fr.reader[Lo](h:fP w m n f k)(a:Nat)(j:Lo.lo<=m):fP (w.setCell (R m 1) (Y a)) m n f a/\Fr ka aG w (w.setCell (R m 1) (Y a)):=by
 obtain⟨g,c,l,b,o,p,d,q⟩:=h;have i:g≠m:=λe=>by rw[e,b]at d;cases d
 refine⟨⟨g,c,l,heap_setCell_same w m 1 _ 364 _ b,o,p,?_,q⟩,(Fr.refl _ _ _).set b rfl j _⟩;exact(RO _ _ _ _ i).trans d
def LX[Lo](p n q k v:Nat)(f:aN)(w:M)(e:RV)(a:M):Prop:=aL e (bg v)/\fP a p n f (q+k)/\Fr ka aG w a
theorem sV[Lo](w:QA)(p n q k:Nat)(f:aN)(h:fP w p n f q)(l:Lo.lo<=p)(C:1<=k)(D:k<=8)(v:q+k<=n)(E:n<=1000000)(F:∀j,j<n->f j<256):aF 282 #[ar p,ae k] w (LX p n q k (dx (λj=>f (q+j)) k) f w):=by
 have G:=ad (sU w p n q k f h C v E);have d:=aY h l F v;go_enter func282,ntmps282;go_wp2_with(first|(go_at_call 279;refine G.mono ?_;rintro e X ⟨⟨g,c,Z,rfl,m⟩,o⟩;have K:=ad m;have L:=ad o));go_loopw [5,12] (λO b wr=>∃(j:Nat),j<=k/\b= ae j/\O=.int .u64 (dx (λj=>f (q+j)) j:Nat)/\aq w wr) (λ_ b _=>k-(intOf b).toNat)
 case atStart=>exact⟨0,QO _,rfl,rfl,L⟩
 case round=>
  obtain⟨j,H,rfl,rfl,o⟩:=hrel;have a:=ad o;by_cases r:j<k
  .obtain ⟨P,Q,z,S⟩:=K.out;have T:wr.cell? ⟨g,q+j,none⟩=some (.int .u8 (f (q+j):Nat)):=(QS wr g _ P 5 Q ((a.block _ (Z_ z)).trans z)).trans (S (q+j) aa);obtain⟨x,s⟩:=ah (dx (λj=>f (q+j)) j);obtain⟨y,t⟩:=ah (f (q+j));rw[s];rw[t]at T;have u:=aT s t (EA (j:=j) (x:=x) (y:=y) (by rw[<-s];exact gM λi N=>d.2.2.1 _ (by have:=d.2.2.2;omega)) (by rw[<-t];exact d.2.2.1 _ (by have:=d.2.2.2;omega)) aa);go_wp2;refine⟨⟨j+1,r,rfl,?_,a⟩,by simp[intOf];omega⟩;rw[u.2.2];unfold dx;rw[u.1,u.2.1]
  .obtain rfl:j=k:=aa;obtain⟨h,l,-,-⟩:=d.out;have A:=h.below a;have B:=ad (λU=>Fr.reader A U l);have V:=ad (Fr.af a:Fr ka aG w wr);obtain⟨M,R,-,W,-⟩:=A;obtain⟨I,Y,J⟩:=cr W;have e1:QG.wrap ((q:Int)+j)=((q+j:Nat):Int):=bs;go_wp2;go_ret;exact⟨rfl,(B _).1,V.tr (B _).2⟩
theorem xP[Lo](w:M)(p n q:Nat)(f:aN)(h:fP w p n f q)(d:Lo.lo<=p)(g:q+1<=n)(i:n<=1000000)(b:∀j,j<n->f j<256):aF 226 #[ar p] w λe c=>aL e (.int .u8 (f q:Nat))/\fP c p n f (q+1)/\Fr ka aG w c:=by have a:=I (sV w p n q 1 f h d (QE _) J g i b);have s:=b q J;have e:((f q:Nat):Int)%256=(f q:Nat):=J;rw[NI]at a;rw[VK]at a;obtain⟨y,k⟩:=ah (f q);rw[k]at a e|-;go_enter func226,ntmps226;go_wp2_with(first|(go_at_call 282;refine a.mono ?_;rintro e t ⟨rfl,l,m⟩;have o:=I l;have r:=I m));go_ret;exact⟨by first|rfl|(simp;omega),o,r⟩
theorem Hf[Lo](w:M)(p n q:Nat)(f:aN)(h:fP w p n f q)(d:Lo.lo<=p)(g:q+2<=n)(i:n<=1000000)(a:∀j,j<n->f j<256):aF 235 #[ar p] w λe b=>aL e (.int .u16 (dx (λj=>f (q+j)) 2:Nat))/\fP b p n f (q+2)/\Fr ka aG w b:=by have c:=I (sV w p n q 2 f h d J J g i a);have k:dx (λj=>f (q+j)) 2<256^2:=gM λj t=>a _ J;obtain⟨y,l⟩:=ah (dx (λj=>f (q+j)) 2);rw[l]at c k|-;have e:((y:Nat):Int)%65536=(y:Nat):=J;go_enter func235,ntmps235;go_wp2_with(first|(go_at_call 282;refine c.mono ?_;rintro e u ⟨rfl,m,o⟩;have r:=I m;have s:=I o));go_ret;exact⟨by first|rfl|(simp;omega),r,s⟩
theorem g_[Lo](w:M)(p n q:Nat)(f:aN)(h:fP w p n f q)(d:Lo.lo<=p)(g:q+4<=n)(i:n<=1000000)(a:∀j,j<n->f j<256):aF 263 #[ar p] w λe b=>aL e (.int .u32 (dx (λj=>f (q+j)) 4:Nat))/\fP b p n f (q+4)/\Fr ka aG w b:=by have c:=I (sV w p n q 4 f h d J J g i a);have k:dx (λj=>f (q+j)) 4<256^4:=gM λj t=>a _ J;obtain⟨y,l⟩:=ah (dx (λj=>f (q+j)) 4);rw[l]at c k|-;have e:((y:Nat):Int)%4294967296=(y:Nat):=J;go_enter func263,ntmps263;go_wp2_with(first|(go_at_call 282;refine c.mono ?_;rintro e u ⟨rfl,m,o⟩;have r:=I m;have s:=I o));go_ret;exact⟨by first|rfl|(simp;omega),r,s⟩
theorem sW[Lo](w:M)(p n q:Nat)(f:aN)(h:fP w p n f q)(c:Lo.lo<=p)(d:q+8<=n)(g:n<=1000000)(i:∀j,j<n->f j<256):aF 220 #[ar p] w λe a=>aL e (.int .u64 (dx (λj=>f (q+j)) 8:Nat))/\fP a p n f (q+8)/\Fr ka aG w a:=by have b:=I (sV w p n q 8 f h c J J d g i);obtain⟨y,k⟩:=ah (dx (λj=>f (q+j)) 8);rw[k]at b|-;go_enter func220,ntmps220;go_wp2_with(first|(go_at_call 282;refine b.mono ?_;rintro e s ⟨rfl,l,m⟩;have o:=I l;have r:=I m));go_ret;exact⟨rfl,o,r⟩
theorem EB(h:w.ownsRow m 5 1 (a' k n i) n (az n f)):cA w (a' k n i) n f:=gj h
theorem lY(w:M)(v:H)(n:Nat)(f:aN)(h:cA w v n f)(L:1<=n)(O:n<=1000000):aF 262 #[v] w λe q=>∃p,aL e (ar p)/\fP q p n f 0/\w.heap.size<=p/\aq w q:=by obtain⟨a,d,rfl,h⟩:=h;obtain⟨b,o,u,x,rfl,y,z⟩:=h.resolve_left J;have A:=I (eC b o n d f w (λk i=>(QS w b _ u 5 x y).trans (z k i)) J);go_enter func262,ntmps262;go_wp2_with(first|(go_at_call 199;refine A.mono ?_;rintro e B ⟨v,rfl,r,j⟩;obtain⟨P,C,rfl,c,D⟩:=eP r;obtain⟨g,rfl⟩:=D.resolve_left J;have E:=I r;have s:=I j));go_ret;obtain⟨Q,S,F,j⟩:=EB E;cases F;obtain⟨T,U,l,m,G,t,K⟩:=j.resolve_left J;cases G;refine⟨B.heap.size,rfl,⟨g,C,c,QB _ _,l,m,?_,λk i=>by have:=K k i;rwa[RE]at this⟩,s.size,aK s _⟩;rw[QW _ _ _ (Z_ t)];exact t
instance MN (a b:Nat):Decidable (cM a b):=by unfold cM;infer_instance
theorem kR(b a:Nat)(w:M):aF 205 #[bg b,bg a] w λe c=>aL e (.bool (decide (cM b a)))/\w=c:=by
 by_cases h:cM b a
 .rw [decide_eq_true h];exact ig b a w h
 rw[decide_eq_false h];unfold cM at h;by_cases d:(b:Int)<=4611686018427387904<;>by_cases f:(1:Int)<=a<;>by_cases g:(a:Int)<=4611686018427387904
 .exact absurd ⟨J,J,J⟩ h
 all_goals(clear h;go_enter func205,ntmps205;go_wp2;go_ret;exact⟨by simp[*],rfl⟩)
theorem mX(n a b:Int)(w:M):aF 206 #[Y n,Y a,Y b] w λe c=>aL e (.bool (decide (a<=n/\n<=b)))/\w=c:=by by_cases d:a<=n<;>by_cases f:n<=b<;>(go_enter func206,ntmps206;go_wp2;go_ret;exact⟨by simp[*],rfl⟩)
def zm(w:M)(e:RV)(a:M):Prop:=aL e (.tuple #[aO,aH 80])/\aq w a
theorem LY(h:Ck)(w:M)(i:¬h.ok):aF 149 #[.agg #[bg h.ep,bg h.sq,Y h.tail]] w (zm w):=by
 obtain⟨c,d,tail⟩:=h;have a:=I (kR c d);have f:=I (mX (tail:Nat) 0 2047);by_cases b:cM c d
 .have j:¬((0:Int)<=tail/\(tail:Int)<=2047):=λe=>i ⟨b,by show tail<2048;omega⟩;rw[decide_eq_true b]at a;rw[decide_eq_false j]at f;go_enter func149,ntmps149;go_wp2_with(first|(go_at_call 205;refine(a _).mono ?_;rintro e g ⟨rfl,rfl⟩)|(go_at_call 206;refine(f _).mono ?_;rintro e g ⟨rfl,rfl⟩));go_ret2;exact⟨rfl,aK aj _⟩
 .rw [decide_eq_false b]at a;go_enter func149,ntmps149;go_wp2_with(first|(go_at_call 205;refine(a _).mono ?_;rintro e g ⟨rfl,rfl⟩));go_ret2;exact⟨rfl,aK aj _⟩
theorem L_(h:Cm)(w:M)(j:h.sm<4294967296)(k:¬h.ok):aF 336 #[.agg #[bg h.ep,bg h.sq,Y h.cy,.int .u32 (h.sm:Nat)]] w (zm w):=by
 obtain⟨d,f,a,m⟩:=h;have b:=I (kR d f);have g:=I (mX (a:Nat) 1 1023);by_cases c:cM d f
 .have l:¬((1:Int)<=a/\(a:Int)<=1023):=λe=>k ⟨c,by show 1<=a/\a<=1023;omega,j⟩;rw[decide_eq_true c]at b;rw[decide_eq_false l]at g;go_enter func336,ntmps336;go_wp2_with(first|(go_at_call 205;refine(b _).mono ?_;rintro e i ⟨rfl,rfl⟩)|(go_at_call 206;refine(g _).mono ?_;rintro e i ⟨rfl,rfl⟩));go_ret2;exact⟨rfl,aK aj _⟩
 .rw [decide_eq_false c]at b;go_enter func336,ntmps336;go_wp2_with(first|(go_at_call 205;refine(b _).mono ?_;rintro e i ⟨rfl,rfl⟩));go_ret2;exact⟨rfl,aK aj _⟩
theorem Ma(h:Hd)(w:M)(r:h.sm<4294967296)(s:h.cy<4294967296)(t:¬h.ok):aF 335 #[.agg #[bg h.ep,bg h.sq,Y h.ix,Y h.cy,Y h.me,Y h.row,.bool h.nC,.int .u32 (h.sm:Nat)]] w (zm w):=by
 obtain⟨m,n,i,a,j,c,u,z⟩:=h;have d:=I (kR m n);have v:a<4294967296:=s;have A:QG.wrap ((a:Int)-1)=(a:Int)-1:=bs;by_cases k:cM m n
 .rw [decide_eq_true k]at d;by_cases o:(1:Int)<=a/\(a:Int)<=1023
  .have f:=I (decide_eq_true o);by_cases p:(0:Int)<=i/\(i:Int)<=(a:Nat)-1
   .have g:=I (decide_eq_true p);by_cases q:(0:Int)<=j/\(j:Int)<=15
    .have l:=I (decide_eq_true q);have x:¬((0:Int)<=c/\(c:Int)<=4095):=λe=>t ⟨k,by show 1<=a/\a<=1023;omega,by show i<a;omega,by show j<=15;omega,by show c<=4095;omega,r⟩;have y:=I (decide_eq_false x);go_enter func335,ntmps335;go_wp2_with(first|(go_at_call 205;refine(d _).mono ?_;rintro e b ⟨rfl,rfl⟩)|(go_at_call 206;refine(mX _ _ _ _).mono ?_;rintro e b ⟨rfl,rfl⟩;(first|rw[f.out] |rw[g.out] |rw[l.out] |rw[y.out])));go_ret2;exact⟨rfl,aK aj _⟩
    .have l:=I (decide_eq_false q);go_enter func335,ntmps335;go_wp2_with(first|(go_at_call 205;refine(d _).mono ?_;rintro e b ⟨rfl,rfl⟩)|(go_at_call 206;refine(mX _ _ _ _).mono ?_;rintro e b ⟨rfl,rfl⟩;(first|rw[f.out] |rw[g.out] |rw[l.out])));go_ret2;exact⟨rfl,aK aj _⟩
   .have g:=I (decide_eq_false p);go_enter func335,ntmps335;go_wp2_with(first|(go_at_call 205;refine(d _).mono ?_;rintro e b ⟨rfl,rfl⟩)|(go_at_call 206;refine(mX _ _ _ _).mono ?_;rintro e b ⟨rfl,rfl⟩;(first|rw[f.out] |rw[g.out])));go_ret2;exact⟨rfl,aK aj _⟩
  .have f:=I (decide_eq_false o);go_enter func335,ntmps335;go_wp2_with(first|(go_at_call 205;refine(d _).mono ?_;rintro e b ⟨rfl,rfl⟩)|(go_at_call 206;refine(mX _ _ _ _).mono ?_;rintro e b ⟨rfl,rfl⟩;(first|rw[f.out])));go_ret2;exact⟨rfl,aK aj _⟩
 .rw [decide_eq_false k]at d;go_enter func335,ntmps335;go_wp2_with(first|(go_at_call 205;refine(d _).mono ?_;rintro e b ⟨rfl,rfl⟩));go_ret2;exact⟨rfl,aK aj _⟩
theorem rJ(h:yZ f):hE f=true:=by unfold hE;simp only[decide_eq_true_eq];exact⟨h 0 ai,h 1 ai,h 2 ai,h 3 ai⟩
def JU(f:aN):Nat:=if hE f=true/\f 4<=3 then f 4 else 0
theorem Hg(v:H)(f:aN)(w:M)(h:dR w v f)(p:∀k,k<128->f k<256):aF 307 #[v] w λe t=>aL e (.int .u8 (JU f:Nat))/\aq w t:=by
 obtain⟨b,o,d,u,x,rfl,q,c,z⟩:=h;have r:∀k,k<128->w.cell? ⟨b,o+k,none⟩=some (.int .u8 (f k)):=λk g=>(QS w b _ u 5 x c).trans (z k g);have s:=wG f λk g=>p k J;have i:=jc (w:=w) (v:=.slice (some (R b o)) 4 d) (n:=4) (f:=f) ⟨_,_,rfl,.inr ⟨b,o,rfl,λk g=>r k J⟩⟩ w aj;obtain⟨C,j⟩:=ah (kF 4 f);rw[j]at s i;have l:=r 4 J;have a:=p 4 J;obtain⟨y,A⟩:=ah (f 4);obtain⟨m,B⟩:=ah (hE f);unfold JU;rw[B]at s|-;rw[A]at l a|-;cases m
 .rw [al aJ];go_enter func307,ntmps307;go_wp2;go_ret;exact⟨rfl,aj⟩
 .by_cases c:y<=3
  .rw [ak ⟨rfl,c⟩];go_enter func307,ntmps307;go_wp2;go_ret;exact⟨rfl,aj⟩
  .rw [al (λe=>c e.2)];go_enter func307,ntmps307;go_wp2;go_ret;exact⟨rfl,aj⟩
theorem zn[Lo](w:M)(p n q k:Nat)(f:aN)(h:fP w p n f q)(A:Lo.lo<=p)(s:1<=k)(t:q+k<=n)(u:n<=1000000):aF 217 #[ar p,Y k] w λe x=>(∃v,aL e v)/\fP x p n f (q+k)/\Fr ka aG w x:=by have B:=I (sU w p n q k f h s t u);have m:=I (λW (i:aq w W) g c (b:Array QC) l (a:aX w g (.cells b 5 l)) (o:∀k,k<n->b[k]?=some (.int .u8 (f k)))=>eC g q k (c-q) (λj=>f (q+j)) W (λj L=>(QS W g _ b 5 l ((i.block _ (Z_ a)).trans a)).trans (o _ J)) J);have r:=ca h A s t u;go_enter func217,ntmps217;go_wp2_with(first|(go_at_call 279;refine B.mono ?_;rintro e C ⟨⟨g,c,O,rfl,b,l,a,o⟩,i⟩;have D:=I (m C i g c b l a o);have E:=I i)|(go_at_call 199;refine D.mono ?_;rintro e P ⟨v,rfl,F,G⟩;obtain⟨Q,S,rfl,-,-⟩:=eP F;have d:=I (via E G);have y:=I (r.1.below d);have z:=I (λK=>Fr.reader y K r.2.1);obtain⟨T,U,-,a,-⟩:=id y;obtain⟨V,X,Z⟩:=cr a;have H:QG.wrap ((q:Int)+k)=((q+k:Nat):Int):=(by have:=r.out;go_arith)));go_ret;exact⟨⟨_,rfl⟩,(z _).1,(Fr.af d).tr (z _).2⟩
theorem JV(a:1<=n/\n<=3)(h:gN n f):JU f=n:=by unfold JU;rw[ak ⟨rJ h.Iv,by rw[h.kind];exact a.2⟩,h.kind]
def NY[Lo](T:List Nat)(a:Nat)(f:aN)(g:Prop)(b:aN)(J Q:M->Prop)(w:M)(e:RV)(c:M):Prop:=
 ∃d:Nat,aL e (aH d)/\Fr T aG w c/\J c/\((d=0/\g/\aD f b/\Q c)\/(d≠0/\¬(gN a f/\g/\aD f b)))
theorem xQ[Lo](T:List Nat)(r s:Nat)(a1:Array QC)(d7:∀l w,(VF r l).run prog w=.ok (.enter r l) w)(d8:∀l w,(VF s l).run prog w=.ok (.enter s l) w)(v:QC)(f:aN)(i:Nat)(a6:Prop)(m:aN)(J Q:QA->Prop)(w:QA)(h:dR w v f)(d1:∀k,k<128->f k<256)(d9:∀k,k<128->m k<256)(u:Lo.lo<=w.heap.size)(a2:1<=i/\i<=3)(h5:T.contains 5=false)(G:ka.all (λt=>T.contains t)=true)(K:∀W p,Fr ka aG w W->fP W p 128 f 24->w.heap.size<=p->aF r (#[ar p,.int .u64 (dx (λk=>f (8+k)) 8:Nat),.int .u64 (dx (λk=>f (16+k)) 8:Nat)] ++a1) W λe L=>aL e (.tuple #[])/\Q L/\Fr T aG W L)(a7:∀W,Fr ka aG w W->J W)(a8:∀a b,Q a->aq a b->J b)(e0:∀a b,Q a->aq a b->Q b)(z:∀W,Q W->aF s a1 W λe L=>(a6/\si 128 m W e L)\/(¬a6/\zm W e L)):
  aF 270 #[v,eb i,.func (.func r) #[] a1,.func (.func s) #[] a1] w (NY T i f a6 m J Q w):=by
 have a3:=ad (Hg v f w h d1);obtain⟨b,o,A,d2,d3,rfl,d4,h3,h4⟩:=id h;have d5:=ad h;have X:=ad d1;have e2:=ad d9;have e3:=ad K;have e4:=ad z;have e5:=ad e0;have Z:=ad a7;have H:=ad a8;have c1:¬A=124:=aa;have c2:(124:Int)<=(A:Int):=aa;by_cases O:JU f=i
 .rw [O]at a3;go_enter func270,ntmps270;have H4:QX (∀W,aq w W->cA W (.slice (some ⟨b,o+124,none⟩) 4 (A-124)) 4 λk=>f (124+k)):=λW d=>⟨_,_,rfl,.inr ⟨b,o+124,d2,d3,rfl,(d.block _ (Z_ h3)).trans h3,λk a2=>by rw[UP];exact h4 _ aa⟩⟩;have N:QX (∀W,Fr ka aG w W->kc W (.slice (some (ag b o)) 124 A) 124 f):=λW d=>⟨_,_,rfl,.inr ⟨b,o,rfl,λk a2=>(QS W b _ d2 5 d3 (d.hp h3 rfl)).trans (h4 _ aa)⟩⟩;go_wp2_with(first|(go_at_call 307;refine a3.mono ?_;rintro e w1 ⟨rfl,d⟩;have V:=ad d)|(go_at_call 262;refine(lY w1 _ 4 _ (H4 w1 V) ai ai).mono ?_;rintro e w2 ⟨p,rfl,B,a9,P⟩;have b0:=ad B;have b1:=ad (QD V.size a9);have b2:=ad (via V P)));have d6:=ad (λW (d:aq w2 W)=>g_ W p 4 0 _ (b0.below d) (QD u b1) ai ai λj f0=>X.out _ aa);have M:=ad (λW (d:Fr ka aG w W)=>jD 124 _ f W (N W d) (λk a2=>X.out k aa) ai);obtain⟨x,b3⟩:=ah (dx (λj=>f (124+(0+j))) 4);obtain⟨y,R⟩:=ah (dN 0 124 f);simp only[b3]at d6;rw[R]at M;go_region_held3(λ_=>True) ((simp[*,go_sem];done)) (first|(go_at_call 263;refine(d6 _ bF).mono ?_;rintro e w3 ⟨rfl,-,h2⟩;have C:QX (Fr ka aG w w3):=(Fr.af (via b2 bF)).tr h2)|(go_at_call 160;refine(M _ (by first|exact C|exact C.tr (Fr.af bF))).mono ?_;rintro e w4 ⟨rfl,d⟩;have n:QX (Fr ka aG w w4):=(by first|exact C.tr (Fr.af d)|exact C.tr (Fr.af (via bF d)))));by_cases I:x=y
  .subst I;have a4:=aB b3 R;have b4:=d5.fr n rfl;have b5:=ad (lY w4 _ 128 f b4.eI ai ai);go_wp2_with(first|(go_at_call 262;refine b5.mono ?_;rintro e w5 ⟨p2,rfl,B,a9,P⟩;have b6:=ad B;have b7:=ad (n.tr (Fr.af P));have D:=ad (QD n.size a9)));go_wp2_with(first|(go_at_call 217;refine(zn w5 p2 128 0 8 f b6 (QD u D) ai ai ai).mono ?_;rintro e w6 ⟨⟨v6,rfl⟩,B,d⟩;have b8:=ad B;have b9:QX (Fr ka aG w w6):=b7.tr d));have c0:=ad (sW w6 p2 128 8 f b8 (QD u D) ai ai X);go_wp2_with(first|(go_at_call 220;refine c0.mono ?_;rintro e w7 ⟨rfl,B,d⟩;have c3:=ad B;have c4:QX (Fr ka aG w w7):=b9.tr d));have c6:=ad (sW w7 p2 128 16 f c3 (QD u D) ai ai X);go_wp2_with(first|(go_at_call 220;refine c6.mono ?_;rintro e w8 ⟨rfl,B,d⟩;have c7:=ad B;have Y:QX (Fr ka aG w w8):=c4.tr d));refine(e3 w8 p2 Y c7 D).mono ?_;rintro e w9 ⟨rfl,e6,d⟩;have E:=ad e6;have a0:=ad ((Y.wide T G).tr d);go_wp2_with fail;refine(e4 w9 E).mono ?_;rintro e e7 (⟨S,g,c,rfl,e8,d⟩|⟨S,rfl,d⟩)
   .have q:=ad (a0.tr (Fr.af d));have F:=ad (H _ _ E d);have HEq:=ad (mo _ _ 128 128 f m e7 (d5.fr q h5).wj (oJ e8) X e2);have c8:=ad (e5 _ _ E d);have c9:=ad S;by_cases a5:aD f m
    .have e1:ll 128 128 f m=true:=fD a5;have U:=ad a5;rw[e1]at HEq;go_wp2_with(first|(go_at_call 264;refine HEq.mono ?_;rintro e L ⟨rfl,rfl⟩));go_ret;exact⟨0,rfl,q,F,.inl ⟨rfl,c9,U,c8⟩⟩
    .have e1:ll 128 128 f m=false:=by
      unfold ll;rw[decide_eq_false_iff_not];exactλe=>a5 e.2
     have U:=ad a5;rw[e1]at HEq;go_wp2_with(first|(go_at_call 264;refine HEq.mono ?_;rintro e L ⟨rfl,rfl⟩));go_ret;exact⟨80,rfl,q,F,.inr ⟨ai,λe=>U.out e.2.2⟩⟩
   .have q:=ad (a0.tr (Fr.af d));have F:=ad (H _ _ E d);have d0:=ad S;go_wp2_with fail;go_ret;exact⟨80,rfl,q,F,.inr ⟨ai,λe=>d0.out e.2.1⟩⟩
  .have a4:=aT b3 R I;have e9:¬(x:Int)=(y:Int):=aa;go_wp2_with fail;go_ret;exact⟨81,rfl,n.wide T G,Z _ n,.inr ⟨ai,λe=>a4.2.2 (by rw[<-a4.1,<-a4.2.1];simp only[RE];exact e.1.sum)⟩⟩
 .have c5:¬(JU f:Int)=(i:Int):=aa;have d0:=ad O;obtain⟨y,R⟩:=ah (JU f);rw[R]at a3 c5 O;go_enter func270,ntmps270;go_wp2_with(first|(go_at_call 307;refine a3.mono ?_;rintro e w1 ⟨rfl,d⟩;have V:=ad d));go_ret;exact⟨80,rfl,Fr.af V,Z _ (Fr.af V),.inr ⟨ai,λe=>d0.out (JV a2 e.1)⟩⟩
theorem Fr.under[Lo](h:Fr T aG w W)(c:w.heap.size<=Lo.lo):aq w W:=
 ⟨h.os,h.tape,h.output,h.size,λk b=>by obtain⟨o,a⟩:∃o,aX w k o:=⟨_,RU b⟩;rw[h.block k o a (.inr J) id,a]⟩
abbrev NZ(h:Ck):H:=.agg #[bg h.ep,bg h.sq,Y h.tail]
abbrev Pc(h:Ck):Array H:= #[bg h.ep,bg h.sq,Y h.tail]
def JW{α:Type}(b:α->H)(d:α->Prop)(a:α->Nat->Nat)(f:aN)(w:M)(e:RV)(i:M):Prop:=
 ∃(c:Nat) (h:α),aL e (.tuple #[b h,aH c])/\aq w i/\((c=0/\d h/\aD f (a h))\/(c≠0/\∀g,d g->¬aD f (a g)))
theorem N_{a b c:H}(h:aX w n (.cells #[a,b,c] m (0,0)))(x y z:H):
  (((w.setCell (R n 0) x).setCell (R n 1) y).setCell (R n 2) z).heap[n]?=some (.cells #[x,y,z] m (0,0)):=by
 have d:=heap_setCell_same w n 0 _ m x h;have e:=heap_setCell_same _ n 1 _ m y d;exact heap_setCell_same _ n 2 _ m z e
theorem sX[Lo]{a b c:H}(h:aX w n (.cells #[a,b,c] m (0,0)))(d:Lo.lo<=n)(e:T.contains m=true)(x y z:H):
  Fr T aG w (((w.setCell (R n 0) x).setCell (R n 1) y).setCell (R n 2) z):=by
 have f:=heap_setCell_same w n 0 _ m x h;have g:=heap_setCell_same _ n 1 _ m y f;exact(((Fr.refl T aG w).set (p:=R n 0) h e d _).set (p:=R n 1) f e d _).set (p:=R n 2) g e d _
theorem JX(v:QC)(f:aN)(w:QA)(h:dR w v f)(E:∀k,k<128->f k<256):aF 193 #[v] w (JW NZ Ck.ok Ck.enc f w):=by
 letI:Lo:=⟨w.heap.size⟩
 obtain⟨a4,D,a5,F,g,n⟩:=eL w (ao #[.int .u64 0,.int .u64 0,ae 0] 156);have o:Lo.lo<=D:=by show w.heap.size<=D;omega
 have G:dx (λk=>f (24+k)) 4<256^4:=gM λj b2=>E _ aa;have a6:=ad (xQ [364,156] 271 272 #[ar D] (λ_ _=>rfl) (λ_ _=>rfl) v f 3 (Ck.of f).ok (Ck.of f).enc (λW=>∃a b c,aX W D (ao #[a,b,c] 156)) (λW=>aX W D (ao (Pc (Ck.of f)) 156)) a4 (h.below g) E (λk _=>jG (cI _) k) g.size ai rfl rfl
  (λW p q a7 a8=>by have r:aX W D (ao #[.int .u64 0,.int .u64 0,ae 0] 156):=q.hp n rfl;have R:=ad (g_ W p 128 24 f a7 (QD g.size a8) ai ai E);obtain⟨K,L,O⟩:=cr r;obtain⟨y,I⟩:=ah (dx (λj=>f (24+j)) 4);obtain⟨y1,P⟩:=ah (dx (λj=>f (8+j)) 8);obtain⟨y2,Q⟩:=ah (dx (λj=>f (16+j)) 8);unfold Ck.of Pc;rw[I]at R G;simp only[I,P,Q];have a9:=ad r;have S:QG.wrap (y:Int)=(y:Nat):=bs;go_enter func271,ntmps271;go_wp2_with(first|(go_at_call 263;refine R.mono ?_;rintro e U ⟨rfl,-,i⟩;have s:=ad i;have Y:=i.hp a9 rfl;have t:=ad Y;obtain⟨k3,k4,k5⟩:=cr Y));go_end0;have u:=N_ t (bg y1) (bg y2) (ae y);exact⟨rfl,u,(s.wide [364,156] rfl).tr (sX t o ai _ _ _)⟩)
  (λW q=>⟨_,_,_,q.hp n rfl⟩) (λa b x m=>⟨_,_,_,(m.block _ (Z_ x)).trans x⟩)
  (λa b x m=>(m.block _ (Z_ x)).trans x)
  (λW q=>by
   obtain⟨K,L,O⟩:=cr q;by_cases d:(Ck.of f).ok
   .have V:=ad (mn (Ck.of f).ep (Ck.of f).sq (Ck.of f).tail W d.c (by have:=d.tail;omega));have X:=ad d;go_enter func272,ntmps272;go_wp2_with(first|(go_at_call 149;refine V.mono ?_;rintro e U ⟨b0,c,rfl,b1,i⟩;have l:=aB b1 i));go_ret2;exact .inl ⟨X,b0,c,rfl,l⟩
   .have V:=ad (LY (Ck.of f) W d);have X:=ad d;go_enter func272,ntmps272;go_wp2_with(first|(go_at_call 149;refine V.mono ?_;rintro e U ⟨rfl,i⟩;have l:=ad i));go_ret2;exact .inr ⟨X,rfl,l⟩))
 have B:=aB g o;have J:=aB a5 F;have z:=ad (λ(C:Ck) (d:C.ok) (e:aD f C.enc)=>And.intro (Ck.cG d e) (gN.of ai (cI _) e:gN 3 f));go_enter func193,ntmps193;go_wp2_with fail
 try simp only[J.out.1,J.out.2]
 go_wp2_with fail;refine a6.mono ?_;rintro e U ⟨Z,rfl,i,⟨a,b,c,a0⟩,⟨rfl,H,A,a1⟩|⟨N,M⟩⟩
 .have s:=ad i;have l:=aB H A;have u:=ad (sX (T:= [364,156]) a1 B.2 rfl);obtain⟨K,L,O⟩:=cr a1;go_wp2;refine QT (v:=.tuple #[NZ (Ck.of f),aH 0]) (by rw[UF rfl];simp[go_sem, *]) rfl ?_;exact⟨0,Ck.of f,rfl,((Fr.af B.1).tr (s.tr (u.out _ _ _))).under (QE _),.inl ⟨rfl,l⟩⟩
 .have s:=ad i;have l:=aB N M;have u:=ad (sX (T:= [364,156]) a0 B.2 rfl);have a2:¬(Z:Int)=0:=aa;obtain⟨K,L,O⟩:=cr a0;go_wp2;refine QT (v:=.tuple #[NZ ⟨0,0,0⟩,aH Z]) (by rw[UF rfl];simp[go_sem, *]) rfl ?_;exact⟨Z,⟨0,0,0⟩,rfl,((Fr.af B.1).tr (s.tr (u.out _ _ _))).under (QE _),.inr ⟨l.1,λC d a3=>by obtain⟨S,e2⟩:=z.out C d a3;exact l.2 ⟨e2,by rw[S];exact d,by rw[S];exact a3⟩⟩⟩
abbrev N'(h:Cm):H:=.agg #[bg h.ep,bg h.sq,Y h.cy,.int .u32 (h.sm:Nat)]
abbrev Pd(h:Cm):Array H:= #[bg h.ep,bg h.sq,Y h.cy,.int .u32 (h.sm:Nat)]
theorem Oa{a b c d:H}(h:aX w n (.cells #[a,b,c,d] m (0,0)))(x y z t:H):
  ((((w.setCell (R n 0) x).setCell (R n 1) y).setCell (R n 2) z).setCell (R n 3) t).heap[n]?=some (.cells #[x,y,z,t] m (0,0)):=by
 have e:=heap_setCell_same w n 0 _ m x h;have f:=heap_setCell_same _ n 1 _ m y e;have g:=heap_setCell_same _ n 2 _ m z f;exact heap_setCell_same _ n 3 _ m t g
theorem sY[Lo]{a b c d:H}(h:aX w n (.cells #[a,b,c,d] m (0,0)))(e:Lo.lo<=n)(f:T.contains m=true)(x y z t:H):
  Fr T aG w ((((w.setCell (R n 0) x).setCell (R n 1) y).setCell (R n 2) z).setCell (R n 3) t):=by
 have g:=heap_setCell_same w n 0 _ m x h;have i:=heap_setCell_same _ n 1 _ m y g;have j:=heap_setCell_same _ n 2 _ m z i;exact((((Fr.refl T aG w).set (p:=R n 0) h f e _).set (p:=R n 1) g f e _).set (p:=R n 2) i f e _).set (p:=R n 3) j f e _
theorem JY(v:QC)(f:aN)(w:QA)(h:dR w v f)(q:∀k,k<128->f k<256):aF 310 #[v] w (JW N' Cm.ok Cm.enc f w):=by
 letI:Lo:=⟨w.heap.size⟩
 obtain⟨b3,D,b4,Q,l,r⟩:=eL w (ao #[.int .u64 0,.int .u64 0,ae 0,.int .u32 0] 397);have s:Lo.lo<=D:=by show w.heap.size<=D;omega
 have S:dx (λk=>f (24+k)) 4<256^4:=gM λj b5=>q _ aa;have U:(Cm.of f).sm<256^4:=gM λj b5=>q _ aa;have b6:=ad (xQ [364,397] 338 339 #[ar D] (λ_ _=>rfl) (λ_ _=>rfl) v f 2 (Cm.of f).ok (Cm.of f).enc (λW=>∃a b c d,aX W D (ao #[a,b,c,d] 397)) (λW=>aX W D (ao (Pd (Cm.of f)) 397)) b3 (h.below l) q (λk _=>jG (cW (cI _) (cI _)) k) l.size ai rfl rfl
  (λW p t b7 a5=>by have u:aX W D (ao #[.int .u64 0,.int .u64 0,ae 0,.int .u32 0] 397):=t.hp r rfl;have a6:=ad (g_ W p 128 24 f b7 (QD l.size a5) ai ai q);have x:=ad (λW1 (n:fP W1 p 128 f 28)=>g_ W1 p 128 28 f n (QD l.size a5) ai ai q);obtain⟨V,X,Z⟩:=cr u;obtain⟨y,a7⟩:=ah (dx (λj=>f (24+j)) 4);obtain⟨y1,H⟩:=ah (dx (λj=>f (8+j)) 8);obtain⟨y2,N⟩:=ah (dx (λj=>f (16+j)) 8);obtain⟨y3,z⟩:=ah (dx (λj=>f (28+j)) 4);unfold Cm.of Pd;rw[a7]at a6 S;simp only[z]at x;simp only[a7,H,N,z];have b8:=ad u;have M:QG.wrap (y:Int)=(y:Nat):=bs;go_enter func338,ntmps338;go_wp2_with(first|(go_at_call 263;refine a6.mono ?_;rintro e K ⟨rfl,n,g⟩;have A:=ad g;have L:=g.hp b8 rfl;have R:=ad L;have I:=ad (x K n)));go_wp2_with(first|(go_at_call 263;refine I.mono ?_;rintro e w2 ⟨rfl,-,g⟩;have Y:=ad (A.tr g);have L:=g.hp R rfl;have B:=ad L;obtain⟨k6,k7,k8⟩:=cr L));go_end0;have C:=Oa B (bg y1) (bg y2) (ae y) (.int .u32 (y3:Nat));exact⟨rfl,C,(Y.wide [364,397] rfl).tr (sY B s rfl _ _ _ _)⟩)
  (λW t=>⟨_,_,_,_,t.hp r rfl⟩) (λa b E o=>⟨_,_,_,_,(o.block _ (Z_ E)).trans E⟩)
  (λa b E o=>(o.block _ (Z_ E)).trans E)
  (λW t=>by
   obtain⟨V,X,Z⟩:=cr t;by_cases i:(Cm.of f).ok
   .have J:=ad (oK (Cm.of f).ep (Cm.of f).sq (Cm.of f).cy (Cm.of f).sm W i.c i.cy.1 i.cy.2 i.sm);have a0:=ad i;go_enter func339,ntmps339;go_wp2_with(first|(go_at_call 336;refine J.mono ?_;rintro e K ⟨b9,c,rfl,c0,g⟩;have m:=aB c0 g));go_ret2;exact .inl ⟨a0,b9,c,rfl,m⟩
   .have J:=ad (L_ (Cm.of f) W U i);have a0:=ad i;go_enter func339,ntmps339;go_wp2_with(first|(go_at_call 336;refine J.mono ?_;rintro e K ⟨rfl,g⟩;have m:=ad g));go_ret2;exact .inr ⟨a0,rfl,m⟩))
 have O:=aB l s;have a8:=aB b4 Q;have F:=ad (λ(P:Cm) (i:P.ok) (e:aD f P.enc)=>And.intro (Cm.cG i e) (gN.of ai (cW (cI _) (cI _)) e:gN 2 f));go_enter func310,ntmps310;go_wp2_with fail
 try simp only[a8.out.1,a8.out.2]
 go_wp2_with fail;refine b6.mono ?_;rintro e K ⟨a1,rfl,g,⟨a,b,c,d,a9⟩,⟨rfl,a2,G,b0⟩|⟨a3,a4⟩⟩
 .have A:=ad g;have m:=aB a2 G;have C:=ad (sY (T:= [364,397]) b0 O.2 rfl);obtain⟨V,X,Z⟩:=cr b0;go_wp2;refine QT (v:=.tuple #[N' (Cm.of f),aH 0]) (by rw[UF rfl];simp[go_sem, *]) rfl ?_;exact⟨0,Cm.of f,rfl,((Fr.af O.1).tr (A.tr (C.out _ _ _ _))).under (QE _),.inl ⟨rfl,m⟩⟩
 .have A:=ad g;have m:=aB a3 a4;have C:=ad (sY (T:= [364,397]) a9 O.2 rfl);have b1:¬(a1:Int)=0:=aa;obtain⟨V,X,Z⟩:=cr a9;go_wp2;refine QT (v:=.tuple #[N' ⟨0,0,0,0⟩,aH a1]) (by rw[UF rfl];simp[go_sem, *]) rfl ?_;exact⟨a1,⟨0,0,0,0⟩,rfl,((Fr.af O.1).tr (A.tr (C.out _ _ _ _))).under (QE _),.inr ⟨m.1,λP i b2=>by obtain⟨M,e2⟩:=F.out P i b2;exact m.2 ⟨e2,by rw[M];exact i,by rw[M];exact b2⟩⟩⟩
abbrev Ob(h:Hd):H:=.agg #[bg h.ep,bg h.sq,Y h.ix,Y h.cy,Y h.me,Y h.row,.bool h.nC,.int .u32 (h.sm:Nat)]
abbrev rK(h:Hd):Array H:= #[bg h.ep,bg h.sq,Y h.ix,Y h.cy,Y h.me,Y h.row,.bool h.nC,.int .u32 (h.sm:Nat)]
theorem zo[Lo](h:aX w n (.cells A m (0,0)))(a:Lo.lo<=n)(b:T.contains m=true)(c d e f x4 g i s:H):
  Fr T aG w ((((((((w.setCell (R n 0) c).setCell (R n 1) d).setCell (R n 2) e).setCell (R n 3) f).setCell (R n 4) x4).setCell (R n 5) g).setCell (R n 6) i).setCell (R n 7) s):=by
 have j:=heap_setCell_same w n 0 _ m c h;have k:=heap_setCell_same _ n 1 _ m d j;have l:=heap_setCell_same _ n 2 _ m e k;have o:=heap_setCell_same _ n 3 _ m f l;have q:=heap_setCell_same _ n 4 _ m x4 o;have r:=heap_setCell_same _ n 5 _ m g q;have t:=heap_setCell_same _ n 6 _ m i r;exact((((((((Fr.refl T aG w).set (p:=R n 0) h b a _).set (p:=R n 1) j b a _).set (p:=R n 2) k b a _).set (p:=R n 3) l b a _).set (p:=R n 4) o b a _).set (p:=R n 5) q b a _).set (p:=R n 6) r b a _).set (p:=R n 7) t b a _
def JZ(f:aN)(j:Nat):Nat:=dx (λk=>f (24+4*j+k)) 4
def Oc(f:aN)(j:Nat):Array H:= #[.int .u64 (dx (λk=>f (8+k)) 8:Nat),.int .u64 (dx (λk=>f (16+k)) 8:Nat),Y (if 0<j then JZ f 0 else 0:Nat),Y (if 1<j then JZ f 1 else 0:Nat),Y (if 2<j then JZ f 2 else 0:Nat),Y (if 3<j then JZ f 3 else 0:Nat),.bool false,.int .u32 0]
theorem EC[Lo](f:aN)(D p:Nat)(W:QA)(o:fP W p 128 f 24)(a:W.heap[D]?=some (ao #[.int .u64 0,.int .u64 0,ae 0,ae 0,ae 0,ae 0,.bool false,.int .u32 0] 390))(w:Lo.lo<=p)(i:Lo.lo<=D)(a8:∀k,k<128->f k<256):
  aF 340 (#[ar p,.int .u64 (dx (λk=>f (8+k)) 8:Nat),.int .u64 (dx (λk=>f (16+k)) 8:Nat)] ++ #[ar D]) W λe a9=>aL e (.tuple #[])/\a9.heap[D]?=some (ao (rK (Hd.of f)) 390)/\Fr [364,390] aG W a9:=by
 obtain⟨y1,S⟩:=ah (dx (λj=>f (8+j)) 8);obtain⟨y2,T⟩:=ah (dx (λj=>f (16+j)) 8);have b:∀j,j<4->JZ f j<256^4:=λj b3=>gM λk b6=>a8 _ aa;obtain⟨O,k1,k2⟩:=cr a;simp only[S,T];obtain⟨t,l⟩:=ah ((W.setCell (ag D 0) (bg y1)).setCell (ag D 1) (bg y2));have U:t.heap[D]?=some (ao (Oc f 0) 390):=by rw[<-l];unfold Oc;rw[S,T];exact heap_setCell_same _ D 1 _ 390 _ (heap_setCell_same W D 0 _ 390 _ a)
 have V:Fr [364,390] aG W t:=by rw[<-l];exact((Fr.refl [364,390] aG W).set (p:=ag D 0) a rfl i _).set (p:=ag D 1) (heap_setCell_same W D 0 _ 390 _ a) rfl i _
 have q:fP t p 128 f 24:=by
  obtain⟨g,c,z,r,X,Z,m,n⟩:=o;have A:p≠D:=λe=>by rw[e,a]at r;cases r
  have P:g≠D:=λe=>by rw[e,a]at m;cases m
  rw[<-l];exact⟨g,c,z,((RO _ _ _ _ A).trans (RO _ _ _ _ A)).trans r,X,Z,((RO _ _ _ _ P).trans (RO _ _ _ _ P)).trans m,n⟩
 have b0:=ad l;have u:=ca q U V a8 b;clear o a l q U V;go_enter func340,ntmps340;go_wp2_with fail;simp only[b0.out];obtain⟨W2,H,N,a2⟩:=qi t (ao #[.pointer (some (ag D 2)),.pointer (some (ag D 3)),.pointer (some (ag D 4)),.pointer (some (ag D 5))] 214)
 try rw[H]
 obtain⟨b1,B⟩:=ah W.heap.size;have M:t.heap.size=b1:=by rw[<-b0.out,RT,RT];exact B
 rw[M]at a2;rw[B];have a1:=aB a2 N;clear H N B a2 M;go_loopw [8,19] (λs8 C wr=>∃(j:Nat),j<=4/\C= ae j/\QX (fP wr p 128 f (24+4*j)/\wr.heap[D]?=some (ao (Oc f j) 390)/\Fr [364,390] aG W2 wr)) (λ_ C _=>4-(intOf C).toNat)
 case atStart=>exact⟨0,ai,rfl,u.1.below a1.2,(a1.2.block _ (Z_ u.2.1)).trans u.2.1,Fr.refl _ _ _⟩
 case round=>
  obtain⟨j,b3,rfl,E⟩:=hrel;have a3:=ad (E.2.2.hp a1.1 rfl);by_cases b:j<4
  .have Q:=ad (g_ wr p 128 (24+4*j) f E.1 w aa ai u.2.2.2.1);have d:=u.2.2.2.2 j b;obtain⟨y,F⟩:=ah (dx (λk=>f (24+4*j+k)) 4);unfold JZ at d;rw[F]at Q d;have b4:QX (JZ f j=y):=F;have A:QG.wrap (y:Int)=(y:Nat):=bs;have a4:wr.cell? (ag b1 j)=some (.pointer (some ⟨D,2+j,none⟩)):=by
    rw[(cr a3.out).1]
    match j,b with
    |0,_=>rfl
    |1,_=>rfl
    |2,_=>rfl
    |3,_=>rfl
   have i1:(0:Int)<=j:=aa;have i2:(j:Int)<4:=aa;clear d F;go_wp2_with(first|(go_at_call 263;refine Q.mono ?_;rintro e v ⟨rfl,o,d⟩;have G:=ad o;have K:=ad d;have a:=d.hp E.2.1 rfl;have s:=ad a;obtain⟨O,k1,k2⟩:=cr a;have a5:v.cell? ⟨D,2+j,none⟩=some (ae 0):=(by rw[O];match j,b with|0,_=>rfl|1,_=>rfl|2,_=>rfl|3,_=>rfl);clear O o d a));go_roundw
   case rel=>
    have z:=heap_setCell_same v D (2+j) _ 390 (ae y) s;have r:Fr [364,390] aG W2 (v.setCell ⟨D,2+j,none⟩ (ae y)):=(E.2.2.tr (K.wide [364,390] rfl)).set (p:=⟨D,2+j,none⟩) s rfl i _;refine⟨j+1,b,by go_num,?_,?_,r⟩
    .obtain ⟨g,c,m,n,X,Z,L,h6⟩:=G.out;have A:p≠D:=λe=>by rw[e,s.out]at n;cases n
     have P:g≠D:=λe=>by rw[e,s.out]at L;cases L
     exact⟨g,c,m,(RO _ _ _ _ A).trans n,X,Z,(RO _ _ _ _ P).trans L,h6⟩
    .rw [z,<-b4.out]
     match j,b with
     |0,_=>rfl
     |1,_=>rfl
     |2,_=>rfl
     |3,_=>rfl
   case measure=>simp[intOf];omega
  .obtain rfl:j=4:=aa;have Q:=ad (g_ wr p 128 40 f E.1 w aa ai u.2.2.2.1);have R:=ad (λt (q:fP t p 128 f 44)=>g_ t p 128 44 f q w aa ai u.2.2.2.1);obtain⟨x,a6⟩:=ah (dx (λk=>f (40+k)) 4);obtain⟨y,F⟩:=ah (dx (λk=>f (44+k)) 4);rw[a6]at Q;simp only[F]at R;have b2:=aB a6 F;clear a6 F;go_wp2_with(first|(go_at_call 263;refine Q.mono ?_;rintro e v ⟨rfl,o,d⟩;have G:=ad o;have K:=ad d;have a:=d.hp E.2.1 rfl;have s:=ad a;obtain⟨O,k1,k2⟩:=cr a;clear o d a Q));have I:((x:Int)==1)=(x==1):=by
    by_cases h:x=1
    .subst h;rfl
    .have b5:¬(x:Int)=1:=aa;rw[beq_eq_false_iff_ne.2 h,beq_eq_false_iff_ne.2 b5]
   have z:=heap_setCell_same v D 6 _ 390 (.bool ((x:Int)==1)) s;have r:Fr [364,390] aG W2 (v.setCell (ag D 6) (.bool ((x:Int)==1))):=(E.2.2.tr (K.wide [364,390] rfl)).set (p:=ag D 6) s rfl i _;have m:fP (v.setCell (ag D 6) (.bool ((x:Int)==1))) p 128 f 44:=by
    obtain⟨g,c,m,n,X,Z,L,h6⟩:=G.out;have A:p≠D:=λe=>by rw[e,s.out]at n;cases n
    have P:g≠D:=λe=>by rw[e,s.out]at L;cases L
    exact⟨g,c,m,(RO _ _ _ _ A).trans n,X,Z,(RO _ _ _ _ P).trans L,h6⟩
   obtain⟨w2,Y⟩:=ah (v.setCell (ag D 6) (.bool ((x:Int)==1)));rw[Y]at z r m|-;have J:=ad (R w2 m);have H2:=aT z r I;clear Y z r m I O k1;go_wp2_with(first|(go_at_call 263;refine J.mono ?_;rintro e w3 ⟨rfl,o,d⟩;have a7:=ad d;have a:=d.hp H2.1 rfl;have a0:=ad a;obtain⟨O,k1,k2⟩:=cr a;clear o d a J));go_end0;have n:=heap_setCell_same w3 D 7 _ 390 (.int .u32 (y:Nat)) a0;refine⟨rfl,?_,(u.2.2.1.tr (Fr.af a1.2)).tr ((H2.2.1.tr (a7.wide [364,390] rfl)).set (p:=ag D 7) a0 rfl i _)⟩;rw[n,H2.2.2];unfold Hd.of rK;simp only[b2.out.1,b2.out.2];rfl
theorem ED(v:QC)(f:aN)(w:QA)(h:dR w v f)(u:∀k,k<128->f k<256):aF 312 #[v] w (JW Ob Hd.ok Hd.enc f w):=by
 letI:Lo:=⟨w.heap.size⟩
 obtain⟨J,D,a0,z,g,n⟩:=eL w (ao #[.int .u64 0,.int .u64 0,ae 0,ae 0,ae 0,ae 0,.bool false,.int .u32 0] 390);have o:Lo.lo<=D:=by show w.heap.size<=D;omega
 have A:(Hd.of f).cy<256^4:=gM λj a1=>u _ aa;have B:(Hd.of f).sm<256^4:=gM λj a1=>u _ aa;have a2:=ad (xQ [364,390] 340 341 #[ar D] (λ_ _=>rfl) (λ_ _=>rfl) v f 1 (Hd.of f).ok (Hd.of f).enc (λW=>∃C,C.size=8/\aX W D (ao C 390)) (λW=>aX W D (ao (rK (Hd.of f)) 390)) J (h.below g) u (λk _=>jG (lj _ _ _ _ _ _) k) g.size ai rfl rfl
  (λW p q a3 a4=>by have E:aX W D (ao #[.int .u64 0,.int .u64 0,ae 0,ae 0,ae 0,ae 0,.bool false,.int .u32 0] 390):=q.hp n rfl;exact EC f D p W a3 E (QD g.size a4) o u)
  (λW q=>⟨_,rfl,q.hp n rfl⟩) (λa b r l=>⟨_,rfl,(l.block _ (Z_ r)).trans r⟩)
  (λa b r l=>(l.block _ (Z_ r)).trans r)
  (λW q=>by
   obtain⟨U,V,X⟩:=cr q;by_cases d:(Hd.of f).ok
   .have F:=ad (tR (Hd.of f).ep (Hd.of f).sq (Hd.of f).ix (Hd.of f).cy (Hd.of f).me (Hd.of f).row (Hd.of f).sm (Hd.of f).nC W d.c d.cy.1 d.cy.2 d.ix d.me d.row d.sm);have G:=ad d;go_enter func341,ntmps341;go_wp2_with(first|(go_at_call 335;refine F.mono ?_;rintro e Z ⟨a5,c,rfl,a6,m⟩;have i:=aB a6 m));go_ret2;exact .inl ⟨G,a5,c,rfl,i⟩
   .have F:=ad (Ma (Hd.of f) W B A d);have G:=ad d;go_enter func341,ntmps341;go_wp2_with(first|(go_at_call 335;refine F.mono ?_;rintro e Z ⟨rfl,m⟩;have i:=ad m));go_ret2;exact .inr ⟨G,rfl,i⟩))
 have x:=aB g o;have H:=aB a0 z;have s:=ad (λ(y:Hd) (d:y.ok) (e:aD f y.enc)=>And.intro (Hd.cG d e) (gN.of ai (lj _ _ _ _ _ _) e:gN 1 f));go_enter func312,ntmps312;go_wp2_with fail
 try simp only[H.out.1,H.out.2]
 go_wp2_with fail;refine a2.mono ?_;rintro e Z ⟨K,rfl,m,⟨C,a7,N⟩,⟨rfl,L,t,M⟩|⟨O,P⟩⟩
 .have Q:=ad m;have i:=aB L t;have S:=ad (zo (T:= [364,390]) M x.2 rfl);obtain⟨U,V,X⟩:=cr M;go_wp2;refine QT (v:=.tuple #[Ob (Hd.of f),aH 0]) (by rw[UF rfl];simp[go_sem, *]) rfl ?_;exact⟨0,Hd.of f,rfl,((Fr.af x.1).tr (Q.tr (S.out _ _ _ _ _ _ _ _))).under (QE _),.inl ⟨rfl,i⟩⟩
 .have Q:=ad m;have i:=aB O P;have S:=ad (zo (T:= [364,390]) N x.2 rfl);have R:¬(K:Int)=0:=aa;obtain⟨U,V,X⟩:=cr N;go_wp2;refine QT (v:=.tuple #[Ob ⟨0,0,0,0,0,0,false,0⟩,aH K]) (by rw[UF rfl];simp[go_sem, *]) rfl ?_;exact⟨K,⟨0,0,0,0,0,0,false,0⟩,rfl,((Fr.af x.1).tr (Q.tr (S.out _ _ _ _ _ _ _ _))).under (QE _),.inr ⟨i.1,λy d I=>by obtain⟨Y,e2⟩:=s.out y d I;exact i.2 ⟨e2,by rw[Y];exact d,by rw[Y];exact I⟩⟩⟩
def xR(f:aN):Bool:=decide (f 0=0/\f 1=0/\f 2=0/\f 3=0)
theorem J_(f:aN)(h:Lt 4 f):((kF 4 f).toList== [0,0,0,0])=xR f:=by have e:=yy 4 4 f (λ_=>0) h λ_ _=>(by show 0<256;decide);rw[hD 4 λ_=>0]at e;show((kF 4 f).toList==(TQ 4).map λ_=>WB 0)=_;rw[e];unfold ll xR;congr 1;apply propext;exact⟨λ⟨_,h⟩=>⟨h 0 ai,h 1 ai,h 2 ai,h 3 ai⟩,λ⟨a,b,c,d⟩=>⟨rfl,λk g=>match k,g with|0,_=>a|1,_=>b|2,_=>c|3,_=>d⟩⟩
def tv(a:Bool)(f:aN)(k:Nat):Nat:=if a=true/\k<4 then i_ k else f k
def Mb:List H:= [.int .u8 83,.int .u8 80,.int .u8 74,.int .u8 76]
theorem pS(w:M)(B g b c:Nat)(j ty:SQ)(xs:List H)(h:w.ownsRow B 5 1 (a' g 128 b) 128 xs):
  ∃f,(Builtin.copy_ #[41,j] ty #[a' g 128 c,.string ⟨#[83,80,74,76]⟩]).run prog w=.ok (Y 4) f/\f.ownsRow B 5 1 (a' g 128 b) 128 (YF xs 0 Mb)/\Out (λk=>k=g) w f:=by
 rcases h.2 with⟨i,_⟩|⟨t,l,a,i,n,m,o,p,q,r⟩
 .cases i
 cases i;have d:=Go.Lib.run_copy_row_string (P:=prog) w 41 j ty 5 g 0 128 c ⟨#[83,80,74,76]⟩ a 5 UO se m ai (by show 0+4<=_;omega);have e:(a.toList.take 0++Lib.byteCells (⟨#[83,80,74,76]⟩:ByteArray).data.toList++a.toList.drop (0+(⟨#[83,80,74,76]⟩:ByteArray).size))=YF a.toList 0 Mb:=by unfold YF;rw[SV];rfl
 rw[e]at d;have s:0+Mb.length<=a.toList.length:=by show 0+4<=a.toList.length;simp;omega
 refine⟨_,d,?_,Out.setRow (S:=λk=>k=g) (Out.refl _ _) (g:=g) (λ_=>rfl) _⟩;refine⟨by rw[length_splice _ _ _ (by show 0+4<=_;have:=h.1;omega)];exact h.1,.inr ⟨g,b,_,rfl,n,setRow_heap w g a _ 5 _ m,o,p,?_,?_⟩⟩
 .rw [WA,length_splice _ _ _ s];simpa using q
 .show (YF a.toList 0 Mb).take _=_;rw[iR _ _ _ _ (by show 0+4<=_;omega) aS,r]
theorem J'(f:aN):YF (az 128 f) 0 Mb=az 128 (tv true f):=by
 apply TJ;intro k;rw[fh _ _ _ _ (by show 0+4<=_;simp[aI])];by_cases a:k<128
 .rw [ba _ _ _ a,ba _ _ _ a];unfold tv;by_cases b:k<4
  .rw [ak (by show 0<=k/\k<0+4;omega),ak ⟨rfl,b⟩]
   match k,b with
   |0,_=>rfl
   |1,_=>rfl
   |2,_=>rfl
   |3,_=>rfl
  .rw [al (by show¬(0<=k/\k<0+4);omega),al J]
 .rw [al (by show¬(0<=k/\k<0+4);omega),RF (by rw[aI];omega),RF (by rw[aI];omega)]
def PX(a:Bool)(f:aN)(w:M)(e:RV)(b:M):Prop:=
 aq w b/\((((a=false/\hE f=true)\/(a=true/\xR f=false))/\aL e (.tuple #[aO,aH 80]))\/
  (((a=false/\hE f=false)\/(a=true/\xR f=true))/\∃g c,aL e (.tuple #[a' g 128 c,aH 0])/\b.ownsRow w.heap.size 5 1 (a' g 128 c) 128 (az 128 (tv a f))))
theorem EE(a:Bool)(v:QC)(f:aN)(w:M)(h:dR w v f)(A:∀k,k<128->f k<256):aF 314 #[v,.bool a] w (PX a f w):=by
 have j:=I (hG v f w h);obtain⟨b,o,s,O,P,rfl,B,Q,S⟩:=h;have T:∀k,k<128->w.cell? ⟨b,o+k,none⟩=some (.int .u8 (f k)):=λk r=>(QS w b _ O 5 P Q).trans (S k r);have C:=I (wG f λk r=>A k J);have D:=I (J_ f λk r=>A k J);have t:=jc (w:=w) (v:=.slice (some (R b o)) 4 s) (n:=4) (f:=f) ⟨_,_,rfl,.inr ⟨b,o,rfl,λk r=>T k J⟩⟩ w aj;obtain⟨Z,u⟩:=ah (kF 4 f);rw[u]at C D t;have E:=C.out;have F:=D.out;obtain⟨m,G⟩:=ah (hE f);obtain⟨z,K⟩:=ah (xR f);rw[G]at E;rw[K]at F;have l:=I G;have p:=I K;have U:QX (tv false f=f):=by show _=_;funext k;unfold tv;rw[al aJ]
 cases a
 .clear F;cases m
  .go_enter func314,ntmps314;go_wp2_with(first|(go_at_call 199;refine j.mono ?_;rintro e L ⟨v,rfl,i,x⟩;obtain⟨V,q,rfl,-,y⟩:=eP i;obtain⟨g,rfl⟩:=y.resolve_left J;have c:=I i;have W:=I x));go_ret2;exact⟨W,.inr ⟨.inl ⟨rfl,l⟩,g,q,rfl,by rw[U.out];exact c⟩⟩
  .go_enter func314,ntmps314;go_wp2;go_ret2;exact⟨aj,.inl ⟨.inl ⟨rfl,l⟩,rfl⟩⟩
 .clear E;cases z
  .go_enter func314,ntmps314;go_wp2;go_ret2;exact⟨aj,.inl ⟨.inr ⟨rfl,p⟩,rfl⟩⟩
  .go_enter func314,ntmps314;go_wp2_with(first|(go_at_call 199;refine j.mono ?_;rintro e L ⟨v,rfl,i,x⟩;obtain⟨V,q,rfl,-,y⟩:=eP i;obtain⟨g,rfl⟩:=y.resolve_left J;obtain⟨H,X,wg,d⟩:=pS L w.heap.size g q q 9 3 _ i;have c:=aY i x wg d));go_ret2;exact⟨c.2.1.trans (c.2.2.2.below (λk _ e=>by have:=(c.1.lt g rfl).1;omega) c.2.1.size),.inr ⟨.inr ⟨rfl,p⟩,g,q,rfl,by rw[<-J'];exact c.2.2.1⟩⟩
section
def kS(ep sq:Nat)(P:bW)(i:Nat):Hd:=⟨ep,sq,i,P.N,P.me i,P.row i,hE (P.da i),dN 0 128 (eh (P.da i))⟩
structure bL(F:dp)(ep sq room:Nat)(P:bW):Prop where
 ok:P.ok
 cy:1<=P.N/\P.N<=1023
 c:cM ep sq
 room:2*P.N+1<=room
 sec:∀j,j<=2*P.N->aD (F j) (bh ep sq P j)
section
variable {F:dp} {ep sq room:Nat} {P:bW}
theorem en(b:P.ok)(c:cM ep sq)(d:1<=P.N/\P.N<=1023){i:Nat}(a:i<P.N):(kS ep sq P i).ok:=
 ⟨c,d,a,b.me i a,b.row i a,gW _ _ _ ai (n' (b.da i a))⟩
theorem bL.head(h:bL F ep sq room P){i:Nat}(b:i<P.N):aD (F (2*i)) (kS ep sq P i).enc:=by have a:=h.sec (2*i) J;unfold bh at a;rw[al J,ak J,show 2*i/2=i by omega]at a;exact a
theorem bL.data(h:bL F ep sq room P){i:Nat}(b:i<P.N):aD (F (2*i+1)) (eh (P.da i)):=by have a:=h.sec (2*i+1) J;unfold bh at a;rw[al J,al J,show(2*i+1)/2=i by omega]at a;exact a
theorem bL.sZ(h:bL F ep sq room P):aD (F (2*P.N)) (ef ep sq P.N (fE ep sq P P.N)):=by have a:=h.sec (2*P.N) (QE _);unfold bh at a;rw[ak rfl]at a;exact a
def ov(F:dp):Nat->Nat
 |0=>0
 |k+1=>dN (ov F k) 128 (F (2*k))
theorem mY:∀{k:Nat},(∀i,i<k->aD (F (2*i)) (kS ep sq P i).enc)->fE ep sq P k=ov F k
 |0,_=>rfl
 |k+1,h=>by unfold fE ov;rw[mY λi b=>h i J];exact(hQ λj a=>h k (TI k) j a).symm
theorem Ka{f:aN}{e:Bool}(h:(e=false/\hE f=false)\/(e=true/\xR f=true)):hE (tv e f)=e/\aD (eh (tv e f)) f:=by
 rcases h with⟨rfl,h⟩|⟨rfl,h⟩
 .have a:tv false f=f:=by funext k;unfold tv;rw[al aJ]
  rw[a];refine⟨h,λk c=>?_⟩;unfold eh;rw[h,al aJ]
 .have a:hE (tv true f)=true:=by
   unfold hE;simp only[decide_eq_true_eq];exact⟨rfl,rfl,rfl,rfl⟩
  refine⟨a,λk c=>?_⟩;unfold eh;rw[a];unfold xR at h;simp only[decide_eq_true_eq]at h;obtain⟨d,g,j,z3⟩:=h;by_cases b:k<4
  .rw [ak ⟨rfl,b⟩]
   match k,b with
   |0,_=>exact d.symm
   |1,_=>exact g.symm
   |2,_=>exact j.symm
   |3,_=>exact z3.symm
  .rw [al (λh=>b h.2)];unfold tv;rw[al (λh=>b h.2)]
theorem rL{f h:aN}(e:aD f h):hE f=hE h:=by unfold hE;rw[e 0 ai,e 1 ai,e 2 ai,e 3 ai]
theorem Bf{f h:aN}(e:aD f h):xR f=xR h:=by unfold xR;rw[e 0 ai,e 1 ai,e 2 ai,e 3 ai]
theorem vB(f:aN):(hE f=false/\hE (eh f)=false)\/(hE f=true/\xR (eh f)=true):=by
 cases h:hE f
 .refine .inl ⟨rfl,?_⟩;have e:aD (eh f) f:=λk _=>by unfold eh;rw[h,al aJ]
  rw[rL e,h]
 .refine .inr ⟨rfl,?_⟩;unfold xR eh;rw[h];simp
structure kt(F:dp)(ep sq room i:Nat)(Q:bW)(hd:Hd):Prop where
 c:cM ep sq
 cy:1<=Q.N/\Q.N<=1023
 rm:2*Q.N+1<=room
 le:i<=2*Q.N
 me:∀k,2*k+1<i->Q.me k<=15/\Q.row k<=4095/\Lt 128 (Q.da k)
 pair:∀k,2*k+1<i->aD (F (2*k)) (kS ep sq Q k).enc/\aD (F (2*k+1)) (eh (Q.da k))
 Pe:i%2=1->hd.ok/\aD (F (i-1)) hd.enc/\hd.ep=ep/\hd.sq=sq/\hd.ix=i/2/\hd.cy=Q.N
 uniq:∀P,bL F ep sq room P->P.N=Q.N
variable {i:Nat} {Q:bW} {hd:Hd}
theorem kt.start{h:Hd}(a:h.ok)(c:aD (F 0) h.enc)(d:h.ep=ep)(e:h.sq=sq)(f:h.ix=0)(g:2*h.cy+1<=room):kt F ep sq room 1 ⟨h.cy,λ_=>0,λ_=>0,λ_ _=>0⟩ h:=by have j:=a.cy;refine⟨by rw[<-d,<-e];exact a.c,j,g,by show 1<=2*h.cy;omega,λk a=>J,λk a=>J,λ_=>⟨a,c,d,e,f,rfl⟩,λP b=>?_⟩;have l:=Hd.cG a c;have m:=Hd.cG (en b.ok b.c b.cy (by have:=b.cy;omega)) (b.head (i:=0) (by have:=b.cy;omega));have n:=l.symm.trans m;exact(congrArg Hd.cy n).symm
theorem kt.head{h:Hd}(a:kt F ep sq room i Q hd)(d:i%2=0)(b:i<2*Q.N)(c:h.ok)(e:aD (F i) h.enc)(f:h.ep=ep)(g:h.sq=sq)(j:h.ix=i/2)(l:h.cy=Q.N):kt F ep sq room (i+1) Q h:=
 ⟨a.c,a.cy,a.rm,b,λk c=>a.me k J,λk c=>a.pair k J,λ_=>⟨c,e,f,g,by rw[j];omega,l⟩,a.uniq⟩
def bW.put(Q:bW)(k:Nat)(hd:Hd)(f:aN):bW:=⟨Q.N,λj=>if j=k then hd.me else Q.me j,λj=>if j=k then hd.row else Q.row j,λj=>if j=k then tv hd.nC f else Q.da j⟩
theorem kt.data(a:kt F ep sq room i Q hd)(b:i%2=1)(l:Lt 128 (F i))(m:(hd.nC=false/\hE (F i)=false)\/(hd.nC=true/\xR (F i)=true))(n:dN 0 128 (F i)=hd.sm):kt F ep sq room (i+1) (Q.put (i/2) hd (F i)) hd:=by
 obtain⟨f,o,p,q,r,s⟩:=a.Pe b;obtain⟨t,g⟩:=Ka m;have u:=a.le;refine⟨a.c,a.cy,a.rm,by show i+1<=2*Q.N;omega,λk v=>?_,λk v=>?_,λh=>J,a.uniq⟩
 .show (if k=i/2 then hd.me else Q.me k)<=15/\(if k=i/2 then hd.row else Q.row k)<=4095/\Lt 128 (if k=i/2 then tv hd.nC (F i)else Q.da k);by_cases e:k=i/2
  .rw [ak e,ak e,ak e];refine⟨f.me,f.row,λj c=>?_⟩;unfold tv;split
   .unfold i_
    (repeat' split)<;>decide
   .exact l j c
  .rw [al e,al e,al e];exact a.me k J
 .by_cases e:k=i/2
  .subst e;have w:2*(i/2)=i-1:=J;have x:i-1+1=i:=J;have d:kS ep sq (Q.put (i/2) hd (F i)) (i/2)=hd:=by unfold kS bW.put;simp only[if_true];rw[t,hQ (h:=F i) (λj c=>g j c),n,<-p,<-q,<-r,<-s]
   rw[d,w,x];refine⟨o,?_⟩;show aD (F i) (eh (if i/2=i/2 then tv hd.nC (F i)else _));rw[ak rfl];exact g.symm
  .have d:kS ep sq (Q.put (i/2) hd (F i)) k=kS ep sq Q k:=by
    unfold kS bW.put;simp only[al e]
   have y:(Q.put (i/2) hd (F i)).da k=Q.da k:=al e;rw[d,y];exact a.pair k J
theorem kt.qs(a:kt F ep sq room (2*Q.N) Q hd)(d:aD (F (2*Q.N)) (ef ep sq Q.N (ov F Q.N))):bL F ep sq room Q:=by
 refine⟨⟨λk b=>(a.me k J).1,λk b=>(a.me k J).2.1,λk b=>(a.me k J).2.2⟩,a.cy,a.c,a.rm,λj f=>?_⟩;unfold bh;by_cases e:j=2*Q.N
 .rw [ak e,e,mY λk b=>(a.pair k J).1];exact d
 .rw [al e];by_cases c:j%2=0
  .rw [ak c];have:=(a.pair (j/2) J).1;rw[show 2*(j/2)=j by omega]at this;exact this
  .rw [al c];have:=(a.pair (j/2) J).2;rw[show 2*(j/2)+1=j by omega]at this;exact this
theorem kt.rM(a:kt F ep sq room i Q hd)(h:i=room):∀P,¬bL F ep sq room P:=λP b=>by have c:=a.uniq P b;have d:=b.room;have e:=a.le;omega
theorem Bg(h:0=room):∀P,¬bL F ep sq room P:=λP a=>by have b:=a.room;omega
theorem xS(h:∀b:Hd,b.ok->¬aD (F 0) b.enc):∀P,¬bL F ep sq room P:=λP a=>
 h _ (en a.ok a.c a.cy (by have:=a.cy;omega)) (a.head (i:=0) (by have:=a.cy;omega))
theorem vC{h:Hd}(b:h.ok)(c:aD (F 0) h.enc)(d:¬(h.ep=ep/\h.sq=sq/\h.ix=0/\2*h.cy+1<=room)):∀P,¬bL F ep sq room P:=λP a=>d (by have e:=Hd.cG b c;have f:=Hd.cG (en a.ok a.c a.cy (by have:=a.cy;omega)) (a.head (i:=0) (by have:=a.cy;omega));have g:=e.symm.trans f;rw[g];exact⟨rfl,rfl,rfl,a.room⟩)
theorem kt.Bh(d:kt F ep sq room i Q hd)(e:i%2=0)(f:i<2*Q.N)(h:∀b:Hd,b.ok->¬aD (F i) b.enc):∀P,¬bL F ep sq room P:=λP a=>by have g:=d.uniq P a;have c:=a.head (i:=i/2) J;rw[show 2*(i/2)=i by omega]at c;exact h _ (en a.ok a.c a.cy J) c
theorem kt.xT(c:kt F ep sq room i Q hd)(d:i%2=0)(e:i<2*Q.N){h:Hd}(f:h.ok)(g:aD (F i) h.enc)(j:¬(h.ep=ep/\h.sq=sq/\h.ix=i/2/\h.cy=Q.N)):∀P,¬bL F ep sq room P:=λP a=>j (by have k:=c.uniq P a;have b:=a.head (i:=i/2) J;rw[show 2*(i/2)=i by omega]at b;have l:=Hd.cG f g;have m:=Hd.cG (en a.ok a.c a.cy J) b;have n:=l.symm.trans m;rw[n];exact⟨rfl,rfl,rfl,k⟩)
theorem kt.vD(b:kt F ep sq room i Q hd)(c:i%2=1){P:bW}(a:bL F ep sq room P):hd=kS ep sq P (i/2)/\aD (F i) (eh (P.da (i/2))):=by obtain⟨f,g,-⟩:=b.Pe c;have j:=b.uniq P a;have h:=b.le;have d:=a.head (i:=i/2) J;have e:=a.data (i:=i/2) J;rw[show 2*(i/2)=i-1 by omega]at d;rw[show 2*(i/2)+1=i by omega]at e;exact⟨(Hd.cG f g).symm.trans (Hd.cG (en a.ok a.c a.cy J) d),e⟩
theorem kt.EF(f:kt F ep sq room i Q hd)(b:i%2=1)(a:(hd.nC=false/\hE (F i)=true)\/(hd.nC=true/\xR (F i)=false)):∀P,¬bL F ep sq room P:=λP g=>by
 obtain⟨h,e⟩:=f.vD b g;have j:hd.nC=hE (P.da (i/2)):=by rw[h];rfl
 rw[rL e,Bf e,j]at a;rcases vB (P.da (i/2))with⟨c,d⟩|⟨c,d⟩
 .rw [c,d]at a;simp at a
 .rw [c,d]at a;simp at a
theorem kt.EG(b:kt F ep sq room i Q hd)(a:i%2=1)(c:dN 0 128 (F i)≠hd.sm):∀P,¬bL F ep sq room P:=λP d=>by obtain⟨e,f⟩:=b.vD a d;refine c ?_;rw[e];exact hQ λj g=>f j g
theorem kt.rN(c:kt F ep sq room (2*Q.N) Q hd)(d:¬aD (F (2*Q.N)) (ef ep sq Q.N (ov F Q.N))):∀P,¬bL F ep sq room P:=λP a=>d (by have e:=c.uniq P a;have b:=a.sZ;rw[mY λk f=>a.head f,e]at b;exact b)
end
end
section
open Go.Shelf
theorem zp(f:FuncId):TT.fn f:=trivial
attribute [local go_sem] WK zp
theorem vE(a:Option SR)(N b:Nat)(w:M)(f:N<=4096):aF 273 #[.slice a (N*128) b] w λe c=>aL e (Y N)/\w=c:=by
 obtain⟨n,d⟩:=ah (N*128);have g:((n:Nat):Int).tdiv 128=((N:Nat):Int):=by have:n/128=N:=J;rw[<-this];exact Int.ofNat_tdiv _ _
 have h:QG.wrap ((N:Nat):Int)=(N:Nat):=bs;rw[d];go_enter func273,ntmps273;go_wp2;go_ret;exact⟨by simp[*],rfl⟩
def IB(b o a N t k:Nat):H:=.slice (some ⟨b,o+(t+k)%N*128,none⟩) 128 (a-(t+k)%N*128)
def zq(X:Nat->Prop)(b:Nat->M->Prop)(qh:M->Prop)(k:Nat)(A:M)(e:RV)(a:M):Prop:=
 (aL e ec/\Out X A a/\b (k+1) a)\/(aL e iL/\Out X A a/\qh a)
theorem Bi(l F G b o c N t:Nat)(X:Nat->Prop)(a:Nat->QA->Prop)(qh:QA->Prop)(W:QA)(b1:1<=N)(K:N<=4096)(b2:t<N)(r:N*128<=c)(s:aX W F (ao #[.slice (some (ag b o)) (N*128) c] 352))(L:aX W G (ao #[ae t] 3))(O:¬X F)(P:¬X G)(Q:a 0 W)(S:∀k A n,a k A->a k (A.drewN n))(a0:∀q k A,k<N->a k A->YieldAt TT q prog l #[ae k,IB b o c N t k] A (zq X a qh k A)):
  CallsIn TT 2 prog 337 #[.func (.yield l) #[] #[],ar F,ar G] W
   λe T=>(∃v,aL e v)/\Out X W T/\(a N T\/qh T):=by
 refine callsIn_of_wp func337 rfl trivial ?_;simp only[ntmps337,WA,SE,VW,Nat.reduceAdd,Nat.reduceSub,ZE,ZD,List.push_toArray,XL,UN,UC];have a4:=ad a0;have U:=ad S;have M:=ad s;have H2:=ad L;have H0:QX (Out X W W/\a 0 W):=⟨Out.refl _ _,Q⟩;have f:=ad (λw=>vE (some (ag b o)) N c w K);obtain⟨R,a2,a3⟩:=cr s;obtain⟨n,C⟩:=ah (N*128);simp only[C]at f;rw[C]at R M s r;have V:=ad C;clear C;gi_wp2_with(first|(gi_at_call 273;refine(UR.2 (f _)).mono ?_;rintro e w1 ⟨rfl,rfl⟩))
 gi_loopw [4,5,8] (λs4 s5 Z wr=>∃k:Nat,k<=N/\Z= ae k/\QX (Out X W wr/\a k wr)) (λ_ _ Z _=>N-(intOf Z).toNat)
 case atStart=>exact⟨0,QO _,rfl,H0⟩
 case round=>
  obtain⟨k,b3,rfl,p⟩:=hrel;by_cases u:k<N
  .have s:=p.1.heap M O;have L:=p.1.heap H2 P;obtain⟨R,a2,a3⟩:=cr s;obtain⟨d1,d2,d3⟩:=cr L;obtain⟨q,D⟩:=ah ((t+k)%N);have a5:q<N:=by rw[<-D];exact SC _ aa
   have e1:QG.wrap ((t:Int)+k)=((t+k:Nat):Int):=bs;have e2:((t+k:Nat):Int).tmod (N:Int)=((q:Nat):Int):=by rw[<-D];exact VL _ _
   obtain⟨x,H⟩:=ah (q*128);have e3:QG.wrap ((q:Int)*128)=((x:Nat):Int):=by rw[<-H];go_arith
   have e5:¬N=0:=aa;have e6:QG.wrap ((x:Int)+128)=((x+128:Nat):Int):=bs;have e7:(0:Int)<=(x:Int):=aa;have a6:=V.out;have e9:((x+128:Nat):Int)<=(c:Int):=aa;have a7:¬c=x:=aa;have I:=aB D H;obtain⟨b4,y⟩:=ah (t+k);rw[y]at e1 e2;clear D H y;gi_wp2_with fail
   gi_quiet_th (first|(gi_at_call 273;exact CallsIn.quiet_of_same (UR.2 ((f _).mono λe b5 h=>⟨h.1,h.2.symm⟩))))
   have z:=ad (U k wr nq p.2);have g:=ad (λq=>a4.out q k (wr.drewN nq) u z);unfold IB at g;rw[I.1,I.2]at g;have a8:x+128-x=128:=aa;obtain⟨b6,Y,E,J,b7,a9⟩:=g.out 1;have b0:=ad a9;gi_wp2_with fail;refine b0.mono ?_;have B:QX (Out X W (wr.drewN nq)):=p.1.then (cK aj _);rintro e w2 (⟨rfl,d,i⟩|⟨rfl,d,i⟩)
   .have j:=ad (B.tr d);have m:=ad i;gi_wp2;go_roundw
    case rel=>exact⟨k+1,u,by go_num,j,m⟩
    case measure=>simp[intOf];omega
   .have j:=ad (B.tr d);have m:=ad i;gi_wp2;refine QT (results_none rfl _ _ _) rfl ?_;exact⟨⟨_,rfl⟩,j,.inr m⟩
  .obtain rfl:k=N:=aa;gi_wp2;go_end0;exact⟨⟨_,rfl⟩,p.1,.inl p.2⟩
end
section
open Go.Shelf
def jS(o:Oper):Bool:=match o.op with| .defer _=>false|_=>true
theorem xU{o:Oper}(h:jS o=true)(c):o.op≠ .defer c:=λe=>by unfold jS at h;rw[e]at h;cases h
section
variable {l n:Nat} {P:Program} {ops:Array Oper} {Q:Exit->Act->QA->Prop} {S:QA->Prop}
theorem nW(gU:ops.all jS=true)(s:¬LetsOut Q){i:Nat}{K q:Act->M->Prop}{a:Act}{w:M}(b:∀a w,K a w->q a w)(h:wpOp P ops Q i K a w):wpOpIn (TT.inRound l) n P ops Q i q a w:=by
 unfold wpOp at h;unfold wpOpIn;cases k:ops[i]? with
 |none=>simp only[k]at h;exact b _ _ h
 |some o=>
  simp only[k]at h|-;have t:jS o=true:=by obtain⟨y,j⟩:=RC.1 k;rw[<-j];exact Array.all_eq_true.1 gU i y
  split
  .rename_i m;simp only[m,if_true]at h;have h:=h.resolve_right λe=>s e.2;unfold Oper.wp at h;unfold Oper.wpIn;refine⟨λ_ _=>trivial,?_⟩;rw[Oper.semAt_eq _ _ _ (xU t)];generalize (execOp a.eval o).run P w=r at*;cases r with
   |ok x z=>
    cases x<;>simp only[Oper.upon]at h<;>simp only[Oper.uponIn]
    case value u=>exact b _ _ h
    case skip=>exact b _ _ h
    case defer d=>exact b _ _ h
    case enter f g=>exact⟨(λe=>by cases e),WC l ((UR.2 h).mono λe A j=>by cases e<;>first|exact b _ _ j|exact j)⟩
    case row p g=>exact⟨(λe=>by cases e),λc B F=>by obtain⟨v,C,D,E⟩:=h c B;exact⟨v,C,b _ _ D,(stepsIn_wide (P:=P)).2 E⟩⟩
   |halt x z=>
    cases x<;>simp only[Oper.upon]at h
    case panic u=>simp only[Oper.uponIn];exact h
  .rename_i m;simp only[m]at h;exact⟨λ_ _=>trivial,b _ _ h⟩
theorem iI(gU:ops.all jS=true)(b:¬LetsOut Q):∀(fuel:Nat) (listed:Array Bool) (a:Act) (w:M),wpAnyH P .any ops Q S fuel listed a w->wpAnyIn (TT.inRound l) n P .any ops Q fuel listed a w
 |0,_,_,_,h=>h
 |fuel+1,_,_,_,h=>⟨h.1,λi c=>nW gU b (λd e f=>iI gU b fuel _ d e f.2) (h.2 i c)⟩
theorem eB{id:Nat}{a:Act}{w:M}(b:P.follows .mixedOrders=true)(gU:ops.all jS=true)(c:¬LetsOut Q)(d:S w.drew)(h:S w.drew->wpAnyH P .any ops Q S ops.size (Array.replicate ops.size false) a w.drew):(Code.region id ops true).wpIn (TT.inRound l) n P Q a w:=
 wpIn_region_any b (iI gU c _ _ _ _ (h d))
end
section
variable {P:Program} {ops:Array Oper} {Q:Exit->Act->QA->Prop} {md:Region.Mode} {S:QA->Prop} {i:Nat} {oi:Oper} {v:QC} {fuel:Nat} {listed:Array Bool} {a:Act} {w:QA}
theorem lZ(b:ops[i]?=some oi)(d:∀w,S w->(execOp a.eval oi).run P w=.ok (.value v) w)(e:S w)(h:wpAnyH P md ops Q S fuel (listed.setIfInBounds i true) (a.put oi.dst v) w)(f:YD ops=true:=by kernel_rfl)(g:Region.free md ops listed i=true:=by kernel_rfl)(j:(UT md ops listed).contains i=true:=by kernel_rfl)(k:VJ oi (yielded ops a.tmps)=true:=by kernel_rfl)(m:∀c a w,Q (.panic c) (a.put oi.dst v) w->Q (.panic c) a w:=by exactλ_ _ _ h=>h):wpAnyH P md ops Q S (fuel+1) listed a w:=
 wpAnyH_take b f g j m (.inl ⟨k,d⟩) e h
theorem Bj(b:ops[i]?=some oi)(d:S w)(h:wpAnyH P md ops Q S fuel (listed.setIfInBounds i true) (a.put oi.dst undef) w)(e:YD ops=true:=by kernel_rfl)(f:Region.free md ops listed i=true:=by kernel_rfl)(g:(UT md ops listed).contains i=true:=by kernel_rfl)(j:VJ oi (yielded ops a.tmps)=false:=by kernel_rfl)(k:∀c a w,Q (.panic c) (a.put oi.dst undef) w->Q (.panic c) a w:=by exactλ_ _ _ h=>h):wpAnyH P md ops Q S (fuel+1) listed a w:=
 wpAnyH_take b e f g k (.inr ⟨j,rfl⟩) d h
end
end
section
open Go.Shelf
theorem Hh(rg:H)(t:Nat)(w:M)(a:Option SR)(n c:Nat)(b:rg=.slice a n c):aF 309 #[rg,Y t] w λe d=>aL e (.func (.func 337) #[] #[ar w.heap.size,.pointer (some ⟨w.heap.size+1,0,none⟩)])/\
  d=(w.alloc (ao #[rg] 352)).alloc (ao #[Y t] 3):=by
 subst b;go_enter func309,ntmps309;go_wp2;go_ret;exact⟨rfl,rfl⟩
theorem EH(w:M):aF 308 #[] w λe a=>aL e (ar w.heap.size)/\a=w.alloc (ao #[.int .u32 0,Y 0] 436):=by go_enter func308,ntmps308;go_wp2;go_ret;exact⟨rfl,rfl⟩
def mZ(w:M):List Obj->M
 | [] =>w
 |o::a=>mZ (w.alloc o) a
theorem iy:∀(a:List Obj) (w:M),aq w (mZ w a)
 | [],_=>aj
 |o::a,w=>(aK aj o).trans ((iy a (w.alloc o)).mono aJ)
theorem nH:∀(a:List Obj) (w:M),(mZ w a).heap.size=w.heap.size+a.length
 | [],_=>rfl
 |o::a,w=>by show(mZ (w.alloc o) a).heap.size=_;rw[nH a,SP,SE];omega
theorem pT:∀(a:List Obj) (w:M) (j:Nat) (o:Obj),a[j]?=some o->(mZ w a).heap[w.heap.size+j]?=some o
 |o::a,w,0,p,h=>by
  have e:o=p:=by simpa using h
  subst e;exact((iy a (w.alloc o)).block _ aJ).trans (QB w o)
 |o::a,w,j+1,p,h=>by have:=pT a (w.alloc o) j p (by simpa using h);rw[SP,show w.heap.size+1+j=w.heap.size+(j+1)by omega]at this;exact this
theorem fa.wide{B a:Nat}{w:M}{v:H}{l:List Pt}(h:fa B w v l)(b:a<=B):fa a w v l:=by obtain⟨c,d,e,f⟩:=h;exact⟨c,d,cq e b,f⟩
def bM(Q:bW)(m:Nat):List Pt:=(TQ m).map λi=>(Q.me i,Q.row i,Q.da i)
theorem cU(Q:bW)(m:Nat):(bM Q m).length=m:=by simp[bM]
theorem Bk(Q:bW)(k:Nat)(hd:Hd)(f:aN):bM (Q.put k hd f) (k+1)=bM Q k++ [(hd.me,hd.row,tv hd.nC f)]:=by
 unfold bM;rw[UL,SH];congr 1
 .refine UX λi a=>?_;have:i≠k:=by have:=TY.1 a;omega
  simp only[bW.put,al this]
 .simp [bW.put]
def Kb(F:dp)(ep sq room:Nat)(w:M)(e:RV)(b:M):Prop:=
 aq w b/\∃a n c,(∃P,bL F ep sq room P/\aL e (.tuple #[.agg #[bg sq,.slice a n c],.bool true])/\fa w.heap.size b (.slice a n c) (bM P P.N))\/
  ((∀P,¬bL F ep sq room P)/\aL e (.tuple #[.agg #[bg sq,.slice a n c],.bool false]))
def BO(room ep sq t:Nat)(rg:H)(s:Nat)(sv:H)(hd:Hd)(N ds dm:Nat):Nat->Array H × Nat
 |0=>(#[.int .i64 (room:Nat)],3)
 |1=>(#[.int .u64 (ep:Nat)],87)
 |2=>(#[.int .u64 (sq:Nat)],87)
 |3=>(#[.int .u64 0,.slice none 0 0],204)
 |4=>(#[.bool false],4)
 |5=>(#[.int .u64 (sq:Nat),sv],204)
 |6=>(rK hd,390)
 |7=>(#[.int .i64 (N:Nat)],3)
 |8=>(#[.int .u32 (ds:Nat),.int .i64 (dm:Nat)],436)
 |9=>(#[.pointer (some ⟨s+8,0,none⟩)],391)
 |10=>(#[rg],352)
 |_=>(#[.int .i64 (t:Nat)],3)
theorem xV(room ep sq t:Nat)(rg:H)(s:Nat)(sv:H)(hd:Hd)(N ds dm j:Nat):(BO room ep sq t rg s sv hd N ds dm j).2≠5:=by unfold BO;split<;>(dsimp only;decide)
structure BR(w:M)(lo:Loop)(room ep sq t:Nat)(rg:H)(sv:H)(hd:Hd)(N ds dm:Nat)(ps:List Pt)(A:M):Prop where
 l:A.heap[w.heap.size+13]? =some (.loop lo)
 D:A.heap[w.heap.size+12]? =some (.deferred (some []))
 c:∀j,j<12->A.heap[w.heap.size+j]? =some (.cells (BO room ep sq t rg w.heap.size sv hd N ds dm j).1 (BO room ep sq t rg w.heap.size sv hd N ds dm j).2 (0,0))
 ls:fa (w.heap.size+14) A sv ps
 out:aq w A
section
variable {w:QA} {lo lo':Loop} {room ep sq t:Nat} {rg sv:QC} {hd:Hd} {N ds dm:Nat} {l:List Pt} {A B:QA}
theorem BR.size(h:BR w lo room ep sq t rg sv hd N ds dm l A):w.heap.size+14<=A.heap.size:=Z_ h.l
theorem BR.then(h:BR w lo room ep sq t rg sv hd N ds dm l A)(a:aq A B):BR w lo room ep sq t rg sv hd N ds dm l B:=by have c:=h.size;exact⟨(a.block _ J).trans h.l,(a.block _ J).trans h.D,λj b=>(a.block _ J).trans (h.c j b),h.ls.below a,h.out.trans (a.mono J)⟩
theorem fa.kT{B:Nat}{w:M}{v:H}{l:List Pt}(h:fa B w v l){k:Nat}(a:v.ownBlock=some k):B<=k:=by obtain⟨c,d,b,e⟩:=h;exact(bo b a).2
theorem BR.put(h:BR w lo room ep sq t rg sv hd N ds dm l A):BR w lo' room ep sq t rg sv hd N ds dm l (A.putObj (w.heap.size+13) (.loop lo')):=by
 have a:Out (λb=>b=w.heap.size+13) A (A.putObj (w.heap.size+13) (.loop lo')):=Out.putObj (S:=λb=>b=w.heap.size+13) (Out.refl _ _) (λ_=>rfl) _;have g:=h.size;refine⟨SO (Z_ h.l),a.heap h.D (by show¬w.heap.size+12=w.heap.size+13;omega),λj f=>a.heap (h.c j f) (by show¬w.heap.size+j=w.heap.size+13;omega),
  h.ls.out a (λk c e=>by have:=h.ls.kT c;have:k=w.heap.size+13:=e;omega) (λk o c d=>?_),h.out.trans (a.below (λk _ e=>by have:k=w.heap.size+13:=e;omega) J)⟩
 have:k=w.heap.size+13:=c;subst this;rw[h.l]at d;cases d;exactλe=>by simp[ty]at e
theorem BR.fQ{a:H}{d:Hd}{i f g:Nat}{n:List Pt}(h:BR w lo room ep sq t rg sv hd N ds dm l A)(c:Nat)(p:c<12)(m:Out (λb=>b=w.heap.size+c) A B)(q:aX B (w.heap.size+c) (.cells (BO room ep sq t rg w.heap.size a d i f g c).1 (BO room ep sq t rg w.heap.size a d i f g c).2 (0,0)))(r:∀j,j<12->j≠c->BO room ep sq t rg w.heap.size a d i f g j=BO room ep sq t rg w.heap.size sv hd N ds dm j)(s:fa (w.heap.size+14) B a n):BR w lo room ep sq t rg a d i f g n B:=by
 have u:=h.size;refine⟨m.heap h.l (by show¬w.heap.size+13=w.heap.size+c;omega),m.heap h.D (by show¬w.heap.size+12=w.heap.size+c;omega),λj o=>?_,s,h.out.trans (m.below (λk _ e=>by have:k=w.heap.size+c:=e;omega) J)⟩;by_cases e:j=c
 .rw [e];exact q
 .rw [r j o e];exact m.heap (h.c j o) (by show¬w.heap.size+j=w.heap.size+c;omega)
theorem BR.Od{c:Hd}{i d f:Nat}(h:BR w lo room ep sq t rg sv hd N ds dm l A)(a:Nat)(g:a<12)(n:Out (λb=>b=w.heap.size+a) A B)(q:B.heap[w.heap.size+a]?=some (.cells (BO room ep sq t rg w.heap.size sv c i d f a).1 (BO room ep sq t rg w.heap.size sv c i d f a).2 (0,0)))(r:∀j,j<12->j≠a->BO room ep sq t rg w.heap.size sv c i d f j=BO room ep sq t rg w.heap.size sv hd N ds dm j):BR w lo room ep sq t rg sv c i d f l B:=by
 refine h.fQ a g n q r (h.ls.out n (λk m e=>by have:=h.ls.kT m;have:k=w.heap.size+a:=e;omega) (λk o m p=>?_));have:k=w.heap.size+a:=m;subst this;rw[h.c a g]at p;cases p;exact xV _ _ _ _ _ _ _ _ _ _ _ _
theorem BR.cy(h:BR w lo room ep sq t rg sv hd N ds dm l A)(M:Nat):BR w lo room ep sq t rg sv hd M ds dm l (A.setCell ⟨w.heap.size+7,0,none⟩ (Y M)):=by
 refine h.Od 7 ai ((Out.refl (λb=>b=w.heap.size+7) A).setCell (p:=⟨w.heap.size+7,0,none⟩) (λ_=>rfl) _) (heap_setCell_same _ _ 0 _ 3 _ (h.c 7 ai)) λj c a=>?_
 match j,c with
 |0,_|1,_|2,_|3,_|4,_|5,_|6,_|8,_|9,_|10,_|11,_=>rfl
 |7,_=>exact absurd rfl a
theorem Hi{w:M}{p ty:Nat}{r q o n k j g f:H}(h:aX w p (.cells #[r,q,o,n,k,j,g,f] ty (0,0)))(a b c d x4 e i m:H):
  (((((((((w.setCell (R p 0) a).setCell (R p 1) b).setCell (R p 2) c).setCell (R p 3) d).setCell (R p 4) x4).setCell (R p 5) e).setCell (R p 6) i).setCell (R p 7) m)).heap[p]?=some (.cells #[a,b,c,d,x4,e,i,m] ty (0,0)):=by
 have s:(w.setCell (R p 0) a).heap[p]?=some (.cells #[a,q,o,n,k,j,g,f] ty (0,0)):=heap_setCell_same _ p 0 _ ty a h;have u:((w.setCell (R p 0) a).setCell (R p 1) b).heap[p]?=some (.cells #[a,b,o,n,k,j,g,f] ty (0,0)):=heap_setCell_same _ p 1 _ ty b s;have v:(((w.setCell (R p 0) a).setCell (R p 1) b).setCell (R p 2) c).heap[p]?=some (.cells #[a,b,c,n,k,j,g,f] ty (0,0)):=heap_setCell_same _ p 2 _ ty c u;have x:((((w.setCell (R p 0) a).setCell (R p 1) b).setCell (R p 2) c).setCell (R p 3) d).heap[p]?=some (.cells #[a,b,c,d,k,j,g,f] ty (0,0)):=heap_setCell_same _ p 3 _ ty d v;have y:(((((w.setCell (R p 0) a).setCell (R p 1) b).setCell (R p 2) c).setCell (R p 3) d).setCell (R p 4) x4).heap[p]?=some (.cells #[a,b,c,d,x4,j,g,f] ty (0,0)):=heap_setCell_same _ p 4 _ ty x4 x;have z:((((((w.setCell (R p 0) a).setCell (R p 1) b).setCell (R p 2) c).setCell (R p 3) d).setCell (R p 4) x4).setCell (R p 5) e).heap[p]?=some (.cells #[a,b,c,d,x4,e,g,f] ty (0,0)):=heap_setCell_same _ p 5 _ ty e y;have C:(((((((w.setCell (R p 0) a).setCell (R p 1) b).setCell (R p 2) c).setCell (R p 3) d).setCell (R p 4) x4).setCell (R p 5) e).setCell (R p 6) i).heap[p]?=some (.cells #[a,b,c,d,x4,e,i,f] ty (0,0)):=heap_setCell_same _ p 6 _ ty i z;have D:((((((((w.setCell (R p 0) a).setCell (R p 1) b).setCell (R p 2) c).setCell (R p 3) d).setCell (R p 4) x4).setCell (R p 5) e).setCell (R p 6) i).setCell (R p 7) m).heap[p]?=some (.cells #[a,b,c,d,x4,e,i,m] ty (0,0)):=heap_setCell_same _ p 7 _ ty m C;exact D
theorem BR.Pf(h:BR w lo room ep sq t rg sv hd N ds dm l A)(x:Hd):BR w lo room ep sq t rg sv x N ds dm l
  ((((((((A.setCell ⟨w.heap.size+6,0,none⟩ (bg x.ep)).setCell ⟨w.heap.size+6,1,none⟩ (bg x.sq)).setCell ⟨w.heap.size+6,2,none⟩ (Y x.ix)).setCell ⟨w.heap.size+6,3,none⟩ (Y x.cy)).setCell ⟨w.heap.size+6,4,none⟩ (Y x.me)).setCell ⟨w.heap.size+6,5,none⟩ (Y x.row)).setCell ⟨w.heap.size+6,6,none⟩ (.bool x.nC)).setCell ⟨w.heap.size+6,7,none⟩ (.int .u32 (x.sm:Nat))):=by
 have c:aX A (w.heap.size+6) (ao (rK hd) 390):=h.c 6 ai;have d:=Hi c (bg x.ep) (bg x.sq) (Y x.ix) (Y x.cy) (Y x.me) (Y x.row) (.bool x.nC) (.int .u32 (x.sm:Nat));have e:Out (λb=>b=w.heap.size+6) A ((((((((A.setCell ⟨w.heap.size+6,0,none⟩ (bg x.ep)).setCell ⟨w.heap.size+6,1,none⟩ (bg x.sq)).setCell ⟨w.heap.size+6,2,none⟩ (Y x.ix)).setCell ⟨w.heap.size+6,3,none⟩ (Y x.cy)).setCell ⟨w.heap.size+6,4,none⟩ (Y x.me)).setCell ⟨w.heap.size+6,5,none⟩ (Y x.row)).setCell ⟨w.heap.size+6,6,none⟩ (.bool x.nC)).setCell ⟨w.heap.size+6,7,none⟩ (.int .u32 (x.sm:Nat))):=((((((((Out.refl (λb=>b=w.heap.size+6) A).setCell (p:=⟨w.heap.size+6,0,none⟩) (λ_=>rfl) _).setCell (p:=⟨w.heap.size+6,1,none⟩) (λ_=>rfl) _).setCell (p:=⟨w.heap.size+6,2,none⟩) (λ_=>rfl) _).setCell (p:=⟨w.heap.size+6,3,none⟩) (λ_=>rfl) _).setCell (p:=⟨w.heap.size+6,4,none⟩) (λ_=>rfl) _).setCell (p:=⟨w.heap.size+6,5,none⟩) (λ_=>rfl) _).setCell (p:=⟨w.heap.size+6,6,none⟩) (λ_=>rfl) _).setCell (p:=⟨w.heap.size+6,7,none⟩) (λ_=>rfl) _;refine h.Od 6 ai e d λj f a=>?_
 match j,f with
 |0,_|1,_|2,_|3,_|4,_|5,_|7,_|8,_|9,_|10,_|11,_=>rfl
 |6,_=>exact absurd rfl a
theorem BR.HV{a b:Nat}(h:BR w lo room ep sq t rg sv hd N ds dm l A)(e:Out (λk=>k=w.heap.size+8) A B)(c:FA B (w.heap.size+8) a b):BR w lo room ep sq t rg sv hd N a b l B:=by
 refine h.Od 8 ai e c λj f d=>?_
 match j,f with
 |0,_|1,_|2,_|3,_|4,_|5,_|6,_|7,_|9,_|10,_|11,_=>rfl
 |8,_=>exact absurd rfl d
theorem BR.push{a g:Option SR}{n m c q:Nat}{r:List Pt}{us':List H}(h:BR w lo room ep sq t rg (.slice a n c) hd N ds dm l A)(x:Out (λk=>(RR a n c).ownBlock=some k) A B)(G:us'.length=r.length)(b:B.ownsRow (w.heap.size+14) 206 3 (.slice g m q) r.length (dg r us'))(s:∀(i:Nat) (p:Pt) (u:H),r[i]?=some p->us'[i]?=some u->dR B u p.2.2):
  BR w lo room ep sq t rg (.slice g m q) hd N ds dm r (B.setCell ⟨w.heap.size+5,1,none⟩ (.slice g m q)):=by
 have P:=h.size;have E:∀j,j<14->¬(λk=>(RR a n c).ownBlock=some k) (w.heap.size+j):=λj v e=>by have:=h.ls.kT e;omega
 have d:∀j,j≠5->∀z,A.heap[w.heap.size+j]?=some z->j<14->(B.setCell ⟨w.heap.size+5,1,none⟩ (.slice g m q)).heap[w.heap.size+j]?=some z:=λj C z y v=>
  (RO _ _ _ _ (by show w.heap.size+j≠w.heap.size+5;omega)).trans (x.heap y (E j v))
 have C:B.heap[w.heap.size+5]?=some (ao #[bg sq,.slice a n c] 204):=x.heap (h.c 5 ai) (E 5 ai);have K:=heap_setCell_same B _ 1 _ 204 (.slice g m q) C;have f:Out (λk=>k=w.heap.size+5) B (B.setCell ⟨w.heap.size+5,1,none⟩ (.slice g m q)):=(Out.refl (λk=>k=w.heap.size+5) B).setCell (p:=⟨w.heap.size+5,1,none⟩) (λ_=>rfl) _;refine⟨d 13 ai _ h.l ai,d 12 ai _ h.D ai,λj v=>?_,⟨us',G,f.own b λk D e=>?_,λi p u L O=>(s i p u L O).out f λk o D y=>?_⟩,?_⟩
 .by_cases e:j=5
  .subst e;exact K
  .have:=d j e _ (h.c j v) J;rw[this]
   match j,v with
   |0,_|1,_|2,_|3,_|4,_|6,_|7,_|8,_|9,_|10,_|11,_=>rfl
   |5,_=>exact absurd rfl e
 .have Q:=(bo b D).2;have F:k=w.heap.size+5:=e;omega
 .have F:k=w.heap.size+5:=D;subst F;rw[C]at y;cases y;exactλe=>by simp[ty]at e
 .refine h.out.trans ((x.below (B:=w.heap.size) (λk _ e=>by have:=h.ls.kT e;omega) J).trans (f.below (λk _ e=>by have:k=w.heap.size+5:=e;omega) ?_));have:=x.size;omega
structure BE(w:M)(lo:Loop)(F:dp)(room ep sq:Nat)(A:M):Prop where
 l:A.heap[w.heap.size+13]? =some (.loop lo)
 D:A.heap[w.heap.size+12]? =some (.deferred (some []))
 out:aq w A
 r:∃a n c b,A.heap[w.heap.size+3]? =some (ao #[bg sq,.slice a n c] 204)/\A.heap[w.heap.size+4]? =some (ao #[.bool b] 4)/\
  ((b=true/\∃P,bL F ep sq room P/\fa (w.heap.size+14) A (.slice a n c) (bM P P.N))\/(b=false/\∀P,¬bL F ep sq room P))
theorem BR.done{F:dp}{a:Option SR}{n c:Nat}{b:Bool}(h:BR w lo room ep sq t rg (.slice a n c) hd N ds dm l A)(g:(b=true/\∃P,bL F ep sq room P/\l=bM P P.N)\/(b=false/\∀P,¬bL F ep sq room P)):
  BE w lo F room ep sq (((A.setCell ⟨w.heap.size+3,0,none⟩ (bg sq)).setCell ⟨w.heap.size+3,1,none⟩ (.slice a n c)).setCell ⟨w.heap.size+4,0,none⟩ (.bool b)):=by
 have r:=h.size;have d:Out (λk=>k=w.heap.size+3\/k=w.heap.size+4) A (((A.setCell ⟨w.heap.size+3,0,none⟩ (bg sq)).setCell ⟨w.heap.size+3,1,none⟩ (.slice a n c)).setCell ⟨w.heap.size+4,0,none⟩ (.bool b)):=
  (((Out.refl (λk=>k=w.heap.size+3\/k=w.heap.size+4) A).setCell (p:=⟨w.heap.size+3,0,none⟩) (λ_=>.inl rfl) _).setCell (p:=⟨w.heap.size+3,1,none⟩) (λ_=>.inl rfl) _).setCell (p:=⟨w.heap.size+4,0,none⟩) (λ_=>.inr rfl) _
 have i:=heap_setCell_same _ (w.heap.size+3) 1 _ 204 (.slice a n c) (heap_setCell_same A (w.heap.size+3) 0 _ 204 (bg sq) (h.c 3 ai));have j:((A.setCell ⟨w.heap.size+3,0,none⟩ (bg sq)).setCell ⟨w.heap.size+3,1,none⟩ (.slice a n c)).heap[w.heap.size+4]?=some (ao #[.bool false] 4):=
  ((RO _ _ _ _ (by show w.heap.size+4≠w.heap.size+3;omega)).trans (RO _ _ _ _ (by show w.heap.size+4≠w.heap.size+3;omega))).trans (h.c 4 ai)
 refine⟨d.heap h.l (by show¬(w.heap.size+13=w.heap.size+3\/w.heap.size+13=w.heap.size+4);omega),d.heap h.D (by show¬(w.heap.size+12=w.heap.size+3\/w.heap.size+12=w.heap.size+4);omega),
  h.out.trans (d.below (λk _ e=>by have:k=w.heap.size+3\/k=w.heap.size+4:=e;omega) J),a,n,c,b,?_,heap_setCell_same _ _ 0 _ _ _ j,g.imp ?_ id⟩
 .exact (RO _ _ _ _ (by show w.heap.size+3≠w.heap.size+4;omega)).trans i
 .rintro ⟨m,P,q,rfl⟩;refine⟨m,P,q,h.ls.out d (λk hk e=>by have:=h.ls.kT hk;have:k=w.heap.size+3\/k=w.heap.size+4:=e;omega) (λk o hk f=>?_)⟩;rcases hk with hk|hk
  .subst hk;rw[h.c 3 ai]at f;cases f;exact xV _ _ _ _ _ _ _ _ _ _ _ _
  .subst hk;rw[h.c 4 ai]at f;cases f;exact xV _ _ _ _ _ _ _ _ _ _ _ _
theorem BE.then{F:dp}(h:BE w lo F room ep sq A)(d:aq A B):BE w lo F room ep sq B:=by have m:w.heap.size+14<=A.heap.size:=Z_ h.l;obtain⟨a,n,c,b,f,g,i⟩:=h.r;exact⟨(d.block _ J).trans h.l,(d.block _ J).trans h.D,h.out.trans (d.mono J),a,n,c,b,(d.block _ J).trans f,(d.block _ J).trans g,i.imp (λ⟨e,P,j,k⟩=>⟨e,P,j,k.below d⟩) id⟩
theorem BE.put{F:dp}(h:BE w lo F room ep sq A):BE w lo' F room ep sq (A.putObj (w.heap.size+13) (.loop lo')):=by
 have d:Out (λb=>b=w.heap.size+13) A (A.putObj (w.heap.size+13) (.loop lo')):=Out.putObj (S:=λb=>b=w.heap.size+13) (Out.refl _ _) (λ_=>rfl) _;have s:w.heap.size+14<=A.heap.size:=Z_ h.l;obtain⟨a,n,c,b,j,m,p⟩:=h.r;refine⟨SO (Z_ h.l),d.heap h.D (by show¬w.heap.size+12=w.heap.size+13;omega),h.out.trans (d.below (λk _ e=>by have:k=w.heap.size+13:=e;omega) J),
  a,n,c,b,d.heap j (by show¬w.heap.size+3=w.heap.size+13;omega),d.heap m (by show¬w.heap.size+4=w.heap.size+13;omega),p.imp ?_ id⟩
 rintro⟨q,P,r,g⟩;refine⟨q,P,r,g.out d (λk f e=>by have:=g.kT f;have:k=w.heap.size+13:=e;omega) (λk o f i=>?_)⟩;have:k=w.heap.size+13:=f;subst this;rw[h.l]at i;cases i;exactλe=>by simp[ty]at e
theorem BR.endLoop(h:BR w lo room ep sq t rg sv hd N ds dm l A)(b:lo.state≠ .busy){jump:Option Code}(c:lo.pending=jump):∃lo' a,(Instr.endLoop (w.heap.size+13)).run prog A=.ok jump a/\BR w lo' room ep sq t rg sv hd N ds dm l a:=by subst c;exact⟨_,_,run_endLoop h.l b,h.put⟩
theorem BE.endLoop{F:dp}(h:BE w lo F room ep sq A)(b:lo.state≠ .busy){jump:Option Code}(c:lo.pending=jump):∃lo' a,(Instr.endLoop (w.heap.size+13)).run prog A=.ok jump a/\BE w lo' F room ep sq a:=by subst c;exact⟨_,_,run_endLoop h.l b,h.put⟩
theorem BE.answer{F:dp}(h:BE w lo F room ep sq A):∃a n c g,(A.putObj (w.heap.size+12) (.deferred none)).cell? ⟨w.heap.size+3,0,none⟩=some (bg sq)/\(A.putObj (w.heap.size+12) (.deferred none)).cell? ⟨w.heap.size+3,1,none⟩=some (.slice a n c)/\
  (A.putObj (w.heap.size+12) (.deferred none)).cell? ⟨w.heap.size+4,0,none⟩=some (.bool g)/\Kb F ep sq room w (.returned (.tuple #[.agg #[bg sq,.slice a n c],.bool g])) (A.putObj (w.heap.size+12) (.deferred none)):=by
 have d:Out (λk=>k=w.heap.size+12) A (A.putObj (w.heap.size+12) (.deferred none)):=Out.putObj (S:=λk=>k=w.heap.size+12) (Out.refl _ _) (λ_=>rfl) _;have x:w.heap.size+14<=A.heap.size:=Z_ h.l;obtain⟨a,n,c,b,p,q,r⟩:=h.r;have i:=d.heap p (by show¬w.heap.size+3=w.heap.size+12;omega);have s:=d.heap q (by show¬w.heap.size+4=w.heap.size+12;omega);refine⟨a,n,c,b,(cr i).1 0,(cr i).1 1,(cr s).1 0,h.out.trans (d.below (λk _ e=>by have:k=w.heap.size+12:=e;omega) J),a,n,c,?_⟩;rcases r with⟨rfl,P,u,j⟩|⟨rfl,v⟩
 .refine .inl ⟨P,u,rfl,fa.wide ?_ (Nat.le_add_right w.heap.size 14)⟩;refine j.out d (λk f e=>by have:=j.kT f;have:k=w.heap.size+12:=e;omega) (λk o f m=>?_);have:k=w.heap.size+12:=f;subst this;rw[h.D]at m;cases m;exactλe=>by simp[ty]at e
 .exact .inr ⟨v,rfl⟩
end
end
section
open Go.Shelf
attribute [local go_sem] WK zp
theorem dE{V:M}{d:Nat}{X:Array H}(h:∀o,V.cell? (R d o)=X[o]?){p:SR}(a:p.block≠d)(v:H):∀o,(V.setCell p v).cell? (R d o)=X[o]?:=λo=>
 (World.cell?_setCell_far _ _ _ _ a).trans (h o)
theorem xW{F:dp}:∀{m:Nat},(∀i,i<2*m->Lt 128 (F i))->ov F m<4294967296
 |0,_=>by show(0:Nat)<_;decide
 |m+1,h=>gW _ _ _ (xW λi a=>h i J) (h (2*m) J)
section
variable {F:dp} {ep sq room k:Nat} {Q:bW} {hd:Hd}
theorem zs(a:kt F ep sq room k Q hd)(c:k=2*Q.N)(b:∀i,i<=k->Lt 128 (F i)):(⟨ep,sq,Q.N,ov F Q.N⟩:Cm).ok:=⟨a.c,a.cy,xW λi h=>b i J⟩
theorem Bl(a:kt F ep sq room k Q hd)(b:k=2*Q.N)(d:∀i,i<=k->Lt 128 (F i))(e:∀c:Cm,c.ok->¬aD (F k) c.enc):∀P,¬bL F ep sq room P:=by have f:=e _ (zs a b d);subst b;exact a.rN f
theorem xX(g:kt F ep sq room k Q hd)(j:k=2*Q.N)(n:∀i,i<=k->Lt 128 (F i)){h:Cm}(l:h.ok)(m:aD (F k) h.enc):
  (decide (h.ep=ep/\h.sq=sq/\h.cy=Q.N/\h.sm=ov F ((k+1)/2))=true/\∃P,bL F ep sq room P/\bM Q (k/2)=bM P P.N)\/(decide (h.ep=ep/\h.sq=sq/\h.cy=Q.N/\h.sm=ov F ((k+1)/2))=false/\∀P,¬bL F ep sq room P):=by
 have o:(k+1)/2=Q.N:=J;have p:k/2=Q.N:=J;rw[o,p];by_cases f:h.ep=ep/\h.sq=sq/\h.cy=Q.N/\h.sm=ov F Q.N
 .refine .inl ⟨decide_eq_true f,Q,?_,rfl⟩;have q:h=⟨ep,sq,Q.N,ov F Q.N⟩:=by obtain⟨a,b,c,d⟩:=h;obtain⟨rfl,rfl,rfl,rfl⟩:=f;rfl
  rw[q]at m;subst j;exact g.qs m
 .refine .inr ⟨decide_eq_false f,?_⟩;have r:=zs g j n;have s:¬aD (F k) (ef ep sq Q.N (ov F Q.N)):=λe=>f (by have t:=(Cm.cG l m).symm.trans (Cm.cG r e);rw[t];exact⟨rfl,rfl,rfl,rfl⟩);subst j;exact g.rN s
end
theorem Out.Hi{S:Nat->Prop}{a w:M}{p:Nat}(h:Out S a w)(b:p<a.heap.size->S p)(c d e f x4 g i j:H):
  Out S a ((((((((w.setCell (R p 0) c).setCell (R p 1) d).setCell (R p 2) e).setCell (R p 3) f).setCell (R p 4) x4).setCell (R p 5) g).setCell (R p 6) i).setCell (R p 7) j):=
 (((((((h.setCell (p:=R p 0) b _).setCell (p:=R p 1) b _).setCell (p:=R p 2) b _).setCell (p:=R p 3) b _).setCell (p:=R p 4) b _).setCell (p:=R p 5) b _).setCell (p:=R p 6) b _).setCell (p:=R p 7) b _
theorem xY{w:M}{B e c n:Nat}{v:H}{xs:List H}(d:w.ownsRow B e c v n xs){k:Nat}{o:Obj}(a:v.ownBlock=some k)(b:w.heap[k]?=some o):ty o=e:=by
 rcases d.2 with⟨rfl,_⟩|⟨g,f,h,rfl,_,i,_⟩
 .cases a
 .cases a;rw[i]at b;cases b;rfl
def Mc(s G ep sq M:Nat)(a:H)(h:Cm)(V:QA):Prop:=
 (∀o,V.cell? ⟨s+5,o,none⟩=(#[bg sq,a]:Array H)[o]?)/\(∀o,V.cell? ⟨s+1,o,none⟩=(#[bg ep]:Array H)[o]?)/\(∀o,V.cell? ⟨s+2,o,none⟩=(#[bg sq]:Array H)[o]?)/\(∀o,V.cell? ⟨s+7,o,none⟩=(#[Y M]:Array H)[o]?)/\
  (∀o,V.cell? ⟨s+9,o,none⟩=(#[.pointer (some ⟨s+8,0,none⟩)]:Array H)[o]?)/\(∀o,V.cell? (R G o)=(#[bg h.ep,bg h.sq,Y h.cy,.int .u32 (h.sm:Nat)]:Array H)[o]?)
theorem Mc.set{s G ep sq M:Nat}{b:H}{h:Cm}{V:QA}(c:Mc s G ep sq M b h V){p:SR}(l:p.block=s+3\/p.block=s+4)(d:p.block≠G)(v:H):Mc s G ep sq M b h (V.setCell p v):=by obtain⟨e,f,g,i,j,a⟩:=c;exact⟨dE e J _,dE f J _,dE g J _,dE i J _,dE j J _,dE a d _⟩
def Oe(w:QA)(b:Loop)(F:dp)(room ep sq t:Nat)(d:H)(k:Nat)(A:QA):Prop:=
 k<=room/\∃(Q:bW) (hd:Hd) (M:Nat) (a:Option SR) (c:Nat),BR w b room ep sq t d (.slice a (k/2) c) hd M (ov F ((k+1)/2)) (128*((k+1)/2)) (bM Q (k/2)) A/\
  ((k=0/\M=0)\/(0<k/\kt F ep sq room k Q hd/\M=Q.N))
theorem vF(b o b5 N t room ep sq:Nat)(F:dp)(w:QA)(v2:1<=N)(r7:N<=4096)(v3:t<N)(k0:N*128<=b5)(f8:room<=N)(t5:∀k,k<N->dR w (IB b o b5 N t k) (F k)/\∀j,j<128->F k j<256):
  aF 274 #[.slice (some (ag b o)) (N*128) b5,ae t,ae room,bg ep,bg sq] w (Kb F ep sq room w):=by
 obtain⟨n,H⟩:=ah (N*128);rw[H];have r8:=ad H;clear H;refine(UR (n:=3)).1 ?_;refine callsIn_of_wp_marks func274 rfl trivial ?_;simp only[ntmps274,WA,SE,VW,Nat.reduceAdd,Nat.reduceSub,ZE,ZD,List.push_toArray,XL,UN,UC];have m7:=ad t5;have r9:=ad k0;clear t5 k0;obtain⟨f9,i6⟩:=ah (RR (some (ag b o)) n b5);have b6:=ad (λW=>Hh f9 t W (some (ag b o)) n b5 i6.symm);have k9:=ad i6;rw[i6];clear i6;gi_wp2_with(first|(gi_at_call 308;refine(UR.2 (EH _)).mono ?_;rintro e E ⟨rfl,rfl⟩)|(gi_at_call 309;refine(UR.2 (b6 _)).mono ?_;rintro e w2 ⟨rfl,rfl⟩));rename_i K n3;have n4:=ad n3;clear n3;obtain⟨W0,d8⟩:=ah (mZ w [ao #[ae room] 3,ao #[bg ep] 87,ao #[bg sq] 87,ao #[.int .u64 0,aO] 204,ao #[.bool false] 4,ao #[bg sq,aO] 204,ao (rK ⟨0,0,0,0,0,0,false,0⟩) 390,ao #[ae 0] 3,ao #[.int .u32 0,ae 0] 436,ao #[.pointer (some ⟨w.heap.size+8,0,none⟩)] 391,ao #[f9] 352,ao #[ae t] 3] );have i4:=λj l0 h=>pT [ao #[ae room] 3,ao #[bg ep] 87,ao #[bg sq] 87,ao #[.int .u64 0,aO] 204,ao #[.bool false] 4,ao #[bg sq,aO] 204,ao (rK ⟨0,0,0,0,0,0,false,0⟩) 390,ao #[ae 0] 3,ao #[.int .u32 0,ae 0] 436,ao #[.pointer (some ⟨w.heap.size+8,0,none⟩)] 391,ao #[f9] 352,ao #[ae t] 3] w j l0 h;have i7:aq w W0:=by rw[<-d8];exact iy _ _
 have f2:W0.heap.size=w.heap.size+12:=by rw[<-d8];exact nH _ _
 rw[d8]at i4;refine(show∀X,X=W0->Code.wpIn TT 3 prog _ _ _ X from ?_) _ d8;intro X k1;rw[k1];clear k1;simp only[UP,Nat.reduceAdd];refine jg (gf:=337) (lb:= #[.pointer (some ⟨w.heap.size+10,0,none⟩),.pointer (some ⟨w.heap.size+11,0,none⟩)]) rfl (RH func337 aE rfl) ?_;intro t6 d9 a6;rw[f2];simp only[UP,Nat.reduceAdd];obtain⟨W1,d0⟩:=ah ((W0.alloc (.deferred (some []))).alloc (.loop (d9 .ready none)));rw[d0];have b3:∀k,k<W0.heap.size->W1.heap[k]?=W0.heap[k]?:=λk p8=>by rw[<-d0];exact(QW _ _ k aS).trans (QW _ _ k p8)
 have i8:aq w W1:=by rw[<-d0];exact aK (aK i7 _) _
 have e9:aX W1 (w.heap.size+13) (.loop (d9 .ready none)):=by rw[<-d0];have:=QB (W0.alloc (.deferred (some []))) (.loop (d9 .ready none));rwa[SP,f2]at this
 have f0:aX W1 (w.heap.size+12) (.deferred (some [])):=by rw[<-d0];have:=(QW (W0.alloc (.deferred (some []))) (.loop (d9 .ready none)) W0.heap.size aJ).trans (QB W0 _);rwa[f2]at this
 have i9:Oe w (d9 .ready none) F room ep sq t f9 0 W1:=by
  refine⟨QO _,⟨0,λ_=>0,λ_=>0,λ_ _=>0⟩,⟨0,0,0,0,0,0,false,0⟩,0,none,0,⟨e9,f0,λj t7=>(b3 _ aa).trans ?_,⟨[],rfl,SD _ _ _ _,λi p u h=>by simp[bM]at h⟩,i8⟩,.inl ⟨rfl,rfl⟩⟩;refine i4 j _ ?_
  match j,t7 with
  |0,_=>rfl
  |1,_=>rfl
  |2,_=>rfl
  |3,_=>rfl
  |4,_=>rfl
  |5,_=>rfl
  |6,_=>rfl
  |7,_=>rfl
  |8,_=>rfl
  |9,_=>rfl
  |10,_=>rfl
  |11,_=>rfl
 have k1:∀j,j<14->j≠10->j≠11->(λb=>w.heap.size<=b/\b≠w.heap.size+10/\b≠w.heap.size+11) (w.heap.size+j):=λj _ h1 I=>⟨aa,aa,aa⟩;have n5:=r8.out;refine(Bi (w.heap.size+13) (w.heap.size+10) (w.heap.size+11) b o b5 N t (λb=>w.heap.size<=b/\b≠w.heap.size+10/\b≠w.heap.size+11) (Oe w (d9 .ready none) F room ep sq t f9) (BE w (d9 .done (some .ret)) F room ep sq) W1 v2 r7 v3 r9
  ((b3 _ aa).trans (by have:=i4 10 _ rfl;rw[n5,k9.out];exact this)) ((b3 _ aa).trans (i4 11 _ rfl)) (λh=>h.2.1 rfl) (λh=>h.2.2 rfl) i9 (λk A n h=>?_) ?_).mono ?_
 .obtain ⟨h1,Q,hd,M,a,c,I,h3⟩:=h;exact⟨h1,Q,hd,M,a,c,I.then (cK aj _),h3⟩
 .intro q k A p8 v4;obtain⟨n6,Q,hd,M,a,c,s0,f3⟩:=v4;have s1:=s0.l;have s2:=run_yield (P:=prog) (args:= #[ae k,IB b o b5 N t k]) s1 (by rw[a6];rfl);rw[show(d9 .ready none).fn=t6 by rw[a6]]at s2;refine⟨t6,_,_,_,s2,roundIn_of_wpIn trivial ?_⟩;have l1:=run_beginRound (P:=prog) s1 (by rw[a6]);have j0:=s0.put (lo':={d9 .ready none with state:=.busy});obtain⟨A2,g5⟩:=ah (A.putObj (w.heap.size+13) (.loop {d9 .ready none with state:=.busy}));rw[g5]at l1 j0;have s:=ad j0;have g6:QX (Out (λb=>w.heap.size<=b/\b≠w.heap.size+10/\b≠w.heap.size+11) A A2):=by rw[<-g5];exact Out.putObj (Out.refl _ _) (λ_=>k1 13 ai ai ai) _
  obtain⟨R,p9⟩:=ah (zq (λb=>w.heap.size<=b/\b≠w.heap.size+10/\b≠w.heap.size+11) (Oe w (d9 .ready none) F room ep sq t f9) (BE w (d9 .done (some .ret)) F room ep sq) k A);rw[p9,a6];have n7:=ad a6;have f4:=ad f3;clear a6 f3 g5 s0 s1 s2 i9 f0 e9 i8 b3 i4 i7 f2 d8 d0 b6 n5;have f5:=ad k1;clear k1;obtain⟨l2,l3⟩:=ah ({d9 .ready none with state:=.busy}:Loop);have d1:QX (∀A3 n8 e0 f6 d6 d7,BR w l2 room ep sq t f9 (.slice d6 ((k+1)/2) d7) e0 f6 (ov F ((k+1+1)/2)) (128*((k+1+1)/2)) (bM n8 ((k+1)/2)) A3->k<room->kt F ep sq room (k+1) n8 e0->f6=n8.N->Out (λb=>w.heap.size<=b/\b≠w.heap.size+10/\b≠w.heap.size+11) A A3->
    ∃v b7,(ZB (w.heap.size+13) none).run prog A3=.ok v b7/\R (.returned v) b7):=by
   intro A3 n8 e0 f6 d6 d7 h1 I h3 h4 Z;refine⟨_,_,run_endRound (P:=prog) none h1.l,?_⟩;have e1:({l2 with state:=if(none:Option Code).isNone then .ready else .done,pending:=none}:Loop)=d9 .ready none:=by rw[<-l3,n7.out];rfl
   rw[e1,<-p9];refine .inl ⟨rfl,Out.putObj Z (λ_=>f5.out 13 ai ai ai) _,I,n8,e0,f6,d6,d7,?_,.inr ⟨Nat.succ_pos _,h3,h4⟩⟩;exact h1.put
  have a2:QX (∀A3 e0 f6 t8 t9 d6 k2 d7 l f7,BR w l2 room ep sq t f9 (.slice d6 k2 d7) e0 f6 t8 t9 l A3->Out (λb=>w.heap.size<=b/\b≠w.heap.size+10/\b≠w.heap.size+11) A A3->((f7=true/\∃P,bL F ep sq room P/\l=bM P P.N)\/(f7=false/\∀P,¬bL F ep sq room P))->
    ∀B,SK (((A3.setCell ⟨w.heap.size+3,0,none⟩ (bg sq)).setCell ⟨w.heap.size+3,1,none⟩ (.slice d6 k2 d7)).setCell ⟨w.heap.size+4,0,none⟩ (.bool f7)).heap.size (((A3.setCell ⟨w.heap.size+3,0,none⟩ (bg sq)).setCell ⟨w.heap.size+3,1,none⟩ (.slice d6 k2 d7)).setCell ⟨w.heap.size+4,0,none⟩ (.bool f7)) B->
    ∃v b7,(ZB (w.heap.size+13) (some .ret)).run prog B=.ok v b7/\R (.returned v) b7):=by
   intro A3 e0 f6 t8 t9 d6 k2 d7 l f7 h1 I h3 B n9;have h4:=(h1.done (F:=F) h3).then n9;refine⟨_,_,run_endRound (P:=prog) (some .ret) h4.l,?_⟩;have e1:({l2 with state:=if(some Code.ret:Option Code).isNone then .ready else .done,pending:=some Code.ret}:Loop)=d9 .done (some .ret):=by rw[<-l3,n7.out];rfl
   rw[e1,<-p9];refine .inr ⟨rfl,Out.putObj ((((I.setCell (p:=⟨w.heap.size+3,0,none⟩) (λ_=>f5.out 3 ai ai ai) _).setCell (p:=⟨w.heap.size+3,1,none⟩) (λ_=>f5.out 3 ai ai ai) _).setCell (p:=⟨w.heap.size+4,0,none⟩) (λ_=>f5.out 4 ai ai ai) _).then n9) (λ_=>f5.out 13 ai ai ai) _,?_⟩;exact h4.put
  clear p9;rw[l3]at j0 s;clear j0;gi_wp2;refine⟨A2,l1,?_⟩;clear l1;obtain⟨c0,u0,z0⟩:=cr (show A2.heap[w.heap.size+0]?=some (ao #[ae room] 3)from s.c 0 ai);obtain⟨c3,u3,z3⟩:=cr (show A2.heap[w.heap.size+3]?=some (ao #[.int .u64 0,aO] 204)from s.c 3 ai);obtain⟨c4,u4,z4⟩:=cr (show A2.heap[w.heap.size+4]?=some (ao #[.bool false] 4)from s.c 4 ai);obtain⟨c5,u5,z5⟩:=cr (show A2.heap[w.heap.size+5]?=some (ao #[bg sq,.slice a (k/2) c] 204)from s.c 5 ai);obtain⟨c7,u7,z7⟩:=cr (show A2.heap[w.heap.size+7]?=some (ao #[ae M] 3)from s.c 7 ai);simp only[VK]at c0 u0 z0;by_cases l4:k=room
  .have y:∀P,¬bL F ep sq room P:=by
    rcases f4.out with⟨rfl,_⟩|⟨_,h3,_⟩
    .exact Bg l4
    .exact h3.rM l4
   have r:=ad y;clear y;subst l4;gi_wp2;exact a2 _ _ _ _ _ _ _ _ _ _ s g6 (.inr ⟨rfl,r⟩) _ aj
  .have l5:k<room:=aa;have j1:¬(k:Int)=(room:Int):=aa;have a5:QX (∀W,aq w W->dR W (IB b o b5 N t k) (F k)):=λW m8=>(m7 k p8).1.below m8;have k3:=ad (m7 k p8).2;have l6:QX (∀i,i<=k->Lt 128 (F i)):=λi r0=>(m7 i aa).2;obtain⟨v5,l7⟩:=ah (IB b o b5 N t k);rw[l7]at a5|-;obtain⟨r1,r2,r3,rfl⟩:∃r1 r2 r3,v5=.slice r1 r2 r3:=⟨_,_,_,l7.symm⟩;clear l7 m7 n4 K;by_cases g7:0<M/\k=2*M
   .have f3:kt F ep sq room k Q hd/\M=Q.N:=by
     rcases f4.out with⟨rfl,h⟩|⟨_,h1,I⟩
     .omega
     .exact ⟨h1,I⟩
    have z:=ad f3;have j2:(0:Int)<(M:Int):=aa;have v6:=f3.1.cy;have j3:QG.wrap (2*(M:Int))=(k:Int):=bs;have o0:=ad g7;clear f3 g7 v6;have i5:=ad (JY _ (F k) A2 (a5 _ s.out.out) k3);gi_wp2_with(first|(refine⟨(λh=>by cases h),?_⟩;gi_at_call 310;refine(WC (w.heap.size+13) (UR.2 i5)).mono ?_;rintro e E ⟨m9,h,rfl,b4,k4⟩;have r4:=aB b4 k4;clear b4 k4));rename_i K k5;have n0:=ad k5;clear k5;obtain⟨W,m8⟩:=ah (E.alloc (ao #[bg h.ep,bg h.sq,ae h.cy,.int .u32 (h.sm:Nat)] 397));rw[m8];have l8:aq A2 W:=by rw[<-m8];exact r4.1.trans ((aK aj _).mono r4.1.size)
    have o1:=s.then l8;have a3:=ad o1;have j6:aX W E.heap.size (ao #[bg h.ep,bg h.sq,ae h.cy,.int .u32 (h.sm:Nat)] 397):=by rw[<-m8];exact QB _ _
    have o2:QX (Out (λb=>w.heap.size<=b/\b≠w.heap.size+10/\b≠w.heap.size+11) A W):=g6.then l8;obtain⟨G,u8⟩:=ah E.heap.size;have g8:QX (∀j,j<12->w.heap.size+j≠G):=λj t7=>by have:=s.size;have:=r4.1.size;omega
    rw[u8]at j6|-;have s3:=ad (λV (hV:FA V (w.heap.size+8) (ov F ((k+1)/2)) (128*((k+1)/2)))=>yw V _ _ _ hV);clear m8 l8 o1 u8 c0 u0 z0 c3 u3 z3 c4 u4 z4 c5 u5 z5 c7 u7 z7;rcases r4.2 with⟨rfl,b1,J⟩|⟨j7,y⟩
    .have q5:∀o,W.drew.cell? ⟨w.heap.size+5,o,none⟩=(#[bg sq,.slice a (k/2) c]:Array QC)[o]?:=(cr (show W.heap[w.heap.size+5]?=some (ao #[bg sq,.slice a (k/2) c] 204)from a3.c 5 ai)).1;have q1:∀o,W.drew.cell? ⟨w.heap.size+1,o,none⟩=(#[bg ep]:Array QC)[o]?:=(cr (show W.heap[w.heap.size+1]?=some (ao #[bg ep] 87)from a3.c 1 ai)).1;have q2:∀o,W.drew.cell? ⟨w.heap.size+2,o,none⟩=(#[bg sq]:Array QC)[o]?:=(cr (show W.heap[w.heap.size+2]?=some (ao #[bg sq] 87)from a3.c 2 ai)).1;have q7:∀o,W.drew.cell? ⟨w.heap.size+7,o,none⟩=(#[ae M]:Array QC)[o]?:=(cr (show W.heap[w.heap.size+7]?=some (ao #[ae M] 3)from a3.c 7 ai)).1;have q9:∀o,W.drew.cell? ⟨w.heap.size+9,o,none⟩=(#[.pointer (some ⟨w.heap.size+8,0,none⟩)]:Array QC)[o]?:=(cr (show W.heap[w.heap.size+9]?=some (ao #[.pointer (some ⟨w.heap.size+8,0,none⟩)] 391)from a3.c 9 ai)).1;have v0:∀o,W.drew.cell? (ag G o)=(#[bg h.ep,bg h.sq,ae h.cy,.int .u32 (h.sm:Nat)]:Array QC)[o]?:=(cr j6).1;obtain⟨c3,u3,z3⟩:=cr (show W.heap[w.heap.size+3]?=some (ao #[.int .u64 0,aO] 204)from a3.c 3 ai);obtain⟨c4,u4,z4⟩:=cr (show W.heap[w.heap.size+4]?=some (ao #[.bool false] 4)from a3.c 4 ai);obtain⟨f7,o3⟩:=ah (decide (h.ep=ep/\h.sq=sq/\h.cy=M/\h.sm=ov F ((k+1)/2)));have o4:=ad o3;clear o3;have d2:Mc w.heap.size G ep sq M (.slice a (k/2) c) h W.drew:=⟨q5,q1,q2,q7,q9,v0⟩;clear q5 q1 q2 q7 q9 v0;refine eB (S:=Mc w.heap.size G ep sq M (.slice a (k/2) c) h) aE aE (λ⟨_,_,h⟩=>h) d2 (λd=>?_);refine lZ (i:=0) (v:=?_) rfl ?_ d ?_
     rotate_left
     .rintro V ⟨Z,h1,I,h7,h9,a8⟩;go_simp
      try rfl
     try simp only[RS,QK,QH,QI,QF,QL,QM]
     refine lZ (i:=1) (v:=?_) rfl ?_ d ?_
     rotate_left
     .rintro V ⟨Z,h1,I,h7,h9,a8⟩;go_simp
      try rfl
     try simp only[RS,QK,QH,QI,QF,QL,QM]
     refine lZ (i:=2) (v:=?_) rfl ?_ d ?_
     rotate_left
     .rintro V ⟨Z,h1,I,h7,h9,a8⟩;go_simp
      try rfl
     try simp only[RS,QK,QH,QI,QF,QL,QM]
     refine lZ (i:=3) (v:=?_) rfl ?_ d ?_
     rotate_left
     .rintro V ⟨Z,h1,I,h7,h9,a8⟩;go_simp
      try rfl
     try simp only[RS,QK,QH,QI,QF,QL,QM]
     refine lZ (i:=4) (v:=?_) rfl ?_ d ?_
     rotate_left
     .rintro V ⟨Z,h1,I,h7,h9,a8⟩;go_simp
      try rfl
     try simp only[RS,QK,QH,QI,QF,QL,QM]
     refine lZ (i:=5) (v:=?_) rfl ?_ d ?_
     rotate_left
     .rintro V ⟨Z,h1,I,h7,h9,a8⟩;go_simp
      try rfl
     try simp only[RS,QK,QH,QI,QF,QL,QM]
     refine lZ (i:=6) (v:=?_) rfl ?_ d ?_
     rotate_left
     .rintro V ⟨Z,h1,I,h7,h9,a8⟩;go_simp
      try rfl
     try simp only[RS,QK,QH,QI,QF,QL,QM]
     refine lZ (i:=7) (v:=?_) rfl ?_ d ?_
     rotate_left
     .rintro V ⟨Z,h1,I,h7,h9,a8⟩;go_simp
      try rfl
     try simp only[RS,QK,QH,QI,QF,QL,QM]
     refine lZ (i:=8) (v:=?_) rfl ?_ d ?_
     rotate_left
     .rintro V ⟨Z,h1,I,h7,h9,a8⟩;go_simp
      try rfl
     try simp only[RS,QK,QH,QI,QF,QL,QM]
     refine wpAnyH_ready (rs:= [9]) aE aJ ?_;refine WY rfl (λK2 L=>?_) XI;rw[ak aE];have a7:=ad L;clear L;go_simp;refine(s3 W.drew (a3.c 8 ai)).mono ?_;rintro e w2 ⟨rfl,rfl⟩;refine a7.out.out _ _ d2 (λd=>?_)
     try simp only[RS,QK,QH,QI,QF,QL,QM]
     refine lZ (i:=10) (v:=?_) rfl ?_ d ?_
     rotate_left
     .rintro V ⟨Z,h1,I,h7,h9,a8⟩;go_simp
      try rfl
     try simp only[RS,QK,QH,QI,QF,QL,QM]
     refine lZ (i:=11) (v:=.bool f7) rfl ?_ d ?_
     .rintro V ⟨Z,h1,I,h7,h9,a8⟩;go_simp;rw[<-o4.out];by_cases e1:h.ep=ep<;>by_cases e2:h.sq=sq<;>by_cases e3:h.cy=M<;>by_cases e4:h.sm=ov F ((k+1)/2)<;>simp[e1,e2,e3,e4,Int.natCast_inj]
     try simp only[RS,QK,QH,QI,QF,QL,QM]
     refine lZ (i:=12) (v:=?_) rfl ?_ d ?_
     rotate_left
     .rintro V ⟨Z,h1,I,h7,h9,a8⟩;go_simp
      try rfl
     try simp only[RS,QK,QH,QI,QF,QL,QM]
     refine wpAnyH_ready (rs:= [13]) aE aJ ?_;refine WY rfl (λK2 L=>?_) XI;rw[ak aE];have a7:=ad L;clear L;go_simp;refine a7.out.out _ _ ((d2.set (p:=⟨w.heap.size+3,0,none⟩) (.inl rfl) (g8 3 ai) _).set (p:=⟨w.heap.size+3,1,none⟩) (.inl rfl) (g8 3 ai) _) (λd=>?_)
     try simp only[RS,QK,QH,QI,QF,QL,QM]
     refine wpAnyH_ready (rs:= [14]) aE aJ ?_;refine WY rfl (λK2 L=>?_) XI;rw[ak aE];have a7:=ad L;clear L;go_simp;refine a7.out.out _ _ (((d2.set (p:=⟨w.heap.size+3,0,none⟩) (.inl rfl) (g8 3 ai) _).set (p:=⟨w.heap.size+3,1,none⟩) (.inl rfl) (g8 3 ai) _).set (p:=⟨w.heap.size+4,0,none⟩) (.inr rfl) (g8 4 ai) _) (λd=>?_)
     try simp only[RS,QK,QH,QI,QF,QL,QM]
     refine wpAnyH_done aE ?_ _;refine n0 _ _ ?_;clear d d2 c3 u3 z3 c4 u4 z4 j6;gi_wp2;refine a2 W.drew _ _ _ _ _ _ _ _ f7 (a3.then (cK aj 1)) o2.drew ?_ _ aj;rw[<-o4.out,z.2];exact xX z.1 (by rw[<-z.2];exact o0.2) l6 b1 J
    .have y:∀P,¬bL F ep sq room P:=Bl z.1 (by rw[<-z.2];exact o0.2) l6 y;have r:=ad y;clear y;have k6:¬(m9:Int)=0:=aa;have q5:∀o,W.drew.cell? ⟨w.heap.size+5,o,none⟩=(#[bg sq,.slice a (k/2) c]:Array QC)[o]?:=(cr (show W.heap[w.heap.size+5]?=some (ao #[bg sq,.slice a (k/2) c] 204)from a3.c 5 ai)).1;obtain⟨c3,u3,z3⟩:=cr (show W.heap[w.heap.size+3]?=some (ao #[.int .u64 0,aO] 204)from a3.c 3 ai);obtain⟨c4,u4,z4⟩:=cr (show W.heap[w.heap.size+4]?=some (ao #[.bool false] 4)from a3.c 4 ai);refine eB (S:=λV=>∀o,V.cell? ⟨w.heap.size+5,o,none⟩=(#[bg sq,.slice a (k/2) c]:Array QC)[o]?) aE aE (λ⟨_,_,h⟩=>h) q5 (λd=>?_);refine lZ (i:=0) (v:=.agg #[bg sq,.slice a (k/2) c]) rfl ?_ d ?_
     .intro V Z;go_simp
     try simp only[RS,QK,QH,QI,QF,QL,QM]
     refine lZ (i:=1) (v:= aH m9) rfl ?_ d ?_
     .intro V Z;go_simp
     try simp only[RS,QK,QH,QI,QF,QL,QM]
     refine lZ (i:=2) (v:=.bool false) rfl ?_ d ?_
     .intro V Z;go_simp
     try simp only[RS,QK,QH,QI,QF,QL,QM]
     refine lZ (i:=3) (v:=.bool false) rfl ?_ d ?_
     .intro V Z;go_simp
     try simp only[RS,QK,QH,QI,QF,QL,QM]
     refine Bj (i:=4) rfl d ?_;refine Bj (i:=5) rfl d ?_;refine Bj (i:=6) rfl d ?_;refine Bj (i:=7) rfl d ?_;refine Bj (i:=8) rfl d ?_;refine Bj (i:=9) rfl d ?_;refine Bj (i:=10) rfl d ?_;refine Bj (i:=11) rfl d ?_
     try simp only[RS,QK,QH,QI,QF,QL,QM]
     refine lZ (i:=12) (v:=.bool false) rfl ?_ d ?_
     .intro V Z;go_simp
     try simp only[RS,QK,QH,QI,QF,QL,QM]
     refine wpAnyH_ready (rs:= [13]) aE aJ ?_;refine WY rfl (λK2 L=>?_) XI;rw[ak aE];have a7:=ad L;clear L;go_simp;refine a7.out.out _ _ (dE (dE q5 (by show w.heap.size+3≠w.heap.size+5;omega) _) (by show w.heap.size+3≠w.heap.size+5;omega) _) (λd=>?_)
     try simp only[RS,QK,QH,QI,QF,QL,QM]
     refine wpAnyH_ready (rs:= [14]) aE aJ ?_;refine WY rfl (λK2 L=>?_) XI;rw[ak aE];have a7:=ad L;clear L;go_simp;refine a7.out.out _ _ (dE (dE (dE q5 (by show w.heap.size+3≠w.heap.size+5;omega) _) (by show w.heap.size+3≠w.heap.size+5;omega) _) (by show w.heap.size+4≠w.heap.size+5;omega) _) (λd=>?_)
     try simp only[RS,QK,QH,QI,QF,QL,QM]
     refine wpAnyH_done aE ?_ _;refine n0 _ _ ?_;clear d q5 c3 u3 z3 c4 u4 z4 j6;gi_wp2;exact a2 W.drew _ _ _ _ _ _ _ _ false (a3.then (cK aj 1)) o2.drew (.inr ⟨rfl,r⟩) _ aj
   .rcases f4.out with⟨rfl,rfl⟩|⟨v7,g9,h0⟩
    .have i5:=ad (ED _ (F 0) A2 (a5 _ s.out.out) k3);have o5:QX (BR w l2 room ep sq t f9 (.slice a 0 c) hd 0 0 0 [] A2):=s.out;clear s f4 g7;gi_wp2_with fail;refine⟨(λh=>by cases h),?_⟩;refine(WC (w.heap.size+13) (UR.2 i5)).mono ?_;rintro e E ⟨m9,h,rfl,b4,k4⟩;have f:=ad (o5.then b4);have d3:QX (Out (λb=>w.heap.size<=b/\b≠w.heap.size+10/\b≠w.heap.size+11) A E):=g6.then b4;clear b4 c0 u0 z0 c3 u3 z3 c4 u4 z4 c5 u5 z5 c7 u7 z7 o5 i5;obtain⟨c0,u0,z0⟩:=cr (show E.heap[w.heap.size+0]?=some (ao #[ae room] 3)from f.c 0 ai);simp only[VK]at c0 u0 z0;obtain⟨c1,u1,z1⟩:=cr (show E.heap[w.heap.size+1]?=some (ao #[bg ep] 87)from f.c 1 ai);obtain⟨c2,u2,z2⟩:=cr (show E.heap[w.heap.size+2]?=some (ao #[bg sq] 87)from f.c 2 ai);obtain⟨c3,u3,z3⟩:=cr (show E.heap[w.heap.size+3]?=some (ao #[.int .u64 0,aO] 204)from f.c 3 ai);obtain⟨c4,u4,z4⟩:=cr (show E.heap[w.heap.size+4]?=some (ao #[.bool false] 4)from f.c 4 ai);obtain⟨c5,u5,z5⟩:=cr (show E.heap[w.heap.size+5]?=some (ao #[bg sq,.slice a 0 c] 204)from f.c 5 ai);obtain⟨c6,u6,z6⟩:=cr (show E.heap[w.heap.size+6]?=some (ao (rK hd) 390)from f.c 6 ai);obtain⟨c7,u7,z7⟩:=cr (show E.heap[w.heap.size+7]?=some (ao #[ae ((0:Nat):Nat)] 3)from f.c 7 ai);obtain⟨c9,u9,z9⟩:=cr (show E.heap[w.heap.size+9]?=some (ao #[.pointer (some ⟨w.heap.size+8,0,none⟩)] 391)from f.c 9 ai);have O:QX (∀(f6:Nat) (l0:Obj),(∀P,¬bL F ep sq room P)->∃v b7,(ZB (w.heap.size+13) (some .ret)).run prog (((((E.setCell ⟨w.heap.size+7,0,none⟩ (ae f6)).setCell ⟨w.heap.size+3,0,none⟩ (bg sq)).setCell ⟨w.heap.size+3,1,none⟩ (.slice a 0 c)).setCell ⟨w.heap.size+4,0,none⟩ iL).alloc l0)=.ok v b7/\R (.returned v) b7):=λf6 l0 y=>
      a2 (E.setCell ⟨w.heap.size+7,0,none⟩ (ae f6)) _ _ _ _ _ _ _ _ false (f.cy f6) (d3.setCell (p:=⟨w.heap.size+7,0,none⟩) (λ_=>f5.out 7 ai ai ai) _) (.inr ⟨rfl,y⟩) _ (aK aj _)
     rcases k4 with⟨rfl,b1,J⟩|⟨j7,y⟩
     .have o6:=b1.cy;have C:=ad (λH=>vC (ep:=ep) (sq:=sq) (room:=room) b1 J H);have a9:=aB b1 J;obtain⟨D,T,a4,x,b8,a0,a1,b9⟩:=h;simp only at o6 C;obtain⟨x2,d4⟩:=ah (2*x);obtain⟨x3,j8⟩:=ah (x2+1);have e1:QG.wrap (2*(x:Int))=(x2:Int):=bs;have e2:QG.wrap ((x2:Int)+1)=(x3:Int):=bs;have o7:=aB d4 j8;have e6:D≠ep\/(D=ep/\T≠sq)\/(D=ep/\T=sq/\a4≠0)\/(D=ep/\T=sq/\a4=0/\room<x3)\/(D=ep/\T=sq/\a4=0/\x3<=room):=aa;clear b1 J o6 d4 j8;rcases e6 with H|⟨g1,H⟩|⟨g1,g2,H⟩|⟨g1,g2,g3,H⟩|⟨g1,g2,g3,H⟩
      .have r:=ad (C λh=>H h.1);have j3:¬(D:Int)=(ep:Int):=aa;clear H C;gi_wp2;exact O _ _ r
      .have r:=ad (C λh=>H h.2.1);have j3:¬(T:Int)=(sq:Int):=aa;clear H C a9;subst D;gi_wp2;exact O _ _ r
      .have r:=ad (C λh=>H h.2.2.1);have j3:¬(a4:Int)=0:=aa;clear H C a9;subst D T;gi_wp2;exact O _ _ r
      .have r:=ad (C λh=>by have:=o7.out;omega);have j3:(room:Int)<(x3:Int):=aa;clear H C a9;subst D T a4;gi_wp2;exact O _ _ r
      .clear C;have j3:¬(room:Int)<(x3:Int):=aa;have s4:=ad H;clear H;subst D T a4;have c8:=((f.cy x).Pf ⟨ep,sq,0,x,b8,a0,a1,b9⟩).then (aK aj (ao #[bg ep,bg sq,ae 0,ae x,ae b8,ae a0,.bool a1,.int .u32 (b9:Nat)] 390));have h6:=ad (r_ _ (w.heap.size+8) 0 0 128 _ (F 0) (c8.c 8 ai) ai (a5 _ c8.out).wj k3 ai ai);have h8:Out (λb=>w.heap.size<=b/\b≠w.heap.size+10/\b≠w.heap.size+11) A _:=((d3.setCell (p:=⟨w.heap.size+7,0,none⟩) (λ_=>f5.out 7 ai ai ai) (ae x)).Hi (λ_=>f5.out 6 ai ai ai) (bg ep) (bg sq) (ae 0) (ae x) (ae b8) (ae a0) (.bool a1) (.int .u32 (b9:Nat))).alloc (ao #[bg ep,bg sq,ae 0,ae x,ae b8,ae a0,.bool a1,.int .u32 (b9:Nat)] 390);have H4:=aB c8 h8;clear c8 h8;gi_wp2_with fail;refine⟨(λh=>by cases h),?_⟩;refine(WC (w.heap.size+13) (UR.2 h6)).mono ?_;rintro e w4 ⟨rfl,i0,wi⟩;have H5:=aB (H4.1.HV wi i0) (H4.2.trans wi (λb _ e=>by subst e;exact f5 8 ai ai ai));clear i0 wi H4 h6 c0 u0 z0 c1 u1 z1 c2 u2 z2 c3 u3 z3 c4 u4 z4 c5 u5 z5 c6 u6 z6 c7 u7 z7 c9 u9 z9;gi_wp2;exact d1 w4 ⟨x,λ_=>0,λ_=>0,λ_ _=>0⟩ _ _ _ _ H5.1 l5 (kt.start a9.1 a9.2 rfl rfl rfl (by have h1:=o7.out;have I:=s4.out;show 2*x+1<=room;omega)) rfl H5.2
     .have r:=ad (xS (room:=room) (ep:=ep) (sq:=sq) y);have k6:¬(m9:Int)=0:=aa;clear y j7;gi_wp2;exact O _ _ r
    .have o8:=g9.cy;have o9:=g9.le;have l9:k<2*Q.N:=aa;obtain⟨x2,d4⟩:=ah (2*M);have e1:QG.wrap (2*(M:Int))=(x2:Int):=bs;have j2:(0:Int)<(M:Int):=aa;have j4:¬(k:Int)=(x2:Int):=aa;have z:=aY g9 h0 l9 d4;obtain⟨m,n1⟩:=ah (k/2);rw[n1]at s c5;by_cases j9:k%2=0
     .rw [show(k+1)/2=m by omega]at s d1;rw[show(k+1+1)/2=m+1 by omega]at d1;have e7:ov F (m+1)=dN (ov F m) 128 (F k):=by show dN (ov F m) 128 (F (2*m))=_;rw[show 2*m=k by omega]
      rw[e7]at d1;have e3:(k:Int).tmod 2=0:=(show(k:Int).tmod ((2:Nat):Int)=((k%2:Nat):Int)from VL _ _).trans (by rw[j9];rfl);have e4:(k:Int).tdiv 2=(m:Int):=(show(k:Int).tdiv ((2:Nat):Int)=((k/2:Nat):Int)from Int.ofNat_tdiv _ _).trans (by rw[n1]);have j5:¬(k:Int)=0:=aa;have e5:QG.wrap (m:Int)=(m:Int):=bs;have i5:=ad (ED _ (F k) A2 (a5 _ s.out.out) k3);have s5:=ad (show ov F m<4294967296 from xW λi r0=>l6.out i aa);have Y:=aY n1 j9 n6 f8;clear g9 h0 g7 f4 o8 o9 n1 l9 d4 j9 e7;gi_wp2_with fail;refine⟨(λh=>by cases h),?_⟩;refine(WC (w.heap.size+13) (UR.2 i5)).mono ?_;rintro e E ⟨m9,h,rfl,b4,k4⟩;have f:=ad (s.then b4);have d3:QX (Out (λb=>w.heap.size<=b/\b≠w.heap.size+10/\b≠w.heap.size+11) A E):=g6.then b4;clear b4 c0 u0 z0 c3 u3 z3 c4 u4 z4 c5 u5 z5 c7 u7 z7 s i5;obtain⟨c0,u0,z0⟩:=cr (show E.heap[w.heap.size+0]?=some (ao #[ae room] 3)from f.c 0 ai);simp only[VK]at c0 u0 z0;obtain⟨c1,u1,z1⟩:=cr (show E.heap[w.heap.size+1]?=some (ao #[bg ep] 87)from f.c 1 ai);obtain⟨c2,u2,z2⟩:=cr (show E.heap[w.heap.size+2]?=some (ao #[bg sq] 87)from f.c 2 ai);obtain⟨c3,u3,z3⟩:=cr (show E.heap[w.heap.size+3]?=some (ao #[.int .u64 0,aO] 204)from f.c 3 ai);obtain⟨c4,u4,z4⟩:=cr (show E.heap[w.heap.size+4]?=some (ao #[.bool false] 4)from f.c 4 ai);obtain⟨c5,u5,z5⟩:=cr (show E.heap[w.heap.size+5]?=some (ao #[bg sq,.slice a m c] 204)from f.c 5 ai);obtain⟨c6,u6,z6⟩:=cr (show E.heap[w.heap.size+6]?=some (ao (rK hd) 390)from f.c 6 ai);obtain⟨c7,u7,z7⟩:=cr (show E.heap[w.heap.size+7]?=some (ao #[ae M] 3)from f.c 7 ai);obtain⟨c9,u9,z9⟩:=cr (show E.heap[w.heap.size+9]?=some (ao #[.pointer (some ⟨w.heap.size+8,0,none⟩)] 391)from f.c 9 ai);have O:QX (∀(l0:Obj),(∀P,¬bL F ep sq room P)->∃v b7,(ZB (w.heap.size+13) (some .ret)).run prog ((((E.setCell ⟨w.heap.size+3,0,none⟩ (bg sq)).setCell ⟨w.heap.size+3,1,none⟩ (.slice a m c)).setCell ⟨w.heap.size+4,0,none⟩ iL).alloc l0)=.ok v b7/\R (.returned v) b7):=λl0 y=>
       a2 E _ _ _ _ _ _ _ _ false f d3 (.inr ⟨rfl,y⟩) _ (aK aj _)
      rcases k4 with⟨rfl,b1,J⟩|⟨j7,y⟩
      .have C:=ad (λH=>z.1.xT Y.2.1 z.2.2.1 b1 J H);have a9:=aB b1 J;obtain⟨D,T,a4,x,b8,a0,a1,b9⟩:=h;simp only at C;have e6:D≠ep\/(D=ep/\T≠sq)\/(D=ep/\T=sq/\a4≠m)\/(D=ep/\T=sq/\a4=m/\x≠M)\/(D=ep/\T=sq/\a4=m/\x=M):=aa;clear b1 J;rcases e6 with H|⟨g1,H⟩|⟨g1,g2,H⟩|⟨g1,g2,g3,H⟩|⟨g1,g2,g3,g4⟩
       .have r:=ad (C λh=>H h.1);have j3:¬(D:Int)=(ep:Int):=aa;clear H C;gi_wp2;exact O _ r
       .have r:=ad (C λh=>H h.2.1);have j3:¬(T:Int)=(sq:Int):=aa;clear H C a9;subst D;gi_wp2;exact O _ r
       .have r:=ad (C λh=>H (h.2.2.1.trans Y.1));have j3:¬(a4:Int)=(m:Int):=aa;clear H C a9;subst D T;gi_wp2;exact O _ r
       .have r:=ad (C λh=>H (h.2.2.2.trans z.2.1.symm));have j3:¬(x:Int)=(M:Int):=aa;clear H C a9;subst D T a4;gi_wp2;exact O _ r
       .clear C;obtain⟨x3,j8⟩:=ah (x2+1);have s6:=z.1.rm;have h0:=z.2.1;have d4:=z.2.2.2;have e2:QG.wrap ((x2:Int)+1)=(x3:Int):=bs;have j3:¬(room:Int)<(x3:Int):=aa;clear s6 h0 d4 j8;subst D T a4 x;have c8:=(f.Pf ⟨ep,sq,m,M,b8,a0,a1,b9⟩).then (aK aj (ao #[bg ep,bg sq,ae m,ae M,ae b8,ae a0,.bool a1,.int .u32 (b9:Nat)] 390));have h6:=ad (r_ _ (w.heap.size+8) (ov F m) (128*m) 128 _ (F k) (c8.c 8 ai) s5 (a5 _ c8.out).wj k3 ai (by have h1:=Y.1;have I:=Y.2.2.1;have h3:=Y.2.2.2;omega));have h8:Out (λb=>w.heap.size<=b/\b≠w.heap.size+10/\b≠w.heap.size+11) A _:=(d3.Hi (λ_=>f5.out 6 ai ai ai) (bg ep) (bg sq) (ae m) (ae M) (ae b8) (ae a0) (.bool a1) (.int .u32 (b9:Nat))).alloc (ao #[bg ep,bg sq,ae m,ae M,ae b8,ae a0,.bool a1,.int .u32 (b9:Nat)] 390);have H4:=aB c8 h8;clear c8 h8;gi_wp2_with fail;refine⟨(λh=>by cases h),?_⟩;refine(WC (w.heap.size+13) (UR.2 h6)).mono ?_;rintro e w4 ⟨rfl,i0,wi⟩;have H5:=aB (H4.1.HV wi i0) (H4.2.trans wi (λb _ e=>by subst e;exact f5 8 ai ai ai));clear i0 wi H4 h6 c0 u0 z0 c1 u1 z1 c2 u2 z2 c3 u3 z3 c4 u4 z4 c5 u5 z5 c6 u6 z6 c7 u7 z7 c9 u9 z9;gi_wp2;exact d1 w4 Q _ _ _ _ H5.1 l5 (z.1.head Y.2.1 z.2.2.1 a9.1 a9.2 rfl rfl Y.1.symm z.2.1) z.2.1 H5.2
      .have r:=ad (z.1.Bh Y.2.1 z.2.2.1 y);have k6:¬(m9:Int)=0:=aa;clear y j7;gi_wp2;exact O _ r
     .rw [show(k+1)/2=m+1 by omega]at s d1;rw[show(k+1+1)/2=m+1 by omega]at d1;have m0:k%2=1:=aa;have e3:(k:Int).tmod 2=1:=(show(k:Int).tmod ((2:Nat):Int)=((k%2:Nat):Int)from VL _ _).trans (by rw[m0];rfl);have i5:=ad (EE hd.nC _ (F k) A2 (a5 _ s.out.out) k3);have Y:=aY n1 m0 n6 f8;obtain⟨c6,u6,z6⟩:=cr (show A2.heap[w.heap.size+6]?=some (ao (rK hd) 390)from s.c 6 ai);clear g9 h0 g7 f4 o8 o9 n1 l9 d4 j9 m0;gi_wp2_with fail;refine⟨(λh=>by cases h),?_⟩;refine(WC (w.heap.size+13) (UR.2 i5)).mono ?_;rintro e E ⟨b4,k4⟩;have f:=ad (s.then b4);have d3:QX (Out (λb=>w.heap.size<=b/\b≠w.heap.size+10/\b≠w.heap.size+11) A E):=g6.then b4;clear b4 c0 u0 z0 c3 u3 z3 c4 u4 z4 c5 u5 z5 c7 u7 z7 c6 u6 z6 s i5;have f1:QX (∀W,BR w l2 room ep sq t f9 (.slice a m c) hd M (ov F (m+1)) (128*(m+1)) (bM Q m) W->Out (λb=>w.heap.size<=b/\b≠w.heap.size+10/\b≠w.heap.size+11) A W->(∀P,¬bL F ep sq room P)->∃v b7,(ZB (w.heap.size+13) (some .ret)).run prog (((W.setCell ⟨w.heap.size+3,0,none⟩ (bg sq)).setCell ⟨w.heap.size+3,1,none⟩ (.slice a m c)).setCell ⟨w.heap.size+4,0,none⟩ iL)=.ok v b7/\R (.returned v) b7):=λW h1 I y=>
       a2 W _ _ _ _ _ _ _ _ false h1 I (.inr ⟨rfl,y⟩) _ aj
      rcases k4 with⟨p0,rfl⟩|⟨p0,g,r5,rfl,i4⟩
      .have r:=ad (z.1.EF Y.2.1 p0);clear p0;gi_wp2_with fail;rename_i K k5;have n0:=ad k5;clear k5;refine eB (S:=λ_=>True) aE aE (λ⟨_,_,h⟩=>h) trivial (λd=>?_);refine lZ (i:=0) (v:= aH 80) rfl ?_ d ?_
       .intro V Z;go_simp
       try simp only[RS,QK,QH,QI,QF,QL,QM]
       refine lZ (i:=1) (v:=.bool true) rfl ?_ d ?_
       .intro V Z;go_simp
       try simp only[RS,QK,QH,QI,QF,QL,QM]
       refine lZ (i:=2) (v:=.bool true) rfl ?_ d ?_
       .intro V Z;go_simp
       try simp only[RS,QK,QH,QI,QF,QL,QM]
       refine Bj (i:=3) rfl d ?_;refine Bj (i:=4) rfl d ?_;refine Bj (i:=5) rfl d ?_;refine Bj (i:=6) rfl d ?_;refine Bj (i:=7) rfl d ?_
       try simp only[RS,QK,QH,QI,QF,QL,QM]
       refine lZ (i:=8) (v:=.bool true) rfl ?_ d ?_
       .intro V Z;go_simp
       try simp only[RS,QK,QH,QI,QF,QL,QM]
       refine wpAnyH_done aE ?_ _;refine n0 _ _ ?_;have U:=ad (f.then (cK aj 1));have i1:=ad d3.drew;obtain⟨W2,m1⟩:=ah E.drew;rw[show E.drewN 1=W2 from m1]at U;rw[m1]at i1|-;clear d m1;obtain⟨c3,u3,z3⟩:=cr (show W2.heap[w.heap.size+3]?=some (ao #[.int .u64 0,aO] 204)from U.c 3 ai);obtain⟨c4,u4,z4⟩:=cr (show W2.heap[w.heap.size+4]?=some (ao #[.bool false] 4)from U.c 4 ai);obtain⟨c5,u5,z5⟩:=cr (show W2.heap[w.heap.size+5]?=some (ao #[bg sq,.slice a m c] 204)from U.c 5 ai);obtain⟨c6,u6,z6⟩:=cr (show W2.heap[w.heap.size+6]?=some (ao (rK hd) 390)from U.c 6 ai);gi_wp2;exact f1 _ U i1 r
      .have r9:=ad p0;have v8:=ad i4;clear p0 i4;gi_wp2_with fail;rename_i K k5;have n0:=ad k5;clear k5;obtain⟨v1,m2⟩:=ah (dN 0 128 (F k));have m3:=ad (jD 128 (.slice r1 r2 r3) (F k) E.drew ((a5 _ (f.out.out.trans ((cK aj 1:aq E E.drew).mono (by have:=f.size;omega)))).wj) k3 ai);rw[m2]at m3;obtain⟨s7,p1⟩:=ah (decide (v1≠hd.sm));have i2:=aB p1 m2;clear p1 m2;have q6:∀o,E.drew.cell? ⟨w.heap.size+6,o,none⟩=(rK hd)[o]?:=(cr (show E.heap[w.heap.size+6]?=some (ao (rK hd) 390)from f.c 6 ai)).1;refine eB (S:=λV=>∀o,V.cell? ⟨w.heap.size+6,o,none⟩=(rK hd)[o]?) aE aE (λ⟨_,_,h⟩=>h) q6 (λd=>?_);refine lZ (i:=0) (v:= aH 0) rfl ?_ d ?_
       .intro V Z;go_simp
       try simp only[RS,QK,QH,QI,QF,QL,QM]
       refine lZ (i:=1) (v:=.bool false) rfl ?_ d ?_
       .intro V Z;go_simp
       try simp only[RS,QK,QH,QI,QF,QL,QM]
       refine lZ (i:=2) (v:=.bool false) rfl ?_ d ?_
       .intro V Z;go_simp
       try simp only[RS,QK,QH,QI,QF,QL,QM]
       refine lZ (i:=3) (v:=.slice r1 r2 r3) rfl ?_ d ?_
       .intro V Z;go_simp
       try simp only[RS,QK,QH,QI,QF,QL,QM]
       refine lZ (i:=5) (v:=.pointer (some ⟨w.heap.size+6,7,none⟩)) rfl ?_ d ?_
       .intro V Z;go_simp
       try simp only[RS,QK,QH,QI,QF,QL,QM]
       refine lZ (i:=6) (v:=.int .u32 (hd.sm:Nat)) rfl ?_ d ?_
       .intro V Z;go_simp
       try simp only[RS,QK,QH,QI,QF,QL,QM]
       refine wpAnyH_ready (rs:= [4]) aE aJ ?_;refine WY rfl (λK2 L=>?_) XI;rw[ak aE];have a7:=ad L;clear L q6;go_simp;refine m3.mono ?_;rintro e W2 ⟨rfl,p2⟩;have m4:=ad ((cK aj 1:aq E E.drew).trans p2);have U:=ad (f.then m4);have i1:=ad (d3.then m4);have q6:∀o,W2.cell? ⟨w.heap.size+6,o,none⟩=(rK hd)[o]?:=(cr (show W2.heap[w.heap.size+6]?=some (ao (rK hd) 390)from U.c 6 ai)).1;refine a7.out.out _ _ q6 (λd=>?_);clear p2 m3 a7
       try simp only[RS,QK,QH,QI,QF,QL,QM]
       refine lZ (i:=7) (v:=.bool s7) rfl ?_ d ?_
       .intro V Z;go_simp;rw[<-i2.1];by_cases e:v1=hd.sm<;>simp[e,Int.natCast_inj]
       try simp only[RS,QK,QH,QI,QF,QL,QM]
       refine lZ (i:=8) (v:=.bool s7) rfl ?_ d ?_
       .intro V Z;go_simp
       try simp only[RS,QK,QH,QI,QF,QL,QM]
       refine wpAnyH_done aE ?_ _;refine n0 _ _ ?_;clear d q6;obtain⟨c3,u3,z3⟩:=cr (show W2.heap[w.heap.size+3]?=some (ao #[.int .u64 0,aO] 204)from U.c 3 ai);obtain⟨c4,u4,z4⟩:=cr (show W2.heap[w.heap.size+4]?=some (ao #[.bool false] 4)from U.c 4 ai);obtain⟨c5,u5,z5⟩:=cr (show W2.heap[w.heap.size+5]?=some (ao #[bg sq,.slice a m c] 204)from U.c 5 ai);obtain⟨c6,u6,z6⟩:=cr (show W2.heap[w.heap.size+6]?=some (ao (rK hd) 390)from U.c 6 ai);cases s7
       case true=>have r:=ad (z.1.EG Y.2.1 (by rw[i2.2];exact of_decide_eq_true i2.1));gi_wp2;exact f1 _ U i1 r
       case false=>
        have k7:=of_decide_eq_false i2.1;have p3:QX (dN 0 128 (F k)=hd.sm):=i2.2.trans (Decidable.not_not.1 k7);clear k7;obtain⟨v9,m5,b0,k8⟩:=U.ls;rw[cU]at m5 b0;have b2:=aT m5 b0 k8;clear m5 b0 k8;obtain⟨w0,s8,s9,t0,t1⟩:=SB Aj;gi_wp2_with(first|(gi_at_builtin;refine wpListIn_append_own _ rfl _ _ 162 rfl (w.heap.size+14) 206 w0 (.agg #[ae 0,ae 0,aO]) 3 40 XY s8 s9 t0 t1 rfl ai (.slice a m c) m _ rfl (aP (aK aj _) b2.2.1) (ag W2.heap.size 0) 1 1 [ae hd.me,ae hd.row,a' g 128 r5] rfl rfl (RW (cs:= #[ae hd.me,ae hd.row,a' g 128 r5]) (t:=206) (fr:=(0,0)) (QB W2 _)) (by intro u m6;simp at m6;rcases m6 with rfl|rfl|rfl<;>rfl) (by have:=Y.1;unfold UE;omega) (by have:=Y.1;omega) (by have:=U.size;simp;omega) ?_));intro w6 b7 b0 p4 _;obtain⟨d6,d7,rfl,-⟩:=au b0;have n2:Out (λb=>(RR a m c).ownBlock=some b) W2 b7:=(Out.af (aK aj _)).grown p4 λb b4 _=>b4;have e8:∀b o,(RR a m c).ownBlock=some b->aX W2 b o->ty o≠5:=λb o b4 w3=>by have e:=xY b2.2.1 b4 w3;rw[e];decide
        have p5:bM (Q.put m hd (F k)) (m+1)=bM Q m++ [(hd.me,hd.row,tv hd.nC (F k))]:=Bk Q m hd (F k);have i3:dR b7 (a' g 128 r5) (tv hd.nC (F k)):=((eR v8).below m4).out n2 e8;have p6:BR w l2 room ep sq t f9 (.slice d6 (m+1) d7) hd M (ov F (m+1)) (128*(m+1)) (bM (Q.put m hd (F k)) (m+1)) (b7.setCell ⟨w.heap.size+5,1,none⟩ (.slice d6 (m+1) d7)):=by
         rw[p5];refine U.push n2 (us':=v9++ [a' g 128 r5]) (by simp[b2.out.1,cU]) ?_ λi p u r6 m6=>?_
         .rw [oN (by rw[b2.1,cU]),QU,cU];exact b0
         .by_cases r0:i<m
          .rw [RD (by rw[cU];exact r0)]at r6;rw[RD (by rw[b2.1];exact r0)]at m6;exact(b2.2.2 i p u r6 m6).out n2 e8
          .rw [RA (by rw[cU];omega),cU]at r6;rw[RA (by rw[b2.1];omega),b2.1]at m6;obtain⟨e1,e2⟩:=QR.1 r6;obtain⟨e3,e4⟩:=QR.1 m6;have e5:i-m=0:=by simp at e1;omega
           simp only[e5,QH]at e2 e4;subst e2;subst e4;exact i3
        have H6:=ad p6;have t2:QX (Out (λb=>w.heap.size<=b/\b≠w.heap.size+10/\b≠w.heap.size+11) A (b7.setCell ⟨w.heap.size+5,1,none⟩ (.slice d6 (m+1) d7))):=
         (i1.trans n2 λb _ b4=>by have:=(bo b2.2.1 b4).2;exact⟨aa,aa,aa⟩).setCell (p:=⟨w.heap.size+5,1,none⟩) (λ_=>f5.out 5 ai ai ai) _
        have t3:QX (kt F ep sq room (k+1) (Q.put m hd (F k)) hd):=by have:=z.1.data Y.2.1 k3 r9 p3;rw[Y.1]at this;exact this
        have p7:=n2.heap (show W2.heap[w.heap.size+5]?=some (ao #[bg sq,.slice a m c] 204)from U.c 5 ai) λe=>by have:=(bo b2.2.1 e).2;omega
        clear c3 u3 z3 c4 u4 z4 c5 u5 z5 c6 u6 z6 b0 p4 n2 e8 p5 i3 p6;obtain⟨c5,u5,z5⟩:=cr p7;clear p7;gi_wp2;exact d1 _ _ _ _ _ _ H6 l5 t3 z.2.1 t2.out
 .rintro e W2 ⟨⟨v,rfl⟩,_,I⟩;rcases I with⟨h1,Q,hd,M,a,c,I,h3⟩|I
  .have y:∀P,¬bL F ep sq room P:=by
    have t4:N=room:=aa;rcases h3 with⟨rfl,_⟩|⟨_,h3,_⟩
    .omega
    .exact h3.rM t4
   obtain⟨lo',W3,d5,h4⟩:=I.endLoop (by rw[a6];simp) (jump:=none) (by rw[a6]);refine⟨none,W3,d5,?_⟩;refine n4 _ _ ?_;have Z:=h4.done (b:=false) (F:=F) (.inr ⟨rfl,y⟩);have H5:=ad Z;have w5:∀o,W3.cell? ⟨w.heap.size+5,o,none⟩=(#[bg sq,.slice a (N/2) c]:Array QC)[o]?:=(cr (h4.c 5 ai)).1;obtain⟨q0,q1,q2⟩:=cr (h4.c 5 ai);obtain⟨q3,q4,q5⟩:=cr (show W3.heap[w.heap.size+3]?=some (ao #[.int .u64 0,aO] 204)from h4.c 3 ai);obtain⟨q6,q7,q8⟩:=cr (show W3.heap[w.heap.size+4]?=some (ao #[.bool false] 4)from h4.c 4 ai);obtain⟨d6,k2,d7,f7,g0,g1,g2,g3⟩:=Z.answer;have G:=aY g0 g1 g2 g3;clear d5 I h3 h4 Z y g0 g1 g2 g3 q0 k1 i9 f0 e9 i8 b3 i4 i7 f2 d8 d0 a6 b6 m7 k9;gi_wp2;refine⟨aJ,.inl ⟨_,_,rfl,run_takeDeferred H5.D,?_⟩⟩;refine⟨.tuple #[.agg #[bg sq,.slice d6 k2 d7],.bool f7],?_,G.2.2.2⟩;simp[RP,Tryz.f274,go_sem,G.out.1,G.out.2.1,G.out.2.2.1]
  .obtain ⟨lo',W3,d5,h4⟩:=I.endLoop (by rw[a6];simp) (jump:=some .ret) (by rw[a6]);refine⟨some .ret,W3,d5,?_⟩;have H5:=ad h4;obtain⟨d6,k2,d7,f7,g0,g1,g2,g3⟩:=h4.answer;have G:=aY g0 g1 g2 g3;clear d5 I h4 g0 g1 g2 g3 k1 i9 f0 e9 i8 b3 i4 i7 f2 d8 d0 a6 b6 m7 k9;gi_wp2;refine⟨aJ,.inl ⟨_,_,rfl,run_takeDeferred H5.D,?_⟩⟩;refine⟨.tuple #[.agg #[bg sq,.slice d6 k2 d7],.bool f7],?_,G.2.2.2⟩;simp[RP,Tryz.f274,go_sem,G.out.1,G.out.2.1,G.out.2.2.1]
end
theorem cA.sec(h:cA w v 128 f)(d:wO v):dR w v f:=by obtain⟨a,c,rfl,h⟩:=h;obtain⟨b,o,e,g,rfl,i,j⟩:=h.resolve_left ai;exact⟨b,o,c,e,g,rfl,d,i,j⟩
def PY(L c:Nat)(a:Nat × Nat->H)(d:Nat × Nat->Nat->Nat)(v:H)(e:List (Nat × Nat))(W:M)(x y:Int)(z:H)(f:Bool)(b:M):Prop:=
 Out (LZ L c v) W b/\((f=false/\e= [])\/(f=true/\∃(p:Nat × Nat) (g:List (Nat × Nat)) (h:H),x=(p.1:Nat)/\y=(p.2:Nat)/\z=a p/\(g++ [p]).Perm e/\bd b L c h g a d/\h.ownBlock=v.ownBlock/\dR b (a p) (d p)))
theorem EI(L d:Nat)(v:H)(a:List (Nat × Nat))(f:Nat × Nat->H)(g:Nat × Nat->Nat->Nat)(W:M)(h:bd W L d v a f g)(E:a.length<=50000):
  aF 200 #[ar L] W λe i=>∃(x y:Int) (k:Option SR) (l m:Nat) (n:Bool),aL e (.tuple #[.agg #[Y x,Y y,.slice k l m],.bool n])/\PY L d f g v a W x y (.slice k l m) n i:=by
 by_cases q:a= []
 .subst q;refine(xl L d f g v W h).mono ?_;rintro e i ⟨rfl,w⟩;exact⟨0,0,none,0,0,false,rfl,w.mono λ_ _ e=>.inl e,.inl ⟨rfl,rfl⟩⟩
 .obtain ⟨z,j⟩:=yS h;refine(pr L d v a f g z W h j J (by have:a.length≠0:=λe=>q (WO.1 e);omega)).mono ?_;rintro e i ⟨p,rfl,A,B,r,C,s,D⟩;have t:p∈a:=r.mem_iff.1 aJ;have u:=(h.eI s (h.iM p t).1).sec (h.iM p t).2;obtain⟨b,o,c,e⟩:=u.form;exact⟨_,_,some (R b o),128,c,true,by rw[e],s,.inr ⟨rfl,p,B,A,rfl,rfl,e.symm,r,C,D,u⟩⟩
structure Md(L hm:Nat)(lk:List (Nat × Nat))(dv:Nat × Nat->H)(da:Nat × Nat->Nat->Nat)(v0:H)(w:M)(bb:Bool)(gk T:Nat)(pv:H)(wr:M):Prop where
 out:Out (LZ L hm v0) w wr
 new:w.heap.size<=T
 ne:pv.ownBlock≠some T
 H':∃l1:List (Nat × Nat),fa w.heap.size wr pv (l1.map (d' da))/\((bb=false/\l1.Perm lk/\∃cs,wr.heap[T]? =some (N cs 206))\/(bb=true/\∃(p:Nat × Nat) (l2:List (Nat × Nat)) (v:H),wr.heap[T]? =some (N #[Y p.1,Y p.2,dv p] 206)/\dR wr (dv p) (da p)/\gk=l2.length+1/\(l2++p::l1).Perm lk/\bd wr L hm v l2 dv da/\v.ownBlock=v0.ownBlock))
theorem bd.PZ{l:List (Nat × Nat)}{b:Nat × Nat->H}{d:Nat × Nat->Nat->Nat}(h:bd w n m v l b d):∀k o,LZ n m v k->w.heap[k]?=some o->ty o≠5:=λk o f a=>by
 rcases f with e|e|e
 .obtain ⟨j,g⟩:=h.row;rw[e,g]at a;cases a;exactλh=>absurd h (by show(286:Nat)≠5;decide)
 .obtain ⟨p,c,i,-⟩:=h.map;rw[e,i]at a;cases a;exact ia _ _
 .rw [xY h.lH.own e a];decide
theorem bd.Me{l:List (Nat × Nat)}{a:Nat × Nat->H}{b:Nat × Nat->Nat->Nat}(h:bd w n m v l a b):∀k,LZ n m v k->k<w.heap.size:=λk d=>by
 rcases d with e|e|e
 .obtain ⟨i,f⟩:=h.row;rw[e];exact Z_ f
 .obtain ⟨j,c,g,-⟩:=h.map;rw[e];exact Z_ g
 .exact (bo h.lH.own e).1
theorem Hj(L B:Nat)(v:QC)(V:List (Nat × Nat))(Z:Nat × Nat->QC)(j:Nat × Nat->Nat->Nat)(w:QA)(h:bd w L B v V Z j)(g7:V.length<=50000):
  aF 133 #[ar L] w λe g8=>∃pv f,aL e pv/\List.Perm f V/\fa w.heap.size g8 pv (f.map (d' j))/\Out (LZ L B v) w g8:=by
 have c3:=ad (λW E F (h6:bd W L B E F Z j) (H:F.length<=50000)=>EI L B E F Z j W h6 H);have c4:=aB h g7;clear h g7;go_enter func133,ntmps133;go_wp2_with fail;refine(c3 _ v V c4.1 c4.2).mono ?_;rintro e w1 ⟨x,y,g9,h4,h5,h7,rfl,b9⟩;have h8:=ad b9;clear b9;go_wp2_with fail;have c5:∀b,LZ L B v b->b<w.heap.size:=c4.1.Me;have e8:QX (Md L B V Z j v w h7 V.length w1.heap.size aO (w1.alloc (ao #[ae x,ae y,.slice g9 h4 h5] 206))):=by
  have b9:=h8.out;have a4:aq w1 (w1.alloc (ao #[ae x,ae y,.slice g9 h4 h5] 206)):=aK aj _;refine⟨b9.1.then a4,b9.1.size,(λe=>by cases e),[],fa.nil _ _,?_⟩;rcases b9.2 with⟨rfl,h0⟩|⟨rfl,p,l3,E,rfl,rfl,e9,g1,g2,g4,g5⟩
  .exact .inl ⟨rfl,by rw[h0],_,QB _ _⟩
  .refine .inr ⟨rfl,p,l3,E,?_,g5.below a4,?_,g1,g2.below a4,g4⟩
   .rw [<-e9];exact QB _ _
   .have:=g1.length_eq;simp at this;omega
 have K:=ad c5;clear c5
 go_loopg [3,4,5] V.length (λgk s3 s4 s5 wr=>∃(T:Nat) (b1:Bool),s4= ar T/\s5=.bool b1/\gk<=50000/\QX (Md L B V Z j v w b1 gk T s3 wr))
 case atStart=>exact⟨_,_,rfl,rfl,c4.2,e8⟩
 case round=>
  obtain⟨T,b1,rfl,rfl,h9,c6⟩:=hrel;have g:=c6.out.out;have a0:=c6.new;obtain⟨f,M,d⟩:=c6.H';cases b1
  case false=>
   have O:List.Perm f V:=by
    rcases d with⟨_,h,_⟩|⟨e,_⟩
    .exact h
    .cases e
   have f0:=aT O M g;obtain⟨i3,i4,e,-⟩:=M.yz;subst e;clear O M g d c6 a0;go_wp2;go_ret;exact⟨_,f,rfl,f0.1,f0.2.1,f0.2.2⟩
  case true=>
   obtain⟨p,F,E,c7,P,c8,l,q,r⟩:∃(p:Nat × Nat) (F:List (Nat × Nat)) (E:QC),wr.heap[T]?=some (ao #[ae p.1,ae p.2,Z p] 206)/\dR wr (Z p) (j p)/\gk=F.length+1/\(F++p::f).Perm V/\bd wr L B E F Z j/\E.ownBlock=v.ownBlock:=by
    rcases d with⟨e,_⟩|⟨_,h⟩
    .cases e
    .exact h
   obtain⟨s,z⟩:=p;obtain⟨a5,a6,a7,a8⟩:=P.form;simp only at c7;rw[a8]at c7;obtain⟨us,a9,D,c9⟩:=M;have a1:f.length<=50000:=by have:=l.length_eq;have:=c4.2;simp only[QU,SE]at*;omega
   obtain⟨N,e7⟩:=ah ((f.map (d' j)).length);rw[e7]at a9 D;have i0:N<=50000:=by rw[<-e7,RB];exact a1
   obtain⟨d0,d1,e,-⟩:=au D;subst e;have i1:=g.size;have R:∀b,(RR d0 N d1).ownBlock=some b->w.heap.size<=b:=λb c0=>(bo D c0).2;have a2:∀(w5:QA),Out (λb=>(RR d0 N d1).ownBlock=some b) wr w5->bd w5 L B E F Z j:=λw5 G=>q.out G (λe=>by have:=R _ e;have:=K.out L (.inl rfl);omega) (λe=>by have:=R _ e;have:=K.out B (.inr (.inl rfl));omega) (λk b0 e=>by have:=R _ e;have:=K.out k (.inr (.inr (r▸b0)));omega) λk o e G=>by rw[xY D e G];decide
   have f1:=ad a2;have f2:=ad c6.ne;clear a2 R;have c:=ad (And.intro g (And.intro c7 (And.intro P (And.intro c8 (And.intro l (And.intro q (And.intro r (And.intro a9 (And.intro D (And.intro c9 (And.intro e7 (And.intro a8 a0))))))))))));obtain⟨t0,t1,t2⟩:=cr c7;obtain⟨i2,f3,f4,f5,f6⟩:=SB Aj;clear g c7 P l q r a9 D c9 e7 a8 a1 d;go_wp2_with(first|(at_builtin;refine aU _ rfl _ _ 162 rfl w.heap.size 206 i2 (.agg #[ae 0,ae 0,aO]) 3 40 XY f3 f4 f5 f6 rfl ai (.slice d0 N d1) N _ rfl (aP (aK aj _) c.2.2.2.2.2.2.2.2.1) (ag wr.heap.size 0) 1 1 [ae s,ae z,.slice (some (ag a5 a6)) 128 a7] rfl rfl (RW (cs:= #[ae s,ae z,.slice (some (ag a5 a6)) 128 a7]) (t:=206) (fr:=(0,0)) (QB wr _)) (by intro u c1;simp at c1;rcases c1 with rfl|rfl|rfl<;>rfl) aa (by unfold UE;omega) aa aS ?_;intro v2 w4 Q C;obtain⟨f7,b2,rfl,-⟩:=au Q;have b3:=C.heap ((QW wr (ao #[ae s,ae z,.slice (some (ag a5 a6)) 128 a7] 206) T t2).trans c.2.1) f2;have d2:Out (λb=>(RR d0 N d1).ownBlock=some b) wr w4:=C.out (Out.af (aK aj _)) λ_ h _=>h;have c2:=aY Q C b3 d2;obtain⟨t3,t4,t5⟩:=cr b3;clear Q C b3 d2));obtain⟨w5,d3,b4,b5⟩:=qi w4 (ao #[ae s,ae z,.slice (some (ag a5 a6)) 128 a7] 206);have b6:Out (λb=>(RR d0 N d1).ownBlock=some b) wr w5:=c2.2.2.2.then b4;have d4:=f1.out w5 b6;obtain⟨a,d5⟩:=ah w4.heap.size;rw[d5]at b5;have H:F.length<=50000:=aa;have I:=f' b4 b5 b6 d4 d5 H;rw[d3];clear d3 b4 b5 b6 d4 H t0 t1 t2 t3;refine(c3 w5 E F I.2.2.2.1 I.2.2.2.2.2).mono ?_;rintro e w6 ⟨x2,y2,d6,d7,d8,f8,rfl,eZ⟩;have S:¬LZ L B E a:=λe=>by have h1:=c.1.size;have h2:=c2.2.2.2.size;have h3:=K.out a (by rcases e with e|e|e;exact .inl e;exact .inr (.inl e);exact .inr (.inr (c.2.2.2.2.2.2.1▸e)));omega
   have b7:=eZ.1.heap I.2.1 S;have X:=aT eZ b7 S;obtain⟨t0,t1,t2⟩:=cr b7;clear eZ b7 S;rw[I.2.2.2.2.1];go_wp2;obtain⟨W7,Y⟩:=ah (((w6.setCell (ag a 0) (ae x2)).setCell (ag a 1) (ae y2)).setCell (ag a 2) (.slice d6 d7 d8));have J:Out (λb=>b=a) w6 W7:=by rw[<-Y];exact Ly w6 a _ _ _
   have d9:W7.heap[a]?=some (ao #[ae x2,ae y2,.slice d6 d7 d8] 206):=by rw[<-Y];exact heap_setCell_same _ a 2 _ 206 _ (heap_setCell_same _ a 1 _ 206 _ (heap_setCell_same w6 a 0 _ 206 _ X.2.1))
   rw[Y];clear Y;have A:=c2.1;have f9:w4.heap.size=a:=I.2.2.2.2.1;have a3:∀b,LZ L B E b->LZ L B v b:=λb e=>by
    rcases e with e|e|e
    .exact .inl e
    .exact .inr (.inl e)
    .exact .inr (.inr (c.2.2.2.2.2.2.1▸e))
   have U:∀b,(RR f7 (N+1) b2).ownBlock=some b->w.heap.size<=b/\b<a:=λb c0=>⟨(bo A c0).2,f9▸(bo A c0).1⟩;have g0:(f.map (d' j))++ [d' j (s,z)] =(f++ [(s,z)]).map (d' j):=by rw[SH];rfl
   have e0:fa w.heap.size w4 (.slice f7 (N+1) b2) ((f++ [(s,z)]).map (d' j)):=by
    rw[<-g0];have g3:dR (wr.alloc (ao #[ae s,ae z,.slice (some (ag a5 a6)) 128 a7] 206)) (.slice (some (ag a5 a6)) 128 a7) (j (s,z)):=by have:=c.2.2.1;rw[c.2.2.2.2.2.2.2.2.2.2.2.1]at this;exact this.below (aK aj _)
    refine fa.push (us:=us) (us':= [.slice (some (ag a5 a6)) 128 a7]) (n:=N) (m:=1) (by rw[c.2.2.2.2.2.2.2.1,c.2.2.2.2.2.2.2.2.2.2.1]) rfl c.2.2.2.2.2.2.2.2.2.2.1.symm rfl (aP (aK aj _) c.2.2.2.2.2.2.2.2.1) (λi p u O c1=>(c.2.2.2.2.2.2.2.2.2.1 i p u O c1).below (aK aj _)) (λi p u O c1=>?_) A c2.2.1;obtain⟨e1,e2⟩:=QR.1 O;obtain⟨e3,e4⟩:=QR.1 c1;have e5:i=0:=by simp at e1;exact e1
    subst e5;simp at e2 e4;rw[<-e2,<-e4];exact g3
   have e6:fa w.heap.size W7 (.slice f7 (N+1) b2) ((f++ [(s,z)]).map (d' j)):=by
    refine((e0.below I.1).out X.1.1 (λk b0 e=>?_) (I.2.2.2.1.PZ)).out J (λk b0 e=>?_) λk o e G=>?_
    .have:=(U k b0).1;have:=K.out k (a3 k e);omega
    .have:=(U k b0).2;have:k=a:=e;omega
    .rw [show k=a from e,X.2.1]at G;cases G;exactλh=>absurd h (by show(206:Nat)≠5;decide)
   have b8:Out (LZ L B v) w W7:=((c.1.trans I.2.2.1 λb c0 e=>by have:=(bo c.2.2.2.2.2.2.2.2.1 e).2;omega).trans X.1.1 λb _ e=>a3 b e).trans J λb c0 e=>by have e2:b=a:=e;have:=c.1.size;have:=c2.2.2.2.size;omega
   have g6:w.heap.size<=a:=by have:=c.1.size;have:=c2.2.2.2.size;omega
   go_roundg F.length
   case rel=>
    refine⟨a,f8,rfl,rfl,I.2.2.2.2.2,b8,g6,(λe=>by have:=(U a e).2;omega),f++ [(s,z)],e6,?_⟩;rcases X.1.2 with⟨rfl,h0⟩|⟨rfl,p,l3,v3,rfl,rfl,e9,g1,g2,g4,g5⟩
    .refine .inl ⟨rfl,?_,_,d9⟩;have O:=c.2.2.2.2.1;rw[h0]at O;exact(YO.trans (by simpa using O))
    .refine .inr ⟨rfl,p,l3,v3,by rw[<-e9];exact d9,g5.out J λk o e G=>?_,?_,?_,g2.out J ?_ ?_ ?_ ?_,g4.trans c.2.2.2.2.2.2.1⟩
     .rw [show k=a from e,X.2.1]at G;cases G;exactλh=>absurd h (by show(206:Nat)≠5;decide)
     .have:=g1.length_eq;simp at this;omega
     .have O:=c.2.2.2.2.1;refine List.Perm.trans ?_ O;have h1:(l3++p::(f++ [(s,z)])).Perm ((l3++ [p])++(s,z)::f):=by rw[SV];refine List.Perm.append_left _ ?_;show(p::(f++ [(s,z)])).Perm (p::(s,z)::f);exact List.Perm.cons _ YO
      exact h1.trans (List.Perm.append_right _ g1)
     .exact λe=>X.2.2 (.inl e.symm)
     .exact λe=>X.2.2 (.inr (.inl e.symm))
     .exact λk b0 e=>by have e2:k=a:=e;exact X.2.2 (.inr (.inr (by rw[<-e2,<-g4];exact b0)))
     .exact λk o e G=>by rw[show k=a from e,X.2.1]at G;cases G;exactλh=>absurd h (by show(206:Nat)≠5;decide)
   case measure=>have:=c.2.2.2.1;omega
def bx:List Pt->Nat × Nat->Option (Nat->Nat)
 | [],_=>none
 |p::l,q=>match bx l q with
  |some f=>some f
  |none=>if gq p=q then some p.2.2 else none
theorem kU:∀(l:List Pt) (p:Pt) (q:Nat × Nat),bx (l++ [p]) q=if gq p=q then some p.2.2 else bx l q
 | [],p,q=>by show(match bx [] q with|some f=>some f|none=>_)=_;rfl
 |r::l,p,q=>by
  show(match bx (l++ [p]) q with|some f=>some f|none=>if gq r=q then some r.2.2 else none)=_;rw[kU l p q];by_cases e:gq p=q
  .rw [ak e,ak e]
  .rw [al e,al e];rfl
theorem rO{q:Nat × Nat}:(∃p,p∈l/\gq p=q)↔bx l q≠none:=by
 induction l with
 |nil=>exact⟨λ⟨p,h,_⟩=>absurd h aJ,λh=>absurd rfl h⟩
 |cons r l a=>
  unfold bx;cases h:bx l q with
  |some f=>rw[h]at a;obtain⟨p,h1,b⟩:=a.2 aJ;exact⟨λ_=>aJ,λ_=>⟨p,SG _ h1,b⟩⟩
  |none=>
   rw[h]at a;constructor
   .rintro ⟨p,h1,b⟩;rcases UH.1 h1 with rfl|h1
    .simp [b]
    .exact absurd rfl (a.1 ⟨p,h1,b⟩)
   .intro h1;by_cases e:gq r=q
    .exact ⟨r,RZ,e⟩
    .simp [e]at h1
structure kV(w0:M)(L:Nat)(ps:List Pt)(wr:M):Prop where
 dA:aq w0 wr
 new:w0.heap.size<=L
 lift:∃hm v lk dv da,bd wr L hm v lk dv da/\(∀q,q∈lk↔bx ps q≠none)/\(∀q,q∈lk->bx ps q=some (da q))/\lk.length<=ps.length/\w0.heap.size<=hm/\∀x,v.ownBlock=some x->w0.heap.size<=x
 c0:wr.cell? (R L 0)=some (Y 0)
theorem kV.next{d wr W j:M}{p:Pt}{c:List (Nat × Nat)}{k:Nat × Nat->Nat->Nat}(h:kV d n l wr)(y:∀q,q∈c↔bx l q≠none)(z:∀q,q∈c->bx l q=some (k q))(o:c.length<=l.length)(r:d.heap.size<=m)(s:∀x,v.ownBlock=some x->d.heap.size<=x)(t:aq wr W)(A:n<wr.heap.size)(f:pq n m v c k (gq p) p.2.2 W j):kV d n (l++ [p]) j:=by
 obtain⟨B,u,g,w,C,D,E,F⟩:=f;have b:=via h.dA t;have a:∀q,q∈u↔q∈c\/q=gq p:=λq=>by
  rw[w.mem_iff];by_cases e:gq p∈c
  .rw [ak e];exact⟨.inl,λh=>h.elim id λh=>by rw[h];exact e⟩
  .rw [al e,TH,SM]
 refine⟨b.trans (E.below (λx _ e=>?_) b.size),h.new,⟨m,B,u,g,_,C,λq=>?_,λq f=>?_,?_,r,λx i=>(F x i).elim (s x) λi=>QD b.size i⟩,?_⟩
 .rcases e with e|e|e
  .rw [e];exact h.new
  .rw [e];exact r
  .exact s x e
 .rw [a,kU];by_cases e:gq p=q
  .rw [ak e];exact⟨λ_=>aJ,λ_=>.inr e.symm⟩
  .rw [al e,<-y q];exact⟨λh=>h.elim id λh=>absurd h.symm e,.inl⟩
 .rw [kU];by_cases e:gq p=q
  .rw [ak e,ak e.symm]
  .rw [al e,al λh=>e h.symm];exact z q (((a q).1 f).elim id λh=>absurd h.symm e)
 .rw [w.length_eq,QU];split
  .omega
  .rw [QU];simp;omega
 .rw [D,(kp t n A).1,h.c0]
theorem EJ{p:Pt}{u:H}(h:kV w n l z)(b:aq z W)(m:cA W u 128 p.2.2)(a:p.1<=15)(o:p.2.1<=4095)(B:l.length<100000):
  aF 132 #[ar n,.agg #[Y p.1,Y p.2.1,u]] W λe d=>aL e (aH 0)/\kV w n (l++ [p]) d:=by
 obtain⟨f,v,c,g,i,C,q,r,s,t,x⟩:=h.lift;have j:n<z.heap.size:=QN z _ h.c0;have y:W.cell? (R n 0)=some (Y 0):=by rw[(kp b n j).1,h.c0]
 have A:bd W n f v c g i:=C.below b;by_cases e:(p.1,p.2.1)∈c
 .refine (Dq n f v c g i p.1 p.2.1 u p.2.2 W A y m a o e J).mono ?_;rintro e d ⟨rfl,k⟩;exact⟨rfl,h.next q r s t x b j k⟩
 .refine (uL n f v c g i p.1 p.2.1 u p.2.2 W A y m a o e J).mono ?_;rintro e d ⟨rfl,k⟩;exact⟨rfl,h.next q r s t x b j k⟩
section
open Go.Shelf
def Bm(S:dp)(N t k:Nat):Nat->Nat:=S ((t+k)%N)
def bj:List bW->Nat
 | [] =>0
 |P::l=>2*P.N+1+bj l
theorem iz:∀l a:List bW,bj (l++a)=bj l+bj a
 | [],a=>by simp[bj]
 |P::l,a=>by show 2*P.N+1+bj (l++a)=2*P.N+1+bj l+bj a;rw[iz l a];omega
theorem iA(l:List bW)(P:bW):bj (l++ [P])=bj l+(2*P.N+1):=by rw[iz];rfl
theorem jT:∀l:List bW,l.length<=bj l
 | [] =>QE _
 |P::l=>by have:=jT l;show l.length+1<=2*P.N+1+bj l;omega
def pU(S:dp)(N ep t sq:Nat)(L:List bW):Prop:=
 ∀i P,L[i]?=some P->bL (Bm S N ((t+bj (L.take i))%N)) ep (sq+i) (N-bj (L.take i)) P
def l_(S:dp)(N ep t sq:Nat)(L:List bW):Prop:=
 ∀P,¬bL (Bm S N ((t+bj L)%N)) ep (sq+L.length) (N-bj L) P
variable {S:dp} {N ep t sq:Nat} {L:List bW}
theorem pU.nil:pU S N ep t sq []:=λi P h=>by simp at h
theorem pU.snoc(h:pU S N ep t sq L){P:bW}(c:bL (Bm S N ((t+bj L)%N)) ep (sq+L.length) (N-bj L) P):pU S N ep t sq (L++ [P]):=by
 intro i Q a;by_cases d:i<L.length
 .rw [RD d]at a;have:=h i Q a;rw[XC J];exact this
 .rw [RA J]at a;obtain⟨e,b⟩:=QR.1 a;have f:i=L.length:=by simp at e;omega
  subst f;simp at b;subst b;rw[List.take_left' rfl];exact c
def jz:Nat->List H->List H
 |_,[] => []
 |q,u::a=>.int .u64 (q:Nat)::u::jz (q+1) a
theorem pV:∀(q:Nat) (a:List H) (u:H),jz q (a++ [u])=jz q a++ [.int .u64 (q+a.length:Nat),u]
 |q,[],u=>rfl
 |q,v::a,u=>by show _::_::jz (q+1) (a++ [u])=_::_::(jz (q+1) a++_);rw[pV (q+1) a u,SE,show q+1+a.length=q+(a.length+1)by omega]
theorem rP:∀(q:Nat) (a:List H) (i:Nat) (u:H),a[i]?=some u->(jz q a)[i*2]?=some (.int .u64 (q+i:Nat))/\(jz q a)[i*2+1]?=some u
 |q,[],i,u,h=>by simp at h
 |q,v::a,0,u,h=>by simp at h;subst h;exact⟨rfl,rfl⟩
 |q,v::a,i+1,u,h=>by have b:=rP (q+1) a i u (by simpa using h);rw[show q+1+i=q+(i+1)by omega]at b;rw[show(i+1)*2=i*2+1+1 by omega];exact b
def m_(B:Nat)(w:M)(v:H)(q:Nat)(L:List (List Pt)):Prop:=
 ∃us:List H,us.length=L.length/\w.ownsRow B 204 2 v L.length (jz q us)/\∀(i:Nat) (l:List Pt) (u:H),L[i]?=some l->us[i]?=some u->e' w u l
theorem m_.nil(B:Nat)(w:M)(q:Nat):m_ B w aO q []:=⟨[],rfl,SD _ _ _ _,λi l u h=>by simp at h⟩
theorem m_.below{B q:Nat}{w a:M}{v:H}{L:List (List Pt)}(h:m_ B w v q L)(b:aq w a):m_ B a v q L:=by obtain⟨c,d,e,f⟩:=h;exact⟨c,d,aP b e,λi l u g j=>(f i l u g j).below b⟩
theorem m_.wide{B a q:Nat}{w:M}{v:H}{L:List (List Pt)}(h:m_ B w v q L)(b:a<=B):m_ a w v q L:=by obtain⟨c,d,e,f⟩:=h;exact⟨c,d,cq e b,f⟩
theorem m_.out{B q:Nat}{S:Nat->Prop}{w w1:M}{v:H}{L:List (List Pt)}(h:m_ B w v q L)(a:Out S w w1)(b:∀k,v.ownBlock=some k->¬S k)(c:∀k o,S k->w.heap[k]?=some o->ty o≠5/\ty o≠206):m_ B w1 v q L:=by obtain⟨d,e,f,g⟩:=h;exact⟨d,e,a.own f b,λi l u j m=>(g i l u j m).out a c⟩
theorem m_.low{B q k:Nat}{w:M}{v:H}{L:List (List Pt)}(h:m_ B w v q L)(a:v.ownBlock=some k):B<=k:=by obtain⟨c,d,b,e⟩:=h;exact(bo b a).2
theorem m_.push{B s q:Nat}{W d:M}{lv a u:H}{L:List (List Pt)}{l:List Pt}{us:List H}(f:us.length=L.length)(h:W.ownsRow B 204 2 lv L.length (jz q us))(w:∀(i:Nat) (p:List Pt) (u:H),L[i]?=some p->us[i]?=some u->e' W u p)(x:e' W u l)(y:d.ownsRow B 204 2 a (L.length+1) (jz q us++ [.int .u64 (q+L.length:Nat),u]))(z:nO s W lv L.length 1 a d):m_ B d a q (L++ [l]):=by
 obtain⟨j,A⟩:=z.ty h;have m:∀k o,lv.ownBlock=some k->aX W k o->ty o≠5/\ty o≠206:=λk o e g=>by rw[A k o e g];decide
 refine⟨us++ [u],by simp[f],?_,λi p v b c=>?_⟩
 .rw [pV,QU,f];exact y
 .by_cases C:i<L.length
  .rw [RD C]at b;rw[RD J]at c;exact(w i p v b c).out j m
  .rw [RA J]at b;rw[RA J,f]at c;obtain⟨D,n⟩:=QR.1 b;obtain⟨F,r⟩:=QR.1 c;have E:i-L.length=0:=by simp at D;omega
   simp only[E,QH]at n r;subst n;subst r;exact x.out j m
def gQ:Prop:=∀(b o c N t a ep sq:Nat) (F:dp) (w:M),1<=N->N<=4096->t<N->N*128<=c->a<=N->(∀k,k<N->dR w (IB b o c N t k) (F k)/\∀j,j<128->F k j<256)->
  aF 274 #[.slice (some (R b o)) (N*128) c,Y t,Y a,bg ep,bg sq] w (Kb F ep sq a w)
end
end Go.Proofs.YtbimjlmclegaeaaGreat
