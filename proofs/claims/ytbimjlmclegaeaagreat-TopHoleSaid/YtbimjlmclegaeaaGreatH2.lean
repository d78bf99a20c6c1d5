/- TopHole: a batch under way, the power gone, a member taken out in the dark: every block reads as ahead or as behind; part 3 of 6. Conditions: none. -/
import Derived.Test.YtbimjlmclegaeaaGreatH1
namespace Go.Proofs.YtbimjlmclegaeaaGreat
set_option linter.all false
set_option maxRecDepth 1000000
set_option maxHeartbeats 8000000
open Go.RowKit Go.Proofs.Tryz
open Go renaming World->QA,World->M,heap_alloc_new->QB,Value->QC,Value->H,cell_of_row->QS,bodyPost_ret->QT,heap_setCell_other->RJ,results->RP,Ending->RV,info_parts->SB,TypeId->SQ,Addr->SR,MapEntry->TC,maxLen->UE,results_cell_tmp->UF,callFunc->VF,leaves_cons->WZ,heap_alloc_old->YV
open Nat renaming le_trans->QD,le_refl->QE,zero_le->QO,zero_add->RE,lt_of_lt_of_le->RL,le_of_eq->RN,not_lt_zero->RQ,mod_eq_of_lt->SA,le_of_lt->TF,mul_le_mul->TG,lt_succ_self->TI,lt_irrefl->TL,le_succ->US,add_sub_cancel_left->UW,mul_comm->VB,zero_mul->VY,xor_assoc->XM,add_le_add_left->ZS
open Go.IntKind renaming i64->QG,u64->VP
open Go.World renaming block_lt_of_cell?->QN,cell?_of_block->QP,size_setCell->RT,ownsRow_nil->SD,putObj_heap_other->TE,cell?_setCell_other->VG,frozen?_setCell->VQ
open List renaming getElem?_eq_getElem->QQ,getElem?_eq_some_iff->QR,length_append->QU,mem_of_getElem?->QV,length_map->RB,getElem?_eq_none->RF,getElem?_map->RI,mem_map->RK,mem_cons_self->RZ,length_cons->SE,mem_cons_of_mem->SG,map_append->SH,mem_singleton->SM,append_assoc->SV,mem_append->TH,map_cons->TO,range->TQ,mem_iff_getElem?->TV,mem_range->TY,append_nil->TZ,take_length->UB,mem_cons->UH,range_succ->UL,getElem_map->UQ,map_congr_left->UX,flatMap_append->UY,length_take->VD,length_filter_le->VI,length->VU,length_nil->VW,all_eq_true->WD,pairwise_iff_getElem->WG,exists_mem_of_ne_nil->WH,mem_flatMap->WI,length_eq_zero_iff->WO,any_eq_true->XD,mem_of_find?_eq_some->XV,pairwise_map->XZ,nodup_append->YA,mem_flatten->YH,getElem_mem->YI,perm_append_comm->YO,mem_append_right->YR,nodup_nil->ZI
open Go.RowKit.Below renaming heap_alloc->QW,refl->SU
open Go.RowKit renaming Hid->QX,Below->SK
open Option renaming map_some->QY,getD_some->TD
open Go.Lib renaming hid->QZ
open _root_.Array renaming getElem?_eq_some_iff->RC,getElem?_eq_getElem->RU,getElem?_eq_none->WT,getElem?_modify->WV
open Go.Proofs renaming enters_of->RH
open Option.some renaming inj->RM,injEq->SI
open Go.Value renaming slice->RR,int->SJ,ownBlock->WS
open Bool renaming false_eq_true->SL,and_eq_true->VN,or_eq_false_iff->ZO
open Go.Instr renaming mapUpdate->SZ
open Int renaming natCast_mul->TK
open Go.Proofs.Tryz renaming underlying5->UA,underlying41->UO,prog->VR
open Go.Obj.cells renaming inj->UU
open Go.Act renaming eval->VO
open Go.Calls renaming quiet_of_same->WE
open Go.Exit renaming inBlock->XP
open List.Perm renaming refl->XX
variable {w W z:World}{n m k i j r C:Nat}{c:Int}{v x y:Value}{T:List Nat}{p:Addr}{P:Option Addr}{A:Array Value}{d:Bool}{S Q X:Nat->Prop}{t:TypeId}{L:List Value}{O:Obj}{f:aN}{F:dp}{g:aA}{K:bq}{l:List Pt}{D:Dk}{U:Dv}{b:By}{o:Ro}{s:Rs}
theorem Ly(w:M)(k:Nat)(a b c:H):Out (λj=>j=k) w (((w.setCell (R k 0) a).setCell (R k 1) b).setCell (R k 2) c):=
 (((Out.refl (λj=>j=k) w).setCell (p:=R k 0) (λ_=>rfl) a).setCell (p:=R k 1) (λ_=>rfl) b).setCell (p:=R k 2) (λ_=>rfl) c
def mM(L a:Nat)(v:H)(l:List (Nat × Nat))(e:Nat × Nat->H)(f:Nat × Nat->Nat->Nat)(p:Nat × Nat)(w b:M):Prop:=
 ∃c d,(d++ [p]).Perm l/\bd b L a c d e f/\Out (LZ L a v) w b/\c.ownBlock=v.ownBlock
theorem Dr{w u c g:M}{l j:List (Nat × Nat)}{C:Nat × Nat->QC}{G:Nat × Nat->Nat->Nat}{p:Nat × Nat}(h:bd w n m v l C G)(K:aq w u)(D:(j++ [p]).Perm l)(E:cP c n 2 y j)(O:Out (λk=>k=n\/v.ownBlock=some k) u c)(L:y.ownBlock=v.ownBlock)(F:c.heap[n]?=(u.setCell (R n 2) y).heap[n]?)(o:Out (λk=>k=m\/k=n) c g)(x:QC)(z:g.heap[n]?=(c.setCell (R n 0) x).heap[n]?)(P:PM g m λq=>if q=p then none else if q∈l then some (C q)else none):mM n m v l C G p w g:=by
 have Q:n<w.heap.size:=QN w _ h.c1;obtain⟨f1,f2⟩:=h.Dl;have i:u.heap[n]?=w.heap[n]?:=K.block n Q;have zL:Out (LZ n m v) w c:=(Out.af (S:=LZ n m v) K).trans O λk _ e=>e.elim .inl λe=>.inr (.inr e);have r:Out (LZ n m v) w g:=zL.trans o λk _ e=>e.elim (λe=>.inr (.inl e)) .inl;have s:∀k,y.ownBlock=some k->k≠n/\k≠m:=λk A=>f2 k (by rw[<-L];exact A);obtain⟨Z,T⟩:=h.row;have d:∀a,a≠0->a≠2->g.cell? (R n a)=w.cell? (R n a):=λa U V=>by rw[QP (w:=c.setCell (R n 0) x) z,VG _ _ _ _ (λe=>U (by injection e with _ e3;exact e3.symm)),QP (w:=u.setCell (R n 2) y) F,VG _ _ _ _ (λe=>V (by injection e with _ e3;exact e3.symm))];exact QP i
 have t:∀a,g.frozen? (R n a)=w.frozen? (R n a):=λa=>by rw[cF z a,VQ,cF F a,VQ];exact cF i a
 have f:(j++ [p]).Nodup:=(D.nodup_iff).2 h.mg;rw[YA]at f;obtain⟨W,H,X⟩:=f;have b:∀q,q∈l↔q∈j\/q=p:=λq=>by rw[<-D.mem_iff];simp
 refine⟨y,j,D,⟨?_,(d 1 ai ai).trans h.c1,(d 3 ai ai).trans h.c3,⟨?_,?_,?_,E.ne⟩,λa=>(t a).trans (h.fJ a),P.congr λq=>?_,λq B=>⟨h.eI r (h.iM q ((b q).2 (.inl B))).1,(h.iM q ((b q).2 (.inl B))).2⟩,W⟩,r,L⟩
 .rw [z,World.setCell];simp only[World.setCell,WV,F,i,T];exact⟨_,rfl⟩
 .rw [QP (w:=c.setCell (R n 0) x) z,VG _ _ _ _ (λe=>by injection e with _ e3;cases e3)];exact E.cell
 .rw [t];exact h.fJ 2
 .exact o.own E.own λk A e=>e.elim (s k A).2 (s k A).1
 .by_cases e:q=p
  .have:q∉j:=λB=>X q B p aJ e;simp[e,e▸this]
  .simp [e,b]
theorem bd.out{w w1:M}{l:List (Nat × Nat)}{r:Nat × Nat->H}{s:Nat × Nat->Nat->Nat}(h:bd w n m v l r s)(c:Out S w w1)(d:¬S n)(x:¬S m)(y:∀k,v.ownBlock=some k->¬S k)(z:∀k o,S k->w.heap[k]?=some o->ty o≠5):bd w1 n m v l r s:=by obtain⟨f,g⟩:=h.row;have i:w1.heap[n]?=w.heap[n]?:=(c.heap g d).trans g.symm;refine⟨⟨f,c.heap g d⟩,(QP i).trans h.c1,(QP i).trans h.c3,h.lH.out c d y,λo=>(cF i o).trans (h.fJ o),h.map.out c x,λq t=>?_,h.mg⟩;refine⟨?_,(h.iM q t).2⟩;obtain⟨a,j,A,p⟩:=(h.iM q t).1;refine⟨a,j,A,p.imp id ?_⟩;rintro⟨b,o,f,B,C,u,p⟩;exact⟨b,o,f,B,C,c.heap u λe=>z b _ e u rfl,p⟩
theorem mM.Dl{L b t:Nat}{l:List (Nat × Nat)}{c:Nat × Nat->H}{d:Nat × Nat->Nat->Nat}{p:Nat × Nat}(f:bd w L b v l c d)(h:mM L b v l c d p w W)(m:Out (λk=>k=t) W z)(y:w.heap.size<=t)(g:W.heap[t]?=some O)(i:ty O≠5):mM L b v l c d p w z:=by
 obtain⟨o,q,r,s,u,n⟩:=h;have A:L<w.heap.size:=QN w _ f.c1;have x:=f.map.lt;have j:=λk a=>(bo f.lH.own (k:=k) a).1;refine⟨o,q,r,s.out m (λe=>J) (λe=>J) (λk a e=>?_) (λk B e a=>?_),u.trans m λk a e=>J,n⟩
 .rw [n]at a;have:=j k a;omega
 .subst e;rw[g]at a;cases a;exact i
theorem pr(L j:Nat)(v:QC)(l:List (Nat × Nat))(H:Nat × Nat->QC)(a3:Nat × Nat->Nat->Nat)(R:QC)(w:QA)(h:bd w L j v l H a3)(h0:w.cell? (ag L 0)=some R)(a4:l.length<=100000)(K:0<l.length):
  aF 200 #[ar L] w λe a8=>∃p,aL e (.tuple #[.agg #[ae p.1,ae p.2,H p],.bool true])/\mM L j v l H a3 p w a8:=by
 have a5:L<w.heap.size:=QN w _ h.c1;have a9:=ad (λ(u:QA) (b0:aq w u)=>Dj L 2 v l u (h.lH.below b0) a4 K);obtain⟨b9,c0,rfl,-⟩:=au h.lH.own;obtain⟨N,a6⟩:=ah l.length;have m:=h.lH.cell;have n:=h.fJ;have c1:=h.c1;rw[a6]at m a4 K;have r:=ad h;clear h a6;have b1:=λ(W:QA) (a b:Nat)=>Ih (.agg #[ae a,ae b]) W;go_enter func200,ntmps200;go_wp2_with fail;refine(a9 _ (aK aj _)).mono ?_;rintro e c ⟨⟨s,f⟩,c2,l2,rfl,g1,I,O,g4,M,g6⟩;have g:aq w (w.alloc (Obj.cells #[SJ QG 0,SJ QG 0,RR none 0 0] 206)):=aK aj _;have P:w.heap.size<(w.alloc (Obj.cells #[SJ QG 0,SJ QG 0,RR none 0 0] 206)).heap.size:=aJ;have Y:=λk J=>(bo r.lH.own (k:=k) J).1;obtain⟨f1,f2⟩:=r.Dl;have x:c.heap[w.heap.size]?=some (Obj.cells #[SJ QG 0,SJ QG 0,RR none 0 0] 206 (0,0)):=(O.block _ P λe=>e.elim (λe=>aa) λe=>by have:=Y _ e;omega).trans (QB _ _);obtain⟨t1,t2,t3⟩:=cr x;obtain⟨a7,b2,-⟩:=kp g L a5;have s0:=((M 0 ai).1.trans (a7 0)).trans h0;have s1:=((M 1 ai).1.trans (a7 1)).trans c1;have c3:∀o,c.frozen? (ag L o)=false:=λo=>by
  by_cases e:o=2
  .rw [e];exact I.fJ
  .exact ((M o e).2.trans (b2 o)).trans (n o)
 have a0:L<c.heap.size:=RL a5 (QD g.size O.size);have Q:PM c j λq=>if q∈l then some (H q)else none:=(r.map.out (Out.af (S:=λ_=>False) g) id).out O λe=>e.elim f1 λe=>(f2 j e).2 rfl
 have a1:=ad Q;have G:=ca g1 I O g4 g6;clear g1 I O g4 M g6 Q n h0 m;simp only[pv]at*;go_wp2_with fail;obtain⟨X,T⟩:=ah ((c.setCell {block:=L,off:=0} (SJ QG ↑f)).alloc (Obj.cells #[SJ QG ↑s,SJ QG ↑f] 289));have y:(c.setCell {block:=L,off:=0} (SJ QG ↑f)).heap.size=c.heap.size:=RT _ _ _;have z:SK c.heap.size (c.setCell {block:=L,off:=0} (SJ QG ↑f)) X:=by rw[<-T,<-y];exact aK aj _
 have b3:c.heap.size<X.heap.size:=by rw[<-T];simp
 have h4:X.heap[c.heap.size]?=some (Obj.cells #[SJ QG ↑s,SJ QG ↑f] 289 (0,0)):=by rw[<-T,<-y];exact QB _ _
 obtain⟨q1,q2,q3⟩:=cr h4;have A:X.heap[L]?=(c.setCell {block:=L,off:=0} (SJ QG ↑f)).heap[L]?:=z.block L a0;have u1:X.cell? (ag L 1)=some (.map (some j)):=by rw[QP A,VG _ _ _ _ (λe=>by injection e with _ e3;cases e3)];exact s1
 have d:Out (λk=>k=L) c X:=((Out.refl (λk=>k=L) c).setCell (p:=ag L 0) (λ_=>rfl) _).trans (Out.af (S:=λ_=>False) (by show SK _ _ _;rw[y];exact z)) λ_ _ e=>e.elim;have i:X.heap[w.heap.size]?=some (Obj.cells #[SJ QG 0,SJ QG 0,RR none 0 0] 206 (0,0)):=(d.block _ t3 λe=>aa).trans x;have B:=a1.out.out d f1;have U:(s,f)∈l:=(G.1.mem_iff).1 aJ;have C:=hh (B.out (Out.af (S:=λ_=>False) (a_ aj)) id) 282 41 aO false underlying282 (z41 _) (s,f);rw[ak U]at C;simp only[pv,TD,if_false,SL]at C;obtain⟨b4,b5,D⟩:=(r.iM _ U).1.form;rw[D]at C;have a2:=ad D;clear D;have E:aq X X.drew.drew:=a_ (a_ aj);obtain⟨w6,e6,p6,o6,t6,F⟩:=qq (B.out (Out.af (S:=λ_=>False) E) id) 282 0 41 underlying282 289 (s,f);simp only[pv]at e6;have b6:=r.map.lt;have V:∀k,k≠j->w6.heap[k]?=X.heap[k]?:=λk J=>by rw[F];exact TE J
 have Z:Out (λk=>k=j\/k=L) c w6:=by rw[F];exact(d.mono λ_ _ e=>.inr e).trans ((Out.af (S:=λk=>k=j) E).wy (λ_=>rfl) o6) λk _ e=>.inl e
 obtain⟨z1,z2,z3⟩:=cr ((V w.heap.size aa).trans i);obtain⟨z4,z5,z6⟩:=cr ((V c.heap.size aa).trans h4);have b7:=ad ((V w.heap.size aa).trans i);have b8:=ad (Dr r g G.1 G.2.1 G.2.2.1 G.2.2.2.1 G.2.2.2.2 Z (ae f) ((V L (λe=>f1 e.symm)).trans A) p6);clear V Z F p6;clear B d A h4 i x P g z E;rw[T];clear T;go_wp2_with fail;go_region;go_wp2_with fail;go_region
 all_goals go_wp2_with fail
 (try simp only[XP,Exit.then])
 refine QT (v:=.tuple #[.agg #[ae s,ae f,.slice b4 128 b5],.bool true]) ?_ rfl ⟨(s,f),by rw[a2.out],?_⟩
 .rw [UF rfl];go_simp
 .refine mM.Dl r b8 (t:=w.heap.size) ?_ (QE _) b7 ai;exact Ly _ _ _ _ _
theorem xl(L c:Nat)(d:Nat × Nat->H)(f:Nat × Nat->Nat->Nat)(v:H)(w:M)(h:bd w L c v [] d f):
  aF 200 #[ar L] w λe g=>aL e (.tuple #[.agg #[Y 0,Y 0,aO],.bool false])/\Out (λk=>k=L) w g:=by
 have i:L<w.heap.size:=QN w _ h.c1;obtain⟨j,l,rfl,-⟩:=au h.lH.own;have a:=h.lH.cell;have b:=h.fJ;have c3:=h.c3;simp only[VW]at a;go_enter func200,ntmps200;go_wp2_with fail
 (try simp only[XP,Exit.then])
 refine QT (v:=.tuple #[.agg #[Y 0,Y 0,aO],.bool false]) ?_ rfl ⟨rfl,?_⟩
 .rw [UF rfl];go_simp
 .exact (((Out.refl (λk=>k=L) w).setCell (p:=R L 2) (λ_=>rfl) _).setCell (p:=R L 3) (λ_=>rfl) _).alloc _
theorem Ds{a:Array TC}{e:TC}(h:e∈a.toList)(q:Nat × Nat)(b:e.key=pv q):ty (.map a n)=1000002:=by simp only[ty];rw[ak];rw[XD];exact⟨e,h,by rw[b];rfl⟩
theorem cP.fn[Lo]{l:List (Nat × Nat)}(h:cP w n m v l)(b:Fr T aG w W)(a:W.heap[n]?=w.heap[n]?)(c:T.contains 289=false):cP W n m v l:=
 ⟨(QP a).trans h.cell,(cF a m).trans h.fJ,b.own h.own c λ_ _=>id,h.ne⟩
theorem bd.fn[Lo]{l:List (Nat × Nat)}{g:Nat × Nat->H}{r:Nat × Nat->Nat->Nat}(h:bd w n m v l g r)(y:l≠[])(d:Fr T aG w W)(z:T.contains 286=false)(A:T.contains 289=false)(B:T.contains 1000002=false)(C:T.contains 5=false):bd W n m v l g r:=by
 obtain⟨D,j⟩:=h.row;have b:W.heap[n]?=w.heap[n]?:=(d.hp j z).trans j.symm;refine⟨⟨D,b.trans j⟩,(QP b).trans h.c1,(QP b).trans h.c3,h.lH.fn d b A,λo=>(cF b o).trans (h.fJ o),?_,λp f=>⟨(h.iM p f).1.fr d C,(h.iM p f).2⟩,h.mg⟩;obtain⟨k,c,E,s,F,t⟩:=h.map;refine⟨k,c,d.hp E ?_,s,F,t⟩;obtain⟨p,f⟩:=WH l y;have this:(bZ p k.toList 0).map (·.2)=some (g p):=(t p).trans (ak f);cases m:bZ p k.toList 0 with
 |none=>rw[m]at this;cases this
 |some x=>obtain⟨i,u⟩:=x;obtain⟨e,G,_,_⟩:=jq p _ i u m;have a:=QV G;obtain⟨q,K⟩:=s e a;rw[Ds a q K];exact B
structure AI(w:M)(L:Nat)(v:H):Prop where
 row:∃cs,w.heap[L]? =some (N cs 286)
 c3:w.cell? (R L 3)=some aO
 lH:cP w L 2 v []
 fJ:∀o,w.frozen? (R L o)=false
theorem bd.Gs{a:Nat × Nat->H}{b:Nat × Nat->Nat->Nat}(h:bd w n m v [] a b):AI w n v:=⟨h.row,h.c3,h.lH,h.fJ⟩
theorem AI.fn[Lo](h:AI w n v)(c:Fr T aG w W)(d:T.contains 286=false)(e:T.contains 289=false):AI W n v:=by obtain⟨f,b⟩:=h.row;have a:W.heap[n]?=w.heap[n]?:=(c.hp b d).trans b.symm;exact⟨⟨f,a.trans b⟩,(QP a).trans h.c3,h.lH.fn c a e,λo=>(cF a o).trans (h.fJ o)⟩
theorem rh(L:Nat)(v:H)(w:M)(h:AI w L v):
  aF 200 #[ar L] w λe c=>aL e (.tuple #[.agg #[Y 0,Y 0,aO],.bool false])/\Out (λk=>k=L) w c:=by
 have d:L<w.heap.size:=QN w _ h.c3;obtain⟨f,g,rfl,-⟩:=au h.lH.own;have a:=h.lH.cell;have b:=h.fJ;have c3:=h.c3;simp only[VW]at a;go_enter func200,ntmps200;go_wp2_with fail
 (try simp only[XP,Exit.then])
 refine QT (v:=.tuple #[.agg #[Y 0,Y 0,aO],.bool false]) ?_ rfl ⟨rfl,?_⟩
 .rw [UF rfl];go_simp
 .exact (((Out.refl (λk=>k=L) w).setCell (p:=R L 2) (λ_=>rfl) _).setCell (p:=R L 3) (λ_=>rfl) _).alloc _
def Lz[Lo](B:Nat)(b:By)(c:Ro)(l:List Pt)(w:M)(e:RV)(d:M):Prop:=
 ∃a:List Pt,a.Perm l/\aL e (hN (b.run ((fK c a).map gY)).2.1 (b.run ((fK c a).map gY)).2.2)/\aC d B (b.run ((fK c a).map gY)).1/\Fr TB aG w d
def gq(p:Pt):Nat × Nat:=(p.1,p.2.1)
def d'(a:Nat × Nat->Nat->Nat)(q:Nat × Nat):Pt:=(q.1,q.2,a q)
theorem uM{a:Nat × Nat->Nat->Nat}:∀{l:List Pt},(∀p,p∈l->a (gq p)=p.2.2)->(l.map gq).map (d' a)=l
 | [],_=>rfl
 |p::l,h=>by rw[TO,TO,uM λq b=>h q (SG _ b)];congr 1;obtain⟨m,r,f⟩:=p;show(m,r,a (m,r))=_;have:=h (m,r,f) (RZ ..);simp only[gq]at this;rw[this]
theorem bd.below{l:List (Nat × Nat)}{a:Nat × Nat->H}{b:Nat × Nat->Nat->Nat}(h:bd w n m v l a b)(c:aq w W):bd W n m v l a b:=
 h.out (S:=λ_=>False) (Out.af c) id id (λ_ _=>id) λ_ _ e=>e.elim
structure xm(w0:M)(L:Nat)(l:List Pt)(k:Nat)(wr:M):Prop where
 dA:aq w0 wr
 new:w0.heap.size<=L
 lift:∃hm v lk dv da,bd wr L hm v lk dv da/\lk.Perm ((l.take k).map gq)/\(∀p,p∈l.take k->da (gq p)=p.2.2)/\w0.heap.size<=hm/\∀x,v.ownBlock=some x->w0.heap.size<=x
 c0:wr.cell? (R L 0)=some (Y 0)
theorem uO{p:Pt}(c:l[k]?=some p)(d:(l.map gq).Nodup):gq p∉(l.take k).map gq:=by intro f;obtain⟨q,g,e⟩:=RK.1 f;obtain⟨i,h,a⟩:=List.getElem_of_mem g;rw[VD]at h;rw[List.getElem_take]at a;obtain⟨j,b⟩:=QR.1 c;refine WG.1 d i k (by rw[RB];omega) (by rw[RB];exact j) J ?_;rw[UQ,UQ,a,b,e]
theorem Gu{α:Type}{l:List α}{x:α}(h:l[k]?=some x):l.take (k+1)=l.take k++ [x]:=by obtain⟨a,e⟩:=QR.1 h;rw[List.take_succ_eq_append_getElem a,e]
theorem xm.next{f wr r:M}{p:Pt}{g:List (Nat × Nat)}{i:Nat × Nat->Nat->Nat}(h:xm f n l k wr)(s:l[k]?=some p)(B:(l.map gq).Nodup)(t:g.Perm ((l.take k).map gq))(C:∀p,p∈l.take k->i (gq p)=p.2.2)(u:f.heap.size<=m)(w:∀x,v.ownBlock=some x->f.heap.size<=x)(y:aq wr W)(D:n<wr.heap.size)(a:pq n m v g i (p.1,p.2.1) p.2.2 W r):xm f n l (k+1) r:=by
 obtain⟨E,F,j,z,G,K,L,O⟩:=a;have c:=uO s B;have d:(p.1,p.2.1)∉g:=λe=>c (t.mem_iff.1 e);rw[al d]at z;have b:=via h.dA y;have A:=Gu s;refine⟨b.trans (L.below (λx _ e=>?_) b.size),h.new,⟨m,E,F,j,_,G,?_,λq a=>?_,u,λx o=>(O x o).elim (w x) λo=>QD b.size o⟩,?_⟩
 .rcases e with e|e|e
  .rw [e];exact h.new
  .rw [e];exact u
  .exact w x e
 .rw [A,SH];exact z.trans (t.append_right _)
 .rw [A]at a;show(if gq q=(p.1,p.2.1)then p.2.2 else i (gq q))=q.2.2;rcases TH.1 a with a|a
  .rw [al,C q a];intro e;exact c (RK.2 ⟨q,a,e⟩)
  .simp only[SM]at a;subst a;exact ak rfl
 .rw [K,(kp y n D).1,h.c0]
structure Js[Lo](w0:M)(B L:Nat)(b:By)(ro:Ro)(l:List Pt)(hm:Nat)(dv:Nat × Nat->H)(da:Nat × Nat->Nat->Nat)(n:Nat)(wr:M):Prop where
 bY:Fr TB aG w0 wr
 new:w0.heap.size<=L/\w0.heap.size<=hm
 left:∃(ps:List Pt) (v:H) (lk:List (Nat × Nat)),lk.length=n/\(ps++lk.map (d' da)).Perm l/\aC wr B (b.run ((fK ro ps).map gY)).1/\(b.run ((fK ro ps).map gY)).2.2=0/\(lk≠[]->bd wr L hm v lk dv da)/\(lk= []->AI wr L v)/\∀x,v.ownBlock=some x->w0.heap.size<=x
theorem pt(a:Ro)(l b:List Pt):fK a (l++b)=fK a l++fK a b:=List.filter_append ..
theorem yS{l:List (Nat × Nat)}{c:Nat × Nat->H}{d:Nat × Nat->Nat->Nat}(h:bd w n m v l c d):∃x,w.cell? (R n 0)=some x:=by obtain⟨e,a⟩:=h.row;have b:=(cr a).1 1;rw[h.c1]at b;obtain⟨f,-⟩:=RC.1 b.symm;exact⟨e[0],((cr a).1 0).trans (RU J)⟩
theorem bd.ct{l:List (Nat × Nat)}{g:Nat × Nat->H}{r:Nat × Nat->Nat->Nat}(h:bd w n m v l g r)(s:l≠[]):∀k o,LZ n m v k->w.heap[k]?=some o->TB.contains (ty o)=false:=by
 intro k o t d;rcases t with e|e|e
 .subst e;obtain⟨O,y⟩:=h.row;rw[y]at d;cases d;rfl
 .subst e;obtain⟨j,c,z,A,P,B⟩:=h.map;rw[z]at d;cases d;obtain⟨p,C⟩:=WH l s;have this:(bZ p j.toList 0).map (·.2)=some (g p):=(B p).trans (ak C);cases m:bZ p j.toList 0 with
  |none=>rw[m]at this;cases this
  |some x=>obtain⟨i,u⟩:=x;obtain⟨e,D,_,_⟩:=jq p _ i u m;have a:=QV D;obtain⟨q,E⟩:=A e a;rw[Ds a q E];rfl
 .have F:=h.lH.own;rcases F.2 with⟨f,-⟩|⟨b,G,K,f,-,L,-⟩
  .rw [f]at e;cases e
  .rw [f]at e;simp only[WS,SI]at e;subst e;rw[L]at d;cases d;rfl
theorem uP[Lo](R B:Nat)(l7:Option SR)(g:aA)(l8:Nat)(t:Ro)(b:By)(l:List Pt)(pv:QC)(w:QA)(h:fg w R B l7 g l8 t)(f:aC w B b)(A:e' w pv l)(l9:g.ok)(o5:b.N=g.M+1)(i9:∀p,p∈l->p.1<g.M/\p.2.1<g.R)(e8:(l.map gq).Nodup)(e9:l.length<=50000)(M:∀m v,m<g.M->b.dv m=some v->1+g.R<=v.d.n/\v.d.cn+l.length<1000000000000):
  Calls VR 136 #[.pointer (some ⟨R,0,none⟩),pv] w (Lz B b t l w):=by
 obtain⟨C,m0⟩:∃C,w.alloc (.cells #[.int .i64 0,.int .u16 0] 172)=C:=⟨_,rfl⟩;have T:SK w.heap.size w C:=by rw[<-m0];exact aK (SU _ _) _
 have c8:C.heap[w.heap.size]?=some (.cells #[.int .i64 0,.int .u16 0] 172 (0,0)):=by rw[<-m0];exact QB _ _
 obtain⟨D,a9⟩:∃D,w.heap.size=D:=⟨_,rfl⟩;rw[a9]at c8;have I:=QZ (And.intro T (And.intro c8 (And.intro f.low (And.intro (h.below T) (And.intro (f.below T) (A.below T))))));have o8:D<C.heap.size:=Z_ c8;obtain⟨o9,r4,x1,x2⟩:=(h.below T).aM;obtain⟨k0,f0,z0⟩:=cr x1;obtain⟨n,m1⟩:∃n,l.length=n:=⟨_,rfl⟩;obtain⟨r5,r6,rfl,m2,j0⟩:=A.below T;have j1:=QZ j0;have h6:=QZ m1;rw[m1]at e9 M m2|-;have b1:=QZ (And.intro l9 (And.intro o5 (And.intro i9 (And.intro e8 M))));have m3:=QZ (λm (h7:m<g.M) W (f:SK C.heap.size C W)=>oW R B l7 g l8 t m W ((h.below T).below f) h7 l9.m16);have m4:=QZ (λW=>ht (g.M:Nat) (g.c:Nat) (g.s:Nat) W (aA.gm l9));have m5:QX (SK C.heap.size C C):=SU _ _;have m6:=QZ x1;clear h f A x1 x2 j0 m1 c8 T o5 i9 e8 M;go_enter Tryz.func136,Tryz.ntmps136;go_wp2
 try simp only[m0,a9]
 go_loopw [17] (λi wr=>∃k:Nat,i=.int .i64 k/\k<=n/\QX (SK C.heap.size C wr)) (λi _=>n-(intOf i).toNat)
 case atStart=>exact⟨0,rfl,QO _,m5⟩
 case round=>
  obtain⟨k,rfl,m7,q⟩:=hrel;obtain⟨y1,y2,y3⟩:=kp q.out R z0;by_cases b4:k<n
  .have j2:=QZ b4;have j3:(k:Int)<(n:Int):=by omega
   obtain⟨p,A⟩:∃p,l[k]?=some p:=⟨_,QQ (by rw[h6.out];exact b4)⟩;obtain⟨b5,p0,F,G,rfl,p1,p2⟩:=j1.out.resolve_left (λe=>by rw[e]at A;cases A);obtain⟨q1,q2,u,q3,q4⟩:=p2 k p A;obtain⟨o6,o7,c7,rfl⟩:=q4.form;have K:wr.heap[b5]?=some (.cells F 206 G):=(q.out.block b5 (Z_ p1)).trans p1;have c1:=(QS wr b5 _ F 206 G K).trans q1;have c2:=(QS wr b5 _ F 206 G K).trans q2;have c3:=(QS wr b5 _ F 206 G K).trans q3;obtain⟨h7,l6⟩:=b1.out.2.2.1 p (QV A);have j4:=QZ (λW f=>m3.out p.1 h7 W f);obtain⟨m,c9⟩:∃m,p.1=m:=⟨_,rfl⟩;obtain⟨r,d0⟩:∃r,p.2.1=r:=⟨_,rfl⟩;rw[c9]at c1 h7 j4;rw[d0]at c2 l6;have q5:(r:Int)<(g.s:Int)*(g.c:Int):=by rw[gR];exact_mod_cast l6
   have d1:decide ((r:Int)<0)=false:=by simp
   have d2:decide ((g.s:Int)*(g.c:Int)<=(r:Int))=false:=by simp;omega
   clear p2 q1 q2 q3 q4 K A;go_wp2;go_region_held3(λY=>Y.cell? ⟨wr.heap.size,0,none⟩=some (.int .i64 (m:Nat))/\Y.cell? ⟨wr.heap.size,1,none⟩=some (.int .i64 (r:Nat))/\Y.cell? ⟨R,1,none⟩=some (.int .i64 (g.M:Nat))/\Y.cell? ⟨R,2,none⟩=some (.int .i64 (g.c:Nat))/\Y.cell? ⟨R,3,none⟩=some (.int .i64 (g.s:Nat))) ((simp[*,go_sem];done)) (first|(go_at_call 163;refine(j4.out _ (via q.out (by go_grown))).mono ?_;rintro e y ⟨rfl,rfl⟩)|(go_at_call 27;refine(m4.out _).mono ?_;rintro e y ⟨rfl,f⟩;obtain⟨p1,p2,p3⟩:=kp f wr.heap.size (by go_size);obtain⟨p4,p5,p6⟩:=kp f R (by go_size);have j5:QX (SK C.heap.size C y):=via (via q.out (by go_grown)) f))
   all_goals go_wp2
   all_goals exact⟨⟨k+1,by go_num,j2.out,j5⟩,by have:=j2.out;simp[intOf];omega⟩
  .obtain rfl:n=k:=by omega
   obtain⟨h8,rfl⟩:∃h8:QA,h8=wr:=⟨_,rfl⟩;go_wp2_with fail;refine(yR h8).mono ?_;rintro e w2 ⟨L,h7,rfl,b6,f3,q6,j6,j7⟩;have j8:QX (xm h8 L l 0 w2):=⟨j7,q6,⟨h7,_,[],_,_,b6,XX _,λp A=>by simp at A,j6,λx d7=>by cases d7⟩,f3⟩;have m8:=QZ (show L<w2.heap.size from QN _ _ f3);clear b6 f3 j6 j7 y1 y2 y3;go_wp2;go_loopw [53] (λi h9=>∃k:Nat,i=.int .i64 k/\k<=n/\QX (xm h8 L l k h9)/\L<h9.heap.size) (λi _=>n-(intOf i).toNat)
   case atStart=>exact⟨0,rfl,QO _,j8,m8.out⟩
   case round=>
    obtain⟨k,rfl,m7,f1,f4⟩:=hrel;by_cases b4:k<n
    .have j2:=QZ b4;have j3:(k:Int)<(n:Int):=by omega
     obtain⟨p,A⟩:∃p,l[k]?=some p:=⟨_,QQ (by rw[h6.out];exact b4)⟩;obtain⟨b5,p0,F,G,rfl,p1,p2⟩:=j1.out.resolve_left (λe=>by rw[e]at A;cases A);obtain⟨q1,q2,u,q3,q4⟩:=p2 k p A;obtain⟨o6,o7,c7,rfl⟩:=q4.form;have J:=via q.out f1.out.dA;have K:wr.heap[b5]?=some (.cells F 206 G):=(J.block b5 (Z_ p1)).trans p1;have c1:=(QS wr b5 _ F 206 G K).trans q1;have c2:=(QS wr b5 _ F 206 G K).trans q2;have c3:=(QS wr b5 _ F 206 G K).trans q3;obtain⟨d,s⟩:=b1.out.2.2.1 p (QV A);have q7:=b1.out.1.m16;have m9:=aA.iJ b1.out.1;obtain⟨O,v,a5,i0,j,l1,P,l3,l4,l5⟩:=f1.out.lift;have c:∀o,SK wr.heap.size wr (wr.alloc o):=λo=>aK (SU _ _) o;have f2:=λo=>uL L O v a5 i0 j p.1 p.2.1 (.slice (some ⟨o6,o7,none⟩) 128 c7) p.2.2 (wr.alloc o) (l1.below (c o)) (((kp (c o) L f4).1 0).trans f1.out.c0) ((q4.below J).eI.below (c o)) (by omega) (by omega) (λe=>uO A b1.out.2.2.2.1 (P.mem_iff.1 e)) (by have:=P.length_eq;rw[RB,VD]at this;omega);have f5:=QZ (λo=>(f2 o).mono λe y h=>(⟨h.1,xm.next f1.out A b1.out.2.2.2.1 P l3 l4 l5 (c o) f4 h.2,h.2⟩:e=.returned (.int .u16 0)/\xm h8 L l (k+1) y/\pq L O v a5 j (p.1,p.2.1) p.2.2 (wr.alloc o) y));obtain⟨m,c9⟩:∃m,p.1=m:=⟨_,rfl⟩;obtain⟨r,d0⟩:∃r,p.2.1=r:=⟨_,rfl⟩;rw[c9]at c1 f5;rw[d0]at c2 f5;clear p2 q1 q2 q3 q4 K A f2 l1 P l3 l4 l5 c J d s c9 d0 j8;go_wp2_with fail;refine(f5.out _).mono ?_;rintro e y ⟨rfl,g1,g2⟩;have n0:=QZ g1;have n1:L<y.heap.size:=QN _ _ g1.c0;clear g1 g2;go_wp2;exact⟨⟨k+1,by go_num,j2.out,n0,n1⟩,by have:=j2.out;simp[intOf];omega⟩
    .obtain rfl:n=k:=by omega
     obtain⟨h9,rfl⟩:∃h9:QA,h9=wr:=⟨_,rfl⟩;obtain⟨O,v,a5,i0,j,l1,P,l3,l4,l5⟩:=f1.out.lift;have j9:l.take n=l:=by rw[<-h6.out,UB]
     rw[j9]at P l3;have J:=via q.out f1.out.dA;have d8:=q.out.size;have f6:QX (Js C B L b t l O i0 j a5.length h9):=by
      refine⟨Fr.af J,⟨QD d8 f1.out.new,QD d8 l4⟩,[],v,a5,rfl,?_,I.out.2.2.2.2.1.below J,rfl,λ_=>l1,λe=>?_,λx d7=>QD d8 (l5 x d7)⟩
      .have:=P.map (d' j);rw[uM l3]at this;exact this
      .subst e;exact l1.Gs
     have n2:a5.length<=50000:=by rw[P.length_eq,RB,h6.out];exact e9
     obtain⟨q0,k1⟩:∃q0,a5.length=q0:=⟨_,rfl⟩;rw[k1]at f6 n2;clear l1 P l3 l4 l5 j9 J d8 k1;go_wp2
     go_loopg [] q0 (λgk wr=>QX (Js C B L b t l O i0 j gk wr))
     case atStart=>exact f6
     case round=>
      have b3:=QZ hrel;clear hrel f6 f1 f4;have n3:=b3.out.out.bY.hp I.out.2.1 rfl;obtain⟨d1,d2,d3⟩:=cr n3;have d7:=b3.out.out.bY.hp m6.out rfl;obtain⟨y1,y2,y3⟩:=cr d7;have d9:=QZ (And.intro n3 d7);have i9:Lo.lo<=w.heap.size:=I.out.2.2.1;clear n3 d7;obtain⟨U,v,a5,i1,i2,i3,i4,i5,i6,i7⟩:=b3.out.out.left;by_cases V:a5= []
      .subst V;have n4:=QZ (rh L v wr (i6 rfl));have n5:=QZ (i6 rfl).row;have q:=QZ (And.intro i2 (And.intro i3 i4));clear i1 i2 i3 i4 i5 i6 i7;have k2:¬D=L:=by have:=b3.out.out.new.1;omega
       go_wp2_with(go_at_call 200;refine n4.out.mono ?_;rintro e y ⟨rfl,i8⟩;obtain⟨d4,d5,d6⟩:=cr (i8.heap d9.out.1 k2);have n6:=QZ i8;clear i8);have a0:Fr TB aG w y:=((Fr.af I.out.1).tr b3.out.out.bY).out n6.out λk m7 e=>by have:=b3.out.out.new.1;have:=I.out.1.size;omega
       have b0:=lE q.out.2.1 n6.out λk o e i8=>by subst e;obtain⟨r7,l6⟩:=n5.out;rw[l6]at i8;cases i8;rfl
       obtain⟨e1,e2,-⟩:=dI a0 b0 (n6.out.heap d9.out.1 k2) (RN a9) (by rw[<-a9];exact i9) (.int .i64 0) (.int .u16 0);refine QT (v:=.agg #[.int .i64 0,.int .u16 0]) (by simp[RP,Tryz.results136,go_sem];go_simp) rfl ⟨U,by simpa using q.out.1,?_,e2.below (aK (SU _ _) _),e1.alloc _⟩;rw[q.out.2.2];rfl
      .have b7:=QZ (i5 V);obtain⟨x0,k3⟩:=yS b7.out;have n7:a5.length<=50000:=by have:=i2.length_eq;rw[QU,RB,h6.out]at this;omega
       have n8:=QZ (pr L O v a5 i0 j x0 wr b7.out k3 (by omega) (by have:a5.length≠0:=λe=>V (WO.1 e);omega));have q:=QZ (And.intro i1 (And.intro i2 (And.intro i3 (And.intro i4 i7))));clear i1 i2 i3 i4 i5 i6 i7 k3 n7;have n9:=QZ V;clear V;go_wp2_with fail;refine n8.out.mono ?_;rintro e y ⟨p,rfl,o0,P,g1,g2,g3,g4⟩;have a6:p∈a5:=g1.mem_iff.1 (by simp);have f7:d' j p∈l:=q.out.2.1.mem_iff.1 (YR _ (RK.2 ⟨p,a6,rfl⟩));obtain⟨b8,e0⟩:=b1.out.2.2.1 _ f7;have b9:=b7.out.eI g3 (b7.out.iM p a6).1;have f8:¬LZ L O v D:=λe=>by
        have h1:=b3.out.out.new;rcases e with e|e|e
        .omega
        .omega
        .have:=q.out.2.2.2.2 D e;omega
       have f9:¬LZ L O v R:=λe=>by
        have h1:=b3.out.out.new;rcases e with e|e|e
        .omega
        .omega
        .have:=q.out.2.2.2.2 R e;omega
       have Z:=g3.heap d9.out.1 f8;have H:=g3.heap d9.out.2 f9;have a0:Fr TB aG C y:=b3.out.out.bY.out g3 λk m7 e=>by
        have h1:=b3.out.out.new;rcases e with e|e|e
        .omega
        .omega
        .have:=q.out.2.2.2.2 k e;omega
       have b0:=lE q.out.2.2.1 g3 (b7.out.ct n9.out);have a2:P.length+1=a5.length:=by have:=g1.length_eq;rw[QU]at this;exact this
       have c0:=I.out.2.2.2.1.fr a0 rfl rfl rfl rfl;have a3:=QZ (λW (f:SK y.heap.size y W)=>jK R B l7 g l8 t p.1 p.2 W (c0.below f) b8 b1.out.1.m16);have Q:((U++ [d' j p])++P.map (d' j)).Perm l:=by refine List.Perm.trans ?_ q.out.2.1;rw[SV];refine List.Perm.append_left U ?_;refine(YO).trans ?_;have:=g1.map (d' j);rw[SH]at this;exact this
       have a7:∀x,o0.ownBlock=some x->C.heap.size<=x:=λx d7=>q.out.2.2.2.2 x (by rw[<-g4];exact d7);obtain⟨g0,c7,c4,-⟩:=id b9;rw[c4]at b9;have S:fK t (U++ [d' j p])=fK t U++if t.down p.1 p.2=true then[]else[d' j p]:=by rw[pt];congr 1;unfold fK;cases q8:t.down p.1 p.2<;>simp[d',q8]
       obtain⟨c5,a4⟩:∃c5,y.alloc (.cells #[.int .i64 (p.1:Nat),.int .i64 (p.2:Nat),.slice g0 128 c7] 206)=c5:=⟨_,rfl⟩;have c:SK y.heap.size y c5:=by rw[<-a4];exact aK (SU _ _) _
       have c6:c5.heap[y.heap.size]?=some (.cells #[.int .i64 (p.1:Nat),.int .i64 (p.2:Nat),.slice g0 128 c7] 206 (0,0)):=by rw[<-a4];exact QB _ _
       have g5:=QZ (And.intro c c6);obtain⟨m,d⟩:∃m,p.1=m:=⟨_,rfl⟩;obtain⟨r,s⟩:∃r,p.2=r:=⟨_,rfl⟩;have a8:=c6;rw[d,s]at a8;obtain⟨c1,c2,c3⟩:=cr a8;cases e4:t.down p.1 p.2 with
       |true=>
        rw[e4]at a3 S;rw[if_pos rfl,TZ]at S;have g6:=QZ (show Js C B L b t l O i0 j P.length c5 from⟨a0.then c,b3.out.out.new,U++ [d' j p],o0,P,rfl,Q,by rw[S];exact b0.below c,by rw[S];exact q.out.2.2.2.1,λ_=>g2.below c,λe=>by subst e;exact(g2.below c).Gs,a7⟩);have q9:=QZ (show P.length<gk by have:=q.out.1;omega);rw[d,s]at a3;rw[c4,d,s];rw[d,s]at a4;clear g1 g2 g3 g4 a6 f7 b8 e0 b9 f8 f9 Z H a0 b0 a2 c0 Q a7 c4 S c c6 a8 e4 d s;go_wp2_with(go_at_call 201;refine(a3.out _ g5.out.1).mono ?_;rintro e w4 ⟨rfl,rfl⟩)
        try simp only[a4]
        go_roundg P.length
        case rel=>exact g6.out
        case measure=>exact q9.out
       |false=>
        rw[e4]at a3 S;rw[if_neg (by decide)]at S;have r0:=b1.out.1;have e5:=λW (f:SK c5.heap.size c5 W)=>gF B p.1 (1+p.2) (.slice g0 128 c7) (j p) (b.run ((fK t U).map gY)).1 W (b0.below (via c f)) (by rw[By.gb,b1.out.2.1];exact Nat.lt_succ_of_lt b8) (b9.below (via c f)) (λv r1=>by
         obtain⟨v0,e1,e2,e3⟩:=By.gI gH r1;obtain⟨q1,q2⟩:=b1.out.2.2.2.2 p.1 v0 b8 e1;have h1:((fK t U).map gY).length<=n:=by rw[RB];refine QD (VI ..) ?_;have:=q.out.2.1.length_eq;rw[QU,h6.out]at this;omega
         have h2:p.2<g.R:=e0;omega)
        have e6:=By.jo (b:=b) (l:=(fK t U).map gY) (a:=gY (d' j p)) q.out.2.2.2.1;have e1:(fK t (U++ [d' j p])).map gY=(fK t U).map gY++ [gY (d' j p)]:=by rw[S,SH];rfl
        rw[<-e1]at e6;have e7:QX ((b.run ((fK t (U++ [d' j p])).map gY)).2.2≠0->b.run ((fK t ((U++ [d' j p])++P.map (d' j))).map gY)=b.run ((fK t (U++ [d' j p])).map gY)):=λe=>by rw[pt t (U++ [d' j p]),SH,By.pf e]
        unfold CC at e5;obtain⟨X,o1⟩:∃X,b.run ((fK t (U++ [d' j p])).map gY)=X:=⟨_,rfl⟩;rw[o1]at e6 e7;obtain⟨b2,s2,g7⟩:=X;simp only[gY,d']at e6;simp only at e7;obtain⟨k4,g8,g9⟩:=e6;rw[<-k4,<-g8]at e5;rw[<-g8]at g9;have k5:=QZ (λW (f:SK c5.heap.size c5 W)=>(e5 W f).mono λe w4 (h:_/\_/\_)=>(⟨h.1,⟨h.2.1,(Fr.af (via c f)).tr h.2.2⟩,((Fr.af f).tr h.2.2|>.hp c6 rfl)⟩:e=.returned (.int .u16 (g7:Nat))/\(aC w4 B b2/\Fr TB aG y w4)/\w4.heap[y.heap.size]?=some (.cells #[.int .i64 (p.1:Nat),.int .i64 (p.2:Nat),.slice g0 128 c7] 206 (0,0))));have o2:=QZ (λW=>fs p.1 g7 W);have k6:=QZ (And.intro o1 (And.intro g9 e7.out));have h3:=QZ (And.intro Z H);have N:=QZ (And.intro Q (And.intro a7 (And.intro a0 (And.intro g2 (And.intro Z (And.intro H a2))))));obtain⟨y4,y5,y6⟩:=cr ((c.block _ (Z_ H)).trans H);have k7:=(c.block _ (Z_ H)).trans H;have k8:=(c.block _ (Z_ Z)).trans Z;have r2:=QZ (And.intro k7 k8);obtain⟨y7,y8,y9⟩:=cr ((c.block _ (Z_ Z)).trans Z);rw[d,s]at a3;rw[c4,d,s];rw[d,s]at a4;rw[d]at o2;obtain⟨a1,k9⟩:∃a1,1+r=a1:=⟨_,rfl⟩;have r3:QG.wrap ((1:Int)+(r:Nat))=(a1:Nat):=by
         have h1:p.2<g.R:=e0;have h2:=aA.iJ b1.out.1;have:(1:Int)+(r:Nat)=((a1:Nat):Int):=by omega
         rw[this];go_arith
        clear g1 g2 g3 g4 a6 f7 b8 e0 b9 f8 f9 Z H a0 b0 a2 c0 Q a7 c4 S c c6 a8 e4 e5 k4 g8 g9 o1 e7 e1 k7 k8;obtain⟨E,o3⟩:∃E,y.heap.size=E:=⟨_,rfl⟩;rw[o3]at k5 c1 c2 c3;have h4:=QZ (λW (f:SK c5.heap.size c5 W)=>(k5.out W f).mono λe w4 h=>(⟨h.1,h.2.1,cr h.2.2⟩:e=.returned (.int .u16 (g7:Nat))/\(aC w4 B b2/\Fr TB aG y w4)/\(∀o,w4.cell? ⟨E,o,none⟩=(#[.int .i64 (p.1:Nat),.int .i64 (p.2:Nat),.slice g0 128 c7]:Array QC)[o]?)/\(∀o,w4.frozen? ⟨E,o,none⟩=false)/\E<w4.heap.size));rw[d,s,k9]at h4;clear k9;by_cases h0:g7=0
        .have g6:=QZ h0;subst h0;go_wp2_with(go_at_call 201;refine(a3.out _ g5.out.1).mono ?_;rintro e w4 ⟨rfl,rfl⟩)
         try simp only[a4,o3]
         go_region_held3(λY=>Y.cell? ⟨R,0,none⟩=some (.pointer (some ⟨B,0,none⟩))/\Y.cell? ⟨E,0,none⟩=some (.int .i64 (m:Nat))/\Y.cell? ⟨E,1,none⟩=some (.int .i64 (r:Nat))/\Y.cell? ⟨E,2,none⟩=some (.slice g0 128 c7)) ((simp[*,go_sem];done)) (first|(go_at_call 52;refine(h4.out _ (by go_grown)).mono ?_;rintro e w4 ⟨rfl,g1,g2,g3,g4⟩;have z:=QZ g1;obtain⟨p1,p2,p3⟩:=cr (z.out.2.hp h3.out.2 rfl);clear g1));go_wp2
         go_roundg P.length
         case measure=>have:=N.out.2.2.2.2.2.2;have:=q.out.1;omega
         case rel=>refine⟨N.out.2.2.1.tr z.out.2,b3.out.out.new,U++ [d' j p],o0,P,rfl,N.out.1,by rw[k6.out.1];exact z.out.1,by rw[k6.out.1],λe=>N.out.2.2.2.1.fn e z.out.2 rfl rfl rfl rfl,λe=>?_,N.out.2.1⟩;have l0:=N.out.2.2.2.1;rw[e]at l0;exact l0.Gs.fn z.out.2 rfl rfl
        .have g6:=QZ h0;have r8:¬(g7:Int)=0:=by omega
         rw[bl _ h0]at o2;clear h0;go_wp2_with(go_at_call 201;refine(a3.out _ g5.out.1).mono ?_;rintro e w4 ⟨rfl,rfl⟩)
         try simp only[a4,o3]
         go_region_held3(λY=>Y.cell? ⟨R,0,none⟩=some (.pointer (some ⟨B,0,none⟩))/\Y.cell? ⟨E,0,none⟩=some (.int .i64 (m:Nat))/\Y.cell? ⟨E,1,none⟩=some (.int .i64 (r:Nat))/\Y.cell? ⟨E,2,none⟩=some (.slice g0 128 c7)) ((simp[*,go_sem];done)) (first|(go_at_call 52;refine(h4.out _ (by go_grown)).mono ?_;rintro e w4 ⟨rfl,g1,g2,g3,g4⟩;have z:=QZ g1;obtain⟨p1,p2,p3⟩:=cr (z.out.2.hp h3.out.2 rfl);clear g1));have h5:=z.out.2.hp h3.out.1 rfl;obtain⟨p4,p5,p6⟩:=cr h5;have o4:=QZ h5;clear h5;go_wp2_with(go_at_call 166;refine(o2.out _).mono ?_;rintro e w5 ⟨rfl,f⟩;obtain⟨p7,p8,p9⟩:=kp f D p6;have j5:=QZ f;clear f);obtain⟨e1,e2,-⟩:=dI (w:=w) ((((Fr.af I.out.1).tr N.out.2.2.1).tr z.out.2).then j5.out) (z.out.1.below j5.out) ((j5.out.block D p6).trans o4.out) (RN a9) (by rw[<-a9];exact i9) (.int .i64 (m:Nat)) (.int .u16 (g7:Nat));refine QT (v:=.agg #[.int .i64 (m:Nat),.int .u16 (g7:Nat)]) (by simp[RP,Tryz.results136,go_sem];go_simp) rfl ⟨_,N.out.1,?_,?_,e1⟩
         .rw [k6.out.2.2 g6.out];have:=k6.out.2.1 g6.out;simp only at this|-;rw[this,d,bl _ g6.out]
         .rw [k6.out.2.2 g6.out];exact e2
def TA:List Nat:= [100,106,108,142,217,219,1000000,153,221,385,5,164,3,206]
theorem cl.fr[Lo](h:cl w n m i r g j s)(a:Fr T aG w z)(c:TA.all (λt=> !T.contains t)=true):cl z n m i r g j s:=by
 have k:∀t,TA.contains t=true->T.contains t=false:=λt b=>by have:=WD.1 c t (by simpa using b);simpa using this
 refine⟨h.row.fr a (k 164 rfl) (k 3 rfl) (k 5 rfl) (k 206 rfl),h.ct.fn a (WD.2 λt b=>?_),h.kj.fr a (k 153 rfl) (k 221 rfl) (k 385 rfl) (k 5 rfl),h.lo⟩;have:TA.contains t=true:=by have d:TB.all (λt=>TA.contains t)=true:=rfl;exact WD.1 d t b
 rw[k t this];rfl
theorem cl.below[Lo]{R B W r:Nat}(h:cl w R B W r g n s)(a:aq w z):cl z R B W r g n s:=
 h.fr (T:= []) (Fr.af a) rfl
theorem gZ.done[Lo]{step:Rs->Nat->Nat->Prop}{k c D:Nat}{e:Nat × Nat}(f:step s k c)(h:cl z n m i r g j s)(l:Fr iN aG w z)(o:aX z D (.cells A 172 e))(d:w.heap.size<=D)(q:Lo.lo<=D){a b:Int}(t:hN k c=.agg #[Y a,.int .u16 b]):
  gZ n m i r g j step w (.returned (.agg #[Y a,.int .u16 b])) ((z.setCell (R D 0) (Y a)).setCell (R D 1) (.int .u16 b)):=
 ⟨s,k,c,f,by rw[t],h.fr (jm (ns z D _ _) o q) rfl,(l.new (p:=R D 0) d _).new (p:=R D 1) d _⟩
theorem gZ.alloc[Lo]{step:Rs->Nat->Nat->Prop}{e:RV}(h:gZ n m i r g j step w e z)(o:Obj):gZ n m i r g j step w e (z.alloc o):=by obtain⟨a,k,b,c,d,f,l⟩:=h;exact⟨a,k,b,c,d,f.below (aK aj _),l.alloc _⟩
theorem gZ.drew[Lo]{step:Rs->Nat->Nat->Prop}{e:RV}(h:gZ n m i r g j step w e z):gZ n m i r g j step w e z.drew:=by obtain⟨a,k,b,c,d,f,l⟩:=h;exact⟨a,k,b,c,d,f.below (a_ aj),l.drew⟩
theorem di(k:Nat):hN k 0=.agg #[Y 0,aH 0]:=rfl
theorem fg.ne(h:fg w n m P g k o):n≠k:=λe=>by obtain⟨a,c,b,-⟩:=h.aM;have:=h.fJ;rw[<-e,b]at this;simp at this
theorem fg.wait{c:Ro}(h:fg w n m P g i c)(j:e' w v l):fg (w.setCell (R n 7) v) n m P g i {c with wt:=l}:=by
 have d:Out (λk=>k=n) w (w.setCell (R n 7) v):=(Out.refl (λk=>k=n) w).setCell (p:=R n 7) (λ_=>rfl) _;obtain⟨b,r,f,s⟩:=h.aM;refine⟨⟨b,v,?_,j.out d λk o q a=>?_⟩,d.heap h.fJ λe=>h.ne e.symm⟩
 .rw [heap_setCell_same w n 7 _ 164 v f];rfl
 .subst q;rw[f]at a;cases a;constructor<;>simp[ty]
theorem fg.qs{c:Ro}(h:fg w n m P g i c)(x:Bool):fg (w.setCell (R n 8) (.bool x)) n m P g i {c with sl:=x}:=by
 have d:Out (λk=>k=n) w (w.setCell (R n 8) (.bool x)):=(Out.refl (λk=>k=n) w).setCell (p:=R n 8) (λ_=>rfl) _;obtain⟨b,j,f,l⟩:=h.aM;refine⟨⟨b,j,?_,l.out d λk o q a=>?_⟩,d.heap h.fJ λe=>h.ne e.symm⟩
 .rw [heap_setCell_same w n 8 _ 164 (.bool x) f];rfl
 .subst q;rw[f]at a;cases a;constructor<;>simp[ty]
theorem cl.NC[Lo](h:cl w n m k r g i s):∃a,w.heap[n]?=some (N a 164):=by obtain⟨_,_,e,_⟩:=h.row.aM;exact⟨_,e⟩
theorem jM[Lo](h:cl w n m k r g i s)(o:Nat)(v:H):Fr [164] aG w (w.setCell (R n o) v):=by obtain⟨a,e⟩:=h.NC;exact(Fr.refl [164] aG w).set (p:=R n o) e rfl h.lo.1 v
theorem cl.wait[Lo](h:cl w n m k r g i s)(b:e' w v l):cl (w.setCell (R n 7) v) n m k r g i {s with ro:={s.ro with wt:=l}}:=
 have a:=jM h 7 v
 ⟨h.row.wait b,h.ct.fn a rfl,h.kj.fr a rfl rfl rfl rfl,h.lo⟩
theorem cl.qs[Lo](h:cl w n m k r g i s)(x:Bool):cl (w.setCell (R n 8) (.bool x)) n m k r g i {s with ro:={s.ro with sl:=x}}:=
 have a:=jM h 8 (.bool x)
 ⟨h.row.qs x,h.ct.fn a rfl,h.kj.fr a rfl rfl rfl rfl,h.lo⟩
theorem ri[Lo](R B W r:Nat)(g:aA)(A:Nat)(s:Rs)(C:Nat)(w:QA)(h:cl w R B W r g A s)(hF:Fit g C s)(b0:5000<=C):aF 177 #[ar R] w (gZ R B W r g A (dh s) w):=by
 obtain⟨a0,D,U,c,d,q⟩:=eL w (ao #[ae 0,aH 0] 172);have a:=aY d q h.ct.low (h.below d);obtain⟨a5,b1,L,V⟩:=(h.below d).row.aM;have t:=ad V;obtain⟨b3,b4,rfl,-⟩:=id V;obtain⟨n,Z⟩:=ah s.ro.wt.length;rw[Z]at L t;have O:=ad L;obtain⟨k0,f0,z0⟩:=cr L;obtain⟨a6,a7,a8⟩:=cr q;by_cases H:n=0
 .have f:s.ro.wt= []:=WO.1 (Z.trans H);subst H;have i:dh s s 0 0:=⟨[],by rw[f],rfl,rfl,by rw[ak rfl];obtain⟨b,x,ro⟩:=s;obtain⟨a1,a2,a3,a4⟩:=ro;simp only at f;rw[f]⟩;have P:=ad i;go_enter func177,ntmps177;go_wp2
  try simp only[U,c]
  have E:w.heap.size<=D:=RN c;refine QT (v:=.agg #[ae 0,aH 0]) (by simp[RP,results177,go_sem];go_simp) rfl (gZ.done P a.2.2.2 (Fr.af a.1) a.2.1 E (by rw[<-c];exact a.2.2.1) rfl)
 .have P:=ad (uP R B (some (ag W 0)) g A s.ro s.b s.ro.wt _ a0 (h.below d).row (h.below d).ct t hF.cJ hF.N (λp F=>⟨(hF.wt p F).1,(hF.wt p F).2.1⟩) hF.mg (by have:=hF.h';omega) λm v N M=>⟨(hF.mem m v N M).1,by have:=(hF.mem m v N M).2;have:=hF.h';omega⟩);have a9:¬(n:Int)=0:=aa;go_enter func177,ntmps177;go_wp2_with fail
  try simp only[U,c]
  go_wp2_with fail;refine P.mono ?_;rintro e I ⟨Q,F,rfl,l,j⟩;obtain⟨X,Y⟩:=ah (s.b.run ((fK s.ro Q).map gY));rw[Y]at l|-;obtain⟨S,u,G⟩:=X;simp only at l;have o:cl I R B W r g A {s with b:=S}:=⟨a.2.2.2.row.fr j rfl rfl rfl rfl,l,a.2.2.2.kj.fr j rfl rfl rfl rfl,a.2.2.2.lo⟩;have y:=j.hp a.2.1 rfl;obtain⟨d1,d2,d3⟩:=cr y;have T:=j.hp O rfl;obtain⟨k1,f1,z1⟩:=cr T;have k:=ca o ((Fr.af a.1).tr j).rb y F Y;have E:w.heap.size<=D:=RN c;have J:Lo.lo<=D:=by rw[<-c];exact a.2.2.1
  by_cases K:G=0
  .subst K;rw[di];go_wp2;have o:=k.1.wait (e'.nil I);refine QT (v:=.agg #[ae 0,aH 0]) (by simp[RP,results177,go_sem];go_simp) rfl ?_;have i:dh s {s with b:=S,ro:={s.ro with wt:= []}} u 0:=⟨Q,k.2.2.2.1,k.2.2.2.2,rfl,rfl⟩;have z:=jM k.1 7 aO;exact(gZ.done i o (k.2.1.tr (z.wide iN rfl)) (z.hp k.2.2.1 rfl) E J rfl).alloc _
  .rw [bl u K];have b5:¬(G:Int)=0:=aa;go_wp2;refine QT (v:=.agg #[ae u,aH G]) (by simp[RP,results177,go_sem];go_simp) rfl ?_;have i:dh s {s with b:=S} u G:=⟨Q,k.2.2.2.1,k.2.2.2.2,rfl,by rw[al K]⟩;exact(gZ.done i k.1 k.2.1 k.2.2.1 E J (bl u K)).alloc _
theorem rj[Lo](R B W r:Nat)(g:aA)(o:Nat)(s:Rs)(C:Nat)(w:QA)(h:cl w R B W r g o s)(hF:Fit g C s)(E:5000<=C):aF 112 #[ar R] w (gZ R B W r g o (cd s) w):=by
 obtain⟨u,D,x,b,c,i⟩:=eL w (N #[Y 0,aH 0] 172);have a:=aY c i h.ct.low (h.below c);obtain⟨F,V,G,X⟩:=(h.below c).row.aM;obtain⟨Z,f0,H⟩:=cr G;obtain⟨K,L,O⟩:=cr i;have n:=I (CR W r B g.M s.x u (h.below c).kj);have P:=I (ri R B W r g o s C u (h.below c) hF E);have y:w.heap.size<=D:=RN b;have Q:QX (s.x.sure=true->cd s=dh s):=λe=>by funext S k z;unfold cd;rw[ak e]
 have p:QX (s.x.sure=false->cd s s 0 0):=λe=>by unfold cd;rw[al (by rw[e];decide)];exact⟨rfl,rfl,rfl⟩
 cases d:s.x.sure with
 |false=>
  rw[d]at n;have f:=I d;go_enter func112,ntmps112;go_wp2_with fail
  try simp only[x,b]
  go_wp2_with(go_at_call 175;refine n.mono ?_;rintro e A ⟨rfl,rfl⟩);refine QT (v:=.agg #[Y 0,aH 0]) (by simp[RP,results112,go_sem];go_simp) rfl (gZ.done (p f) a.2.2.2 (Fr.af a.1) a.2.1 y (by rw[<-b];exact a.2.2.1) rfl)
 |true=>
  rw[d]at n;have f:=I d;go_enter func112,ntmps112;go_wp2_with fail
  try simp only[x,b]
  go_wp2_with(first|(go_at_call 175;refine n.mono ?_;rintro e A ⟨rfl,rfl⟩)|(go_at_call 177;refine P.mono ?_;rintro e A ⟨S,k,z,q,rfl,t,j⟩;obtain⟨T,U,l⟩:=cC k z;rw[l];obtain⟨d1,d2,d3⟩:=cr (j.hp a.2.1 rfl);have m:=aY q t j l));refine QT (v:=.agg #[Y T,.int .u16 U]) (by simp[RP,results112,go_sem];go_simp) rfl ?_;exact gZ.done (by rw[Q.out f.out];exact m.1) m.2.1 ((Fr.af a.1).tr m.2.2.1) (m.2.2.1.hp a.2.1 rfl) y (by rw[<-b];exact a.2.2.1) m.2.2.2
theorem pw(hF:Fit g C s)(d:(s.synced g).2=0):Fit g C (s.synced g).1:=by
 unfold Rs.synced at d|-;by_cases e:s.x.sure=true
 .rw [ak e];exact hF
 .rw [al e]at d|-;simp only at d|-;have c:∀j v,(s.b.op g.M be).1.dv j=some v->∃a,s.b.dv j=some a/\v.d.n=a.d.n/\v.d.cn<=a.d.cn:=λj v b=>by
   by_cases e:j=g.M
   .subst e;exact By.jh (m:=0) (λv=>⟨(dX v).1,(dX v).2⟩) b
   .rw [By.ei be e]at b;exact⟨v,b,rfl,QE _⟩
  refine⟨hF.cJ,(By.fW _ _ _).trans hF.N,λm v h b=>?_,λv b=>?_,d,hF.cy,hF.h',hF.wt,hF.mg⟩
  .obtain ⟨a,f,i,k⟩:=c m v b;have:=hF.mem m a h f;omega
  .obtain ⟨a,f,i,k⟩:=c g.M v b;have:=hF.gB a f;show 2+s.x.N<=_/\_;omega
theorem Gv[Lo](R B W r:Nat)(g:aA)(a:Nat)(s:Rs)(C:Nat)(w:QA)(h:cl w R B W r g a s)(hF:Fit g C s):aF 181 #[ar W] w λe b=>aL e (.int .u16 ((s.synced g).2:Nat))/\cl b R B W r g a (s.synced g).1/\Fr iN aG w b:=by
 unfold Rs.synced;by_cases e:s.x.sure=true
 .rw [ak e];refine(Ar W r B g.M s.x w h.kj e).mono ?_;rintro e d ⟨rfl,rfl⟩;exact⟨rfl,h,Fr.refl _ _ _⟩
 .rw [al e];refine(CT W r B g.M s.x s.b w h.kj h.ct (by rw[hF.N];omega) hF.bad (by simpa using e)).mono ?_;rintro e d ⟨rfl,f,i,c⟩;exact⟨rfl,⟨h.row.fr c rfl rfl rfl rfl,f,i,h.lo⟩,c.rw⟩
theorem rk[Lo](R B W r:Nat)(g:aA)(p:Nat)(s:Rs)(C:Nat)(w:QA)(h:cl w R B W r g p s)(hF:Fit g C s)(Z:5000<=C):aF 123 #[ar R] w (gZ R B W r g p (bT g s) w):=by
 obtain⟨H,D,N,b,c,E⟩:=eL w (ao #[ae 0,aH 0] 172);have d:=aY c E h.ct.low (h.below c);obtain⟨M,a3,I,x2⟩:=(h.below c).row.aM;obtain⟨k0,f0,z0⟩:=cr I;have F:=ad (Gv R B W r g p s C H (h.below c) hF);have l:=ad (λe=>pw (g:=g) hF e);have G:=ad Z;have P:w.heap.size<=D:=RN b;have K:QX ((s.synced g).2=0->bT g s=cd (s.synced g).1):=λe=>by funext Y k m;unfold bT;rw[ak e]
 have n:QX ((s.synced g).2≠0->bT g s (s.synced g).1 g.M (s.synced g).2):=λe=>by unfold bT;rw[al e];exact⟨rfl,rfl,rfl⟩
 obtain⟨X,J⟩:=ah (s.synced g);rw[J]at F l K n;obtain⟨Q,m⟩:=X;simp only at F l K n;go_enter func123,ntmps123;go_wp2_with fail
 try simp only[N,b]
 go_wp2_with fail;refine F.mono ?_;rintro e U ⟨rfl,f,a⟩;have q:=a.hp d.2.1 rfl;obtain⟨d1,d2,d3⟩:=cr q;have z:=ad (iq R B (some (ag W 0)) g p Q.ro m U f.row);have t:=(Fr.af (T:=iN) (S:=aG) d.1).tr a;have o:=aT f t q;by_cases A:m=0
 .subst A;rw[di]at z;have L:=ad (K rfl);have a0:=ad (λV (i:aq U V)=>rj R B W r g p Q C V (o.1.below i) (l rfl) G);go_wp2_with(first|(go_at_call 178;refine z.mono ?_;rintro e w4 ⟨rfl,i⟩;have j:=aB (aK i (ao #[ae 0,aH 0] 172)) ((i.block D d3).trans o.2.2))|(go_at_call 112;refine(a0 _ j.1).mono ?_;rintro e w5 ⟨Y,k,m,O,rfl,f,a⟩;obtain⟨a1,a2,u⟩:=cC k m;rw[u];have x:=a.hp ((QW _ _ _ (Z_ j.2)).trans j.2) rfl;obtain⟨d4,d5,d6⟩:=cr x;have y:=ca O f a u x));refine QT (v:=.agg #[ae a1,.int .u16 a2]) (by simp[RP,results123,go_sem];go_simp) rfl ?_;exact gZ.done (by rw[L.out];exact y.1) y.2.1 ((o.2.1.then j.1).tr y.2.2.1) y.2.2.2.2 P (by rw[<-b];exact d.2.2.1) y.2.2.2.1
 .rw [bl _ A]at z;have a4:¬(m:Int)=0:=aa;go_wp2_with(first|(go_at_call 178;refine z.mono ?_;rintro e w4 ⟨rfl,i⟩;obtain⟨d4,d5,d6⟩:=kp i D d3;have j:=aB i ((i.block D d3).trans o.2.2)));refine QT (v:=.agg #[ae g.M,aH m]) (by simp[RP,results123,go_sem];go_simp) rfl ?_;exact(gZ.done (n A) (o.1.below j.1) (o.2.1.then j.1) j.2 P (by rw[<-b];exact d.2.2.1) (bl _ A)).alloc _
structure LA[Lo](w0:M)(B:Nat)(b:By)(l:List Nat)(wr:M):Prop where
 ct:aC wr B (b.run (l.map dq)).1
 ok:(b.run (l.map dq)).2.2=0
 bY:Fr TB aG w0 wr
def Jt[Lo](B:Nat)(b:By)(l:List Nat)(w:M)(e:RV)(a:M):Prop:=
 aL e (hN (b.run (l.map dq)).2.1 (b.run (l.map dq)).2.2)/\aC a B (b.run (l.map dq)).1/\Fr TB aG w a
theorem rp(p:Nat->Bool)(h:k<=n):∃l,ZZ n p=ZZ k p++l:=by
 induction n with
 |zero=>obtain rfl:k=0:=J;exact⟨[],rfl⟩
 |succ n a=>
  by_cases e:k=n+1
  .subst e;exact⟨[],aJ⟩
  .obtain ⟨l,b⟩:=a J;exact⟨l++(if p n then[n]else[]),by rw[dP,b,SV]⟩
theorem Gw[Lo](R B:Nat)(a5:Option SR)(g:aA)(a6:Nat)(c:Ro)(b:By)(w:QA)(h:fg w R B a5 g a6 c)(x:aC w B b)(a7:g.M<=16)(a8:b.N=g.M+1):
  aF 202 #[ar R,.func (.func 56) #[] #[]] w (Jt B b (ob g c) w):=by
 obtain⟨V,D,b7,y,d,L⟩:=eL w (ao #[ae 0,aH 0] 172);have f:=ca d L x.low a8 (h.below d);obtain⟨b8,c2,I,x2⟩:=(h.below d).aM;have O:=ad I;obtain⟨k0,f0,z0⟩:=cr I;have a9:=ad (λj (b9:j<g.M) W (c0:Fr TB aG V W)=>jK R B a5 g a6 c j 0 W ((h.below d).fr c0 rfl rfl rfl rfl) b9 a7);have Y:QX (LA V B b (ZZ 0 λm=> !c.down m 0) V):=⟨x.below d,rfl,Fr.refl _ _ _⟩;unfold ob;obtain⟨M,b0⟩:=ah g.M;rw[b0]at k0 a7 a8 a9 O f|-;have b1:w.heap.size<=D:=RN y;clear h x I L b0 d;go_enter func202,ntmps202;go_wp2
 try simp only[b7,y]
 go_loopw [12] (λi wr=>∃k:Nat,i= ae k/\k<=M/\QX (LA V B b (ZZ k λm=> !c.down m 0) wr)) (λi _=>M-(intOf i).toNat)
 case atStart=>exact⟨0,rfl,QO _,Y⟩
 case round=>
  obtain⟨k,rfl,c3,o⟩:=hrel;have J:=o.bY.hp O rfl;obtain⟨y1,y2,y3⟩:=cr J;have a0:=o.bY.hp f.2.1 rfl;obtain⟨d1,d2,d3⟩:=cr a0;have a1:=aB J a0;clear J a0 k0;have b3:Lo.lo<=D:=by rw[<-y];exact f.2.2.1
  by_cases z:k<M
  .have Z:=ad z;have b4:(k:Int)<(M:Int):=aa;have p:=ad (a9 k z wr o.bY);have n:=dP k λm=> !c.down m 0;cases r:c.down k 0 with
   |true=>
    rw[r]at p n;have A:QX (ZZ (k+1) (λm=> !c.down m 0)=ZZ k λm=> !c.down m 0):=by show _=_;rw[n];simp
    clear r n;go_wp2_with(go_at_call 201;refine p.mono ?_;rintro e H ⟨rfl,rfl⟩);exact⟨⟨k+1,by go_num,Z,by rw[A.out];exact o⟩,by have:=Z.out;simp[intOf];omega⟩
   |false=>
    rw[r]at p n;have A:QX (ZZ (k+1) (λm=> !c.down m 0)=(ZZ k λm=> !c.down m 0)++ [k]):=by show _=_;rw[n];simp
    have s:=ik B k (b.run ((ZZ k λm=> !c.down m 0).map dq)).1 wr o.ct (by rw[By.gb,f.2.2.2.1];omega);have t:=By.jo (b:=b) (l:=(ZZ k λm=> !c.down m 0).map dq) (a:=dq k) o.ok;have u:QX ((b.run ((ZZ (k+1) λm=> !c.down m 0).map dq)).2.2≠0->b.run ((ZZ M λm=> !c.down m 0).map dq)=b.run ((ZZ (k+1) λm=> !c.down m 0).map dq)):=λe=>by obtain⟨q,c1⟩:=rp (λm=> !c.down m 0) (show k+1<=M from z);rw[c1,SH,By.pf e]
    have F:(ZZ (k+1) λm=> !c.down m 0).map dq=((ZZ k λm=> !c.down m 0).map dq)++ [dq k]:=by rw[A.out,SH];rfl
    rw[<-F]at t;unfold CC at s;obtain⟨X,a2⟩:=ah (b.run ((ZZ (k+1) λm=> !c.down m 0).map dq));rw[a2]at t u;obtain⟨b2,s2,P⟩:=X;simp only[dq]at t u;obtain⟨Q,C,E⟩:=t;rw[<-Q,<-C]at s;rw[<-C]at E;have b5:=ad s;have b6:=ad (λW=>fs k P W);have N:=aT a2 E u;clear r n s Q C E a2 u F;by_cases S:P=0
    .subst S;go_wp2_with(first|(go_at_call 201;refine p.mono ?_;rintro e H ⟨rfl,rfl⟩)|(go_at_call 56;refine b5.mono ?_;rintro e H ⟨rfl,T,G⟩;have K:=aB T G;clear T G));exact⟨⟨k+1,by go_num,Z,by rw[N.1];exact K.1,by rw[N.1],o.bY.tr K.2⟩,by have:=Z.out;simp[intOf];omega⟩
    .have c4:¬(P:Int)=0:=aa;rw[bl k S]at b6;go_wp2_with(first|(go_at_call 201;refine p.mono ?_;rintro e H ⟨rfl,rfl⟩)|(go_at_call 56;refine b5.mono ?_;rintro e H ⟨rfl,T,G⟩;obtain⟨p1,p2,p3⟩:=cr (G.hp a1.2 rfl);have K:=aB T G;clear T G)|(go_at_call 166;refine(b6 _).mono ?_;rintro e w4 ⟨rfl,x⟩;obtain⟨p4,p5,p6⟩:=kp x D p3;have a3:=ad x;clear x));have a4:=(a3.block D p3).trans (K.2.hp a1.2 rfl);obtain⟨F,e2,-⟩:=dI (w:=w) (((Fr.af f.1).tr (o.bY.tr K.2)).then a3) (K.1.below a3) a4 b1 b3 (ae k) (aH P);refine QT (v:=.agg #[ae k,aH P]) (by simp[RP,results202,go_sem];go_simp) rfl ?_;unfold Jt;rw[N.2.2 S];have U:=N.2.1 S
     (try simp only at U)
     subst U;exact⟨by rw[bl _ S],e2,F⟩
  .obtain rfl:M=k:=aa;go_wp2;obtain⟨F,e2,-⟩:=dI (w:=w) ((Fr.af f.1).tr o.bY) o.ct a1.2 b1 b3 (ae 0) (aH 0);refine QT (v:=.agg #[ae 0,aH 0]) (by simp[RP,results202,go_sem];go_simp) rfl ⟨?_,e2,F⟩;rw[o.ok];rfl
theorem px[Lo](R B W r:Nat)(g:aA)(m:Nat)(s:Rs)(C:Nat)(w:M)(h:cl w R B W r g m s)(hF:Fit g C s):aF 137 #[ar R] w (gZ R B W r g m (dZ g s) w):=by
 obtain⟨x,D,y,d,c,n⟩:=eL w (ao #[Y 0,aH 0] 172);have a:=aY c n h.ct.low (h.below c);have z:w.heap.size<=D:=RN d;have f:=I (Gw R B (some (ag W 0)) g m s.ro s.b x (h.below c).row (h.below c).ct hF.cJ.m16 hF.N);obtain⟨X,q⟩:=ah (s.b.run ((ob g s.ro).map dq));unfold Jt at f;rw[q]at f;obtain⟨A,k,t⟩:=X;simp only at f;have o:QX (dZ g s {s with b:=A} k t):=⟨q,rfl,rfl⟩;obtain⟨E,F,i⟩:=cC k t;rw[i]at f;have p:=I i;go_enter func137,ntmps137;go_wp2_with fail
 try simp only[y,d]
 go_wp2_with(go_at_call 202;refine f.mono ?_;rintro e K ⟨rfl,G,u⟩;have j:=u.hp a.2.1 rfl;obtain⟨d1,d2,d3⟩:=cr j;have l:=aT G u j);refine QT (v:=.agg #[Y E,.int .u16 F]) (by simp[RP,results137,go_sem];go_simp) rfl ?_;refine gZ.done o ⟨a.2.2.2.row.fr l.2.1 rfl rfl rfl rfl,l.1,a.2.2.2.kj.fr l.2.1 rfl rfl rfl rfl,a.2.2.2.lo⟩ ((Fr.af a.1).tr l.2.1.rb) l.2.2 z (by rw[<-d];exact a.2.2.1) p
theorem Fit.less{C C':Nat}(h:Fit g C s)(c:C'<=C):Fit g C' s:=
 ⟨h.cJ,h.N,λm v b a=>⟨(h.mem m v b a).1,by have:=(h.mem m v b a).2;omega⟩,λv a=>⟨(h.gB v a).1,by have:=(h.gB v a).2;omega⟩,h.bad,(by have:=h.cy;omega),h.h',h.wt,h.mg⟩
theorem Fit.run(h:Fit g C s){l:List fR}(t:l.length<=n)(u:n<=C)(o:∀a,a∈l->∀v:Dv,(a.2 v).1.d.n=v.d.n/\(a.2 v).1.d.cn<=v.d.cn+1){b':By}{k er:Nat}(i:s.b.run l=(b',k,er)):Fit g (C-n) {s with b:=b'}:=by
 have d:∀j v,b'.dv j=some v->∃c,s.b.dv j=some c/\v.d.n=c.d.n/\v.d.cn<=c.d.cn+l.length:=λj v e=>By.gI o (by rw[i];exact e);refine⟨h.cJ,?_,λm v p e=>?_,λv e=>?_,h.bad,(show s.x.ep+(C-n)<=_/\1<=s.x.nx/\s.x.nx+(C-n)<=_ by have:=h.cy;omega),h.h',h.wt,h.mg⟩
 .have:=By.gb s.b l;rw[i]at this;exact this.trans h.N
 .obtain ⟨c,f,q,r⟩:=d m v e;have:=h.mem m c p f;omega
 .obtain ⟨c,f,q,r⟩:=d g.M v e;have:=h.gB c f;show 2+s.x.N<=_/\_;omega
theorem Fit.OU(h:Fit g C s)(sl:Bool):Fit g C {s with ro:={s.ro with wt:= [],sl:=sl}}:=
 ⟨h.cJ,h.N,h.mem,h.gB,h.bad,h.cy,QO _,λp a=>(by cases a),ZI⟩
theorem Fit.sl(h:Fit g C s)(a:Bool):Fit g C {s with ro:={s.ro with sl:=a}}:=
 ⟨h.cJ,h.N,h.mem,h.gB,h.bad,h.cy,h.h',h.wt,h.mg⟩
theorem gJ{s a:Rs}(h:Fit g C s)(f:5000<=C)(i:dh s a k n):Fit g (C-5000) a:=by
 obtain⟨l,j,c,d,e⟩:=i;have m:((fK s.ro l).map gY).length<=5000:=by rw[RB];refine QD (VI ..) ?_;rw[j.length_eq];exact h.h'
 have b:=h.run m f gH c;obtain⟨p,q,o⟩:=a;simp only at c d e b;subst d;subst e;split
 .exact b.OU s.ro.sl
 .exact b
theorem py{s b:Rs}(h:Fit g C s)(c:5000<=C)(a:cd s b k n):Fit g (C-5000) b:=by
 unfold cd at a;split at a
 .exact gJ h c a
 .rw [a.1];exact h.less (Nat.sub_le ..)
theorem eE{s b:Rs}(h:Fit g C s)(d:5000<=C)(c:(s.synced g).2=0)(a:bT g s b k n):Fit g (C-5000) b:=by unfold bT at a;rw[ak c]at a;exact py (pw h c) d a
theorem ea{s b:Rs}(a:bT g s b k 0):(s.synced g).2=0:=by
 unfold bT at a;split at a
 .assumption
 .exact a.2.2.symm
theorem sG(a:g.ok)(b:Ro):(ob g b).length<=16:=QD (fy _ _) a.m16
theorem fM{s a:Rs}(h:Fit g C s)(f:5000<=C)(i:dZ g s a k m):Fit g (C-5000) a:=by obtain⟨b,c,d⟩:=i;have e:=h.run (n:=5000) (by rw[RB];have:=sG h.cJ s.ro;omega) f xe b;obtain⟨l,o,j⟩:=a;simp only at b c d e;subst c;subst d;exact e
theorem xn[Lo](R B W r:Nat)(g:aA)(a:Nat)(s:Rs)(C:Nat)(w:QA)(h:cl w R B W r g a s)(hF:Fit g C s)(i:s.x.sure=true):aF 179 #[ar W] w λe c=>aL e (.int .u16 ((s.nu g s.x.ep).2:Nat))/\cl c R B W r g a {s with b:=(s.nu g s.x.ep).1,x:=s.x.qo s.x.ep (s.nu g s.x.ep).2}/\Fr iN aG w c:=by refine(uw W r B g.M s.x s.b w h.kj h.ct (by rw[hF.N];omega) hF.cM (λv d=>⟨(hF.gB v d).1,by have:=(hF.gB v d).2;omega⟩) hF.bad i).mono ?_;rintro e l ⟨rfl,j,k,f⟩;exact⟨rfl,⟨h.row.fr f rfl rfl rfl rfl,j,k,h.lo⟩,f.rw⟩
theorem nw{s b:Rs}(a:cd s b k n):b.x=s.x:=by
 unfold cd at a;split at a
 .obtain ⟨_,_,_,h,_⟩:=a;exact h
 .rw [a.1]
theorem ny{s c:Rs}(b:bT g s c k 0):c.x.sure=true:=by
 have a:=ea b;unfold bT at b;rw[ak a]at b;rw[nw b];unfold Rs.synced at a|-;by_cases e:s.x.sure=true
 .rw [ak e];exact e
 .rw [al e]at a|-;simp only at a|-;rw[a];rfl
def uQ[Lo](R B W r:Nat)(g:aA)(b:Nat)(s:Rs)(k:Nat)(w:M):Prop:=
 (k=0/\cl w R B W r g b s)\/(k=1/\∃a c,bT g s a c 0/\cl w R B W r g b a)\/(k=2/\∃a c d e,bT g s a c 0/\dZ g a d e 0/\cl w R B W r g b d)
theorem uQ.below[Lo]{R B W r:Nat}(h:uQ R B W r g n s k w)(a:aq w z):uQ R B W r g n s k z:=by
 rcases h with⟨rfl,h⟩|⟨rfl,b,c,d,h⟩|⟨rfl,b,c,e,f,d,i,h⟩
 .exact .inl ⟨rfl,h.below a⟩
 .exact .inr (.inl ⟨rfl,b,c,d,h.below a⟩)
 .exact .inr (.inr ⟨rfl,b,c,e,f,d,i,h.below a⟩)
def LB[Lo](R B W r:Nat)(g:aA)(c:Nat)(s:Rs)(k:Nat)(w:M)(e:RV)(b:M):Prop:=
 ∃q a,aL e (hN q a)/\Fr iN aG w b/\(a=0->uQ R B W r g c s (k+1) b)/\(a≠0->∃d,fY g s d q a/\cl b R B W r g c d)
theorem ND[Lo](R B W r:Nat)(g:aA)(a:Nat)(s:Rs)(C:Nat)(w:M)(h:uQ R B W r g a s 0 w)(hF:Fit g C s)(j:20000<=C):aF 123 #[ar R] w (LB R B W r g a s 0 w):=by
 rcases h with⟨_,h⟩|⟨h,_⟩|⟨h,_⟩
 .refine (rk R B W r g a s C w h hF J).mono ?_;rintro e l ⟨b,k,f,c,rfl,d,i⟩;refine⟨k,f,rfl,i,λe=>?_,λe=>⟨b,.inr ⟨c,e⟩,d⟩⟩;subst e;exact .inr (.inl ⟨rfl,b,k,c,d⟩)
 .omega
 .omega
theorem NF[Lo](R B W r:Nat)(g:aA)(b:Nat)(s:Rs)(C:Nat)(w:M)(h:uQ R B W r g b s 1 w)(hF:Fit g C s)(n:20000<=C):aF 137 #[ar R] w (LB R B W r g b s 1 w):=by
 rcases h with⟨h,_⟩|⟨_,c,d,a,h⟩|⟨h,_⟩
 .omega
 .refine (px R B W r g b c (C-5000) w h (eE hF J (ea a) a)).mono ?_;rintro e o ⟨f,k,l,i,rfl,j,m⟩;refine⟨k,l,rfl,m,λe=>?_,λe=>⟨f,.inl ⟨c,d,a,.inr ⟨i,e⟩⟩,j⟩⟩;subst e;exact .inr (.inr ⟨rfl,c,d,f,k,a,i,j⟩)
 .omega
theorem uR[Lo](R B W r:Nat)(g:aA)(l:Nat)(s:Rs)(C:Nat)(w:QA)(h:cl w R B W r g l s)(hF:Fit g C s)(b4:20000<=C):aF 114 #[ar R] w (gZ R B W r g l (fY g s) w):=by
 obtain⟨Q,D,b5,u,y,H⟩:=eL w (ao #[ae 0,aH 0] 172);have j:=aY y H h.ct.low (h.below y);have N:w.heap.size<=D:=RN u;have d:=aB hF b4;obtain⟨S,a9⟩:=ah Q.heap.size;obtain⟨Z,M⟩:=ah (Q.alloc (ao #[.func (.func 123) #[ar R] #[],.func (.func 137) #[ar R] #[]] 175));have z:aq Q Z:=by rw[<-M];exact aK aj _
 have I:aX Z S (ao #[.func (.func 123) #[ar R] #[],.func (.func 137) #[ar R] #[]] 175):=by rw[<-M,<-a9];exact QB _ _
 have Y:QX (Fr iN aG Q Z/\uQ R B W r g l s 0 Z):=⟨Fr.af z,.inl ⟨rfl,(h.below y).below z⟩⟩;have J:=aB I z;go_enter func114,ntmps114;go_wp2
 try simp only[b5,u,M,a9]
 go_loopw [12] (λi wr=>∃k:Nat,i= ae k/\k<=2/\QX (aX wr S (ao #[.func (.func 123) #[ar R] #[],.func (.func 137) #[ar R] #[]] 175)/\Fr iN aG Q wr/\uQ R B W r g l s k wr)) (λi _=>2-(intOf i).toNat)
 case atStart=>exact⟨0,rfl,QO _,J.1,Y⟩
 case round=>
  obtain⟨k,rfl,c4,p⟩:=hrel;obtain⟨b6,a0,A⟩:=p.out;obtain⟨s1,s2,s3⟩:=cr b6;have b7:=a0.hp j.2.1 rfl;have a1:=ad b7;have a2:Lo.lo<=D:=by rw[<-u];exact j.2.2.1
  have a3:k=0\/k=1\/k=2:=aa;rcases a3 with e|e|e
  .subst e;have a4:=ad (ND R B W r g l s C wr A d.1 d.2);go_wp2_with fail;refine a4.mono ?_;rintro e O ⟨q,f,rfl,m,P,g3⟩;have c:=m.hp a1 rfl;obtain⟨d4,d5,d6⟩:=cr c;have a:=ca m P g3 c (m.hp p.1 rfl);by_cases n:f=0
   .subst n;rw[di];have E:=ad (a.2.1 rfl);go_wp2;have F:∀o,aq O (O.alloc o):=λo=>aK aj o;exact⟨⟨1,aJ,aa,(QW _ _ _ (Z_ a.2.2.2.2)).trans a.2.2.2.2,(p.2.1.tr a.1).alloc _,E.below (F _)⟩,by simp[intOf]⟩
   .rw [bl q n];have b8:¬(f:Int)=0:=aa;obtain⟨b9,t,G⟩:=a.2.2.1 n;have T:=aB t G;go_wp2;refine QT (v:=.agg #[ae q,aH f]) (by simp[RP,results114,go_sem];go_simp) rfl ?_;exact(gZ.done T.1 T.2 (((Fr.af j.1).tr p.2.1).tr a.1) a.2.2.2.1 N a2 (bl q n)).alloc _
  .subst e;have a4:=ad (NF R B W r g l s C wr A d.1 d.2);go_wp2_with fail;refine a4.mono ?_;rintro e O ⟨q,f,rfl,m,P,g3⟩;have c:=m.hp a1 rfl;obtain⟨d4,d5,d6⟩:=cr c;have a:=ca m P g3 c (m.hp p.1 rfl);by_cases n:f=0
   .subst n;rw[di];have E:=ad (a.2.1 rfl);go_wp2;have F:∀o,aq O (O.alloc o):=λo=>aK aj o;exact⟨⟨2,aJ,aa,(QW _ _ _ (Z_ a.2.2.2.2)).trans a.2.2.2.2,(p.2.1.tr a.1).alloc _,E.below (F _)⟩,by simp[intOf]⟩
   .rw [bl q n];have b8:¬(f:Int)=0:=aa;obtain⟨b9,t,G⟩:=a.2.2.1 n;have T:=aB t G;go_wp2;refine QT (v:=.agg #[ae q,aH f]) (by simp[RP,results114,go_sem];go_simp) rfl ?_;exact(gZ.done T.1 T.2 (((Fr.af j.1).tr p.2.1).tr a.1) a.2.2.2.1 N a2 (bl q n)).alloc _
  .subst e;rcases A with⟨e,-⟩|⟨e,-⟩|⟨-,t1,k1,t2,k2,t,G,h3⟩
   .omega
   .omega
   .have a5:=fM (eE d.1 (by have:=d.2;omega) (ea t) t) (by have:=d.2;omega) G;have a6:t2.x.sure=true:=by rw[G.2.1];exact ny t
    obtain⟨c0,c5,x1,x2⟩:=h3.row.aM;obtain⟨k5,f5,z5⟩:=cr x1;have K:=ad (xn R B W r g l t2 _ wr h3 a5 a6);have L:QX (∀f:Nat,f=(t2.nu g t2.x.ep).2->fY g s {t2 with b:=(t2.nu g t2.x.ep).1,x:=t2.x.qo t2.x.ep (t2.nu g t2.x.ep).2} g.M f):=λf e=>.inl ⟨t1,k1,t,.inl ⟨t2,k2,G,rfl,rfl,e⟩⟩;obtain⟨X,c1⟩:=ah (t2.nu g t2.x.ep);rw[c1]at K L;obtain⟨b3,f⟩:=X;simp only at K L;have U:=ad (L f rfl);obtain⟨c2,c3,V⟩:=cC g.M f;have b0:=ad (λb1 (h:fg b1 R B (some (ag W 0)) g l t2.ro)=>iq R B (some (ag W 0)) g l t2.ro f b1 h);rw[V]at b0;have a7:=ad V;go_wp2_with(first|(go_at_call 179;refine K.mono ?_;rintro e O ⟨rfl,m,P⟩;have c:=P.hp a1 rfl;obtain⟨d4,d5,d6⟩:=cr c;have a:=aT m P c)|(go_at_call 178;refine(b0 _ a.1.row).mono ?_;rintro e w4 ⟨rfl,b2⟩;obtain⟨d7,d8,d9⟩:=kp b2 D d6;have a8:=ad b2));refine QT (v:=.agg #[ae c2,.int .u16 c3]) (by simp[RP,results114,go_sem];go_simp) rfl ?_;exact gZ.done U (a.1.below a8) ((((Fr.af j.1).tr p.2.1).tr a.2.1).then a8) ((a8.block D d6).trans a.2.2) N a2 a7
def Wl.eo(x:Wl)(c a:Nat):Wl:=if a=0 then{x with nx:=x.nx+1,sure:=false,lg:=none,u:=x.u+c,bad:=0}else{x with bad:=a}
theorem Dt[Lo](W r B J c:Nat)(f:aN)(x:Wl)(b:By)(w:QA)(G:bH w W r B J x)(h:aC w B b)(Y:J<b.N)(Z:x.lg=some (c,f))(a0:1<=c)(a1:x.u+c<=x.N)(a2:x.nx<=4611686018427387904)(H:∀v,b.dv J=some v->2+x.N<=v.d.n/\v.d.cn<1000000000000)(L:x.bad=0):
  aF 257 #[ar W] w (hK W r B J (x.eo c (b.op J (aR (x.pl (c-1)) f)).2) (b.op J (aR (x.pl (c-1)) f)).1 (b.op J (aR (x.pl (c-1)) f)).2 w):=by
 obtain⟨p,j⟩:=G;have G:bH w W r B J x:=⟨p,j⟩;have i:=j.lg;rw[Z]at i;obtain⟨g,v,rfl,a3,y⟩:=i;obtain⟨O,f0,z0⟩:=cr j.aM;obtain⟨q0,a4,a5⟩:=cr a3;rw[L]at O;have a6:=j.ring.hi;obtain⟨a7,a8,rfl⟩:=y.form;have z:=ad (λ(s:QA) (m:Fr [] aG w s)=>(qV W r B J (c-1) x b (.slice a7 128 a8) f s (G.fr m rfl rfl rfl rfl) (h.fn m rfl) Y (y.fr m rfl) aa H L).mono (R':=Ia W r B J x b (aR (x.pl (c-1)) f) w) λe a9 g=>⟨g.1,g.2.1,g.2.2.1,(m.wide fV rfl).tr g.2.2.2⟩);have P:=ad Z;have e1:QG.wrap ((c:Int)-1)=(c-1:Nat):=bs;have b0:VP.wrap ((x.nx:Int)+1)=(x.nx+1:Nat):=bs;obtain⟨M,Q⟩:=ah (c-1);rw[Q]at z e1;rw[Q];clear G H L Q;go_enter func257,ntmps257;go_wp2_with fail
 go_region_law (first|(go_simp;go_at_call 304;refine(z _ (by first|exact(Fr.refl _ _ _).drew|exact(Fr.refl _ _ _).drewN _|exact(Fr.refl _ _ _).drew.drewN _)).mono ?_;rintro e s ⟨rfl,t,⟨p2,d⟩,u⟩;have S:=aT t d u))
 all_goals(
  obtain⟨E,l⟩:=ah ((b.op J (aR (x.pl M) f)).2);rw[l];obtain⟨t,d,u⟩:=S.out;have N:=ad l;by_cases R:E=0
  .subst R;have i:=d.lg;rw[show({x with bad:=(b.op J (aR (x.pl M) f)).2}:Wl).lg=some (c,f)from P.out]at i;obtain⟨b3,b4,rfl,T,b1⟩:=i;obtain⟨O,f0,z0⟩:=cr d.aM;obtain⟨q0,a4,a5⟩:=cr T;rw[l]at O;have U:=ad (λ(I:QA) (m:Fr [] aG s I)=>(Gc r x.N x.t x.u c I (d.ring.fr m rfl) d.lo.2 a1).mono (R':=ur r x.N x.t (x.u+c) s) (by rintro e a9 ⟨a,n,c2,rfl,q1,q2⟩;exact⟨a,n,c2,rfl,q1,(m.wide TR rfl).tr q2⟩));have V:=aT t d u;clear l;go_wp2_with fail
   go_region_law (first|(go_simp;go_at_call 305;refine(U _ (by first|exact(Fr.refl _ _ _).drew|exact(Fr.refl _ _ _).drewN _|exact(Fr.refl _ _ _).drew.drewN _)).mono ?_;rintro e K ⟨b5,b6,b7,rfl,X,A⟩;have b2:=aB X A))
   all_goals(
    obtain⟨X,A⟩:=b2.out;obtain⟨t,d,u⟩:=V.out;have o:=A.hp d.aM rfl;have C:=heap_setCell_same K W 4 _ 153 (.int .u64 ((x.nx+1:Nat):Int)) o;have D:=heap_setCell_same _ W 5 _ 153 iL C;have F:=heap_setCell_same _ W 6 _ 153 (.pointer none) D;have k:Fr [153] aG K (((K.setCell (ag W 4) (.int .u64 ((x.nx+1:Nat):Int))).setCell (ag W 5) iL).setCell (ag W 6) (.pointer none)):=(((Fr.refl _ _ _).set (p:=ag W 4) o rfl d.lo.1 _).set (p:=ag W 5) C rfl d.lo.1 _).set (p:=ag W 6) D rfl d.lo.1 _;have q:QX (hK W r B J (x.eo c (b.op J (aR (x.pl M) f)).2) (b.op J (aR (x.pl M) f)).1 (b.op J (aR (x.pl M) f)).2 w (.returned (aH 0)) (((K.setCell (ag W 4) (.int .u64 ((x.nx+1:Nat):Int))).setCell (ag W 5) iL).setCell (ag W 6) (.pointer none))):=by rw[N.out];rw[N.out]at F;exact⟨rfl,(t.fn A rfl).fn k rfl,⟨none,F,X.fr k rfl,rfl,d.lo⟩,u.tr ((A.wide fV rfl).tr (k.wide fV rfl))⟩
    obtain⟨k1,f1,z1⟩:=cr o;clear k;go_wp2;go_ret;exact q)
  .have q:QX (hK W r B J (x.eo c (b.op J (aR (x.pl M) f)).2) (b.op J (aR (x.pl M) f)).1 (b.op J (aR (x.pl M) f)).2 w (.returned (aH E)) s):=by
    refine⟨by rw[l],t,⟨p2,?_⟩,u⟩;unfold Wl.eo;rw[l,al R];rw[l]at d;exact d
   have b8:(E:Int)≠0:=aa;clear l;go_wp2;go_ret;exact q)
def hj(g:aA)(s a:Rs)(k b:Nat):Prop:=if s.ro.lz=true then a=s/\k=0/\b=0 else bT g s a k b
def Rs.cT(g:aA)(s:Rs)(c:Nat)(f:aN):By × Nat:=s.b.op g.M (aR (s.x.pl (c-1)) f)
def Du(g:aA)(c:Nat)(f:aN)(l:List Pt)(s a:Rs)(k d:Nat):Prop:=
 a={b:=(s.cT g c f).1,x:=s.x.eo c (s.cT g c f).2,ro:=if(s.cT g c f).2=0 then{s.ro with sl:=true,wt:=l}else s.ro}/\k=g.M/\d=(s.cT g c f).2
theorem Dw[Lo](q:M)(T R B W r:Nat)(g:aA)(l:Nat)(s:Rs)(C:Nat)(pv t:H)(u:List Pt)(w:M)(h:cl w R B W r g l s)(x:sC q w T R pv t u)(hF:Fit g C s)(y:5000<=C):aF 172 #[ar T] w (gZ R B W r g l (dh s) w):=by
 obtain⟨z,D,A,c,a,m⟩:=eL w (N #[Y 0,aH 0] 172);have b:=aY a m h.ct.low (h.below a);have E:w.heap.size<=D:=RN c;obtain⟨L,j,O⟩:=x.aM;have n:=(a.block T (Z_ j)).trans j;obtain⟨t0,t1,t2⟩:=cr n;have F:=I (ri R B W r g l s C z (h.below a) hF y);go_enter func172,ntmps172;go_wp2_with fail
 try simp only[A,c]
 go_wp2_with(go_at_call 177;refine F.mono ?_;rintro e P ⟨Q,k,G,o,rfl,p,d⟩;obtain⟨K,j,f⟩:=cC k G;rw[f];obtain⟨d1,d2,d3⟩:=cr (d.hp b.2.1 rfl);have i:=aY o p d f);refine QT (v:=.agg #[Y K,.int .u16 j]) (by simp[RP,results172,go_sem];go_simp) rfl ?_;exact gZ.done i.1 i.2.1 ((Fr.af b.1).tr i.2.2.1) (i.2.2.1.hp b.2.1 rfl) E (by rw[<-c];exact b.2.2.1) i.2.2.2
theorem Ju[Lo](E:QA)(T R B W r:Nat)(g:aA)(o:Nat)(s:Rs)(C:Nat)(pv F:QC)(G:List Pt)(w:QA)(h:cl w R B W r g o s)(K:sC E w T R pv F G)(hF:Fit g C s)(L:5000<=C):aF 174 #[ar T] w (gZ R B W r g o (hj g s) w):=by
 obtain⟨O,D,x,b,c,i⟩:=eL w (ao #[ae 0,aH 0] 172);have a:=aY c i h.ct.low (h.below c);have y:w.heap.size<=D:=RN b;obtain⟨I,n,Y⟩:=K.aM;have p:=(c.block T (Z_ n)).trans n;obtain⟨t0,t1,t2⟩:=cr p;obtain⟨P,Q,S⟩:=cr i;obtain⟨U,V,X,J⟩:=(h.below c).row.aM;obtain⟨z,f0,z0⟩:=cr X;have Z:=ad (rk R B W r g o s C O (h.below c) hF L);have H:QX (s.ro.lz=false->hj g s=bT g s):=λe=>by funext N k A;unfold hj;rw[al (by rw[e];decide)]
 have q:QX (s.ro.lz=true->hj g s s 0 0):=λe=>by unfold hj;rw[ak e];exact⟨rfl,rfl,rfl⟩
 cases d:s.ro.lz with
 |true=>
  rw[d]at z;have f:=ad (q d);go_enter func174,ntmps174;go_wp2_with fail
  try simp only[x,b]
  go_wp2_with fail;refine QT (v:=.agg #[ae 0,aH 0]) (by simp[RP,results174,go_sem];go_simp) rfl (gZ.done f a.2.2.2 (Fr.af a.1) a.2.1 y (by rw[<-b];exact a.2.2.1) rfl)
 |false=>
  rw[d]at z;have f:=ad (H d);go_enter func174,ntmps174;go_wp2_with fail
  try simp only[x,b]
  go_wp2_with(go_at_call 123;refine Z.mono ?_;rintro e w3 ⟨N,k,A,t,rfl,u,j⟩;obtain⟨M,n,l⟩:=cC k A;rw[l];obtain⟨d1,d2,d3⟩:=cr (j.hp a.2.1 rfl);have m:=aY t u j l);refine QT (v:=.agg #[ae M,.int .u16 n]) (by simp[RP,results174,go_sem];go_simp) rfl ?_;exact gZ.done (by rw[f.out];exact m.1) m.2.1 ((Fr.af a.1).tr m.2.2.1) (m.2.2.1.hp a.2.1 rfl) y (by rw[<-b];exact a.2.2.1) m.2.2.2
structure uS[Lo](wA:M)(R B W r:Nat)(g:aA)(fb:Nat)(s:Rs)(v:H)(wl:List Pt)(ta tb:Int)(T':Nat)(wx:M):Prop where
 new:wA.heap.size<=T'
 Pv:wx.heap[T']? =some (N #[Y ta,.int .u16 tb] 172)
 rs:cl wx R B W r g fb s
 bY:Fr iN aG wA wx
 yz:e' wx v wl
theorem uS.vY[Lo]{a b:Int}(h:z.heap[j]?=some (N #[x,y] 172))(c:w.heap.size<=j)(e:Lo.lo<=w.heap.size)(f:cl z n m k r g i s)(o:Fr iN aG w z)(q:e' z v l):
  uS w n m k r g i s v l a b j ((z.setCell (R j 0) (Y a)).setCell (R j 1) (.int .u16 b)):=by
 have d:=jm (ns z j (Y a) (.int .u16 b)) h (QD e c);refine⟨c,?_,f.fr d rfl,(o.new (p:=R j 0) c _).new (p:=R j 1) c _,q.fr d rfl rfl⟩;have t:=heap_setCell_same z j 0 _ 172 (Y a) h;have u:=heap_setCell_same (z.setCell (R j 0) (Y a)) j 1 _ 172 (.int .u16 b) t;rw[u];rfl
theorem uS.fresh[Lo]{a b:Int}(d:cl z n m k r g i s)(c:Fr iN aG w z)(e:e' z v l):
  uS w n m k r g i s v l a b z.heap.size (z.alloc (N #[Y a,.int .u16 b] 172)):=
 ⟨c.size,QB _ _,d.below (aK aj _),c.alloc _,e.below (aK aj _)⟩
theorem xp[Lo](w0:QA)(T R B W r:Nat)(g:aA)(P:Nat)(s:Rs)(C c:Nat)(f:aN)(pv d3:QC)(t:List Pt)(w:QA)(h:cl w R B W r g P s)(d4:sC w0 w T R pv d3 t)(hF:Fit g C s)(d5:s.x.lg=some (c,f))(a3:1<=c)(b5:s.x.u+c<=s.x.N):
  aF 173 #[ar T] w (gZ R B W r g P (Du g c f t s) w):=by
 obtain⟨V,D,d6,u,a,a4⟩:=eL w (ao #[ae 0,aH 0] 172);have j:=aY a a4 h.ct.low (h.below a);have b6:w.heap.size<=D:=RN u;obtain⟨g6,A,d7⟩:=d4.aM;have d8:T<D:=by rw[<-u];exact Z_ A
 have G:=(a.block T (Z_ A)).trans A;have Z:=(d7.below a).yz;obtain⟨Q,U,rfl,-⟩:=id Z;obtain⟨t0,t1,t2⟩:=cr G;obtain⟨d9,e0,x1,x2⟩:=(h.below a).row.aM;obtain⟨k0,f0,z0⟩:=cr x1;have H:∀E,aq V E->aF 257 #[ar W] E (λe d=>aL e (.int .u16 ((s.cT g c f).2:Nat))/\(cl d R B W r g P {s with b:=(s.cT g c f).1,x:=s.x.eo c (s.cT g c f).2}/\Fr iN aG V d/\e' d (.slice Q t.length U) t)/\(d.cell? ⟨T,0,none⟩=some (ar R)/\d.cell? ⟨T,3,none⟩=some (.slice Q t.length U)/\d.cell? ⟨R,4,none⟩=some (ar W))/\∀k o,E.heap[k]?=some o->iN.contains (ty o)=false->d.heap[k]?=some o):=λE a5=>by refine(Dt W r B g.M c f s.x s.b E ((h.below a).below a5).kj ((h.below a).below a5).ct (by rw[hF.N];omega) d5 a3 b5 hF.cM.2.2 (λv b7=>⟨(hF.gB v b7).1,by have:=(hF.gB v b7).2;omega⟩) hF.bad).mono ?_;rintro e d ⟨rfl,g1,g2,g3⟩;have K:=(Fr.af (T:=fV) (S:=aG) a5).tr g3;have q1:=(cr (K.hp G rfl)).1;exact⟨rfl,⟨⟨(h.below a).row.fr K rfl rfl rfl rfl,g1,g2,h.lo⟩,K.rw,Z.fr K rfl rfl⟩,⟨q1 0,q1 3,(cr (K.hp x1 rfl)).1 4⟩,λk o e7 e8=>g3.rw.hp e7 e8⟩
 have y:QX (∀l:Nat,l=(s.cT g c f).2->Du g c f t s {b:=(s.cT g c f).1,x:=s.x.eo c (s.cT g c f).2,ro:=if(s.cT g c f).2=0 then{s.ro with sl:=true,wt:=t}else s.ro} g.M l):=λl e=>⟨rfl,rfl,e⟩;obtain⟨X,b8⟩:=ah (s.cT g c f);rw[b8]at H y;obtain⟨b2,l⟩:=X;simp only at H y;have i:=ad (y l rfl);obtain⟨e9,N⟩:=ah (s.x.eo c l);rw[N]at H i;have b9:=ad (λE (h:fg E R B (some ⟨W,0,none⟩) g P s.ro)=>iq R B (some ⟨W,0,none⟩) g P s.ro l E h);have c0:=ad H;have c4:=aB G x1;obtain⟨n,c5⟩:=ah t.length;rw[c5]at t0 c0 c4;clear H y N b8 b5 c5;obtain⟨a2,A,z⟩:=cC g.M l;have M:=ad z;rw[z]at b9;have c6:=ad (show Lo.lo<=V.heap.size from QD j.2.2.1 j.1.size);go_enter func173,ntmps173;go_wp2_with fail
 try simp only[d6,u]
 go_cut [3,15,16] (λs3 a6 a7 f2=>∃a8,s3= ar a8/\a6= aH l/\a7=.agg #[ae a2,.int .u16 A]/\QX (uS V R B W r g P {s with b:=b2,x:=e9} (.slice Q n U) t a2 A a8 f2))
 case first=>
  go_region_held3(λd=>d.cell? ⟨T,0,none⟩=some (ar R)/\d.cell? ⟨T,3,none⟩=some (.slice Q n U)/\d.cell? ⟨R,4,none⟩=some (ar W)) ((simp[*,go_sem];done)) (first|(go_at_call 257;refine(c0 _ bF).mono ?_;rintro e w3 ⟨rfl,g1,⟨g2,g3,K⟩,g5⟩;(try(have F:=g5 _ _ (QB V (ao #[ae 0,aH 0] 172)) rfl;obtain⟨c7,f7,z7⟩:=cr F;have H7:=ad F));have m:=ad g1;have a9:=QN _ _ g2;have b0:=QN _ _ K)|(go_at_call 178;refine(b9 _ (m.1.below bF).row).mono ?_;rintro e w4 ⟨rfl,b1⟩;(try(have F:=(b1.block _ dG).trans H7;obtain⟨c8,f8,z8⟩:=cr F;have H8:=ad F));(try(have F:=(b1.block _ dG).trans (QB w3 (ao #[ae 0,aH 0] 172));obtain⟨c9,f9,z9⟩:=cr F;have H9:=ad F));have p:QX (aq w3 w4):=via bF b1;obtain⟨q1,q2,q3⟩:=kp p T a9;obtain⟨q4,q5,q6⟩:=kp p R b0))
  all_goals go_wp2
  all_goals go_meet
  all_goals first
   |exact⟨_,rfl,rfl,rfl,uS.vY H8 (QE _) c6 (m.1.below p) (m.2.1.then p) (m.2.2.below p)⟩
   |exact⟨_,rfl,rfl,rfl,uS.vY H9 m.2.1.size c6 (m.1.below p) (m.2.1.then p) (m.2.2.below p)⟩
   |exact⟨_,rfl,rfl,rfl,uS.fresh (m.1.below p) (m.2.1.then p) (m.2.2.below p)⟩
 case rest=>
  rename_i f3;refine f3 _ _ ?_;obtain⟨a8,rfl,rfl,rfl,q⟩:=hcut;have d0:=q.bY.hp j.2.1 rfl;obtain⟨e1,e2,e3⟩:=cr d0;have z:=q.bY.hp c4.1 rfl;obtain⟨e4,e5,e6⟩:=cr z;obtain⟨c1,c2,c3⟩:=cr q.Pv;obtain⟨d1,f4,y1,y2⟩:=q.rs.row.aM;obtain⟨k1,f1,z1⟩:=cr y1;obtain⟨f5,f6,rfl,-⟩:=y2;have d2:=ad d0;have I:Lo.lo<=D:=by rw[<-u];exact j.2.2.1
  by_cases Y:l=0
  .have g0:=ad Y;have L:a2=0/\A=0:=by have:=M.out;rw[Y,di]at this;cases this;exact⟨rfl,rfl⟩
   obtain⟨rfl,rfl⟩:=L;go_wp2;go_region_held3(λd=>d.cell? ⟨T,0,none⟩=some (ar R)/\d.cell? ⟨T,3,none⟩=some (.slice Q n U)) ((simp[*,go_sem];done)) (first|fail);go_wp2;have J:=q.rs.qs true;have a0:=jM q.rs 8 ec;have b3:=q.yz.fr a0 rfl rfl;have b4:=J.wait b3;have a1:=a0.tr (jM J 7 (.slice Q n U));have O:=i.out;rw[g0.out]at O;rw[ak rfl]at O;refine QT (v:=.agg #[ae 0,aH 0]) (by simp[RP,results173,go_sem];go_simp) rfl ?_;exact(gZ.done O b4 (((Fr.af j.1).tr q.bY).tr (a1.wide iN rfl)) (a1.hp d2 rfl) b6 I rfl).drew
  .have L:a2=(g.M:Nat)/\A=(l:Nat):=by
    have:=M.out;rw[bl _ Y]at this;cases this;exact⟨rfl,rfl⟩
   obtain⟨rfl,rfl⟩:=L;have g7:¬(l:Int)=0:=aa;rw[al Y]at i;go_wp2;refine QT (v:=.agg #[ae g.M,aH l]) (by simp[RP,results173,go_sem];go_simp) rfl ?_;exact gZ.done i q.rs ((Fr.af j.1).tr q.bY) d2 b6 I (bl _ Y)
def dj(g:aA)(B:bq)(s a:Rs)(k b:Nat):Prop:=if 2*B.c_ g+1<=s.x.N-s.x.u then a=s/\k=0/\b=0 else fY g s a k b
theorem bq.sH(h:g.ok)(B:bq):B.c_ g<=100000:=by
 unfold bq.c_;have e:=B.qP h;have c:∀l:List (List Pt),(∀x,x∈l->x.length<=16)->(l.map VU).sum<=16*l.length:=by
  intro l;induction l with
  |nil=>intro _;simp
  |cons a l d=>intro h;have:=d λx b=>h x (SG _ b);have:=h a (RZ ..);simp only[TO,List.sum_cons,SE];omega
 have:=c _ λx b=>B.yG h b;omega
theorem Gx[Lo](w0:QA)(T R B W r:Nat)(g:aA)(H:Nat)(s:Rs)(C:Nat)(i:bq)(pv b1:QC)(w:QA)(h:cl w R B W r g H s)(b2:sC w0 w T R pv b1 [])(hF:Fit g C s)(b3:20000<=C)(b4:i.ok g)(b5:i.n<=256)(b6:fj w pv i)(y:2*i.c_ g+1<=s.x.N)(b7:s.x.N<=2048)(a7:s.x.u<=s.x.N):
  aF 169 #[ar T] w λe b=>gZ R B W r g H (dj g i s) w e b/\(2*i.c_ g+1<=s.x.N-s.x.u->aq w b):=by
 obtain⟨K,D,a8,o,d,O⟩:=eL w (ao #[ae 0,aH 0] 172);have f:=aY d O h.ct.low (h.below d);have X:w.heap.size<=D:=RN o;obtain⟨c8,Z,c9⟩:=b2.aM;have M:=(d.block T (Z_ Z)).trans Z;obtain⟨t0,t1,t2⟩:=cr M;obtain⟨b8,b9,t⟩:=cr O;obtain⟨c0,c1,x1,x2⟩:=(h.below d).row.aM;obtain⟨k0,f0,z0⟩:=cr x1;have I:=ad (λW (j:aq K W)=>sy g i pv W hF.cJ b4 b5 ((b6.below d).below j));have l:=ad (λV (j:aq K V)=>CO W r B g.M s.x V ((h.below d).below j).kj);have A:=ad (λV (j:aq K V)=>CP W r B g.M s.x V ((h.below d).below j).kj);have Y:=ad (λV (j:aq K V)=>uR R B W r g H s C V ((h.below d).below j) hF b3);have E:=i.sH hF.cJ;have P:QX (¬2*i.c_ g+1<=s.x.N-s.x.u->dj g i s=fY g s):=λe=>by funext c2 k a9;unfold dj;rw[al e]
 have m:QX (2*i.c_ g+1<=s.x.N-s.x.u->dj g i s s 0 0):=λe=>by unfold dj;rw[ak e];exact⟨rfl,rfl,rfl⟩
 obtain⟨q,c3⟩:=ah (i.c_ g);obtain⟨N,J⟩:=ah s.x.N;obtain⟨u,a0⟩:=ah s.x.u;rw[c3]at I P m E y;rw[J]at l P m y b7 a7;rw[a0]at A P m a7;obtain⟨a,c4⟩:=ah (2*q);obtain⟨n,a1⟩:=ah (a+1);have e1:QG.wrap (2*(q:Int))=(a:Nat):=by have:(2:Int)*(q:Nat)=((a:Nat):Int):=aa;rw[this];go_arith
 have e2:QG.wrap ((a:Int)+1)=(n:Nat):=by have:((a:Nat):Int)+1=((n:Nat):Int):=aa;rw[this];go_arith
 obtain⟨z,x⟩:=ah (N-u);have e3:QG.wrap ((N:Int)-(u:Nat))=(z:Nat):=by have:((N:Nat):Int)-(u:Nat)=((z:Nat):Int):=aa;rw[this];go_arith
 have e4:decide ((n:Int)>(N:Nat))=false:=aS;have c5:¬N<n:=aa;rw[c4,x,a1]at P m;have b0:Lo.lo<=D:=by rw[<-o];exact f.2.2.1
 have a2:QX (2*i.c_ g+1<=s.x.N-s.x.u->n<=z):=λe=>aa;by_cases F:n<=z
 .have G:=ad (m F);have e5:decide ((n:Int)>(z:Nat))=false:=aS;have a3:¬z<n:=aa;go_enter func169,ntmps169;go_wp2_with fail
  try simp only[a8,o]
  go_wp2_with fail;go_region_held3(λb=>b.cell? (ag T 0)=some (ar R)/\b.cell? (ag T 1)=some pv/\b.cell? (ag R 1)=some (ae g.M)/\b.cell? (ag R 2)=some (ae g.c)/\b.cell? (ag R 3)=some (ae g.s)) ((simp[*,go_sem];done)) (first|(go_at_call 104;refine(I _ bF).mono ?_;rintro e w3 ⟨rfl,j⟩;have c:QX (aq K w3):=via bF j;obtain⟨p1,p2,p3⟩:=kp c T t2;obtain⟨p4,p5,p6⟩:=kp c R z0;obtain⟨p7,p8,p9⟩:=kp c D t));go_wp2_with(go_at_call 254;refine(l _ c).mono ?_;rintro e L ⟨rfl,rfl⟩);go_region_held3(λb=>b.cell? (ag T 0)=some (ar R)/\b.cell? (ag R 4)=some (ar W)) ((simp[*,go_sem];done)) (first|(go_at_call 254;refine(l _ (via c bF)).mono ?_;rintro e L ⟨rfl,rfl⟩)|(go_at_call 144;refine(A _ (via c bF)).mono ?_;rintro e L ⟨rfl,rfl⟩));go_wp2;have c6:=(c.block D t).trans f.2.1;refine QT (v:=.agg #[ae 0,aH 0]) (by simp[RP,results169,go_sem];go_simp) rfl ?_;exact⟨(gZ.done G (f.2.2.2.below c) ((Fr.af f.1).then c) c6 X b0 rfl).drew,λ_=>a_ (((f.1.trans (c.mono f.1.size)).setCell (p:=ag D 0) X _).setCell (p:=ag D 1) X _)⟩
 .have G:=ad (P F);have a4:=ad F;have e5:decide ((n:Int)>(z:Nat))=true:=aS;have a3:z<n:=aa;go_enter func169,ntmps169;go_wp2_with fail
  try simp only[a8,o]
  go_wp2_with fail;go_region_held3(λb=>b.cell? (ag T 0)=some (ar R)/\b.cell? (ag T 1)=some pv/\b.cell? (ag R 1)=some (ae g.M)/\b.cell? (ag R 2)=some (ae g.c)/\b.cell? (ag R 3)=some (ae g.s)) ((simp[*,go_sem];done)) (first|(go_at_call 104;refine(I _ bF).mono ?_;rintro e w3 ⟨rfl,j⟩;have c:QX (aq K w3):=via bF j;obtain⟨p1,p2,p3⟩:=kp c T t2;obtain⟨p4,p5,p6⟩:=kp c R z0;obtain⟨p7,p8,p9⟩:=kp c D t));go_wp2_with(go_at_call 254;refine(l _ c).mono ?_;rintro e L ⟨rfl,rfl⟩);go_region_held3(λb=>b.cell? (ag T 0)=some (ar R)/\b.cell? (ag R 4)=some (ar W)) ((simp[*,go_sem];done)) (first|(go_at_call 254;refine(l _ (via c bF)).mono ?_;rintro e L ⟨rfl,rfl⟩)|(go_at_call 144;refine(A _ (via c bF)).mono ?_;rintro e L ⟨rfl,rfl⟩))
  all_goals go_wp2_with(go_at_call 114;refine(Y _ (via c bF)).mono ?_;rintro e L ⟨c2,k,a9,a5,rfl,a6,x⟩;obtain⟨c7,Z,Q⟩:=cC k a9;rw[Q];have S:=x.hp ((c.block D t).trans f.2.1) rfl;obtain⟨y1,y2,y3⟩:=cr S;have U:=ca a5 a6 x Q S)
  refine QT (v:=.agg #[ae c7,.int .u16 Z]) (by simp[RP,results169,go_sem];go_simp) rfl ?_;refine⟨?_,λe=>absurd (a2 e) a4⟩;exact gZ.done (by rw[G.out];exact U.1) U.2.1 (((Fr.af f.1).then c).tr (Fr.low (Fr.af aj) (a_ aj) (QE _)|>.tr U.2.2.1)) U.2.2.2.2 X b0 U.2.2.2.1
def Rs.gK(g:aA)(s:Rs)(l:List Pt):By × Nat:=s.b.hM g.M s.x.pl (bh s.x.ep s.x.nx (aQ l)) (2*l.length)
def qt(g:aA)(l:List Pt)(s a:Rs)(k c:Nat):Prop:=a={s with b:=(s.gK g l).1,x:=s.x.cN (2*l.length+1) (bh s.x.ep s.x.nx (aQ l) (2*l.length)) (s.gK g l).2}/\k=g.M/\c=(s.gK g l).2
def lI(g:aA)(l:List Pt)(s a:Rs)(k b:Nat):Prop:=Du g (2*l.length+1) (bh s.x.ep s.x.nx (aQ l) (2*l.length)) l s a k b
def xq(g:aA)(l:List Pt):Rs->Rs->Nat->Nat->Prop:=iH dh (iH (lI g l) (hj g))
def yT(g:aA)(l:List Pt):Rs->Rs->Nat->Nat->Prop:=iH (qt g l) (xq g l)
def Rs.hl(g:aA)(B:bq)(s:Rs):By × Nat × Nat:=s.b.bU (dO g s.ro (B.bP g) (B.eM g))
def yU(g:aA)(B:bq)(s a:Rs)(k c:Nat):Prop:=
 ((s.hl g B).2.2≠0/\a={s with b:=(s.hl g B).1}/\k=(s.hl g B).2.1/\c=(s.hl g B).2.2)\/
 ((s.hl g B).2.2=0/\∃d,dY (pb g s.b s.ro (B.bP g)) d (B.eM g)/\yT g d.flatten {s with b:=(s.hl g B).1} a k c)
def Rs.fe(s:Rs):Rs:={s with ro:={s.ro with sl:=false}}
def eS(g:aA)(B:bq)(s:Rs):Rs->Nat->Nat->Prop:=iH (dj g B) (yU g B) s.fe
theorem By.Dx:∀{l:List Nat} {j:Nat} {v:Dv},(b.bU l).1.dv j=some v->∃c,b.dv j=some c/\v.d.n=c.d.n/\v.d.cn<=c.d.cn:=by
 intro l;induction l generalizing b with
 |nil=>exactλh=>⟨_,h,rfl,QE _⟩
 |cons a t o=>
  intro j v d;have one:∀u,(b.op a bS).1.dv j=some u->∃c,b.dv j=some c/\u.d.n=c.d.n/\u.d.cn<=c.d.cn:=λu f=>by
   by_cases e:j=a
   .subst e;obtain⟨c,g,i,k⟩:=By.jh (m:=0) (act:=bS) (λv=>⟨rfl,QE _⟩) f;exact⟨c,g,i,k⟩
   .rw [By.ei bS e]at f;exact⟨u,f,rfl,QE _⟩
  simp only[By.bU]at d;by_cases n:(b.op a bS).2=0
  .rw [ak n]at d;obtain⟨p,g,i,k⟩:=o d;obtain⟨c,q,r,s⟩:=one p g;exact⟨c,q,i.trans r,QD k s⟩
  .rw [al n]at d;exact one v d
theorem Fit.bU(h:Fit g C s)(l:List Nat):Fit g C {s with b:=(s.b.bU l).1}:=by
 refine⟨h.cJ,(By.CX s.b l).trans h.N,λm v e a=>?_,λv a=>?_,h.bad,h.cy,h.h',h.wt,h.mg⟩
 .obtain ⟨c,d,f,i⟩:=By.Dx a;have:=h.mem m c e d;omega
 .obtain ⟨c,d,f,i⟩:=By.Dx a;have:=h.gB c d;show 2+s.x.N<=_/\_;omega
theorem By.Dy(c:(b.hM k f F n).1.dv j=some U):∃a,b.dv j=some a/\U.d.n=a.d.n/\U.d.cn<=a.d.cn+n:=by
 have h:∀m u,(b.db k f F m).1.dv j=some u->∃a,b.dv j=some a/\u.d.n=a.d.n/\u.d.cn<=a.d.cn+m:=by
  intro m u g;by_cases e:j=k
  .subst e;exact By.gH b j f F m u g
  .have:∀m,(b.db k f F m).1.dv j=b.dv j:=by
    intro m;induction m with
    |zero=>rfl
    |succ m i=>
     unfold By.db;split
     .rw [By.ei _ e,i]
     .exact i
   rw[this]at g;exact⟨u,g,rfl,Nat.le_add_right _ _⟩
 unfold By.hM at c;split at c
 .have l:∃d,(b.db k f F n).1.dv j=some d/\U.d.n=d.d.n/\U.d.cn<=d.d.cn:=by
   by_cases e:j=k
   .subst e;exact By.jh (m:=0) (λU=>⟨(dX U).1,(dX U).2⟩) c
   .rw [By.ei be e]at c;exact⟨U,c,rfl,QE _⟩
  obtain⟨d,o,p,q⟩:=l;obtain⟨a,r,s,t⟩:=h n d o;exact⟨a,r,p.trans s,QD q t⟩
 .exact h n U c
theorem sI{s d:Rs}(h:Fit g C s)(q:5000<=C)(r:l.length<=2048)(e:qt g l s d k 0):Fit g (C-5000) d:=by
 obtain⟨rfl,-,f⟩:=e;have i:s.x.cN (2*l.length+1) (bh s.x.ep s.x.nx (aQ l) (2*l.length)) (s.gK g l).2={s.x with sure:=true,lg:=some (2*l.length+1,bh s.x.ep s.x.nx (aQ l) (2*l.length)),bad:=0}:=by unfold Wl.cN;rw[<-f];rfl
 have j:(s.gK g l).1.N=s.b.N:=by
  show(s.b.hM g.M s.x.pl (bh s.x.ep s.x.nx (aQ l)) (2*l.length)).1.N=_;unfold By.hM;split
  .rw [By.fW,By.ki]
  .exact By.ki ..
 rw[i];refine⟨h.cJ,j.trans h.N,λm v n a=>?_,λv a=>?_,rfl,(show s.x.ep+(C-5000)<=_/\1<=s.x.nx/\s.x.nx+(C-5000)<=_ by have:=h.cy;omega),h.h',h.wt,h.mg⟩
 .obtain ⟨b,c,o,p⟩:=By.Dy a;have:=h.mem m b n c;omega
 .obtain ⟨b,c,o,p⟩:=By.Dy a;have:=h.gB b c;show 2+s.x.N<=_/\_;omega
structure rq(g:aA)(l:List Pt):Prop where
 h':l.length<=5000
 wt:∀p,p∈l->p.1<g.M/\p.2.1<g.R/\∀k,k<128->p.2.2 k<256
 mg:(l.map fun p=>(p.1,p.2.1)).Nodup
theorem pz{s i:Rs}(h:Fit g C s)(w:5000<=C)(d:rq g l)(o:lI g l s i k 0):Fit g (C-5000) i:=by
 obtain⟨rfl,-,n⟩:=o;have p:s.x.eo (2*l.length+1) (s.cT g (2*l.length+1) (bh s.x.ep s.x.nx (aQ l) (2*l.length))).2={s.x with nx:=s.x.nx+1,sure:=false,lg:=none,u:=s.x.u+(2*l.length+1),bad:=0}:=by unfold Wl.eo;rw[<-n];rfl
 rw[p,<-n,ak rfl];have c:∀j v,(s.cT g (2*l.length+1) (bh s.x.ep s.x.nx (aQ l) (2*l.length))).1.dv j=some v->∃b,s.b.dv j=some b/\v.d.n=b.d.n/\v.d.cn<=b.d.cn+1:=λj v a=>by
  unfold Rs.cT at a;by_cases e:j=g.M
  .subst e;exact By.jh (m:=1) (λv=>ey _ _ v) a
  .rw [By.ei _ e]at a;exact⟨v,a,rfl,US _⟩
 refine⟨h.cJ,(By.fW _ _ _).trans h.N,λm v q a=>?_,λv a=>?_,rfl,(show s.x.ep+(C-5000)<=_/\1<=s.x.nx+1/\s.x.nx+1+(C-5000)<=_ by have:=h.cy;omega),d.h',d.wt,d.mg⟩
 .obtain ⟨b,f,r,t⟩:=c m v a;have:=h.mem m b q f;omega
 .obtain ⟨b,f,r,t⟩:=c g.M v a;have:=h.gB b f;show 2+s.x.N<=_/\_;omega
def AJ(w:M)(n:Nat):M:={w with heap:=w.heap.extract 0 n}
theorem lJ(w:M)(n k:Nat):(AJ w n).heap[k]?=if k<n then w.heap[k]? else none:=by
 show(w.heap.extract 0 n)[k]?=_;rw[Array.getElem?_extract];by_cases h:k<n
 .rw [ak h];by_cases a:k<w.heap.size
  .rw [ak J];congr 1;omega
  .rw [al J,WT J]
 .rw [al h,al J]
theorem mN(h:n<=w.heap.size):(AJ w n).heap.size=n:=by show(w.heap.extract 0 n).size=n;rw[Array.size_extract];omega
theorem Fr.cut[Lo](h:Fr T aG W w):Fr T aG W (AJ w W.heap.size):=by refine⟨h.os,h.tape,h.output,RN (mN h.size).symm,λk o a b c=>?_⟩;rw[lJ,ak (Z_ a)];exact h.block k o a b c
theorem Jv[Lo](h:n<=w.heap.size):Fr T aG (AJ w n) w:=by
 refine⟨rfl,rfl,rfl,by rw[mN h];exact h,λk o a _ _=>?_⟩;rw[lJ]at a;split at a
 .exact a
 .cases a
theorem fg.cut(h:fg w m k P g i o)(d:o.wt= [])(e:m<n)(f:i<n):fg (AJ w n) m k P g i o:=by
 obtain⟨b,j,l,p⟩:=h.aM;refine⟨⟨b,j,?_,?_⟩,?_⟩
 .rw [lJ,ak e];exact l
 .obtain ⟨a,c,q,r,-⟩:=p;exact⟨a,c,q,r,.inl d⟩
 .rw [lJ,ak f];exact h.fJ
theorem sC.base(h:sC W w n m v x l)(e:W.heap.size=z.heap.size):sC z w n m v x l:=by obtain⟨a,b⟩:=h;rw[e]at a b;exact⟨a,b⟩
def LC:List Nat:= [258,206,100,106,108,142,217,219,1000000,153,221,164]
theorem Fr.w2[Lo](h:Fr iN aG w W):Fr LC aG w W:=h.wide LC rfl
structure Gy(g:aA)(Bt:bq)(s0:Rs):Prop where
 rows:∀s1 k1,dj g Bt s0.fe s1 k1 0->∀r,r∈Bt.eM g->sD g s1.b s1.ro r (Bt.bP g r)
 LD:∀s1 k1 ls,dj g Bt s0.fe s1 k1 0->dY (pb g s1.b s1.ro (Bt.bP g)) ls (Bt.eM g)->(s1.hl g Bt).2.2=0->rq g ls.flatten/\1<=ls.flatten.length/\2*ls.flatten.length+1<=s1.x.N-s1.x.u/\(aQ ls.flatten).ok
structure Ij[Lo](R B W r:Nat)(g:aA)(fb:Nat)(wS:M)(T:Nat)(pv lv:H)(s:Rs)(l:List Pt)(w:M):Prop where
 rs:cl w R B W r g fb s
 bt:sC wS w T R pv lv l
 bY:Fr iN aG wS w
structure OV(s:Rs)(l:List Pt):Prop where
 lg:s.x.lg=some (2*l.length+1,bh s.x.ep s.x.nx (aQ l) (2*l.length))
 room:s.x.u+(2*l.length+1)<=s.x.N
def BM[Lo](R B W r:Nat)(g:aA)(e:Nat)(f:Rs)(h:bq)(C:Nat)(d:M)(T:Nat)(pv i:H):Nat->M->Prop
 |0,w=>cl w R B W r g e f.fe/\sC d w T R pv i []/\aq d w
 |1,w=>∃m n j,dj g h f.fe m n 0/\Ij R B W r g e d T pv i m [] w/\j.heap.size=d.heap.size/\fg j R B (some ⟨W,0,none⟩) g e m.ro/\Fr TB aG j w/\Fr iN aG d j
 |2,w=>∃a l,Ij R B W r g e d T pv i a l w/\(∀b k c,yT g l a b k c->eS g h f b k c)/\Fit g (C-20000) a/\rq g l/\1<=l.length/\2*l.length+1<=a.x.N-a.x.u/\(aQ l).ok
 |3,w=>∃a l,Ij R B W r g e d T pv i a l w/\(∀b k c,xq g l a b k c->eS g h f b k c)/\Fit g (C-25000) a/\rq g l/\OV a l
 |4,w=>∃a l,Ij R B W r g e d T pv i a l w/\(∀b k c,iH (lI g l) (hj g) a b k c->eS g h f b k c)/\Fit g (C-30000) a/\rq g l/\OV a l
 |5,w=>∃a l,Ij R B W r g e d T pv i a l w/\(∀b k c,hj g a b k c->eS g h f b k c)/\Fit g (C-35000) a
 |_,w=>∃a o,cl w R B W r g e a/\eS g h f a o 0/\Fr iN aG d w
def Ky[Lo](R B W r:Nat)(g:aA)(c:Nat)(d:Rs)(f:bq)(C:Nat)(h:M)(T:Nat)(pv l:H)(i:Nat)(w:M)(e:RV)(a:M):Prop:=
 ∃k b,aL e (hN k b)/\Fr LC aG w a/\(b=0->BM R B W r g c d f C h T pv l (i+1) a)/\(b≠0->∃j,eS g f d j k b/\cl a R B W r g c j/\Fr iN aG h a)
theorem Ij.below[Lo]{R B W r:Nat}{w b:M}(h:Ij R B W r g n z m v x s l w)(a:aq w b):Ij R B W r g n z m v x s l b:=
 ⟨h.rs.below a,h.bt.fr (T':= []) (Fr.af a) rfl rfl rfl,h.bY.then a⟩
theorem BM.below[Lo]{R B W r:Nat}:∀{i:Nat} {w f:M},BM R B W r g n s K C z m v x i w->aq w f->BM R B W r g n s K C z m v x i f
 |0,_,_,⟨b,c,e⟩,a=>⟨b.below a,c.fr (T':= []) (Fr.af a) rfl rfl rfl,via e a⟩
 |1,_,_,⟨h,j,k,b,c,e,o,p,q⟩,a=>⟨h,j,k,b,c.below a,e,o,p.then a,q⟩
 |2,_,_,⟨d,l,b,c⟩,a=>⟨d,l,b.below a,c⟩
 |3,_,_,⟨d,l,b,c⟩,a=>⟨d,l,b.below a,c⟩
 |4,_,_,⟨d,l,b,c⟩,a=>⟨d,l,b.below a,c⟩
 |5,_,_,⟨d,l,b,c⟩,a=>⟨d,l,b.below a,c⟩
 |_+6,_,_,⟨d,t,b,c,e⟩,a=>⟨d,t,b.below a,c,e.then a⟩
theorem nz{s o:Rs}(h:Fit g C s)(B:5000<=C)(p:fL g s o k 0):Fit g (C-5000) o:=by
 obtain⟨rfl,-,q⟩:=p;have r:s.x.qo s.x.ep (s.nu g s.x.ep).2=s.x.cz s.x.ep:=by unfold Wl.qo;rw[<-q];rfl
 rw[r];have c:∀j v,(s.nu g s.x.ep).1.dv j=some v->∃a,s.b.dv j=some a/\v.d.n=a.d.n/\v.d.cn<=a.d.cn+1:=λj v b=>by
  unfold Rs.nu By.ck at b;have one:∀u,(s.b.op g.M (aR 1 (aV s.x.ep s.x.nx ((s.x.t+s.x.u)%s.x.N)))).1.dv j=some u->∃a,s.b.dv j=some a/\u.d.n=a.d.n/\u.d.cn<=a.d.cn+1:=λu i=>by
   by_cases e:j=g.M
   .subst e;exact By.jh (m:=1) (λv=>ey _ _ v) i
   .rw [By.ei _ e]at i;exact⟨u,i,rfl,US _⟩
  split at b
  .have d:∃f,(s.b.op g.M (aR 1 (aV s.x.ep s.x.nx ((s.x.t+s.x.u)%s.x.N)))).1.dv j=some f/\v.d.n=f.d.n/\v.d.cn<=f.d.cn:=by
    by_cases e:j=g.M
    .subst e;exact By.jh (m:=0) (λv=>⟨(dX v).1,(dX v).2⟩) b
    .rw [By.ei be e]at b;exact⟨v,b,rfl,QE _⟩
   obtain⟨f,l,n,t⟩:=d;obtain⟨a,w,x,y⟩:=one f l;exact⟨a,w,n.trans x,QD t y⟩
  .exact one v b
 have z:(s.nu g s.x.ep).1.N=s.b.N:=by unfold Rs.nu By.ck;split<;>simp only[By.fW]
 refine⟨h.cJ,z.trans h.N,λm v A b=>?_,λv b=>?_,h.bad,(show s.x.ep+(C-5000)<=_/\1<=s.x.nx/\s.x.nx+(C-5000)<=_ by have:=h.cy;omega),h.h',h.wt,h.mg⟩
 .obtain ⟨a,d,l,n⟩:=c m v b;have:=h.mem m a A d;omega
 .obtain ⟨a,d,l,n⟩:=c g.M v b;have:=h.gB a d;show 2+s.x.N<=_/\_;omega
theorem eF{p q:Rs->Rs->Nat->Nat->Prop}{s a:Rs}(h:iH p q s a k 0):∃b c,p s b c 0/\q b a k 0:=by
 rcases h with h|h
 .exact h
 .exact absurd rfl h.2
theorem AK{s a:Rs}(h:Fit g C s)(i:20000<=C)(c:fY g s a k 0):Fit g (C-20000) a:=by obtain⟨j,l,b,d⟩:=eF c;obtain⟨m,n,e,f⟩:=eF d;have f1:=eE h J (ea b) b;have f2:=fM f1 J e;have f3:=nz f2 J f;exact f3.less J
theorem Dz{s d:Rs}(h:fY g s d k 0):d.ro.wt= []/\d.x.u=0/\d.x.N=s.x.N:=by
 obtain⟨i,u,b,j⟩:=eF h;obtain⟨a,v,m,n⟩:=eF j;have o:=ea b;have p:i.x.sure=true:=ny b;unfold bT at b;rw[ak o]at b;have e:=nw b;unfold cd at b;rw[ak (by rw[<-e];exact p)]at b;obtain⟨l,-,-,-,c⟩:=b;rw[ak rfl]at c;obtain⟨-,q,r⟩:=m;obtain⟨rfl,-,f⟩:=n;have t:(s.synced g).1.x.N=s.x.N:=by unfold Rs.synced;split<;>rfl
 refine⟨by show a.ro.wt= [];rw[r,c],?_,?_⟩
 .show (a.x.qo a.x.ep (a.nu g a.x.ep).2).u=0;unfold Wl.qo;rw[<-f];rfl
 .show (a.x.qo a.x.ep (a.nu g a.x.ep).2).N=s.x.N;unfold Wl.qo;rw[<-f,ak rfl];show a.x.N=_;rw[q,e,t]
theorem DB{s b:Rs}(h:Fit g C s)(c:20000<=C)(a:dj g K s b k 0):Fit g (C-20000) b:=by
 unfold dj at a;split at a
 .rw [a.1];exact h.less (Nat.sub_le ..)
 .exact AK h c a
section
theorem cl.ring[Lo]{w:M}{R B W r:Nat}{g:aA}{fb:Nat}{s:Rs}(h:cl w R B W r g fb s):5<=s.x.N/\s.x.N<=2048/\s.x.t<s.x.N/\s.x.u<=s.x.N:=by obtain⟨p,a⟩:=h.kj;exact⟨a.ring.lo,a.ring.hi,a.ring.t,a.ring.u⟩
section
variable [Lo] {R B W r:Nat} {g:aA} {fb:Nat} {s0:Rs} {Bt:bq} {C:Nat} {wS:QA} {T:Nat} {pv lv:QC}
theorem Pw{w:M}(F:100000<=C)(hF:Fit g C s0)(v:Bt.ok g)(x:Bt.n<=256)(l:2*Bt.c_ g+1<=s0.x.N)(o:fj wS pv Bt)(f:cl wS R B W r g fb s0.fe)(h:BM R B W r g fb s0 Bt C wS T pv lv 0 w):
  aF 169 #[ar T] w (Ky R B W r g fb s0 Bt C wS T pv lv 0 w):=by
 obtain⟨q,s,p⟩:=h;have t:=q.ring;refine(Gx wS T R B W r g fb s0.fe C Bt pv lv w q s (hF.sl false) J v x (o.below p) l t.2.1 t.2.2.2).mono ?_;rintro e y ⟨⟨u,k,z,c,rfl,d,i⟩,m⟩;have b:=(Fr.af (T:=iN) (S:=aG) p).tr i;refine⟨k,z,rfl,i.w2,λe=>?_,λe=>⟨u,.inr ⟨c,e⟩,d,b⟩⟩;subst e;have n:=s.fr i rfl rfl rfl;by_cases j:2*Bt.c_ g+1<=s0.fe.x.N-s0.fe.x.u
 .have A:=m j;have a:=c;unfold dj at a;rw[ak j]at a;obtain⟨rfl,-,-⟩:=a;exact⟨s0.fe,k,wS,c,⟨d,n,b⟩,rfl,f.row,Fr.af (via p A),Fr.refl _ _ _⟩
 .have a:=c;unfold dj at a;rw[al j]at a;obtain⟨D,G,E,-⟩:=f.row.aM;exact⟨u,k,AJ y wS.heap.size,c,⟨d,n,b⟩,mN b.size,d.row.cut (Dz a).1 (Z_ E) (Z_ f.row.fJ),Jv b.size,b.cut⟩
theorem Px{w:M}(Q:100000<=C)(hF:Fit g C s0)(p:Gy g Bt s0)(l:Fs wS lv (Bt.fH g))(m:Lo.lo<=wS.heap.size)(h:BM R B W r g fb s0 Bt C wS T pv lv 1 w):
  aF 170 #[ar T] w (Ky R B W r g fb s0 Bt C wS T pv lv 1 w):=by
 obtain⟨a,i,y,c,j,n,q,z,s⟩:=h;have A:(Bt.eM g).length<=5000:=by have S:=fy g.R (aZ g Bt Bt.n);have U:=aA.iJ hF.cJ;unfold bq.eM;omega
 refine(xd y T R B (some (ag W 0)) g fb a.ro a.b (Bt.bP g) (Bt.eM g) pv lv w q z j.rs.ct (j.bt.base n.symm) (l.fr s rfl rfl rfl) (p.rows a i c) A (by rw[n];exact m)).mono ?_;rintro e t ⟨rfl,D,u,v,E⟩;have d:cl t R B W r g fb {a with b:=(a.hl g Bt).1}:=⟨q.fr u rfl rfl rfl rfl,D,j.rs.kj.fr v rfl rfl rfl rfl,j.rs.lo⟩;have f:Fr iN aG wS t:=s.tr u.rb;refine⟨(a.hl g Bt).2.1,(a.hl g Bt).2.2,rfl,v.wide LC rfl,λe=>?_,λe=>⟨_,.inl ⟨a,i,c,.inl ⟨e,rfl,rfl,rfl⟩⟩,d,f⟩⟩;obtain⟨o,x,F⟩:=E e;obtain⟨G,K,L,O⟩:=p.LD a i o c x e;exact⟨_,o.flatten,⟨d,F.base n,f⟩,λV k X P=>.inl ⟨a,i,c,.inr ⟨e,o,x,P⟩⟩,(DB (hF.sl false) J c).bU _,G,K,L,O⟩
theorem Py{w:QA}(G:100000<=C)(h:BM R B W r g fb s0 Bt C wS T pv lv 2 w):
  aF 171 #[ar T] w (Ky R B W r g fb s0 Bt C wS T pv lv 2 w):=by
 obtain⟨a,l,d,o,hF,s,t,u,y⟩:=h;have K:=d.rs.ring;refine(AD wS T R B W r g.M g fb a.ro a.b a.x l pv lv w d.rs.row d.rs.ct d.rs.kj d.bt (by rw[hF.N];omega) y t J hF.cM (λv p=>⟨(hF.gB v p).1,by have:=(hF.gB v p).2;omega⟩) hF.bad u).mono ?_;rintro e z ⟨rfl,A,D,m⟩;have i:cl z R B W r g fb {a with b:=(a.gK g l).1,x:=a.x.cN (2*l.length+1) (bh a.x.ep a.x.nx (aQ l) (2*l.length)) (a.gK g l).2}:=⟨d.rs.row.fr m rfl rfl rfl rfl,A,D,d.rs.lo⟩;have j:=d.bY.tr m.rw;have f:∀n,n=(a.gK g l).2->qt g l a {a with b:=(a.gK g l).1,x:=a.x.cN (2*l.length+1) (bh a.x.ep a.x.nx (aQ l) (2*l.length)) (a.gK g l).2} g.M n:=λn e=>⟨rfl,rfl,e⟩;refine⟨g.M,(a.gK g l).2,rfl,m.rw.w2,λe=>?_,λe=>⟨_,o _ _ _ (.inr ⟨f _ rfl,e⟩),i,j⟩⟩;have c:=f 0 e.symm;have q:a.x.cN (2*l.length+1) (bh a.x.ep a.x.nx (aQ l) (2*l.length)) (a.gK g l).2={a.x with sure:=true,lg:=some (2*l.length+1,bh a.x.ep a.x.nx (aQ l) (2*l.length)),bad:=0}:=by unfold Wl.cN;rw[e];rfl
 have E:=sI hF J J c;refine⟨_,l,⟨i,d.bt.fr m rfl rfl rfl,j⟩,λL k n F=>o _ _ _ (.inl ⟨_,g.M,c,F⟩),E.less J,s,?_⟩;constructor
 .show (a.x.cN _ _ _).lg=some (2*l.length+1,bh (a.x.cN _ _ _).ep (a.x.cN _ _ _).nx (aQ l) (2*l.length));rw[q]
 .show (a.x.cN _ _ _).u+(2*l.length+1)<=(a.x.cN _ _ _).N;rw[q];show a.x.u+(2*l.length+1)<=a.x.N;omega
theorem Pz{w:M}(t:100000<=C)(h:BM R B W r g fb s0 Bt C wS T pv lv 3 w):
  aF 172 #[ar T] w (Ky R B W r g fb s0 Bt C wS T pv lv 3 w):=by
 obtain⟨f,l,c,i,hF,p,j⟩:=h;refine(Dw wS T R B W r g fb f _ pv lv l w c.rs c.bt hF J).mono ?_;rintro e u ⟨m,k,n,a,rfl,d,b⟩;refine⟨k,n,rfl,b.w2,λe=>?_,λe=>⟨_,i _ _ _ (.inr ⟨a,e⟩),d,c.bY.tr b⟩⟩;subst e;have o:m.x=f.x:=by obtain⟨_,_,_,h,_⟩:=a;exact h
 refine⟨m,l,⟨d,c.bt.fr b rfl rfl rfl,c.bY.tr b⟩,λq v n s=>i _ _ _ (.inl ⟨_,k,a,s⟩),(gJ hF J a).less J,p,?_⟩;exact⟨by rw[o];exact j.lg,by rw[o];exact j.room⟩
theorem PA{w:M}(s:100000<=C)(h:BM R B W r g fb s0 Bt C wS T pv lv 4 w):
  aF 173 #[ar T] w (Ky R B W r g fb s0 Bt C wS T pv lv 4 w):=by
 obtain⟨f,l,c,i,hF,n,j⟩:=h;refine(xp wS T R B W r g fb f _ (2*l.length+1) (bh f.x.ep f.x.nx (aQ l) (2*l.length)) pv lv l w c.rs c.bt hF j.lg J j.room).mono ?_;rintro e t ⟨o,k,m,b,rfl,d,a⟩;refine⟨k,m,rfl,a.w2,λe=>?_,λe=>⟨_,i _ _ _ (.inr ⟨b,e⟩),d,c.bY.tr a⟩⟩;subst e;exact⟨o,l,⟨d,c.bt.fr a rfl rfl rfl,c.bY.tr a⟩,λp u m q=>i _ _ _ (.inl ⟨_,k,b,q⟩),(pz hF J n b).less J⟩
theorem PB{w:M}(n:100000<=C)(h:BM R B W r g fb s0 Bt C wS T pv lv 5 w):
  aF 174 #[ar T] w (Ky R B W r g fb s0 Bt C wS T pv lv 5 w):=by
 obtain⟨i,l,d,f,hF⟩:=h;refine(Ju wS T R B W r g fb i _ pv lv l w d.rs d.bt hF J).mono ?_;rintro e o ⟨j,k,m,b,rfl,c,a⟩;refine⟨k,m,rfl,a.w2,λe=>?_,λe=>⟨_,f _ _ _ b,c,d.bY.tr a⟩⟩;subst e;exact⟨j,k,c,f _ _ _ b,d.bY.tr a⟩
end
end
theorem DC[Lo](a:aC w n b):aF 49 #[ar n] w λe c=>aL e (Y b.N)/\w=c:=by obtain⟨S,d,h,i,r,wc,f,g⟩:=a;exact ly g
def ko(w:M)(v:H)(n:Nat)(f:aN):Prop:=
 ∃b o a c d,v=.slice (some (R b o)) n a/\n<=a/\w.heap[b]?=some (.cells c 122 d)/\∀k,k<n->c[o+k]?=some (.int .u8 (f k:Nat))
theorem ko.below(h:ko w v n f)(d:aq w W):ko W v n f:=by obtain⟨b,o,a,g,i,e,j,c,k⟩:=h;exact⟨b,o,a,g,i,e,j,(d.block b (Z_ c)).trans c,k⟩
theorem ko.fr[Lo](h:ko w v n f)(c:Fr T aG w W)(d:T.contains 122=false):ko W v n f:=by obtain⟨b,o,a,g,i,e,j,k,l⟩:=h;exact⟨b,o,a,g,i,e,j,c.hp k d,l⟩
theorem DD(v:H)(n:Nat)(a:aN)(x:Nat)(w:M)(h:ko w v n a)(G:n<=1000000)(K:x<256):aF 122 #[v,eb x] w λe p=>aL e (Y (ga (λk=>decide (a k=x)) n))/\w=p:=by
 obtain⟨b,o,r,s,t,rfl,-,u,y⟩:=h;have z:=I y;have A:=I u;go_enter func122,ntmps122;go_wp2;go_loop [8] (λi=>∃k:Nat,i= Y k/\k<=n/\QX (∀j,j<k->decide (a j=x)=false)) (λi=>n-(intOf i).toNat)
 case atStart=>exact⟨0,rfl,QO _,λj B=>J⟩
 case round=>
  obtain⟨k,rfl,L,d⟩:=hrel;by_cases c:k<n
  .have C:=(QS w b (o+k) s 122 t A).trans (z k c);by_cases f:a k=x
   .rw [f]at C;have g:QX (ga (λk=>decide (a k=x)) n=(k:Nat)):=by show _=_;unfold ga;rw[oU c (by simp[f]) d.out]
    go_wp2;go_ret;exact⟨by rw[g.out];rfl,rfl⟩
   .have D:¬(x:Int)=(a k:Nat):=J;have l:QX (∀j,j<k+1->decide (a j=x)=false):=λj B=>by
     by_cases e:j=k
     .rw [e];simp[f]
     .exact d j J
    go_wp2;go_round
    case rel=>exact⟨k+1,by go_num,c,l⟩
    case measure=>simp[intOf];omega
  .obtain rfl:k=n:=J;have g:QX (ga (λk=>decide (a k=x)) k= -1):=by
    show _=_;unfold ga;have:gone (λk=>decide (a k=x)) k=none:=by
     cases E:gone (λk=>decide (a k=x)) k with
     |none=>rfl
     |some q=>obtain⟨F,m⟩:=fo E;rw[d.out q F]at m;cases m
    rw[this]
   go_wp2;go_ret;exact⟨by rw[g.out];rfl,rfl⟩
theorem uT(v:H)(n:Nat)(a:aN)(x:Nat)(w:M)(h:ko w v n a)(g:n<=1000000)(i:x<256):aF 212 #[v,eb x] w λe j=>(∃d,aL e (.bool d)/\((∀k,k<n->a k≠x)->d=false))/\w=j:=by
 have b:=I (DD v n a x w h g i);cases c:gone (λk=>decide (a k=x)) n with
 |none=>
  have e:ga (λk=>decide (a k=x)) n= -1:=by unfold ga;rw[c]
  rw[e]at b;go_enter func212,ntmps212;go_wp2_with(go_at_call 122;refine b.mono ?_;rintro e l ⟨rfl,rfl⟩);go_ret;exact⟨⟨false,by first|rfl|simp,λ_=>rfl⟩,rfl⟩
 |some q=>
  have e:ga (λk=>decide (a k=x)) n=(q:Nat):=by unfold ga;rw[c]
  obtain⟨m,o⟩:=fo c;have f:QX (q<n/\a q=x):=⟨m,by simpa using o⟩;rw[e]at b;go_enter func212,ntmps212;go_wp2_with(go_at_call 122;refine b.mono ?_;rintro e l ⟨rfl,rfl⟩);go_ret;exact⟨⟨true,by first|rfl|simp,λh=>absurd f.2 (h q f.1)⟩,rfl⟩
theorem xr(n a b:Int)(w:M)(d:a<=n)(f:n<=b):aF 210 #[Y n,Y a,Y b] w λe c=>aL e ec/\w=c:=by go_enter func210,ntmps210;go_wp2;go_ret;exact⟨aJ,rfl⟩
theorem DE(n a b:Int)(w:M)(d:a<=n)(f:n<=b):aF 211 #[.int .u64 n,.int .u64 a,.int .u64 b] w λe c=>aL e ec/\w=c:=by go_enter func211,ntmps211;go_wp2;go_ret;exact⟨aJ,rfl⟩
structure Su where
 id:Nat
 ev:Nat
 sf:Nat
 rl:Nat
 N:Nat
 lz:Bool
 lost:Bool
 st:Nat->Nat
 cur:Nat
variable {u:Su}
abbrev dy(g:aA)(u:Su)(a:H):Array H:= #[bg u.id,bg u.ev,bg u.sf,Y u.rl,Y g.M,Y g.c,Y g.s,Y u.N,.bool u.lz,.bool u.lost,a,Y u.cur]
structure Su.ok(g:aA)(u:Su):Prop where
 cJ:g.ok
 id:u.id<18446744073709551616
 ev:1<=u.sf/\u.sf<=u.ev/\u.ev<=4611686018427387904
 rl:u.rl<=g.M
 ring:5<=u.N/\u.N<=2048
 st:∀m,m<g.M->u.st m=1\/u.st m=2\/u.st m=3
 one:∀m k,m<g.M->k<g.M->u.st m=3->u.st k=3->m=k
 cur:u.cur<g.s/\(u.cur≠0->∃m,m<g.M/\u.st m=3)
def ru(g:aA)(u:Su)(k:Nat):Nat:=if(TQ k).any (λm=>u.st m==3)=true then g.s-1 else 0
theorem xt(g:aA)(u:Su)(k:Nat):ru g u (k+1)=if u.st k=3 then g.s-1 else ru g u k:=by
 unfold ru;rw[UL,List.any_append];by_cases h:u.st k=3
 .simp [h]
 .simp [h]
theorem rv(g:aA)(u:Su)(Q:QC)(w:QA)(a0:ko w Q g.M u.st)(h:u.ok g):aF 153 #[.agg (dy g u Q)] w λe T=>aL e (aH 0)/\aq w T:=by
 obtain⟨U,V⟩:=ah (w.alloc (ao (dy g u Q) 117));have p:aq w U:=by rw[<-V];exact aK aj _
 have d:aX U w.heap.size (ao (dy g u Q) 117):=by rw[<-V];exact QB _ _
 obtain⟨D,z⟩:=ah w.heap.size;rw[z]at d;obtain⟨S,G,a6,X,q,A⟩:=eL U (ao #[ae g.M,ae g.c,ae g.s] 39);have B:=(q.block D (Z_ d)).trans d;have C:=p.trans (q.mono p.size);have t:=(a0.below p).below q;obtain⟨Z,H,E,a1,a2,rfl,a3,v,x⟩:=id t;obtain⟨y,i2,⟨i3,i4,i5⟩,i6,⟨i7,i8⟩,i9,F,⟨a7,K⟩⟩:=h;have a8:=y.m3;have a9:=y.m16;have b0:=y.c1;have b1:=y.tC;have b2:=y.s1;have b3:=y.iS;have N:=aY C t v x;have M:=aT i9 F K;obtain⟨e1,e2,e3⟩:=cr d;obtain⟨d1,d2,d3⟩:=cr B;obtain⟨g1,g2,g3⟩:=cr A;have a4:=ad (λn a b W R I=>xr n a b W R I);have Y:=ad (λn a b W R I=>DE n a b W R I);have J:QX (∀k,k<g.M->aF 212 #[.slice (some (ag Z H)) k E,.int .u8 3] S λe T=>(∃L,aL e (.bool L)/\((∀j,j<k->u.st j≠3)->L=false))/\S=T):=λk b4=>uT _ k u.st 3 S ⟨Z,H,E,a1,a2,rfl,aa,v,λj b5=>x j aa⟩ aa aa;clear a0 p d q A B C t v x y i9 F K;go_enter func153,ntmps153;go_wp2_with fail
 try simp only[V,z]
 go_wp2_with fail
 try simp only[a6,X]
 go_wp2_with(first|(go_at_call 210;refine(a4 _ _ _ _ aa aa).mono ?_;rintro e O ⟨rfl,rfl⟩)|(go_at_call 211;refine(Y _ _ _ _ aa aa).mono ?_;rintro e O ⟨rfl,rfl⟩));go_loopw [6,66] (λl i wr=>∃k:Nat,i= ae k/\k<=g.M/\l= ae (ru g u k:Nat)/\wr=S) (λl i _=>g.M-(intOf i).toNat)
 case atStart=>exact⟨0,rfl,QO _,rfl,rfl⟩
 case round=>
  obtain⟨k,rfl,b4,rfl,rfl⟩:=hrel;by_cases c:k<g.M
  .have r:=ad c;have c1:=(QS wr Z (H+k) a1 122 a2 N.2.2.1).trans (N.2.2.2 k c);have s:=xt g u k;rcases M.1 k c with o|o|o
   .rw [o]at c1;rw[al aa]at s;have P:=ad s;clear o s c;go_wp2_with(go_at_call 212;refine(J k r).mono ?_;rintro e O ⟨⟨L,rfl,f⟩,rfl⟩;clear f);exact⟨⟨k+1,by go_num,r,by rw[P.out],by trivial⟩,by have:=r.out;simp[intOf];omega⟩
   .rw [o]at c1;rw[al aa]at s;have P:=ad s;clear o s c;go_wp2_with(go_at_call 212;refine(J k r).mono ?_;rintro e O ⟨⟨L,rfl,f⟩,rfl⟩;clear f);exact⟨⟨k+1,by go_num,r,by rw[P.out],by trivial⟩,by have:=r.out;simp[intOf];omega⟩
   .rw [ak o]at s;have P:=ad s;have b6:QX (∀j,j<k->u.st j≠3):=λj b5 e=>by have:=M.2.1 j k aa c e o;omega
    rw[o]at c1;have b7:QG.wrap ((g.s:Int)-1)=((g.s-1:Nat):Int):=bs;clear o s c;go_wp2_with(go_at_call 212;refine(J k r).mono ?_;rintro e O ⟨⟨L,rfl,f⟩,rfl⟩;obtain rfl:=f b6);exact⟨⟨k+1,by go_num,r,by rw[P.out],by trivial⟩,by have:=r.out;simp[intOf];omega⟩
  .obtain rfl:g.M=k:=aa;have a5:u.cur<=ru g u g.M:=by
    by_cases e:u.cur=0
    .omega
    .obtain ⟨m,m1,m2⟩:=M.2.2 e;unfold ru;rw[ak (XD.2 ⟨m,TY.2 m1,by simp[m2]⟩)];omega
   go_wp2_with(go_at_call 210;refine(a4 _ _ _ _ aa aa).mono ?_;rintro e O ⟨rfl,rfl⟩);go_ret;exact⟨rfl,N.1⟩
def fu(g:aA)(u:Su)(m:Nat):Option Nat:=if u.st m=1 then none else if u.st m=2 then some 0 else some (u.cur*g.c)
structure bm where
 A:Nat
 B:Nat
 R:Nat
 W:Nat
 r:Nat
 fb:Nat
 sb:Nat
 N:Nat
 lz:Bool
abbrev DF(Z:bm)(g:aA)(u:Su)(a:Nat)(b:Bool):Array H:= #[ar Z.B,bg u.id,bg u.ev,bg u.sf,Y u.rl,Y g.M,Y g.c,Y g.s,Y u.N,.bool u.lz,.bool u.lost,a' Z.sb g.M a,Y u.cur,ar Z.R,ar Z.W,.bool false,aH 0,.bool true,.bool b]
structure lK[Lo](w:QA)(Z:bm)(g:aA)(u:Su)(yg:Bool):Prop where
 aM:∃cap,g.M<=cap/\w.heap[Z.A]? =some (N (DF Z g u cap yg) 120)
 xu:∃cs,w.heap[Z.sb]? =some (N cs 122)/\∀m,m<g.M->cs[m]? =some (.int .u8 (u.st m:Nat))
 lo:Lo.lo<=Z.A/\Lo.lo<=Z.sb
structure de[Lo](w:M)(Z:bm)(g:aA)(s:Rs)(u:Su)(yg:Bool):Prop where
 arr:lK w Z g u yg
 rs:cl w Z.R Z.B Z.W Z.r g Z.fb s
theorem lK.fr[Lo]{Z:bm}(h:lK w Z g u d)(b:Fr T aG w W)(c:T.contains 120=false)(e:T.contains 122=false):lK W Z g u d:=by obtain⟨⟨a,f,i⟩,⟨j,k,l⟩,m⟩:=h;exact⟨⟨a,f,b.hp i c⟩,⟨j,b.hp k e,l⟩,m⟩
theorem de.fr[Lo]{Z:bm}(h:de w Z g s u d)(c:Fr T aG w W)(a:(120::122::TA).all (λt=> !T.contains t)=true):de W Z g s u d:=by have b:=a;simp only[List.all_cons,VN,Bool.not_eq_true']at b;exact⟨h.arr.fr c b.1 b.2.1,h.rs.fr c (by rw[List.all_cons,List.all_cons]at a;simp only[VN]at a;exact a.2.2)⟩
theorem de.below[Lo]{Z:bm}(h:de w Z g s u d)(a:aq w W):de W Z g s u d:=
 h.fr (T:= []) (Fr.af a) rfl
theorem lK.st[Lo]{Z:bm}(h:lK w Z g u d)(a:m<g.M):w.cell? (R Z.sb m)=some (.int .u8 (u.st m:Nat)):=by obtain⟨e,b,c⟩:=h.xu;rw[(cr b).1,c m a]
theorem lK.PC[Lo]{Z:bm}(h:lK w Z g u d)(a:g.M<=n):ko w (a' Z.sb g.M n) g.M u.st:=by obtain⟨f,b,c⟩:=h.xu;exact⟨Z.sb,0,n,_,_,rfl,a,b,λk e=>by rw[RE,c k e]⟩
def mO:List Nat:= [100,106,108,142,217,219,1000000,153,221,164,120,122]
def iK[Lo](Z:bm)(w a:M):Prop:=Fr mO (λk=>k=Z.fb) w a
def eG:List Nat:= [100,106,108,142,217,219,1000000,153,221,164,120,122,3]
def Jw:List Nat:= [100,106,108,142,217,219,1000000,120,122]
def iO[Lo](Z:bm)(w a:M):Prop:=Fr Jw (λk=>k=Z.fb) w a
theorem iO.a[Lo]{Z:bm}(h:iO Z w W):iK Z w W:=Fr.wide mO h rfl
theorem iO.af[Lo]{Z:bm}(h:aq w W):iO Z w W:=Fr.af h
theorem iO.trans[Lo]{Z:bm}(h:iO Z w W)(k:iO Z W z):iO Z w z:=Fr.tr h k
theorem iO.then[Lo]{Z:bm}(h:iO Z w W)(k:aq W z):iO Z w z:=Fr.then h k
theorem Fr.ra[Lo]{Z:bm}(h:Fr iN aG w W):iK Z w W:=(h.any).wide mO rfl
theorem iK.af[Lo]{Z:bm}(h:aq w W):iK Z w W:=Fr.af h
theorem iK.trans[Lo]{Z:bm}(h:iK Z w W)(k:iK Z W z):iK Z w z:=Fr.tr h k
theorem iK.then[Lo]{Z:bm}(h:iK Z w W)(k:aq W z):iK Z w z:=Fr.then h k
theorem iK.wide[Lo]{Z:bm}(h:iK Z w W){i:Nat × Nat}(j:w.heap[Z.fb]?=some (.cells A 3 i))(v:Lo.lo<=Z.fb):Fr eG aG w W:=by
 refine⟨h.os,h.tape,h.output,h.size,λk o a g _=>?_⟩;have b:mO.contains (ty o)=false\/k<Lo.lo:=by refine g.imp (λe=>?_) id;unfold eG at e;unfold mO;simp only[List.contains_cons,ZO]at e|-;obtain⟨l,m,n,p,q,r,s,t,u,c,d,f,-⟩:=e;exact⟨l,m,n,p,q,r,s,t,u,c,d,f,rfl⟩
 refine h.block k o a b λe=>?_;subst e;rw[j]at a;cases a;rcases g with e|e
 .cases e
 .omega
theorem de.wide[Lo]{Z:bm}(h:de w Z g s u d)(a:iK Z w W):Fr eG aG w W:=a.wide h.rs.row.fJ h.rs.lo.2
theorem cl.mark[Lo](h:cl w n m i r g j s){a:Ro}(d:fg z n m (some (R i 0)) g j a)(b:Out (λk=>k=j) w z):cl z n m i r g j {s with ro:=a}:=by refine⟨d,lE h.ct b λk o e c=>?_,h.kj.fr (jm b h.row.fJ h.lo.2) rfl rfl rfl rfl,h.lo⟩;subst e;rw[h.row.fJ]at c;cases c;rfl
theorem lK.out[Lo]{w w1:M}{Z:bm}(h:lK w Z g u d)(a:Out (λk=>k=Z.fb) w w1){b:Nat × Nat}(c:aX w Z.fb (.cells A 3 b))(e:Lo.lo<=Z.fb):lK w1 Z g u d:=
 h.fr (jm a c e) rfl rfl
theorem dK[Lo](Z:bm)(g:aA)(u:Su)(a:Bool)(w:QA)(h:lK w Z g u a):aF 107 #[ar Z.A] w λe b=>aL e (Y g.M)/\w=b:=by obtain⟨c,-,d⟩:=h.aM;obtain⟨k,f,z⟩:=cr d;go_enter func107,ntmps107;go_wp2;go_ret;exact⟨rfl,rfl⟩
theorem Gz[Lo](Z:bm)(g:aA)(u:Su)(b:Bool)(m:Nat)(w:QA)(h:lK w Z g u b)(c:m<g.M)(n:g.M<=16):aF 120 #[ar Z.A,Y m] w λe d=>aL e (.bool (decide (u.st m≠2)))/\w=d:=by
 have i:=h.st c;obtain⟨j,-,l⟩:=h.aM;obtain⟨k,f,z⟩:=cr l;by_cases e:u.st m=2
 .rw [e]at i;have a:QX (decide (u.st m≠2)=false):=by show _=_;simp[e]
  go_enter func120,ntmps120;go_wp2;go_ret;exact⟨by rw[a.out];first|rfl|(simp;done)|(simp;omega),rfl⟩
 .have a:QX (decide (u.st m≠2)=true):=by show _=_;simp[e]
  have o:¬(u.st m:Int)=2:=J;go_enter func120,ntmps120;go_wp2;go_ret;exact⟨by rw[a.out];first|rfl|(simp;done)|(simp;omega),rfl⟩
theorem yV(a:Nat)(w:M)(h:a<65536):aF 108 #[aH a] w λe d=>aL e (.bool (decide (a=2\/a=51)))/\w=d:=by
 by_cases b:a=2
 .subst b;go_enter func108,ntmps108;go_wp2;go_ret;exact⟨by first|rfl|(simp;done)|(simp;omega),rfl⟩
 .by_cases c:a=51
  .subst c;go_enter func108,ntmps108;go_wp2;go_ret;exact⟨by first|rfl|(simp;done)|(simp;omega),rfl⟩
  .have g:¬(a:Int)=2:=J;have i:¬(a:Int)=51:=J;have f:QX (decide (a=2\/a=51)=false):=by show _=_;simp[b,c]
   go_enter func108,ntmps108;go_wp2;go_ret;exact⟨by rw[f.out];first|rfl|(simp;done)|(simp;omega),rfl⟩
theorem js[Lo](Z:bm)(g:aA)(u:Su)(a:Bool)(w:M)(h:lK w Z g u a):aF 99 #[ar Z.A] w λe b=>aL e (.tuple #[])/\w=b:=by obtain⟨c,-,d⟩:=h.aM;obtain⟨k,f,z⟩:=cr d;go_enter func99,ntmps99;go_wp2;go_end0;exact⟨rfl,rfl⟩
theorem Jx(a:g.ok):(g.s:Int)*(g.c:Nat)*(((g.M:Nat):Int)-1)=((g.B:Nat):Int):=by have h:=a.m3;have e:((g.M-1:Nat):Int)=((g.M:Nat):Int)-1:=J;unfold aA.B aA.E;rw[TK,TK,e,Int.mul_assoc,Int.mul_comm (g.c:Int)]
theorem xv(a:g.ok)(w:QA):aF 164 #[g.V] w λe b=>aL e (Y g.B)/\aq w b:=
 (wm (g.M:Nat) (g.c:Nat) (g.s:Nat) w (aA.gm a)).mono λe b ⟨c,d⟩=>⟨by rw[c,Jx a],d⟩
theorem lL(b:g.ok)(w:QA):aF 27 #[g.V] w λe a=>aL e (Y g.R)/\aq w a:=
 (ht (g.M:Nat) (g.c:Nat) (g.s:Nat) w (aA.gm b)).mono λe a ⟨c,d⟩=>⟨by rw[c];unfold aA.R;rw[TK],d⟩
theorem AL[Lo](Z:bm)(g:aA)(u:Su)(c:Bool)(w:M)(h:lK w Z g u c)(d:g.ok):aF 100 #[ar Z.A] w λe i=>aL e (Y g.B)/\aq w i:=by obtain⟨j,-,l⟩:=h.aM;obtain⟨k,f,z⟩:=cr l;have m:=I (xv d w);obtain⟨n,o,p⟩:=g;go_enter func100,ntmps100;go_wp2_with(go_at_call 164;refine m.mono ?_;rintro e q ⟨rfl,a⟩;have b:=I a);go_ret;exact⟨rfl,b⟩
theorem cY(p:SR)(w:M):CallsD prog 98 #[.pointer (some p)] .returning w λe a b=>aL e (.tuple #[])/\a=.returning/\b=w:=by
 refine callsD_of_wpS func98 rfl λc f d=>?_;apply wpS_seq;apply wpS_region;simp[wpOpsS,go_sem,recoverD,d,ntmps98,Exit.thenS];apply wpS_seq;apply wpS_region;simp[wpOpsS,go_sem,Exit.thenS];refine wpS_cond (t:=false) (by simp[VO,Array.replicate]) ?_;simp only[SL,if_false];refine wpS_of_wp (wp_skip ?_);cases c
 simp_all [bodyPostS,RP,results98]
def Ro.marks(a:Ro)(g:aA)(u:Su)(k:Nat):Ro:={a with fr:=λj=>if j<k then fu g u j else a.fr j}
theorem Ro.xw(a:Ro)(g:aA)(u:Su)(k:Nat):(a.marks g u k).mark k (fu g u k)=a.marks g u (k+1):=by
 unfold Ro.marks Ro.mark;congr 1;funext j;by_cases e:j=k
 .rw [ak e,ak J,e]
 .rw [al e];show(if j<k then fu g u j else a.fr j)=_;by_cases h:j<k
  .rw [ak h,ak J]
  .rw [al h,al J]
theorem AM:prog.underlying 122=some (.int .u8):=underlying122
theorem Jy(w:M):(zeroValue 165).run prog w=.ok .nilFunc w:=zeroValue165 w
theorem LF(g h i:H)(W:M):∃d f c,(SZ 166 (.map (some W.heap.size)) (.int .u8 1) g).run prog (W.alloc (.map #[] 0))=.ok () d
  /\(SZ 166 (.map (some W.heap.size)) (.int .u8 2) h).run prog d=.ok () f/\(SZ 166 (.map (some W.heap.size)) (.int .u8 3) i).run prog f=.ok () c
  /\UM c W.heap.size (λb=>if b=3 then some i else if b=2 then some h else if b=1 then some g else none)/\aq W c/\W.heap.size<c.heap.size:=by
 obtain⟨d,m,n,x,_,p⟩:=bc (UM.made W) 166 122 165 underlying166 AM 1 g;obtain⟨f,q,r,y,_,s⟩:=bc n 166 122 165 underlying166 AM 2 h;obtain⟨c,t,u3,z,_,u⟩:=bc r 166 122 165 underlying166 AM 3 i;refine⟨d,f,c,m,q,t,u3,?_,u3.lt⟩;have v:aq W (W.alloc (.map #[] 0)):=aK aj _;have j:∀{a b:M} {o:Obj},aq W a->b=a.putObj W.heap.size o->aq W b:=λ{a b o} l w=>by rw[w];exact l.grown (grownBy_putObj' _ _ _) l.size (λk e=>by cases e;exact QE _)
 exact j (j (j v p) s) u
theorem AN[Lo](Z:bm)(g:aA)(u:Su)(c:Bool)(w:M)(h:lK w Z g u c)(d:g.ok):aF 93 #[ar Z.A] w λe i=>aL e (Y g.R)/\aq w i:=by obtain⟨j,-,l⟩:=h.aM;obtain⟨k,f,z⟩:=cr l;have m:=I (lL d w);obtain⟨n,o,p⟩:=g;go_enter func93,ntmps93;go_wp2_with(go_at_call 27;refine m.mono ?_;rintro e q ⟨rfl,a⟩;have b:=I a);go_ret;exact⟨rfl,b⟩
theorem AO(a:H)(w:M):aF 94 #[a] w λe b=>aL e (Y 0)/\aq w b:=by go_enter func94,ntmps94;go_wp2;go_ret;exact⟨rfl,aj⟩
theorem xx[Lo](Z:bm)(g:aA)(u:Su)(c:Bool)(w:M)(h:lK w Z g u c)(a:u.ok g):aF 95 #[ar Z.A] w λe d=>aL e (Y (u.cur*g.c:Nat))/\aq w d:=by
 obtain⟨i,-,j⟩:=h.aM;obtain⟨k,f,z⟩:=cr j;have l:=a.cJ.tC;have n:=a.cJ.iS;have o:=a.cur.1;obtain⟨p,b⟩:=ah (u.cur*g.c);have m:p<=4096:=by rw[<-b];exact QD (TG (show u.cur<=256 by omega) l) J
 have q:QG.wrap ((u.cur:Int)*(g.c:Nat))=(p:Nat):=by
  have:((u.cur:Nat):Int)*(g.c:Nat)=((p:Nat):Int):=by rw[<-b,TK]
  rw[this];go_arith
 rw[b];go_enter func95,ntmps95;go_wp2;go_region;go_wp2;go_ret;exact⟨rfl,aj.drew⟩
structure GA(Z:bm)(g:aA)(s:Rs)(u:Su)(w:M)(k:Nat)(wr:M):Prop where
 out:Out (fun x=>x=Z.fb) w wr
 row:fg wr Z.R Z.B (some (ag Z.W 0)) g Z.fb (s.ro.marks g u k)
def LG(Z:bm)(g:aA)(b:Ro)(w:M)(e:RV)(a:M):Prop:=aL e (.tuple #[])/\fg a Z.R Z.B (some (ag Z.W 0)) g Z.fb b/\Out (λk=>k=Z.fb) w a
theorem oc[Lo](Z:bm)(g:aA)(s:Rs)(u:Su)(C:Bool)(w:QA)(h:de w Z g s u C)(a1:u.ok g):aF 58 #[ar Z.A] w (LG Z g (s.ro.marks g u g.M) w):=by
 obtain⟨x1,x2,D,m1,m2,m3,d,n,X⟩:=LF (.func (.func 93) #[] #[]) (.func (.func 94) #[] #[]) (.func (.func 95) #[] #[]) w;have a6:=λw=>eJ 166 w;obtain⟨a7,E⟩:=ah w.heap.size;rw[E]at m1 m2 m3 d;have H:Z.fb≠a7:=by have:=Z_ h.rs.row.fJ;omega
 have F:Z.A≠Z.fb:=by obtain⟨y,-,a⟩:=h.arr.aM;intro e;rw[e,h.rs.row.fJ]at a;exact absurd (UU (RM a)).2.1 ai
 have a2:=h.arr.fr (T:= []) (Fr.af n) rfl rfl;obtain⟨y,a3,a⟩:=a2.aM;have a4:=a1.cJ.m16;have N:=aY a2 h.rs.row.fJ h.rs.lo.2 a;have M:=ad a1;have a5:=aT n d X;have R:QX (GA Z g s u D 0 D):=⟨Out.refl _ _,by
  have:s.ro.marks g u 0=s.ro:=by unfold Ro.marks;simp
  rw[this];exact h.rs.row.below n⟩
 have G:=n.block Z.fb (Z_ h.rs.row.fJ);have I:=ad (G.trans h.rs.row.fJ);obtain⟨k0,f0,z0⟩:=cr a;go_enter func58,ntmps58;go_wp2
 try simp only[E]
 go_loopw [13] (λi wr=>∃k:Nat,i= ae k/\k<=g.M/\QX (GA Z g s u D k wr)) (λi _=>g.M-(intOf i).toNat)
 case atStart=>exact⟨0,rfl,QO _,R⟩
 case round=>
  obtain⟨k,rfl,a9,z⟩:=hrel;by_cases j:k<g.M
  .have A:=ad j;have K:=N.1.out z.out.out I N.2.2.1;have Y:=K.st j;have L:=ad K;have O:=z.out.out.heap N.2.2.2 F;obtain⟨k0,f0,z0⟩:=cr O;have P:=ad O;have d:=a5.2.1.out z.out.out (Ne.symm H);have J:=Ro.xw s.ro g u k;have a0:=M.st k j;have B:QX (∀W,aq wr W->∀U f,(match fu g u k with|none=>U=false|some x=>U=true/\f=((x:Nat):Int))->aF 96 #[ar Z.R,ae k,.bool U,ae f] W λe c=>aL e (.tuple #[])/\GA Z g s u D (k+1) c/\Out (λx=>x=Z.fb) W c/\c.heap[Z.A]?=some (ao (DF Z g u y C) 120)):=λW a U f V=>by
    have r:=z.row.below a;have a8:=(a.block _ (Z_ P)).trans P;have b:∀{c:QA},fg c Z.R Z.B (some (ag Z.W 0)) g Z.fb ((s.ro.marks g u k).mark k (fu g u k))->Out (λx=>x=Z.fb) W c->GA Z g s u D (k+1) c/\Out (λx=>x=Z.fb) W c/\c.heap[Z.A]?=some (ao (DF Z g u y C) 120):=λh1 h2=>⟨⟨z.out.out.tr ((Out.af a).tr h2),by rw[<-J];exact h1⟩,h2,h2.heap a8 F⟩;cases t:fu g u k with
    |none=>rw[t]at V b;subst V;exact(Gk _ _ _ g Z.fb _ k f W r j a4).mono λe c ⟨o,p,q⟩=>⟨o,b p q⟩
    |some x=>rw[t]at V b;obtain⟨rfl,rfl⟩:=V;exact(Ay _ _ _ g Z.fb _ k x W r j a4).mono λe c ⟨o,p,q⟩=>⟨o,b p q⟩
   rcases a0 with v|v|v
   .have t:fu g u k=none:=by unfold fu;simp[v]
    rw[v]at Y;have l:=dQ (d.out ((Out.refl (λ_=>False) wr).drew) id) 166 122 165 .nilFunc false underlying166 AM (Jy _) 1;simp only[Int.reduceEq,if_true,if_false,TD,SL]at l;rw[t]at B;have Q:=ad (λW (a:aq wr W)=>AN Z g u C W (L.fr (T:= []) (Fr.af a) rfl rfl) M.cJ);go_wp2;go_region_held3(λc=>c.cell? (ag Z.A 13)=some (ar Z.R)) ((simp[*,go_sem];done)) (first|(go_at_call 93;refine(Q _ bF).mono ?_;rintro e w3 ⟨rfl,a⟩;obtain⟨p1,p2,p3⟩:=kp a Z.A dG;have m:=ad a)|(go_at_call 96;refine(B _ (via bF m) _ _ rfl).mono ?_;rintro e w4 ⟨rfl,o,p,q⟩;have S:=aB o p;have p4:=(cr q).1 13));go_wp2;exact⟨⟨k+1,by go_num,A,S.1⟩,by have:=A.out;simp[intOf];omega⟩
   .have t:fu g u k=some 0:=by unfold fu;simp[v]
    rw[v]at Y;have l:=dQ (d.out ((Out.refl (λ_=>False) wr).drew) id) 166 122 165 .nilFunc false underlying166 AM (Jy _) 2;simp only[Int.reduceEq,if_true,if_false,TD,SL]at l;rw[t]at B;have Q:=ad (λW (a:aq wr W)=>AO (ar Z.A) W);go_wp2;go_region_held3(λc=>c.cell? (ag Z.A 13)=some (ar Z.R)) ((simp[*,go_sem];done)) (first|(go_at_call 94;refine(Q _ bF).mono ?_;rintro e w3 ⟨rfl,a⟩;obtain⟨p1,p2,p3⟩:=kp a Z.A dG;have m:=ad a)|(go_at_call 96;refine(B _ (via bF m) _ _ ⟨rfl,rfl⟩).mono ?_;rintro e w4 ⟨rfl,o,p,q⟩;have S:=aB o p;have p4:=(cr q).1 13));go_wp2;exact⟨⟨k+1,by go_num,A,S.1⟩,by have:=A.out;simp[intOf];omega⟩
   .have t:fu g u k=some (u.cur*g.c):=by unfold fu;simp[v]
    rw[v]at Y;have l:=dQ (d.out ((Out.refl (λ_=>False) wr).drew) id) 166 122 165 .nilFunc false underlying166 AM (Jy _) 3;simp only[Int.reduceEq,if_true,if_false,TD,SL]at l;rw[t]at B;have Q:=ad (λW (a:aq wr W)=>xx Z g u C W (L.fr (T:= []) (Fr.af a) rfl rfl) M);go_wp2;go_region_held3(λc=>c.cell? (ag Z.A 13)=some (ar Z.R)) ((simp[*,go_sem];done)) (first|(go_at_call 95;refine(Q _ bF).mono ?_;rintro e w3 ⟨rfl,a⟩;obtain⟨p1,p2,p3⟩:=kp a Z.A dG;have m:=ad a)|(go_at_call 96;refine(B _ (via bF m) _ _ ⟨rfl,rfl⟩).mono ?_;rintro e w4 ⟨rfl,o,p,q⟩;have S:=aB o p;have p4:=(cr q).1 13));go_wp2;exact⟨⟨k+1,by go_num,A,S.1⟩,by have:=A.out;simp[intOf];omega⟩
  .obtain rfl:k=g.M:=aa;go_wp2;go_end0;exact⟨rfl,z.row,(Out.af a5.1).tr z.out.out⟩
theorem Pk.lt(h:Pk S w n m i f)(hk:S k):k<w.heap.size:=by
 obtain⟨c,a,b,d,rfl⟩:=h;rcases hk with rfl|hk
 .exact Z_ a
 .exact (b.lt _ hk).2
def xy(b o:Nat):Prop:=(∀a w,(VF b a).run prog w=.ok (.enter b a) w)/\∀(D:Nat) (w:M),aF b #[ar D] w λe c=>aL e (.pointer (some ⟨D,o,none⟩))/\w=c
theorem Ik:xy 221 0:=⟨RH func221 aE rfl,λD w=>by go_enter func221,ntmps221;go_wp2;go_ret;exact⟨rfl,rfl⟩⟩
theorem Il:xy 222 1:=⟨RH func222 aE rfl,λD w=>by go_enter func222,ntmps222;go_wp2;go_ret;exact⟨rfl,rfl⟩⟩
theorem Im:xy 223 2:=⟨RH func223 aE rfl,λD w=>by go_enter func223,ntmps223;go_wp2;go_ret;exact⟨rfl,rfl⟩⟩
theorem Io:xy 227 3:=⟨RH func227 aE rfl,λD w=>by go_enter func227,ntmps227;go_wp2;go_ret;exact⟨rfl,rfl⟩⟩
theorem Ip:xy 228 4:=⟨RH func228 aE rfl,λD w=>by go_enter func228,ntmps228;go_wp2;go_ret;exact⟨rfl,rfl⟩⟩
theorem Iq:xy 229 5:=⟨RH func229 aE rfl,λD w=>by go_enter func229,ntmps229;go_wp2;go_ret;exact⟨rfl,rfl⟩⟩
theorem Ir:xy 236 6:=⟨RH func236 aE rfl,λD w=>by go_enter func236,ntmps236;go_wp2;go_ret;exact⟨rfl,rfl⟩⟩
theorem Is:xy 237 7:=⟨RH func237 aE rfl,λD w=>by go_enter func237,ntmps237;go_wp2;go_ret;exact⟨rfl,rfl⟩⟩
theorem It:xy 238 11:=⟨RH func238 aE rfl,λD w=>by go_enter func238,ntmps238;go_wp2;go_ret;exact⟨rfl,rfl⟩⟩
theorem DG(m o v d g p N:Nat)(Z:Nat->Prop)(f:aN)(h:Array QC)(W:QA)(z:xy m o)(A:h[o]?=some (bg v))(C:Pk Z W p 128 N f)(I:N+8<=128)(q:¬Z d)(r:¬Z g)(E:aX W d (ao #[.func (.func 219) #[] #[]] 316))(F:aX W g (ao #[.func (.func m) #[] #[]] 321))(s:∃G K L O x4 P Q S T U i j,h= #[G,K,L,O,x4,P,Q,S,T,U,i,j]):
  aF 280 #[ar p,.agg h,ar d,ar g] W (oE Z W p 128 (N+8) (cat N f (leB v))):=by
 obtain⟨k,t⟩:=ah (W.alloc (ao h 117));have a:aq W k:=by rw[<-t];exact aK aj _
 have c:aX k W.heap.size (ao h 117):=by rw[<-t];exact QB _ _
 obtain⟨D,l⟩:=ah W.heap.size;rw[l]at c;have V:=(a.block _ (Z_ E)).trans E;have X:=(a.block _ (Z_ F)).trans F;obtain⟨k1,f1,z1⟩:=cr V;obtain⟨k2,f2,z2⟩:=cr X;have c1:k.cell? (ag D o)=some (bg v):=((cr c).1 o).trans A;have a4:=z.1;have Y:=ad (λW=>z.2 D W);have u:¬Z D:=λe=>by have:=C.lt e;omega
 have J:QX (∀n,aq k n->aF 219 #[ar p,.int .u64 v] n λe b=>oE Z W p 128 (N+8) (cat N f (leB v)) e b/\b.cell? (ag d 0)=some (.func (.func 219) #[] #[])/\b.cell? (ag g 0)=some (.func (.func m) #[] #[])/\b.cell? (ag D o)=some (bg v)):=λn w=>(sc Z n p 128 N v f ((C.cV a).cV w) aa I).mono λe b ⟨H,a0,M,x⟩=>
  have y:∀{B:Nat} {o:Obj},aX k B o->¬Z B->aX b B o:=λR a1=>x.out.heap ((w.block _ (Z_ R)).trans R) a1
  ⟨⟨H,a0,M,hB.pre (a.trans (w.mono a.size)) x⟩,(cr (y V q)).1 0,(cr (y X r)).1 0,((cr (y c u)).1 o).trans A⟩
 obtain⟨G,K,L,O,x4,P,Q,S,T,U,i,j,rfl⟩:=s;go_enter func280,ntmps280;go_wp2_with fail
 try simp only[t,l]
 go_region_held3(λb=>b.cell? (ag d 0)=some (.func (.func 219) #[] #[])/\b.cell? (ag g 0)=some (.func (.func m) #[] #[])/\b.cell? (ag D o)=some (bg v)) ((simp[*,go_sem];done)) (first|(go_at_call 219;refine(J _ bF).mono ?_;rintro e w3 ⟨⟨rfl,a2⟩,H,M,x⟩;have a3:=ad a2)|(refine(Y _).mono ?_;rintro e w3 ⟨rfl,rfl⟩))
 all_goals go_wp2
 go_end0;exact⟨rfl,a3⟩
theorem Jz(m o v d g p N:Nat)(Z:Nat->Prop)(f:aN)(h:Array QC)(W:QA)(z:xy m o)(A:h[o]?=some (ae v))(C:Pk Z W p 128 N f)(I:N+1<=128)(Y:v<256)(q:¬Z d)(r:¬Z g)(E:aX W d (ao #[.func (.func 225) #[] #[]] 323))(F:aX W g (ao #[.func (.func m) #[] #[]] 327))(s:∃G K L O x4 P Q S T U i j,h= #[G,K,L,O,x4,P,Q,S,T,U,i,j]):
  aF 283 #[ar p,.agg h,ar d,ar g] W (oE Z W p 128 (N+1) (cat N f (leB v))):=by
 obtain⟨k,t⟩:=ah (W.alloc (ao h 117));have a:aq W k:=by rw[<-t];exact aK aj _
 have c:aX k W.heap.size (ao h 117):=by rw[<-t];exact QB _ _
 obtain⟨D,l⟩:=ah W.heap.size;rw[l]at c;have V:=(a.block _ (Z_ E)).trans E;have X:=(a.block _ (Z_ F)).trans F;obtain⟨k1,f1,z1⟩:=cr V;obtain⟨k2,f2,z2⟩:=cr X;have c1:k.cell? (ag D o)=some (ae v):=((cr c).1 o).trans A;have a5:=z.1;have J:=ad (λW=>z.2 D W);have u:¬Z D:=λe=>by have:=C.lt e;omega
 have a0:QX (∀n,aq k n->aF 225 #[ar p,.int .u8 v] n λe b=>oE Z W p 128 (N+1) (cat N f (leB v)) e b/\b.cell? (ag d 0)=some (.func (.func 225) #[] #[])/\b.cell? (ag g 0)=some (.func (.func m) #[] #[])/\b.cell? (ag D o)=some (ae v)):=λn w=>(wE Z n p 128 N v f ((C.cV a).cV w) aa I Y).mono λe b ⟨H,a1,M,x⟩=>
  have y:∀{B:Nat} {o:Obj},aX k B o->¬Z B->aX b B o:=λR a2=>x.out.heap ((w.block _ (Z_ R)).trans R) a2
  ⟨⟨H,a1,M,hB.pre (a.trans (w.mono a.size)) x⟩,(cr (y V q)).1 0,(cr (y X r)).1 0,((cr (y c u)).1 o).trans A⟩
 obtain⟨G,K,L,O,x4,P,Q,S,T,U,i,j,rfl⟩:=s;have a6:IntKind.u8.wrap (v:Int)=v:=bs;go_enter func283,ntmps283;go_wp2_with fail
 try simp only[t,l]
 go_region_held3(λb=>b.cell? (ag d 0)=some (.func (.func 225) #[] #[])/\b.cell? (ag g 0)=some (.func (.func m) #[] #[])/\b.cell? (ag D o)=some (ae v)) ((simp[*,go_sem];done)) (first|(go_at_call 225;refine(a0 _ bF).mono ?_;rintro e w3 ⟨⟨rfl,a3⟩,H,M,x⟩;have a4:=ad a3)|(refine(J _).mono ?_;rintro e w3 ⟨rfl,rfl⟩))
 all_goals go_wp2
 go_end0;exact⟨rfl,a4⟩
theorem DH(m o v d g p N:Nat)(Z:Nat->Prop)(f:aN)(h:Array QC)(W:QA)(z:xy m o)(A:h[o]?=some (ae v))(C:Pk Z W p 128 N f)(I:N+2<=128)(Y:v<65536)(q:¬Z d)(r:¬Z g)(E:aX W d (ao #[.func (.func 234) #[] #[]] 330))(F:aX W g (ao #[.func (.func m) #[] #[]] 327))(s:∃G K L O x4 P Q S T U i j,h= #[G,K,L,O,x4,P,Q,S,T,U,i,j]):
  aF 285 #[ar p,.agg h,ar d,ar g] W (oE Z W p 128 (N+2) (cat N f (leB v))):=by
 obtain⟨k,t⟩:=ah (W.alloc (ao h 117));have a:aq W k:=by rw[<-t];exact aK aj _
 have c:aX k W.heap.size (ao h 117):=by rw[<-t];exact QB _ _
 obtain⟨D,l⟩:=ah W.heap.size;rw[l]at c;have V:=(a.block _ (Z_ E)).trans E;have X:=(a.block _ (Z_ F)).trans F;obtain⟨k1,f1,z1⟩:=cr V;obtain⟨k2,f2,z2⟩:=cr X;have c1:k.cell? (ag D o)=some (ae v):=((cr c).1 o).trans A;have a5:=z.1;have J:=ad (λW=>z.2 D W);have u:¬Z D:=λe=>by have:=C.lt e;omega
 have a0:QX (∀n,aq k n->aF 234 #[ar p,.int .u16 v] n λe b=>oE Z W p 128 (N+2) (cat N f (leB v)) e b/\b.cell? (ag d 0)=some (.func (.func 234) #[] #[])/\b.cell? (ag g 0)=some (.func (.func m) #[] #[])/\b.cell? (ag D o)=some (ae v)):=λn w=>(yx Z n p 128 N v f ((C.cV a).cV w) aa I Y).mono λe b ⟨H,a1,M,x⟩=>
  have y:∀{B:Nat} {o:Obj},aX k B o->¬Z B->aX b B o:=λR a2=>x.out.heap ((w.block _ (Z_ R)).trans R) a2
  ⟨⟨H,a1,M,hB.pre (a.trans (w.mono a.size)) x⟩,(cr (y V q)).1 0,(cr (y X r)).1 0,((cr (y c u)).1 o).trans A⟩
 obtain⟨G,K,L,O,x4,P,Q,S,T,U,i,j,rfl⟩:=s;have a6:IntKind.u16.wrap (v:Int)=v:=bs;go_enter func285,ntmps285;go_wp2_with fail
 try simp only[t,l]
 go_region_held3(λb=>b.cell? (ag d 0)=some (.func (.func 234) #[] #[])/\b.cell? (ag g 0)=some (.func (.func m) #[] #[])/\b.cell? (ag D o)=some (ae v)) ((simp[*,go_sem];done)) (first|(go_at_call 234;refine(a0 _ bF).mono ?_;rintro e w3 ⟨⟨rfl,a3⟩,H,M,x⟩;have a4:=ad a3)|(refine(J _).mono ?_;rintro e w3 ⟨rfl,rfl⟩))
 all_goals go_wp2
 go_end0;exact⟨rfl,a4⟩
def hn(k:Nat):Nat:=if k=0 then 83 else if k=1 then 80 else if k=2 then 83 else if k=3 then 66 else if k=4 then 1 else 0
theorem pA(w:M):aF 215 #[] w λe a=>(∃v,aL e v/\kc a v 8 hn)/\aq w a:=by
 have d:=λ(w:M) (C:Array H) (n c:Nat)=>Lib.run_convert_bytes_const (P:=prog) w 41 5 C n c UO UA;go_enter func215,ntmps215;go_wp2;go_ret;refine⟨⟨_,rfl,some (R w.heap.size 0),_,rfl,.inr ⟨_,_,rfl,λk b=>?_⟩⟩,aK aj _⟩;refine(QS _ _ _ _ _ _ (QB _ _)).trans ?_
 match k,b with
 |0,_=>rfl
 |1,_=>rfl
 |2,_=>rfl
 |3,_=>rfl
 |4,_=>rfl
 |5,_=>rfl
 |6,_=>rfl
 |7,_=>rfl
theorem AP(p:Nat)(Z:Nat->Prop)(N:Nat)(f:aN)(h:Array H)(W:M)(j:Pk Z W p 128 N f)(k:N+8<=128):
  aF 213 #[ar p,.agg h] W (oE Z W p 128 (N+8) (cat N f hn)):=by
 obtain⟨g,i⟩:=ah (W.alloc (ao h 117));have a:aq W g:=by rw[<-i];exact aK aj _
 have l:=I (pA g);have m:QX (∀v b,aq g b->kc b v 8 hn->aF 214 #[ar p,v] b (oE Z W p 128 (N+8) (cat N f hn))):=λv b c d=>(sh Z b p 128 N 8 v f hn ((j.cV a).cV c) d J J k).mono λe x ⟨n,o,q,r⟩=>⟨n,o,q,hB.pre (a.trans (c.mono a.size)) r⟩;go_enter func213,ntmps213;go_wp2_with fail
 try simp only[i]
 refine l.mono ?_;rintro e y ⟨⟨v,rfl,d⟩,c⟩;have s:=I d;have t:=I c;obtain⟨z,A,rfl,-⟩:=d;go_wp2_with fail;refine(m _ _ t s).mono ?_;rintro e B ⟨rfl,u⟩;have w:=I u;go_wp2;go_end0;exact⟨rfl,w⟩
def jt(u:Su):Nat:=(if u.lz=true then 1 else 0)+(if u.lost=true then 2 else 0)
theorem GB(g:aA)(u:Su)(c:H)(w:M):aF 231 #[.agg (dy g u c)] w λe d=>aL e (.int .u8 (jt u:Nat))/\aq w d:=by
 have b:=I (show jt u=(if u.lz=true then 1 else 0)+(if u.lost=true then 2 else 0)from rfl);obtain⟨id,i,j,k,N,f,a,l,h⟩:=u;simp only at b;cases f<;>cases a
 all_goals
  go_enter func231,ntmps231;go_wp2;go_ret;exact⟨by rw[b.out];first|rfl|simp,aK aj _⟩
theorem DI(g:aA)(u:Su)(d:H)(p:Nat)(Z:Nat->Prop)(N:Nat)(f:aN)(W:M)(m:Pk Z W p 128 N f)(n:N+1<=128):
  aF 230 #[ar p,.agg (dy g u d)] W (oE Z W p 128 (N+1) (cat N f (leB (jt u)))):=by
 obtain⟨h,k⟩:=ah (W.alloc (ao (dy g u d) 117));have a:aq W h:=by rw[<-k];exact aK aj _
 have b:aX h W.heap.size (ao (dy g u d) 117):=by rw[<-k];exact QB _ _
 obtain⟨D,c⟩:=ah W.heap.size;rw[c]at b;have o:=I (GB g u d h);have l:jt u<256:=by unfold jt;split<;>split<;>omega
 have q:QX (∀i,aq h i->aF 225 #[ar p,.int .u8 (jt u:Nat)] i (oE Z W p 128 (N+1) (cat N f (leB (jt u))))):=λi j=>(wE Z i p 128 N (jt u) f ((m.cV a).cV j) J n l).mono λe z ⟨r,s,t,v⟩=>⟨r,s,t,hB.pre (a.trans (j.mono a.size)) v⟩;obtain⟨d1,d2,d3⟩:=cr b;go_enter func230,ntmps230;go_wp2_with fail
 try simp only[k,c]
 go_wp2_with(first|(go_at_call 231;refine o.mono ?_;rintro e A ⟨rfl,j⟩;have w:=I j)|(go_at_call 225;refine(q _ w).mono ?_;rintro e B ⟨rfl,x⟩;have y:=I x));go_end0;exact⟨rfl,y⟩
theorem DJ(c:Array H)(p:Nat)(Z:Nat->Prop)(N:Nat)(f:aN)(W:M)(g:Pk Z W p 128 N f)(h:N+2<=128):
  aF 239 #[ar p,.agg c] W (oE Z W p 128 (N+2) (cat N f (leB 0))):=by
 obtain⟨b,d⟩:=ah (W.alloc (ao c 117));have a:aq W b:=by rw[<-d];exact aK aj _
 have i:QX (aF 234 #[ar p,aH 0] b (oE Z W p 128 (N+2) (cat N f (leB 0)))):=(yx Z b p 128 N 0 f (g.cV a) J h J).mono λe q ⟨j,k,l,m⟩=>⟨j,k,l,hB.pre a m⟩;go_enter func239,ntmps239;go_wp2_with fail
 try simp only[d]
 refine i.mono ?_;rintro e r ⟨rfl,n⟩;have o:=I n;go_wp2;go_end0;exact⟨rfl,o⟩
theorem Pk.congr{f g:aN}(h:Pk S w n m i f)(e:∀k,k<i->f k=g k):Pk S w n m i g:=by obtain⟨a,b,c,d,j⟩:=h;exact⟨a,b,by rw[<-ed e];exact c,d,j⟩
def Iu(u:Su)(j:Nat):Nat:=u.st j%256
structure LH(Z:Nat->Prop)(W:M)(p N:Nat)(F:aN)(wr:M):Prop where
 pk:∃Z',Pk Z' wr p 128 N F/\hB Z W wr Z'
theorem LH.next{e:RV}(a:hB S W w Q)(h:oE Q w n 128 (m+k+1) (cat (m+k) (cat m f (Iu u)) (leB (u.st k))) e z):LH S W n (m+(k+1)) (cat m f (Iu u)) z:=by
 obtain⟨-,b,c,d⟩:=h;refine⟨b,c.congr λj i=>?_,a.trans d⟩;unfold cat;by_cases g:j<m+k
 .rw [ak g]
 .obtain rfl:j=m+k:=J;rw[al (TL _),al J];unfold leB Iu;rw[Nat.sub_self,UW,Nat.pow_zero,Nat.div_one]
theorem xz(g:aA)(u:Su)(c:QC)(p:Nat)(Z:Nat->Prop)(N:Nat)(f:aN)(W:QA)(G:Pk Z W p 128 N f)(K:ko W c g.M u.st)(l:∀k,c.ownBlock=some k->¬Z k)(H:N+g.M<=128)(n:∀m,m<g.M->u.st m<256):
  aF 242 #[ar p,.agg (dy g u c)] W (oE Z W p 128 (N+g.M) (cat N f (Iu u))):=by
 obtain⟨q,r⟩:=ah (W.alloc (ao (dy g u c) 117));have d:aq W q:=by rw[<-r];exact aK aj _
 have h:aX q W.heap.size (ao (dy g u c) 117):=by rw[<-r];exact QB _ _
 obtain⟨D,j⟩:=ah W.heap.size;rw[j]at h;obtain⟨b,o,L,z,A,rfl,B,O,P⟩:=K;have s:¬Z b:=l b rfl;have t:=aT O s P;have v:=ad n;have w:QX (LH Z W p (N+0) (cat N f (Iu u)) q):=⟨Z,(G.cV d).congr λk Q=>by unfold cat;rw[ak J],hB.same d⟩;have M:g.M<=128:=J;obtain⟨d1,d2,d3⟩:=cr h;go_enter func242,ntmps242;go_wp2
 try simp only[r,j]
 go_loopw [9] (λi wr=>∃k:Nat,i= Y k/\k<=g.M/\QX (LH Z W p (N+k) (cat N f (Iu u)) wr)) (λi _=>g.M-(intOf i).toNat)
 case atStart=>exact⟨0,rfl,QO _,w⟩
 case round=>
  obtain⟨k,rfl,Q,C⟩:=hrel;by_cases a:k<g.M
  .have E:=ad a;obtain⟨S,T,F⟩:=C.pk;have x:aX wr b (.cells z 122 A):=F.out.heap t.1 t.2.1;have R:=(QS wr b (o+k) z 122 A x).trans (t.2.2 k a);have U:=ad (wE S wr p 128 (N+k) (u.st k) _ T J J (v k a));have V:=ad F;go_wp2_with(go_at_call 225;refine U.mono ?_;rintro e I y;have X:=ad (LH.next V y);obtain⟨rfl,y⟩:=y);exact⟨⟨k+1,by go_num,E,X⟩,by have:=E.out;simp[intOf];omega⟩
  .obtain rfl:g.M=k:=J;go_wp2;go_end0;exact⟨rfl,C.pk⟩
structure ts(w:M)(b:Nat)(t1 t2 t3:SQ)(v1 v2 v3:H):Prop where
 b1:w.heap[b]? =some (.cells #[v1] t1 (0,0))
 b2:w.heap[b+1]? =some (.cells #[v2] t2 (0,0))
 b3:w.heap[b+2]? =some (.cells #[v3] t3 (0,0))
theorem ts.below{t1 t2 t3:SQ}(h:ts w n t1 t2 t3 v x y)(a:aq w W):ts W n t1 t2 t3 v x y:=
 ⟨(a.block _ (Z_ h.b1)).trans h.b1,(a.block _ (Z_ h.b2)).trans h.b2,(a.block _ (Z_ h.b3)).trans h.b3⟩
abbrev gL(n:Nat):H:=.func (.func n) #[] #[]
abbrev nA(n a b:Nat):H:=.func (.func n) #[] #[ar a,ar b]
def JA(f1 f2:Nat)(t1 t2 t3:SQ)(c d f:Nat)(w:M)(e:RV)(a:M):Prop:=
 ∃b,aL e (.agg #[nA f1 b (b+2),nA f2 (b+1) (b+2)])/\ts a b t1 t2 t3 (gL c) (gL d) (gL f)/\aq w a
theorem NG(w:M)(a b c:H)(t1 t2 t3:SQ)(o:Obj):ts ((((w.alloc (.cells #[a] t1)).alloc (.cells #[b] t2)).alloc (.cells #[c] t3)).alloc o) w.heap.size t1 t2 t3 a b c:=by
 have d:(((w.alloc (.cells #[a] t1)).alloc (.cells #[b] t2)).alloc (.cells #[c] t3)).heap[w.heap.size+2]?=some (.cells #[c] t3 (0,0)):=eZ (w.alloc (.cells #[a] t1)) (.cells #[b] t2) (.cells #[c] t3)|>λh=>by simpa using h
 have e:(((w.alloc (.cells #[a] t1)).alloc (.cells #[b] t2)).alloc (.cells #[c] t3)).heap[w.heap.size+1]?=some (.cells #[b] t2 (0,0)):=by have:=e_ (w.alloc (.cells #[a] t1)) (.cells #[b] t2) (.cells #[c] t3);simpa using this
 have f:SK (w.alloc (.cells #[a] t1)).heap.size (w.alloc (.cells #[a] t1)) (((w.alloc (.cells #[a] t1)).alloc (.cells #[b] t2)).alloc (.cells #[c] t3)):=aK (aK aj _) _;have g:=(f.block w.heap.size (Z_ (QB w (.cells #[a] t1)))).trans (QB w (.cells #[a] t1));exact(ts.mk g e d).below (aK aj _)
theorem DK(a b c:Nat)(w:M):aF 218 #[gL a,gL b,gL c] w (JA 280 281 316 318 321 a b c w):=by go_enter func218,ntmps218;go_wp2;refine QT (v:=.agg #[nA 280 w.heap.size (w.heap.size+2),nA 281 (w.heap.size+1) (w.heap.size+2)]) (by simp[RP,results218,go_sem]) rfl ?_;exact⟨w.heap.size,rfl,NG w _ _ _ _ _ _ _,aK (aK (aK (aK aj _) _) _) _⟩
theorem JB(a b c:Nat)(w:M):aF 224 #[gL a,gL b,gL c] w (JA 283 284 323 325 327 a b c w):=by go_enter func224,ntmps224;go_wp2;refine QT (v:=.agg #[nA 283 w.heap.size (w.heap.size+2),nA 284 (w.heap.size+1) (w.heap.size+2)]) (by simp[RP,results224,go_sem]) rfl ?_;exact⟨w.heap.size,rfl,NG w _ _ _ _ _ _ _,aK (aK (aK (aK aj _) _) _) _⟩
theorem DL(a b c:Nat)(w:M):aF 233 #[gL a,gL b,gL c] w (JA 285 286 330 332 327 a b c w):=by go_enter func233,ntmps233;go_wp2;refine QT (v:=.agg #[nA 285 w.heap.size (w.heap.size+2),nA 286 (w.heap.size+1) (w.heap.size+2)]) (by simp[RP,results233,go_sem]) rfl ?_;exact⟨w.heap.size,rfl,NG w _ _ _ _ _ _ _,aK (aK (aK (aK aj _) _) _) _⟩
def DM(b:aN):Array H:= #[gL 213,gL 216,nA 280 (b 1) (b 1+2),nA 281 (b 1+1) (b 1+2),nA 280 (b 2) (b 2+2),nA 281 (b 2+1) (b 2+2),nA 280 (b 3) (b 3+2),nA 281 (b 3+1) (b 3+2),nA 283 (b 4) (b 4+2),nA 284 (b 4+1) (b 4+2),nA 283 (b 5) (b 5+2),nA 284 (b 5+1) (b 5+2),nA 283 (b 6) (b 6+2),nA 284 (b 6+1) (b 6+2),gL 230,gL 232,nA 285 (b 8) (b 8+2),nA 286 (b 8+1) (b 8+2),nA 285 (b 9) (b 9+2),nA 286 (b 9+1) (b 9+2),nA 285 (b 10) (b 10+2),nA 286 (b 10+1) (b 10+2),gL 239,gL 240,gL 242,gL 243]
structure gg(w:M)(F:Nat)(b:aN):Prop where
 aM:w.heap[F]? =some (N (DM b) 238)
 f1:ts w (b 1) 316 318 321 (gL 219) (gL 220) (gL 221)
 f2:ts w (b 2) 316 318 321 (gL 219) (gL 220) (gL 222)
 f3:ts w (b 3) 316 318 321 (gL 219) (gL 220) (gL 223)
 f4:ts w (b 4) 323 325 327 (gL 225) (gL 226) (gL 227)
 f5:ts w (b 5) 323 325 327 (gL 225) (gL 226) (gL 228)
 f6:ts w (b 6) 323 325 327 (gL 225) (gL 226) (gL 229)
 f8:ts w (b 8) 330 332 327 (gL 234) (gL 235) (gL 236)
 f9:ts w (b 9) 330 332 327 (gL 234) (gL 235) (gL 237)
 f10:ts w (b 10) 330 332 327 (gL 234) (gL 235) (gL 238)
theorem gg.below(h:gg w n f)(a:aq w W):gg W n f:=
 ⟨(a.block _ (Z_ h.aM)).trans h.aM,h.f1.below a,h.f2.below a,h.f3.below a,h.f4.below a,h.f5.below a,h.f6.below a,h.f8.below a,h.f9.below a,h.f10.below a⟩
def NH(w:M)(e:RV)(a:M):Prop:=∃F b,aL e (a' F 13 13)/\gg a F b/\aq w a
theorem ry(w:QA):aF 155 #[] w (NH w):=by go_enter func155,ntmps155;go_wp2_with fail;refine(DK 219 220 221 _).mono ?_;rintro e w1 ⟨B,rfl,W,X⟩;have q:=ad W;have c:=ad X;go_wp2_with fail;refine(DK 219 220 222 _).mono ?_;rintro e w2 ⟨C,rfl,Z,H⟩;have r:=ad Z;have d:=ad H;go_wp2_with fail;refine(DK 219 220 223 _).mono ?_;rintro e w3 ⟨D,rfl,N,M⟩;have s:=ad N;have f:=ad M;go_wp2_with fail;refine(JB 225 226 227 _).mono ?_;rintro e w4 ⟨E,rfl,x4,R⟩;have t:=ad x4;have g:=ad R;go_wp2_with fail;refine(JB 225 226 228 _).mono ?_;rintro e w5 ⟨F,rfl,I,Y⟩;have u:=ad I;have h:=ad Y;go_wp2_with fail;refine(JB 225 226 229 _).mono ?_;rintro e w6 ⟨G,rfl,J,y6⟩;have v:=ad J;have i:=ad y6;go_wp2_with fail;refine(DL 234 235 236 _).mono ?_;rintro e w8 ⟨K,rfl,x8,y8⟩;have x:=ad x8;have k:=ad y8;go_wp2_with fail;refine(DL 234 235 237 _).mono ?_;rintro e w9 ⟨L,rfl,x9,y9⟩;have y:=ad x9;have l:=ad y9;go_wp2_with fail;refine(DL 234 235 238 _).mono ?_;rintro e b ⟨m,rfl,z,A⟩;have n:=ad z;have a:=ad A;go_wp2;go_ret;have a0:∀o,aq b (b.alloc o):=λo=>aK aj _;have p:=a0 (ao (DM (λj=>if j=1 then B else if j=2 then C else if j=3 then D else if j=4 then E else if j=5 then F else if j=6 then G else if j=8 then K else if j=9 then L else if j=10 then m else 0)) 238);have O:=a.trans (p.mono a.size);have P:=l.trans (O.mono l.size);have Q:=k.trans (P.mono k.size);have S:=i.trans (Q.mono i.size);have T:=h.trans (S.mono h.size);have z3:=g.trans (T.mono g.size);have U:=f.trans (z3.mono f.size);have V:=d.trans (U.mono d.size);refine⟨b.heap.size,λj=>if j=1 then B else if j=2 then C else if j=3 then D else if j=4 then E else if j=5 then F else if j=6 then G else if j=8 then K else if j=9 then L else if j=10 then m else 0,rfl,⟨QB _ _,q.below V,r.below U,s.below z3,t.below T,u.below S,v.below Q,x.below P,y.below O,n.below p⟩,c.trans (V.mono c.size)⟩
def gr(g:aA):Nat->Nat
 |0=>0
 |1=>8
 |2=>16
 |3=>24
 |4=>32
 |5=>33
 |6=>34
 |7=>35
 |8=>36
 |9=>38
 |10=>40
 |11=>42
 |12=>44
 |_=>44+g.M
def xB(g:aA)(u:Su):Nat->Nat->Nat
 |0=>hn
 |1=>leB u.id
 |2=>leB u.ev
 |3=>leB u.sf
 |4=>leB u.rl
 |5=>leB g.M
 |6=>leB g.c
 |7=>leB (jt u)
 |8=>leB g.s
 |9=>leB u.N
 |10=>leB u.cur
 |11=>leB 0
 |_=>Iu u
def qu(g:aA)(u:Su):Nat->Nat->Nat
 |0=>λ_=>0
 |k+1=>cat (gr g k) (qu g u k) (xB g u k)
def kq(g:aA)(u:Su):Nat->Nat:=cat (44+g.M) (qu g u 13) λ_=>0
def fZ(g:aA)(u:Su):Nat->Nat:=cat 128 (cat 124 (kq g u) (leB (dN 0 124 (kq g u)))) λ_=>0
theorem Pk.ty(h:Pk S w n m i f){b:Nat × Nat}(a:w.heap[k]?=some (.cells A t b))(c:t≠309)(d:t≠5):¬S k:=by
 obtain⟨r,j,l,s,rfl⟩:=h;rintro(rfl|e)
 .rw [j]at a;cases a;exact c rfl
 .rcases l.2 with⟨rfl,_⟩|⟨g,o,p,rfl,_,q,_⟩
  .cases e
  .cases e;rw[q]at a;cases a;exact d rfl
theorem ts.AQ{t1 t2 t3:SQ}(h:ts w i t1 t2 t3 v x y)(b:Pk S w n m k f)(c:hB S w W Q)(a:([t1,t2,t3].all λt=>t !=309&&t !=5)=true):ts W i t1 t2 t3 v x y:=by simp only[List.all_cons,VN,bne_iff_ne,List.all_nil]at a;exact⟨c.out.heap h.b1 (b.ty h.b1 a.1.1 a.1.2),c.out.heap h.b2 (b.ty h.b2 a.2.1.1 a.2.1.2),c.out.heap h.b3 (b.ty h.b3 a.2.2.1.1 a.2.2.1.2)⟩
theorem gg.AQ{f b:aN}(h:gg w i b)(a:Pk S w n m k f)(c:hB S w W Q):gg W i b:=
 ⟨c.out.heap h.aM (a.ty h.aM ai ai),h.f1.AQ a c rfl,h.f2.AQ a c rfl,h.f3.AQ a c rfl,h.f4.AQ a c rfl,h.f5.AQ a c rfl,h.f6.AQ a c rfl,h.f8.AQ a c rfl,h.f9.AQ a c rfl,h.f10.AQ a c rfl⟩
theorem ko.AQ{c:aN}(h:ko w v n c)(g:Pk S w m k i f)(j:hB S w W Q):ko W v n c:=by obtain⟨b,o,a,l,p,e,q,d,r⟩:=h;exact⟨b,o,a,l,p,e,q,j.out.heap d (g.ty d ai ai),r⟩
theorem ko.off{a:aN}(h:ko w v n a)(c:Pk S w m i j f):∀k,v.ownBlock=some k->¬S k:=by obtain⟨b,o,d,l,p,rfl,q,e,r⟩:=h;intro k g;cases g;exact c.ty e ai ai
structure LI(g:aA)(u:Su)(sv:H)(F:Nat)(b:aN)(k pn:Nat)(pc:Array H):Prop where
 enters:∀args w,(VF pn args).run prog w= .ok (.enter pn args) w
 at_:(DM b)[k*2]? =some (.func (.func pn) #[] pc)
 put:∀(Z:Nat->Prop) (W:QA) (p:Nat),gg W F b->ko W sv g.M u.st->Pk Z W p 128 (gr g k) (qu g u k)->aF pn (#[ar p,.agg (dy g u sv)] ++pc) W (oE Z W p 128 (gr g (k+1)) (qu g u (k+1)))
theorem GC(g:aA)(u:Su)(f:H)(F:Nat)(b:aN)(h:u.ok g):∀k,k<13->∃l n,LI g u f F b k l n:=by
 have B:=h.cJ.m16;have C:=h.cJ.tC;have D:=h.cJ.iS;have E:=h.rl;have G:=h.ring.2;have K:=h.cur.1;have d:∃o q r s x4 t v w x y i j,dy g u f= #[o,q,r,s,x4,t,v,w,x,y,i,j]:=⟨_,_,_,_,_,_,_,_,_,_,_,_,rfl⟩;intro k z
 match k,z with
 |0,_=>exact⟨213,#[],RH func213 aE rfl,rfl,λZ W p hF c a=>AP p Z 0 _ _ W a J⟩
 |1,_=>exact⟨280,_,RH func280 aE rfl,rfl,λZ W p hF c a=>DG 221 0 u.id (b 1) (b 1+2) p 8 Z _ _ W Ik rfl a J (a.ty hF.f1.b1 ai ai) (a.ty hF.f1.b3 ai ai) hF.f1.b1 hF.f1.b3 d⟩
 |2,_=>exact⟨280,_,RH func280 aE rfl,rfl,λZ W p hF c a=>DG 222 1 u.ev (b 2) (b 2+2) p 16 Z _ _ W Il rfl a J (a.ty hF.f2.b1 ai ai) (a.ty hF.f2.b3 ai ai) hF.f2.b1 hF.f2.b3 d⟩
 |3,_=>exact⟨280,_,RH func280 aE rfl,rfl,λZ W p hF c a=>DG 223 2 u.sf (b 3) (b 3+2) p 24 Z _ _ W Im rfl a J (a.ty hF.f3.b1 ai ai) (a.ty hF.f3.b3 ai ai) hF.f3.b1 hF.f3.b3 d⟩
 |4,_=>exact⟨283,_,RH func283 aE rfl,rfl,λZ W p hF c a=>Jz 227 3 u.rl (b 4) (b 4+2) p 32 Z _ _ W Io rfl a J J (a.ty hF.f4.b1 ai ai) (a.ty hF.f4.b3 ai ai) hF.f4.b1 hF.f4.b3 d⟩
 |5,_=>exact⟨283,_,RH func283 aE rfl,rfl,λZ W p hF c a=>Jz 228 4 g.M (b 5) (b 5+2) p 33 Z _ _ W Ip rfl a J J (a.ty hF.f5.b1 ai ai) (a.ty hF.f5.b3 ai ai) hF.f5.b1 hF.f5.b3 d⟩
 |6,_=>exact⟨283,_,RH func283 aE rfl,rfl,λZ W p hF c a=>Jz 229 5 g.c (b 6) (b 6+2) p 34 Z _ _ W Iq rfl a J J (a.ty hF.f6.b1 ai ai) (a.ty hF.f6.b3 ai ai) hF.f6.b1 hF.f6.b3 d⟩
 |7,_=>exact⟨230,#[],RH func230 aE rfl,rfl,λZ W p hF c a=>DI g u f p Z 35 _ W a J⟩
 |8,_=>exact⟨285,_,RH func285 aE rfl,rfl,λZ W p hF c a=>DH 236 6 g.s (b 8) (b 8+2) p 36 Z _ _ W Ir rfl a J J (a.ty hF.f8.b1 ai ai) (a.ty hF.f8.b3 ai ai) hF.f8.b1 hF.f8.b3 d⟩
 |9,_=>exact⟨285,_,RH func285 aE rfl,rfl,λZ W p hF c a=>DH 237 7 u.N (b 9) (b 9+2) p 38 Z _ _ W Is rfl a J J (a.ty hF.f9.b1 ai ai) (a.ty hF.f9.b3 ai ai) hF.f9.b1 hF.f9.b3 d⟩
 |10,_=>exact⟨285,_,RH func285 aE rfl,rfl,λZ W p hF c a=>DH 238 11 u.cur (b 10) (b 10+2) p 40 Z _ _ W It rfl a J J (a.ty hF.f10.b1 ai ai) (a.ty hF.f10.b3 ai ai) hF.f10.b1 hF.f10.b3 d⟩
 |11,_=>exact⟨239,#[],RH func239 aE rfl,rfl,λZ W p hF c a=>DJ _ p Z 42 _ W a J⟩
 |12,_=>exact⟨242,#[],RH func242 aE rfl,rfl,λZ W p hF c a=>xz g u f p Z 44 _ W a c (c.off a) J (λm A=>by rcases h.st m A with e|e|e<;>omega)⟩
theorem GD(h:gg w n f)(a:LI g u v n f k m A):w.cell? ⟨n,k*2,none⟩=some (.func (.func m) #[] A):=((cr h.aM).1 _).trans a.at_
theorem GF(h:gg w n f)(a:k<13):∃b c,w.cell? ⟨n,k*2+1,none⟩=some (.func (.func b) #[] c):=by
 rw[(cr h.aM).1]
 match k,a with
 |0,_=>exact⟨_,_,rfl⟩
 |1,_=>exact⟨_,_,rfl⟩
 |2,_=>exact⟨_,_,rfl⟩
 |3,_=>exact⟨_,_,rfl⟩
 |4,_=>exact⟨_,_,rfl⟩
 |5,_=>exact⟨_,_,rfl⟩
 |6,_=>exact⟨_,_,rfl⟩
 |7,_=>exact⟨_,_,rfl⟩
 |8,_=>exact⟨_,_,rfl⟩
 |9,_=>exact⟨_,_,rfl⟩
 |10,_=>exact⟨_,_,rfl⟩
 |11,_=>exact⟨_,_,rfl⟩
 |12,_=>exact⟨_,_,rfl⟩
theorem GG(g:aA)(u:Su)(j k:Nat):xB g u j k<256:=by
 unfold xB;split
 all_goals first|exact cI _ _|skip
 .unfold hn
  repeat' split
  all_goals omega
 .unfold Iu;omega
theorem yW(g:aA)(u:Su):∀j k,qu g u j k<256
 |0,_=>by show 0<256;omega
 |j+1,k=>cW (yW g u j) (GG g u j) k
theorem lM(g:aA)(u:Su)(k:Nat):kq g u k<256:=cW (yW g u 13) (λ_=>by show 0<256;omega) k
theorem od(g:aA)(u:Su)(k:Nat):fZ g u k<256:=cW (cW (lM g u) (cI _)) (λ_=>by show 0<256;omega) k
structure JC(g:aA)(u:Su)(sv:H)(F:Nat)(b:aN)(w0:QA)(p D k:Nat)(wr:QA):Prop where
 pk:∃Z,Pk Z wr p 128 (gr g k) (qu g u k)/\∀x,Z x->w0.heap.size<=x
 dA:aq w0 wr
 MH:gg wr F b
 xu:ko wr sv g.M u.st
 box:wr.heap[D]? =some (N (dy g u sv) 117)
theorem kL(g:aA)(u:Su)(n:QC)(w:QA)(a9:ko w n g.M u.st)(h:u.ok g):aF 88 #[.agg (dy g u n)] w (si 128 (fZ g u) w):=by
 obtain⟨R,I⟩:=ah (w.alloc (ao (dy g u n) 117));have y:aq w R:=by rw[<-I];exact aK aj _
 have z:aX R w.heap.size (ao (dy g u n) 117):=by rw[<-I];exact QB _ _
 obtain⟨D,K⟩:=ah w.heap.size;rw[K]at z;have l:=aT y z (a9.below y);have Y:=ad (rv g u n R (a9.below y) h);have b0:=ad h;obtain⟨d1,d2,d3⟩:=cr z;go_enter func88,ntmps88;go_wp2_with fail
 try simp only[I,K]
 go_wp2_with(go_at_call 153;refine Y.mono ?_;rintro e w1 ⟨rfl,c⟩;have f:=ad c);refine(wD 128 _ aa).mono ?_;rintro e w2 ⟨p,Z,rfl,b6,b7,c⟩;have E:=aT b6 b7 c;go_wp2_with fail;refine(ry _).mono ?_;rintro e w3 ⟨F,b,rfl,hF,c⟩;have L:=aB hF c;have J:QX (JC g u n F b w p D 0 w3):=⟨⟨Z,E.1.cV L.2,λx q=>QD (l.1.trans (f.mono l.1.size)).size (E.2.1 x q)⟩,((l.1.trans (f.mono l.1.size)).trans ((E.2.2).mono (l.1.trans (f.mono l.1.size)).size)).trans (L.2.mono (((l.1.trans (f.mono l.1.size)).trans ((E.2.2).mono (l.1.trans (f.mono l.1.size)).size)).size)),L.1,((l.2.2.below f).below E.2.2).below L.2,by have h1:=(f.block D d3).trans l.2.1;have h2:=(E.2.2.block D (Z_ h1)).trans h1;exact(L.2.block D (Z_ h2)).trans h2⟩;have b1:=b0.cJ.m16;go_wp2;go_loopw [24] (λi wr=>∃k:Nat,i= ae k/\k<=13/\QX (JC g u n F b w p D k wr)) (λi _=>13-(intOf i).toNat)
 case atStart=>exact⟨0,rfl,QO _,J⟩
 case round=>
  obtain⟨k,rfl,b2,d⟩:=hrel;by_cases A:k<13
  .have b3:=ad A;obtain⟨b8,b9,m⟩:=GC g u n F b b0 k A;have c1:=GD d.MH m;obtain⟨c6,a0,c2⟩:=GF d.MH A;have c7:=m.enters;have O:=ad m;obtain⟨d1,d2,d3⟩:=cr d.box;obtain⟨G,j,r⟩:=d.pk;have c0:QX (∀o:Obj,aF b8 (#[ar p,.agg (dy g u n)] ++b9) (wr.alloc o) λe b4=>aL e (.tuple #[])/\JC g u n F b w p D (k+1) b4):=λo=>
    have c:aq wr (wr.alloc o):=aK aj _
    (O.put G _ p (d.MH.below c) (d.xu.below c) (j.cV c)).mono λe b4 ⟨q1,H,q2,P⟩=>⟨q1,⟨H,q2,λx q=>by
     rcases P.new x q with h|h
     .exact r x h
     .exact QD (QD d.dA.size c.size) h⟩,(d.dA.trans (c.mono d.dA.size)).trans (P.out.below (λx _ q=>r x q) (QD d.dA.size c.size)),(d.MH.below c).AQ (j.cV c) P,(d.xu.below c).AQ (j.cV c) P,P.out.heap ((c.block _ (Z_ d.box)).trans d.box) ((j.cV c).ty ((c.block _ (Z_ d.box)).trans d.box) ai ai)⟩
   go_wp2_with(refine(c0 _).mono ?_;rintro e w4 ⟨rfl,c3⟩;have c4:=ad c3);exact⟨⟨k+1,by go_num,b3,c4⟩,by have:=b3.out;simp[intOf];omega⟩
  .obtain rfl:k=13:=aa;obtain⟨G,j,r⟩:=d.pk;have a1:=aB j r;go_wp2_with fail;obtain⟨s,Q⟩:=ah (44+g.M);have t:QX (Pk G wr p 128 s (qu g u 13)/\∀x,G x->w.heap.size<=x):=by rw[<-Q];exact a1
   have a2:=ad (show kq g u=cat s (qu g u 13) λ_=>0 by unfold kq;rw[Q]);refine(IS G wr p 128 s _ t.1).mono ?_;rintro e w4 ⟨rfl,rfl⟩;have c8:QG.wrap (124-(s:Int))=((124-s:Nat):Int):=bs;have S:=ad (Cf G wr p 128 s (124-s) 0 _ t.1 aa aa aa);rw[show s+(124-s)=124 by omega,<-a2.out]at S;go_wp2_with(go_at_call 156;refine S.mono ?_;rintro e w4 ⟨rfl,H,B,C⟩;have v:=aB B C);refine(jF H w4 p 128 124 _ v.1 aa aa aa).mono ?_;rintro e w5 ⟨b5,a0,rfl,a3,c⟩;have N:=aB a3 c;have a4:kc w5 (a' b5 124 a0) 124 (kq g u):=by
    refine⟨_,_,rfl,.inr ⟨b5,0,rfl,λk b2=>?_⟩⟩;have:=oJ N.1;obtain⟨a,a5,e1,M⟩:=this;cases e1;rcases M with M|⟨c9,d0,e3,e4⟩
    .omega
    .cases e3;rw[e4 k aa];unfold cat;rw[ak b2]
   have a6:=ad (v.1.cV N.2);have T:=ad (jD 124 _ (kq g u) w5 a4 (λk _=>lM g u k) aa);have c5:128<=a0:=by obtain⟨a,a5,e1,M,-⟩:=eP N.1;cases e1;exact M
   go_wp2_with fail;refine T.mono ?_;rintro e w6 ⟨rfl,c⟩;have U:=aB (a6.cV c) c;have V:=ad (fA H w6 p 128 124 (dN 0 124 (kq g u)) _ U.1 aa aa (gW _ _ _ aa λk _=>lM g u k));go_wp2_with fail;refine V.mono ?_;rintro e w7 ⟨rfl,Z3,B,C⟩;have W:=aB B C;go_wp2_with fail;refine(jF Z3 w7 p 128 128 _ W.1 aa aa aa).mono ?_;rintro e w8 ⟨a7,a8,rfl,a3,c⟩;have X:=aB a3 c;go_wp2;go_ret2;have z1:=d.dA;have z2:=z1.trans (v.2.out.below (λx _ q=>t.2 x q) z1.size);have z3:=z2.trans (N.2.mono z2.size);have z4:=z3.trans (U.2.mono z3.size);have z5:=z4.trans (W.2.out.below (λx _ q=>by
    rcases v.2.new x q with h|h
    .exact t.2 x h
    .exact QD z1.size h) z4.size)
   have z6:=z5.trans (X.2.mono z5.size);exact⟨a7,a8,rfl,cq X.1 z5.size,z6⟩
abbrev Su.at(u:Su)(k:Nat):Su:={u with rl:=k}
theorem yX(h:w.ownsRow m 5 1 (a' k n i) n (az n f)):cA w (a' k n i) n f:=gj h
theorem sJ[Lo](Z:bm)(g:aA)(u:Su)(s:Bool)(b:By)(k:Nat)(w:QA)(h:lK w Z g u s)(t:aC w Z.B b)(x:(u.at k).ok g)(y:k<b.N)(z:∀v,b.dv k=some v->0<v.d.n/\v.d.cn<1000000000000):
  aF 55 #[ar Z.A,ae k] w (CC Z.B b k (aR 0 (fZ g (u.at k))) w):=by
 obtain⟨c,f,p⟩:=h.aM;obtain⟨Q,f0,S⟩:=cr p;obtain⟨o,d⟩:=ah (w.alloc (ao (dy g (u.at k) (a' Z.sb g.M c)) 117));have a:aq w o:=by rw[<-d];exact aK aj _
 have i:aX o w.heap.size (ao (dy g (u.at k) (a' Z.sb g.M c)) 117):=by rw[<-d];exact QB _ _
 obtain⟨D,j⟩:=ah w.heap.size;rw[j]at i;have l:=ad (kL g (u.at k) (a' Z.sb g.M c) o ((h.PC f).below a) x);have q:QX (∀(v:QC) W,aq o W->cA W v 128 (fZ g (u.at k))->aF 52 #[ar Z.B,ae k,ae 0,v] W (CC Z.B b k (aR 0 (fZ g (u.at k))) w)):=λv W m A=>(gF Z.B k 0 v (fZ g (u.at k)) b W ((t.below a).below m) y A z).mono λe T ⟨B,C,E⟩=>⟨B,C,((Fr.af a).then m).tr E⟩;have F:=aB a ((a.block _ (Z_ p)).trans p);obtain⟨d1,d2,d3⟩:=cr i;obtain⟨U,V,G⟩:=cr F.2;go_enter func55,ntmps55;go_wp2_with fail
 try simp only[d,j]
 go_wp2_with(first|(go_at_call 88;refine l.mono ?_;rintro e X ⟨H,N,rfl,K,n⟩;obtain⟨M,R,I⟩:=kp n Z.A G;have r:=aB (yX K) n)|(go_at_call 52;refine(q _ _ r.2 r.1).mono ?_;rintro e Y ⟨rfl,L,O⟩;have P:=aB L O));go_ret;exact⟨rfl,P⟩
def aD(f h:aN):Prop:=∀k,k<128->f k=h k
theorem aD.refl(f:aN):aD f f:=λ_ _=>rfl
theorem aD.trans{f h q:aN}(a:aD f h)(b:aD h q):aD f q:=λk c=>(a k c).trans (b k c)
theorem aD.symm{f h:aN}(a:aD f h):aD h f:=λk b=>(a k b).symm
def dx(f:aN):Nat->Nat
 |0=>0
 |n+1=>dx f n+f n*256^n
theorem rz{f h:aN}:∀{n:Nat},(∀k,k<n->f k=h k)->dx f n=dx h n
 |0,_=>rfl
 |n+1,e=>by unfold dx;rw[rz λk a=>e k J,e n (TI n)]
theorem gM{f:aN}:∀{n:Nat},(∀k,k<n->f k<256)->dx f n<256^n
 |0,_=>by show 0<1;decide
 |n+1,h=>by have a:=gM (n:=n) λk b=>h k J;have c:=h n (TI n);unfold dx;rw[Nat.pow_succ];have d:f n*256^n<=255*256^n:=Nat.mul_le_mul_right _ J;omega
theorem yY(v:Nat):∀n,dx (leB v) n=v%256^n
 |0=>by show 0=v%1;omega
 |n+1=>by unfold dx;rw[yY v n,Nat.mod_pow_succ,VB];rfl
theorem eT{v n:Nat}(h:∀k,k<n->f k=leB v k)(a:v<256^n):dx f n=v:=by rw[rz h,yY,SA a]
theorem NI(f:aN):dx f 1=f 0:=by unfold dx dx;omega
theorem jN(a:k<124):i' n m i j f k=gX n m i j f k:=by unfold i';rw[show cat 128 _ zB k=_ from ak J,show cat 124 _ _ k=_ from ak a,show cat 0 zB _ k=_ from al J];rfl
theorem DN(a:k<4):i' n m i j f (124+k)=leB (dN 0 124 (gX n m i j f)) k:=by unfold i';rw[show cat 128 _ zB (124+k)=_ from ak J,show cat 124 _ _ (124+k)=_ from al J,UW]
theorem lN(a:k<24):gX n m i j f k=Kv n m i k:=by unfold gX;rw[show cat (24+j) _ zB k=_ from ak J,show cat 24 _ _ k=_ from ak a]
theorem mP(a:k<j)(b:j<=100):i' n m i j f (24+k)=f k:=by rw[jN J];unfold gX;rw[show cat (24+j) _ zB (24+k)=_ from ak J,show cat 24 _ _ (24+k)=_ from al J,UW]
theorem xC(a:k<4):i' n m i j f k=i_ k:=by rw[jN J,lN J];unfold Kv;rw[show cat 16 _ _ k=_ from ak J,show cat 8 _ _ k=_ from ak J,show cat 4 _ _ k=_ from ak a,show cat 0 zB _ k=_ from al J];rfl
theorem AR(a:k<4):i' n m i j f (4+k)=leB n k:=by rw[jN J,lN J];unfold Kv;rw[show cat 16 _ _ (4+k)=_ from ak J,show cat 8 _ _ (4+k)=_ from ak J,show cat 4 _ _ (4+k)=_ from al J,UW]
theorem GH(a:k<8):i' n m i j f (8+k)=leB m k:=by rw[jN J,lN J];unfold Kv;rw[show cat 16 _ _ (8+k)=_ from ak J,show cat 8 _ _ (8+k)=_ from al J,UW]
theorem GI(a:k<8):i' n m i j f (16+k)=leB i k:=by rw[jN J,lN J];unfold Kv;rw[show cat 16 _ _ (16+k)=_ from al J,UW]
def yZ(f:aN):Prop:=∀k,k<4->f k=i_ k
structure gN(kind:Nat)(f:aN):Prop where
 Iv:yZ f
 kind:f 4=kind
 sum:dx (fun k=>f (124+k)) 4=dN 0 124 f
theorem nB{s:Nat}{f h:aN}:∀{n:Nat},(∀k,k<n->f k=h k)->iD s f n=iD s h n
 |0,_=>rfl
 |n+1,e=>by unfold iD;rw[nB λk a=>e k J,e n (TI n)]
theorem hQ{f h:aN}(e:∀k,k<n->f k=h k):dN m n f=dN m n h:=by unfold dN;rw[nB e]
theorem gN.of{g f:aN}(a:n<256)(b:∀k,g k<256)(h:aD f (i' n m i j g)):gN n f:=by
 refine⟨λk a=>by rw[h k J,xC a],?_,?_⟩
 .rw [h 4 J,show(4:Nat)=4+0 from rfl,AR J];unfold leB;rw[Nat.pow_zero,Nat.div_one,SA a]
 .rw [eT (v:=dN 0 124 (gX n m i j g)) (λk a=>by rw[h (124+k) J,DN a]) (gW _ _ _ ai λk _=>lh b k)];exact(hQ λk a=>by rw[h k J,jN a]).symm
theorem mQ{kind ep sq M:Nat}{g f:aN}(h:aD f (i' kind ep sq M g))(b:ep<18446744073709551616)(c:sq<18446744073709551616):dx (λk=>f (8+k)) 8=ep/\dx (λk=>f (16+k)) 8=sq:=
 ⟨eT (λk a=>by rw[h (8+k) J,GH a]) b,eT (λk a=>by rw[h (16+k) J,GI a]) c⟩
structure Hd where
 ep:Nat
 sq:Nat
 ix:Nat
 cy:Nat
 me:Nat
 row:Nat
 nC:Bool
 sm:Nat
structure Hd.ok(h:Hd):Prop where
 c:cM h.ep h.sq
 cy:1<=h.cy/\h.cy<=1023
 ix:h.ix<h.cy
 me:h.me<=15
 row:h.row<=4095
 sm:h.sm<4294967296
abbrev Hd.enc(h:Hd):Nat->Nat:=jb h.ep h.sq h.ix h.cy h.me h.row h.nC h.sm
def Hd.of(f:aN):Hd:=⟨dx (λk=>f (8+k)) 8,dx (λk=>f (16+k)) 8,dx (λk=>f (24+k)) 4,dx (λk=>f (28+k)) 4,dx (λk=>f (32+k)) 4,dx (λk=>f (36+k)) 4,dx (λk=>f (40+k)) 4==1,dx (λk=>f (44+k)) 4⟩
theorem ju{f g:aN}:cat n f g (n+k)=g k:=by unfold cat;rw[al J,UW]
theorem cZ{f g:aN}(h:k<n):cat n f g k=f k:=ak h
theorem Hd.cG{h:Hd}(i:h.ok)(e:aD f h.enc):Hd.of f=h:=by
 obtain⟨l,m⟩:=mQ (g:=ml h.ix h.cy h.me h.row h.nC h.sm) (M:=24) (kind:=1) (ep:=h.ep) (sq:=h.sq) (f:=f) e (by have:=i.c.1;omega) (by have:=i.c.2.2;omega);have j:∀k,k<24->f (24+k)=ml h.ix h.cy h.me h.row h.nC h.sm k:=λk i=>by rw[e (24+k) J];exact mP i J
 have q:=i.cy;have w:=i.ix;have x:=i.me;have y:=i.row;have n:dx (λk=>f (24+k)) 4=h.ix:=eT (λk i=>by rw[j k J];unfold ml;rw[cZ J,cZ J,cZ J,cZ J,cZ i]) J;have o:dx (λk=>f (28+k)) 4=h.cy:=eT (λk i=>by rw[show 28+k=24+(4+k)by omega,j (4+k) J];unfold ml;rw[cZ J,cZ J,cZ J,cZ J,ju]) J;have p:dx (λk=>f (32+k)) 4=h.me:=eT (λk i=>by rw[show 32+k=24+(8+k)by omega,j (8+k) J];unfold ml;rw[cZ J,cZ J,cZ J,ju]) J;have r:dx (λk=>f (36+k)) 4=h.row:=eT (λk i=>by rw[show 36+k=24+(12+k)by omega,j (12+k) J];unfold ml;rw[cZ J,cZ J,ju]) J;have t:dx (λk=>f (40+k)) 4=if h.nC then 1 else 0:=eT (λk i=>by rw[show 40+k=24+(16+k)by omega,j (16+k) J];unfold ml;rw[cZ J,ju]) (by split<;>omega)
 have u:dx (λk=>f (44+k)) 4=h.sm:=eT (λk i=>by rw[show 44+k=24+(20+k)by omega,j (20+k) J];unfold ml;rw[ju]) i.sm;unfold Hd.of;rw[l,m,n,o,p,r,t,u];cases h with
 |mk a b c d e f v s=>cases v<;>rfl
structure Cm where
 ep:Nat
 sq:Nat
 cy:Nat
 sm:Nat
structure Cm.ok(h:Cm):Prop where
 c:cM h.ep h.sq
 cy:1<=h.cy/\h.cy<=1023
 sm:h.sm<4294967296
abbrev Cm.enc(h:Cm):Nat->Nat:=ef h.ep h.sq h.cy h.sm
def Cm.of(f:aN):Cm:=⟨dx (λk=>f (8+k)) 8,dx (λk=>f (16+k)) 8,dx (λk=>f (24+k)) 4,dx (λk=>f (28+k)) 4⟩
theorem Cm.cG{h:Cm}(a:h.ok)(e:aD f h.enc):Cm.of f=h:=by
 obtain⟨c,d⟩:=mQ (g:=cat 4 (leB h.cy) (leB h.sm)) (M:=8) (kind:=2) (ep:=h.ep) (sq:=h.sq) (f:=f) e (by have:=a.c.1;omega) (by have:=a.c.2.2;omega);have b:∀k,k<8->f (24+k)=cat 4 (leB h.cy) (leB h.sm) k:=λk a=>by rw[e (24+k) J];exact mP a J
 have q:=a.cy;have i:dx (λk=>f (24+k)) 4=h.cy:=eT (λk a=>by rw[b k J,cZ a]) J;have j:dx (λk=>f (28+k)) 4=h.sm:=eT (λk a=>by rw[show 28+k=24+(4+k)by omega,b (4+k) J,ju]) a.sm;unfold Cm.of;rw[c,d,i,j]
structure Ck where
 ep:Nat
 sq:Nat
 tail:Nat
structure Ck.ok(h:Ck):Prop where
 c:cM h.ep h.sq
 tail:h.tail<2048
abbrev Ck.enc(h:Ck):Nat->Nat:=aV h.ep h.sq h.tail
def Ck.of(f:aN):Ck:=⟨dx (λk=>f (8+k)) 8,dx (λk=>f (16+k)) 8,dx (λk=>f (24+k)) 4⟩
theorem Ck.cG{h:Ck}(a:h.ok)(e:aD f h.enc):Ck.of f=h:=by obtain⟨b,c⟩:=mQ (g:=leB h.tail) (M:=4) (kind:=3) (ep:=h.ep) (sq:=h.sq) (f:=f) e (by have:=a.c.1;omega) (by have:=a.c.2.2;omega);have q:=a.tail;have d:dx (λk=>f (24+k)) 4=h.tail:=eT (λk a=>by rw[e (24+k) J];exact mP a J) J;unfold Ck.of;rw[b,c,d]
def Dk.eI(d:Dk):Prop:=(∀a k,k<128->d.gn a k<256)/\∀i,i<d.cn->∀k,k<128->d.bV i k<256
theorem Dk.lO(h:D.eI)(a k:Nat)(b:k<128):D.view a k<256:=by
 unfold Dk.view;cases c:dS D.cat D.cn a with
 |some i=>exact h.2 i (hI c).1 k b
 |none=>exact h.1 a k b
theorem nD{c:dp}{cat:aN}{b:dp}{kept:Nat->Bool}(e:∀a k,k<128->c a k<256):∀n,(∀i,i<n->∀k,k<128->b i k<256)->∀a k,k<128->bJ c cat b kept n a k<256
 |0,_,a,k,d=>e a k d
 |n+1,f,a,k,d=>by
  have g:=nD (cat:=cat) (kept:=kept) e n (λi h=>f i J);unfold bJ;split
  .show (if a=cat n then b n else bJ c cat b kept n a) k<256;split
   .exact f n J k d
   .exact g a k d
  .exact g a k d
theorem Dk.fN(h:D.eI)(b:Nat->Bool):(D.settled b).eI:=
 ⟨λa k c=>nD h.1 D.cn h.2 a k c,λi d=>absurd d (RQ i)⟩
theorem Dk.uU(h:D.eI):D.dead.eI:=Dk.fN h _
theorem Dk.JE(h:D.eI)(a:Nat)(c:∀k,k<128->f k<256):(D.wr a f).eI:=by
 refine⟨h.1,λi d k b=>?_⟩;show(if i=D.cn then f else D.bV i) k<256;split
 .exact c k b
 .rename_i e;have:i<D.cn+1:=d;exact h.2 i J k b
theorem Dk.eU(d:Dk)(a:Nat)(f:aN)(x:Nat):(d.wr a f).view x=if x=a then f else d.view x:=by
 have b:dS (d.wr a f).cat (d.wr a f).cn x=if a=x then some d.cn else dS d.cat d.cn x:=by
  show(if(if d.cn=d.cn then a else d.cat d.cn)=x then some d.cn else dS (λi=>if i=d.cn then a else d.cat i) d.cn x)=_;rw[ak rfl];by_cases e:a=x
  .rw [ak e,ak e]
  .rw [al e,al e];exact je λi g=>al J
 unfold Dk.view;rw[b];by_cases e:a=x
 .rw [ak e,ak e.symm];show(if d.cn=d.cn then f else d.bV d.cn)=f;rw[ak rfl]
 .rw [al e,al (λh=>e h.symm)];cases c:dS d.cat d.cn x with
  |none=>rfl
  |some k=>show(if k=d.cn then f else d.bV k)=d.bV k;rw[al (by have:=(hI c).1;omega)]
theorem Dk.hS(h:D.cn=0)(a:Nat):D.view a=D.gn a:=by unfold Dk.view;rw[h];rfl
structure MI(aw:Option Nat)(Q:Nat->Dk->Prop)(k:Nat)(v:Dv):Prop where
 eI:v.d.eI
 mR:aw≠some k->v.hf=false/\v.d.failed=false
 holds:v.d.failed=false->Q k v.d
def tt(a:Option Nat)(Q:Nat->Dk->Prop)(b:By):Prop:=∀k,k<b.N->(b.dv k=none->a=some k)/\∀v,b.dv k=some v->MI a Q k v
structure Lit(aw:Option Nat)(Q:Nat->Dk->Prop)(b:By):Prop where
 bz:b.bz=false
 dev:tt aw Q b
structure qv(aw:Option Nat)(Q:Nat->Dk->Prop)(b:By):Prop where
 bz:b.bz=true
 dev:tt aw Q b
def uV(b:By)(k:Nat):Prop:=∀v,b.dv k=some v->v.d.failed=true
def nT(a:Nat):Prop:=a=2\/a=51
theorem By.dz{a:Dv->Dv × Nat}(h:b.aW=none):(b.op k a).1.aW=none:=by
 unfold By.op;split
 .unfold By.off;rw[h];exact h
 .split
  .unfold By.tick;rw[h];rfl
  .show b.tick.aW=none;unfold By.tick;rw[h];rfl
theorem By.eA(h:b.aW=none):∀l:List fR,(b.run l).1.aW=none:=by
 intro l;induction l generalizing b with
 |nil=>exact h
 |cons a d c=>
  simp only[By.run];split
  .exact c (By.dz h)
  .exact By.dz h
theorem Dv.GJ(h:U.d.eI):U.use.d.eI:=by
 unfold Dv.use;split
 .split
  .exact Dk.uU h
  .exact h
 .exact h
theorem Dv.hT(h:U.hf=false):U.use=U:=by unfold Dv.use;rw[h];rfl
structure ff(Q Q':Nat->Dk->Prop)(a:fR):Prop where
 gm:∀v:Dv,v.d.eI->v.d.failed=false->Q a.1 v.d->(a.2 v).2=0/\(a.2 v).1.hf=v.hf/\(a.2 v).1.d.failed=false/\(a.2 v).1.d.eI/\Q' a.1 (a.2 v).1.d
 fail:∀v:Dv,v.d.failed=true->a.2 v=(v,2)
 rest:∀j d,j≠a.1->Q j d->Q' j d
theorem Lit.op{c:Option Nat}{Q k:Nat->Dk->Prop}(h:Lit c Q b){a:fR}(z:a.1<b.N)(r:ff Q k a):
  ((b.op a.1 a.2).2=0/\Lit c k (b.op a.1 a.2).1)\/(nT (b.op a.1 a.2).2/\c=some a.1/\uV (b.op a.1 a.2).1 a.1/\Lit c k (b.op a.1 a.2).1)\/((b.op a.1 a.2).2=50/\b.aW=some 0/\qv c Q (b.op a.1 a.2).1):=by
 by_cases l:b.out=true
 .have A:b.aW=some 0:=by
   unfold By.out at l;rw[h.bz,Bool.false_or,beq_iff_eq]at l;exact l
  refine .inr (.inr ?_);unfold By.op;rw[ak l];unfold By.off;rw[ak A];exact⟨rfl,A,rfl,h.dev⟩
 .have B:b.tick.bz=false:=h.bz;have C:tt c Q b.tick:=h.dev;unfold By.op;rw[al l];cases s:b.dv a.1 with
  |none=>
   have f:=(h.dev a.1 z).1 s;refine .inr (.inl ⟨.inr rfl,f,λv g=>?_,B,λj m=>⟨(C j m).1,λv g=>?_⟩⟩)
   .have:b.dv a.1=some v:=g;rw[s]at this;cases this
   .have x:j≠a.1:=by
     intro e;subst e;have:b.dv a.1=some v:=g;rw[s]at this;cases this
    have i:=(C j m).2 v g;exact⟨i.eI,i.mR,λd=>r.rest j _ x (i.holds d)⟩
  |some v=>
   have t:=(h.dev a.1 z).2 v s;have n:=Dv.GJ t.eI;have o:MI c k a.1 (a.2 v.use).1/\((a.2 v.use).2=0\/((a.2 v.use).2=2/\c=some a.1/\(a.2 v.use).1.d.failed=true)):=by
    cases d:v.use.d.failed with
    |true=>
     rw[r.fail _ d];have f:c=some a.1:=by
      by_cases e:c=some a.1
      .exact e
      .obtain ⟨h1,w⟩:=t.mR e;rw[Dv.hT h1,w]at d;cases d
     exact⟨⟨n,λe=>absurd f e,λe=>by rw[d]at e;cases e⟩,.inr ⟨rfl,f,d⟩⟩
    |false=>
     have p:=Dv.If v d;have y:v.d.failed=false:=by rw[<-p];exact d
     obtain⟨F,D,G,K,L⟩:=r.gm v.use n d (by rw[p];exact t.holds y);refine⟨⟨K,λe=>?_,λ_=>L⟩,.inl F⟩;obtain⟨h1,w⟩:=t.mR e;rw[Dv.hT h1]at D;exact⟨by rw[Dv.hT h1];exact D.trans h1,G⟩
   have E:Lit c k (b.tick.put a.1 (a.2 v.use).1):=by
    refine⟨B,λj m=>?_⟩;show((if j=a.1 then some (a.2 v.use).1 else b.dv j)=none->c=some j)/\∀u,(if j=a.1 then some (a.2 v.use).1 else b.dv j)=some u->MI c k j u;by_cases e:j=a.1
    .subst e;rw[ak rfl];exact⟨λe=>(by cases e),λu q=>by cases q;exact o.1⟩
    .rw [al e];refine⟨(h.dev j m).1,λu q=>?_⟩;have i:=(h.dev j m).2 u q;exact⟨i.eI,i.mR,λd=>r.rest j _ e (i.holds d)⟩
   rcases o.2 with O|⟨h1,w,P⟩
   .exact .inl ⟨O,E⟩
   .refine .inr (.inl ⟨.inl h1,w,λu q=>?_,E⟩);have:(if a.1=a.1 then some (a.2 v.use).1 else b.dv a.1)=some u:=q;rw[ak rfl]at this;cases this;exact P
theorem Lit.run{aw:Option Nat}:∀(l:List fR) (Q:Nat->Nat->Dk->Prop) (b:By),Lit aw (Q 0) b->(∀i a,l[i]?=some a->a.1<b.N/\ff (Q i) (Q (i+1)) a)->
  ((b.run l).2.2=0/\Lit aw (Q l.length) (b.run l).1)\/(nT (b.run l).2.2/\aw=some (b.run l).2.1/\uV (b.run l).1 (b.run l).2.1/\∃i,i<=l.length/\Lit aw (Q i) (b.run l).1)\/
  ((b.run l).2.2=50/\b.aW≠none/\∃i,i<=l.length/\qv aw (Q i) (b.run l).1)
 | [],_,_,h,_=>.inl ⟨rfl,h⟩
 |a::m,Q,b,h,j=>by
  obtain⟨n,o⟩:=j 0 a rfl;have k:=h.op n o;simp only[By.run];by_cases e:(b.op a.1 a.2).2=0
  .rw [ak e];have p:Lit aw (Q 1) (b.op a.1 a.2).1:=by
    rcases k with⟨_,x⟩|⟨x,_⟩|⟨x,_⟩
    .exact x
    .rcases x with x|x<;>omega
    .omega
   have q:=Lit.run m (λi=>Q (i+1)) (b.op a.1 a.2).1 p (λi x r=>by rw[By.fW];exact j (i+1) x (by simpa using r));rcases q with⟨i1,c⟩|⟨i1,c,s,i,t,d⟩|⟨i1,c,i,t,d⟩
   .exact .inl ⟨i1,by simpa using c⟩
   .exact .inr (.inl ⟨i1,c,s,i+1,by simp only[SE];omega,d⟩)
   .exact .inr (.inr ⟨i1,λe=>c (By.dz e),i+1,by simp only[SE];omega,d⟩)
  .rw [al e];rcases k with⟨u,_⟩|⟨g1,f,g,v⟩|⟨g1,f,g⟩
   .exact absurd u e
   .exact .inr (.inl ⟨g1,f,g,1,by simp only[SE];omega,v⟩)
   .exact .inr (.inr ⟨g1,by rw[f];exactλe=>(by cases e),0,QO _,g⟩)
theorem tt.mono{e:Option Nat}{Q f:Nat->Dk->Prop}(h:tt e Q b)(g:∀j d,j<b.N->Q j d->f j d):tt e f b:=
 λk a=>⟨(h k a).1,λv c=>⟨((h k a).2 v c).eI,((h k a).2 v c).mR,λi=>g k _ a (((h k a).2 v c).holds i)⟩⟩
theorem Lit.mono{a:Option Nat}{Q c:Nat->Dk->Prop}(h:Lit a Q b)(e:∀j d,j<b.N->Q j d->c j d):Lit a c b:=⟨h.bz,h.dev.mono e⟩
theorem uW(Q:Nat->Dk->Prop)(k:Nat):ff Q Q (Lq k) where
 gm:=λv b a c=>by show(if v.d.failed=true then 2 else 0)=0/\_;rw[a];exact⟨rfl,rfl,a,b,c⟩
 fail:=λv a=>by show(v,if v.d.failed=true then 2 else 0)=(v,2);rw[ak a]
 rest:=λ_ _ _ h=>h
theorem kM(b:U.d.failed=false)(a:Nat)(f:aN):aR a f U=({U with d:=U.d.wr a f},0):=by unfold aR;rw[b];rfl
theorem kN(a:U.d.failed=false):be U=({U with d:=U.d.settled λ_=>true},0):=by unfold be;rw[a];rfl
theorem ej{Q a:Nat->Dk->Prop}(c:∀j,j<128->f j<256)(e:∀d,Q k d->a k (d.wr n f))(g:∀j d,j≠k->Q j d->a j d):ff Q a (k,aR n f) where
 gm:=λv h b i=>by show(aR n f v).2=0/\(aR n f v).1.hf=_/\(aR n f v).1.d.failed=_/\(aR n f v).1.d.eI/\a k (aR n f v).1.d;rw[kM b];exact⟨rfl,rfl,b,Dk.JE h n c,e _ i⟩
 fail:=λv b=>by show aR n f v=_;unfold aR;rw[ak b]
 rest:=g
theorem fB{Q a:Nat->Dk->Prop}(c:∀d,Q k d->a k (d.settled λ_=>true))(e:∀j d,j≠k->Q j d->a j d):ff Q a (dq k) where
 gm:=λv f b g=>by show(be v).2=0/\(be v).1.hf=_/\(be v).1.d.failed=_/\(be v).1.d.eI/\a k (be v).1.d;rw[kN b];exact⟨rfl,rfl,b,Dk.fN f _,c _ g⟩
 fail:=λv b=>by show be v=_;unfold be;rw[ak b]
 rest:=e
structure jv(g:aA)(ro:Ro)(k_ fv:Nat->Nat->Prop)(V:cH)(m:Nat)(d:Dk):Prop where
 view:∀r,r<g.R->ro.down m r=false->¬fv m r->aD (d.view (1+r)) (V m r)
 last:∀r,r<g.R->ro.down m r=false->¬k_ m r->aD (d.gn (1+r)) (V m r)/\∀i,i<d.cn->d.cat i=1+r->aD (d.bV i) (V m r)
theorem jv.mono{k d:Ro}{e b c a:Nat->Nat->Prop}{V:cH}(h:jv g k e c V m D)(l:∀r,d.down m r=false->k.down m r=false)(n:∀r,¬b m r->¬e m r)(o:∀r,d.down m r=false->¬a m r->¬c m r):jv g d b a V m D:=
 ⟨λr i f j=>h.view r i (l r f) (o r f j),λr i f j=>h.last r i (l r f) (n r j)⟩
theorem Dk.pB(d:Dk)(a:Nat):d.view a=d.gn a\/∃i,i<d.cn/\d.cat i=a/\d.view a=d.bV i:=by
 unfold Dk.view;cases b:dS d.cat d.cn a with
 |none=>exact .inl rfl
 |some k=>exact .inr ⟨k,(hI b).1,(hI b).2,rfl⟩
theorem jv.wr{d c b:Nat->Nat->Prop}{V:cH}(h:jv g o d c V m D)(q:d m r)(s:aD f (V m r))(t:∀j,¬b m j->j=r\/¬c m j):jv g o d b V m (D.wr (1+r) f):=by
 refine⟨λj n p l=>?_,λj n p l=>?_⟩
 .rw [Dk.eU];by_cases e:j=r
  .subst e;rw[ak rfl];exact s
  .rw [al J];exact h.view j n p ((t j l).resolve_left e)
 .have u:j≠r:=λe=>l (by rw[e];exact q);obtain⟨v,w⟩:=h.last j n p l;refine⟨v,λi x k=>?_⟩;have y:i<D.cn+1:=x;have a:(if i=D.cn then 1+r else D.cat i)=1+j:=k;show aD (if i=D.cn then f else D.bV i) _;by_cases e:i=D.cn
  .rw [ak e]at a;omega
  .rw [al e]at a|-;exact w i J a
theorem Dk.jw(d:Dk)(a:Nat):(d.settled λ_=>true).gn a=d.view a:=by rw[<-Dk.lu d a];exact(Dk.hS rfl a).symm
theorem jv.fl{b a:Nat->Nat->Prop}{V:cH}(h:jv g o b a V m D):jv g o b a V m (D.settled λ_=>true):=by
 refine⟨λr c d f=>by rw[Dk.lu];exact h.view r c d f,λr c d f=>⟨?_,λi j=>absurd j (RQ i)⟩⟩;rw[Dk.jw];obtain⟨k,l⟩:=h.last r c d f;rcases D.pB (1+r)with e|⟨i,n,p,e⟩
 .rw [e];exact k
 .rw [e];exact l i n p
theorem jv.clear{b a:Nat->Nat->Prop}{V:cH}(h:jv g o b a V m D)(c:D.cn=0):jv g o a a V m D:=
 ⟨h.view,λr d e f=>⟨by rw[<-Dk.hS c];exact h.view r d e f,λi j=>absurd (c▸j) (RQ i)⟩⟩
def eH(g:aA)(c:Ro)(b a:Nat->Nat->Prop)(V:cH)(e:Dk->Prop)(k:Nat)(d:Dk):Prop:=(k<g.M->jv g c b a V k d)/\(k=g.M->e d)
def Ro.fv(a:Ro)(m r:Nat):Prop:=∃p,p∈a.wt/\p.1=m/\p.2.1=r
theorem Ro.uX:o.fv m r↔o.iG m r≠none:=by
 unfold Ro.iG Ro.fv;constructor
 .rintro ⟨p,a,c,d⟩ e;rw[Option.map_eq_none_iff,List.find?_eq_none]at e;exact e p a (by simp[BL,c,d])
 .intro h;cases b:o.wt.find? (BL m r)with
  |none=>rw[b]at h;exact absurd rfl h
  |some p=>have a:=List.find?_some b;simp only[BL,decide_eq_true_eq]at a;exact⟨p,XV b,a.1,a.2⟩
theorem Ro.uY(h:¬o.fv m r):o.iG m r=none:=by
 cases a:o.iG m r with
 |none=>rfl
 |some f=>exact absurd (Ro.uX.2 (by rw[a];exactλe=>by cases e)) h
theorem Ro.uZ(h:o.iG m r=some f):∃p,p∈o.wt/\p.1=m/\p.2.1=r/\p.2.2=f:=by
 unfold Ro.iG at h;cases a:o.wt.find? (BL m r)with
 |none=>rw[a]at h;cases h
 |some p=>rw[a]at h;have b:=List.find?_some a;simp only[BL,decide_eq_true_eq]at b;simp only[QY,SI]at h;exact⟨p,XV a,b.1,b.2,h⟩
structure Gd(g:aA)(aw:Option Nat)(V:cH)(k_:Nat->Nat->Prop)(QJ:Dk->Prop)(s:Rs):Prop where
 dev:tt aw (eH g s.ro k_ s.ro.fv V QJ) s.b
 N:s.b.N=g.M+1
 wt:∀p,p∈s.ro.wt->p.1<g.M/\p.2.1<g.R/\aD p.2.2 (V p.1 p.2.1)/\k_ p.1 p.2.1
 dn:∀m r,s.ro.down m r=true->aw=some m
 qw:∀m,aw=some m->m<g.M
 par:tD g V
theorem eH.imp{f d:Ro}{e b c a:Nat->Nat->Prop}{V:cH}{i:Dk->Prop}(h:eH g f e c V i k D)(j:∀m r,d.down m r=false->f.down m r=false)(l:∀m r,¬b m r->¬e m r)(n:∀m r,d.down m r=false->¬a m r->¬c m r):eH g d b a V i k D:=
 ⟨λo=>(h.1 o).mono (j k) (l k) (n k),h.2⟩
def PD(a:Option Nat)(b:By)(k c:Nat):Prop:=nT c/\a=some k/\uV b k/\b.bz=false
def PF(a b:By)(c:Nat):Prop:=c=50/\a.aW≠none/\b.bz=true
theorem nT.ne(h:nT n):n≠0:=by rcases h with h|h<;>omega
theorem jO{p:Pt}:p∈fK o l↔p∈l/\o.down p.1 p.2.1=false:=by unfold fK;rw[List.mem_filter];simp
theorem u_{aw:Option Nat}{V:cH}{u:Nat->Nat->Prop}{F:Dk->Prop}{s q:Rs}(t:Gd g aw V u F s)(Q:s.b.bz=false)(c:dh s q k n):
  Gd g aw V u F q/\q.x=s.x/\((n=0/\q.b.bz=false/\q.ro={s.ro with wt:= []})\/(PD aw q.b k n/\q.ro=s.ro)\/(PF s.b q.b n/\q.ro=s.ro)):=by
 obtain⟨l,M,v,S,b⟩:=c;obtain⟨L,T⟩:=ah (fK s.ro l);rw[T]at v;have z:∀p,p∈L->p∈s.ro.wt/\s.ro.down p.1 p.2.1=false:=λp c=>by rw[<-T,jO]at c;exact⟨M.mem_iff.1 c.1,c.2⟩
 have R:=Lit.run (aw:=aw) (L.map gY) (λi=>eH g s.ro u (λm r=>∃p,p∈L.drop i/\p.1=m/\p.2.1=r) V F) s.b
  ((Lit.mk Q t.dev).mono λj d _ x=>x.imp (λ_ _ h=>h) (λ_ _ h=>h) λm r U f ⟨p,A,G,O⟩=>f ⟨p,by rw[List.drop_zero,<-T,jO];exact⟨M.mem_iff.2 A,by rw[G,O];exact U⟩,G,O⟩)
  (λi a E=>by
   rw[RI]at E;cases c:L[i]? with
   |none=>rw[c]at E;cases E
   |some p=>
    rw[c]at E;simp only[QY,SI]at E;subst E;obtain⟨A,G⟩:=z p (QV c);obtain⟨J,q2,I,q4⟩:=t.wt p A;have w:L.drop i=p::L.drop (i+1):=by obtain⟨W,e⟩:=QR.1 c;rw[List.drop_eq_getElem_cons W,e]
    refine⟨by show p.1<s.b.N;rw[t.N];omega,ej (λj P=>?_) (λd x=>⟨λX=>?_,λe=>?_⟩) λj d Z x=>?_⟩
    .rw [I j P];exact t.par.lt p.1 p.2.1 j J q2 P
    .refine (x.1 X).wr q4 I λj P=>?_;by_cases e:j=p.2.1
     .exact .inl e
     .refine .inr λ⟨H,f,C,o⟩=>P ⟨H,?_,C,o⟩;rw[w]at f;rcases UH.1 f with D|D
      .exact absurd (o.symm.trans (by rw[D])) e
      .exact D
    .have:p.1=g.M:=e;omega
    .refine ⟨λX=>(x.1 X).mono (λ_ h=>h) (λ_ h=>h) λr _ f ⟨H,C,o,D⟩=>f ⟨H,?_,o,D⟩,x.2⟩;rw[w]at C;rcases UH.1 C with N|N
     .exact absurd (o.symm.trans (by rw[N])) Z
     .exact N)
 rw[v]at R;have Y:q.b.N=g.M+1:=by have:=By.gb s.b (L.map gY);rw[v]at this;exact this.trans t.N
 have B:∀i,tt aw (eH g s.ro u (λm r=>∃p,p∈L.drop i/\p.1=m/\p.2.1=r) V F) q.b->q.ro=s.ro->Gd g aw V u F q:=λi o b=>by
  refine⟨?_,Y,λp c=>?_,λm r K=>?_,t.qw,t.par⟩
  .rw [b];exact o.mono λj d _ x=>x.imp (λ_ _ h=>h) (λ_ _ h=>h) λm r _ D ⟨p,A,G,O⟩=>D ⟨p,(z p (List.mem_of_mem_drop A)).1,G,O⟩
  .rw [b]at c;exact t.wt p c
  .rw [b]at K;exact t.dn m r K
 rcases R with⟨y,f⟩|⟨y,f,C,i,W,o⟩|⟨y,f,i,W,o⟩
 .simp only at y f;rw[ak y]at b;refine⟨⟨?_,Y,λp c=>?_,λm r K=>?_,t.qw,t.par⟩,S,.inl ⟨y,f.bz,b⟩⟩
  .refine f.dev.mono λj d _ x=>x.imp (λm r h=>?_) (λ_ _ h=>h) λm r _ _ ⟨p,A,_⟩=>?_
   .rw [b]at h;exact h
   .rw [RB,List.drop_length]at A;cases A
  .rw [b]at c;cases c
  .rw [b]at K;exact t.dn m r K
 .simp only at y f C o;rw[al y.ne]at b;exact⟨B i o.dev b,S,.inr (.inl ⟨⟨y,f,C,o.bz⟩,b⟩)⟩
 .simp only at y f o;rw[al aa]at b;exact⟨B i o.dev b,S,.inr (.inr ⟨⟨y,f,o.bz⟩,b⟩)⟩
section
def va(b:By)(k:Nat):Prop:=∃v,b.dv k=some v/\v.d.failed=false
theorem By.pC{b:By}:∀{l:List Nat},(b.bU l).2.2=0->∀k,k∈l->va b k:=by
 intro l;induction l generalizing b with
 |nil=>exactλ_ k h=>by cases h
 |cons a t i=>
  intro h k m;simp only[By.bU]at h;by_cases c:(b.op a bS).2=0
  .rw [ak c]at h;rcases UH.1 m with e|e
   .subst e;obtain⟨-,⟨v,d,-,n⟩,-⟩:=By.Ie c;exact⟨v,d,n⟩
   .obtain ⟨v,d,o⟩:=i h k e;have f:b.bU [a] =((b.op a bS).1,0,0):=by simp only[By.bU];rw[ak c]
    obtain⟨p,q,r⟩:=By.uy (b:=b) (l:= [a]) (by rw[f]) (j:=k) (v:=v) (by rw[f];exact d);exact⟨p,q,by rw[<-r];exact o⟩
  .rw [al c]at h;exact absurd h c
theorem JF{V:aN}{m M:Nat}(d:m<M)(h:xs (λ_=>true) V M=0):xs (λj=>decide (j≠m)) V M=V m:=by
 have b:=qF (p:=λj=>decide (j≠m)) (q:=λj=>decide (j=m)) (f:=V) (n:=M) λj _=>by by_cases e:j=m<;>simp[e]
 have i:xs (λj=>decide (j≠m)||decide (j=m)) V M=xs (λ_=>true) V M:=dL λj _=>⟨by by_cases e:j=m<;>simp[e],λ_=>rfl⟩;rw[i,h,rU d λ_ _=>rfl]at b;obtain⟨a,k⟩:=ah (xs (λj=>decide (j≠m)) V M);rw[k]at b|-;have c:(a^^^V m)^^^V m=a:=by rw[XM,Nat.xor_self,Nat.xor_zero]
 rw[<-b,Nat.zero_xor]at c;exact c.symm
section
variable {g:aA} {aw:Option Nat} {V:cH} {k_:Nat->Nat->Prop} {QJ:Dk->Prop} {s:Rs}
theorem Gd.view(a:Gd g aw V k_ QJ s){m r:Nat}{v:Dv}(b:m<g.M)(c:r<g.R)(d:s.b.dv m=some v)(e:v.d.failed=false)(f:s.ro.down m r=false)(h:¬s.ro.fv m r):aD (v.d.view (1+r)) (V m r):=by exact((((a.dev m (by rw[a.N];omega)).2 v d).holds e).1 b).view r c f h
theorem Gd.eN(a:Gd g aw V k_ QJ s){m r:Nat}(h:m<g.M)(i:r<g.R)(j:¬s.ro.fv m r->s.ro.down m r=false/\va s.b m):aD (eN s.b s.ro m r) (V m r):=by
 unfold Proofs.YtbimjlmclegaeaaGreat.eN;cases b:s.ro.iG m r with
 |some f=>obtain⟨p,k,l,n,o⟩:=Ro.uZ b;have:=(a.wt p k).2.2.1;rw[l,n,o]at this;exact this
 |none=>have c:¬s.ro.fv m r:=λe=>Ro.uX.1 e b;obtain⟨q,v,d,t⟩:=j c;simp only[d];exact a.view h i d t q c
theorem Gd.eI(a:Gd g aw V k_ QJ s){r:Nat}(c:r<g.R):o_ g s.b s.ro r:=by
 intro m k d b;unfold Proofs.YtbimjlmclegaeaaGreat.eN;cases e:s.ro.iG m r with
 |some f=>obtain⟨p,h,i,j,l⟩:=Ro.uZ e;have:=(a.wt p h).2.2.1 k b;rw[i,j,l]at this;simp only;rw[this];exact a.par.lt m r k d c b
 |none=>
  cases n:s.b.dv m with
  |none=>exact Nat.zero_lt_succ _
  |some v=>exact Dk.lO ((a.dev m (by rw[a.N];omega)).2 v n).eI _ k b
theorem Gd.fc(c:Gd g aw V k_ QJ s){m r:Nat}(l:m<g.M)(e:r<g.R)(a:∀k,k∈fX g.M s.ro m r->va s.b k):aD (fc g.M s.b s.ro m r) (V m r):=by
 unfold Proofs.YtbimjlmclegaeaaGreat.fc;unfold fX at a;by_cases d:(s.ro.iG m r).isNone=true/\s.ro.down m r=true
 .rw [ak d]at a|-;intro k n;show xs (λj=>decide (j≠m)) (λj=>Proofs.YtbimjlmclegaeaaGreat.eN s.b s.ro j r k) g.M=V m r k;rw[dL (q:=λj=>decide (j≠m)) (g:=λj=>V j r k) λj o=>⟨rfl,λf=>?_⟩]
  .exact JF l (c.par.even r k e n)
  .have b:j≠m:=by simpa using f
   refine c.eN o e (λh=>?_) k n;refine⟨?_,a j (WI.2 ⟨j,TY.2 o,?_⟩)⟩
   .cases i:s.ro.down j r with
    |false=>rfl
    |true=>have u:=c.dn j r i;have p:=c.dn m r d.2;rw[u]at p;cases p;exact absurd rfl b
   .rw [al b];unfold uz;rw[Ro.uY h];exact SM.2 rfl
 .rw [al d]at a|-;refine c.eN l e λh=>?_;have t:=Ro.uY h;refine⟨?_,a m ?_⟩
  .cases i:s.ro.down m r with
   |false=>rfl
   |true=>exact absurd ⟨by rw[t];rfl,i⟩ d
  .unfold uz;rw[t];exact SM.2 rfl
end
theorem AS(a:aN)(g:aA)(B:bq)(r k:Nat):fI a (B.bP g r) k=a k^^^xs (λm=>B.gd g m r) (λm=>B.iM g m r k) g.M:=by unfold fI bq.bP bq.nP;rw[List.foldl_map,oy]
theorem pD(p:Nat->Bool)(a:dp)(M k:Nat):ez (ZZ M p) a k=xs p (λm=>a m k) M:=by unfold ez;rw[oy p (λm=>a m k),Nat.zero_xor]
theorem y_(g:aA)(B:bq)(r m:Nat)(b:m<g.M):Ag (B.bP g r) m=B.gd g m r:=by
 rw[Bool.eq_iff_iff];unfold Ag bq.bP bq.nP;rw[List.any_map,XD];constructor
 .rintro ⟨x,c,a⟩;simp only[Function.comp,decide_eq_true_eq]at a;rw[<-a];exact(br.1 c).2
 .intro h;exact⟨m,br.2 ⟨b,h⟩,aJ⟩
theorem rA(n:Nat)(p:Nat->Bool):(ZZ n p).length+(ZZ n λm=> !p m).length=n:=by
 induction n with
 |zero=>rfl
 |succ n a=>rw[dP,dP,QU,QU];cases p n<;>simp<;>omega
theorem xD{l:List Nat}{a b:Nat}(c:a∈l)(d:b∈l)(e:a≠b):2<=l.length:=by
 match l,c,d with
 | [x],c,d=>rw[SM]at c d;exact absurd (c.trans d.symm) e
 |_::_::_,_,_=>simp
theorem DO{g:aA}(h:g.ok){B:bq}{r:Nat}(f:g.M-1-(B.bP g r).length=0){m:Nat}(d:m<g.M)(c:m≠g.par r):B.gd g m r=true:=by
 cases e:B.gd g m r with
 |true=>rfl
 |false=>
  exfalso;have i:=rA g.M λm=>B.gd g m r;have j:(B.bP g r).length=(ZZ g.M λm=>B.gd g m r).length:=by unfold bq.bP bq.nP;rw[RB]
  have k:=xD (l:=ZZ g.M λm=> !B.gd g m r) (a:=m) (b:=g.par r) (br.2 ⟨d,by rw[e];rfl⟩) (br.2 ⟨aA.iV h r,by rw[bq.iX h];rfl⟩) c;omega
theorem vb{g:aA}(h:g.ok){B:bq}{V:cH}(hV:tD g V){n:Nat->Bool}{o:dp}{r:Nat}(t:aZ g B B.n r=true)(u:r<g.R)(a:∀m,m∈cX g.M n (B.bP g r) (g.par r)->aD (o m) (V m r))(x:n (g.par r)=false):
  aD (fI (ez (cX g.M n (B.bP g r) (g.par r)) o) (B.bP g r)) (B.fQ g V (g.par r) r):=by
 intro k v;rw[AS];unfold cX at a|-;by_cases b:dW g.M n (B.bP g r) (g.par r)=3
 .rw [ak b]at a|-;rw[pD,dL (q:=λm=>decide (m≠g.par r)&& !B.gd g m r) (g:=λm=>V m r k) λm f=>⟨?_,λd=>a m (br.2 ⟨f,d⟩) k v⟩]
  .exact bq.oA h t
  .unfold qN;rw[y_ g B r m f]
 .rw [al b]at a|-;by_cases c:dW g.M n (B.bP g r) (g.par r)=2
  .rw [ak c]at a|-;rw[pD,dL (q:=λm=>decide (m=g.par r)||B.gd g m r) (g:=λm=>V m r k) λm f=>⟨?_,λd=>a m (br.2 ⟨f,d⟩) k v⟩]
   .exact bq.Fy h hV t u v
   .unfold Ai;rw[y_ g B r m f]
  .rw [al c];have y:ez [] o k=0:=rfl;rw[y,Nat.zero_xor];have i:g.M-1-(B.bP g r).length=0:=by
    by_cases e:g.M-1-(B.bP g r).length=0
    .exact e
    .exfalso;unfold dW at b c;rw[al e]at b c;cases l:gone n g.M with
     |none=>rw[l]at b c;simp only at b c;split at b<;>simp_all
     |some j=>
      rw[l]at b c;simp only at b c;by_cases w:j=g.par r
      .have:=(fo l).2;rw[w,x]at this;cases this
      .rw [al w]at b c;split at b<;>simp_all
   rw[<-bq.oA (V:=V) h t,rT (p:=λm=>decide (m≠g.par r)&& !B.gd g m r) λm f d=>?_,Nat.zero_xor];exfalso;simp only[VN,decide_eq_true_eq,Bool.not_eq_true']at d;rw[DO h i f d.1]at d;cases d.2
end
section
theorem By.hU{b:By}:∀{l:List fR},(b.run l).2.2≠0->∃a,a∈l/\a.1=(b.run l).2.1:=by
 intro l;induction l generalizing b with
 |nil=>exactλh=>absurd rfl h
 |cons a i c=>
  intro h;simp only[By.run]at h|-;by_cases e:(b.op a.1 a.2).2=0
  .rw [ak e]at h|-;obtain⟨x,d,f⟩:=c h;exact⟨x,SG _ d,f⟩
  .rw [al e];exact⟨a,RZ,rfl⟩
structure Gt(g:aA)(aw:Option Nat)(V:cH)(s:Rs):Prop where
 gd:Gd g aw V (fun _ _=>True) (fun _=>True) s
 bz:s.b.bz=false
 aW:s.b.aW=none
structure tu(g:aA)(aw:Option Nat)(ro:Ro)(s:Rs)(k er:Nat):Prop where
 gone:nT er
 slot:aw=some k
 dead:uV s.b k
 hit:∃r,ro.down k r=false
section
variable {g:aA} {aw:Option Nat} {V:cH} {s s':Rs} {k er:Nat}
theorem Gd.set{a:Nat->Nat->Prop}{c:Dk->Prop}(h:Gd g aw V a c s){b:By}(d:tt aw (eH g s.ro a s.ro.fv V c) b)(e:b.N=s.b.N):Gd g aw V a c {s with b:=b}:=
 ⟨d,e.trans h.N,h.wt,h.dn,h.qw,h.par⟩
theorem Gt.lit(h:Gt g aw V s):Lit aw (eH g s.ro (λ_ _=>True) s.ro.fv V λ_=>True) s.b:=⟨h.bz,h.gd.dev⟩
theorem Gt.bU(h:Gt g aw V s){l:List Nat}(n:∀k,k∈l->k<g.M+1/\∃r,s.ro.down k r=false):
  Gt g aw V {s with b:=(s.b.bU l).1}/\((s.b.bU l).2.2=0\/tu g aw s.ro {s with b:=(s.b.bU l).1} (s.b.bU l).2.1 (s.b.bU l).2.2):=by
 have o:(s.b.bU l).1.N=s.b.N:=By.CX _ _;have p:(s.b.bU l).1.aW=none:=by rw[By.dJ];exact By.eA h.aW _
 have t:(s.b.bU l).2.2≠0->∃r,s.ro.down (s.b.bU l).2.1 r=false:=λe=>by rw[By.dJ]at e|-;obtain⟨a,h1,f⟩:=By.hU e;obtain⟨j,c,m⟩:=RK.1 h1;rw[<-f,<-m];exact(n j c).2
 have q:=Lit.run (aw:=aw) (l.map Lq) (λ_=>eH g s.ro (λ_ _=>True) s.ro.fv V λ_=>True) s.b h.lit λi a u=>by obtain⟨j,c,m⟩:=RK.1 (QV u);subst m;exact⟨by show j<s.b.N;rw[h.gd.N];exact(n j c).1,uW _ j⟩
 rw[<-By.dJ]at q;rcases q with⟨d,h1⟩|⟨d,h1,f,i,v,c⟩|⟨-,h1,-⟩
 .exact ⟨⟨h.gd.set h1.dev o,h1.bz,p⟩,.inl d⟩
 .exact ⟨⟨h.gd.set c.dev o,c.bz,p⟩,.inr ⟨d,h1,f,t d.ne⟩⟩
 .exact absurd h.aW h1
theorem Gt.eV(h:Gt g aw V s)(i:dh s s' k er):
  Gt g aw V s'/\s'.x=s.x/\((er=0/\s'.ro={s.ro with wt:= []})\/(tu g aw s.ro s' k er/\s'.ro=s.ro)):=by
 obtain⟨j,m,q⟩:=u_ h.gd h.bz i;obtain⟨l,x,c,-,-⟩:=i;have n:s'.b.aW=none:=by have:=By.eA h.aW ((fK s.ro l).map gY);rw[c]at this;exact this
 rcases q with⟨r,t,d⟩|⟨⟨t1,t2,t3,t4⟩,d⟩|⟨⟨-,t2,-⟩,-⟩
 .exact ⟨⟨j,t,n⟩,m,.inl ⟨r,d⟩⟩
 .refine ⟨⟨j,t4,n⟩,m,.inr ⟨⟨t1,t2,t3,?_⟩,d⟩⟩;have e:=By.hU (b:=s.b) (l:=(fK s.ro l).map gY) (by rw[c];exact t1.ne);rw[c]at e;obtain⟨a,u,o⟩:=e;obtain⟨p,v,f⟩:=RK.1 u;refine⟨p.2.1,?_⟩;have w:p.1=k:=by rw[<-f]at o;exact o
  rw[<-w];exact(jO.1 v).2
 .exact absurd h.aW t2
theorem Gt.Kz(h:Gt g aw V s){act:Dv->Dv × Nat}(f:∀Q:Nat->Dk->Prop,(∀d c,Q g.M d->Q g.M c)->ff Q Q (g.M,act)):(s.b.op g.M act).2=0/\∀x,Gt g aw V {s with b:=(s.b.op g.M act).1,x:=x}:=by
 have i:(s.b.op g.M act).1.aW=none:=By.dz h.aW;have j:=By.fW s.b g.M act;have l:=h.lit.op (a:=(g.M,act)) (by show g.M<s.b.N;rw[h.gd.N];omega) (f _ λd c n=>⟨λe=>absurd e (TL _),λ_=>trivial⟩);rcases l with⟨m,h1⟩|⟨-,h1,-,-⟩|⟨-,h1,-⟩
 .exact ⟨m,λx=>⟨⟨h1.dev,j.trans h.gd.N,h.gd.wt,h.gd.dn,h.gd.qw,h.gd.par⟩,h1.bz,i⟩⟩
 .exact absurd (h.gd.qw _ h1) (TL _)
 .rw [h.aW]at h1;cases h1
theorem sK{k a:Nat}{f:aN}(b:∀j,j<128->f j<256){Q:Nat->Dk->Prop}(c:∀d e,Q k d->Q k e):ff Q Q (k,aR a f):=ej b (λ_ h=>c _ _ h) λ_ _ _ h=>h
theorem sL{k:Nat}{Q:Nat->Dk->Prop}(a:∀d b,Q k d->Q k b):ff Q Q (k,be):=fB (λ_ h=>a _ _ h) λ_ _ _ h=>h
theorem Gt.sync(h:Gt g aw V s):(s.synced g).2=0/\Gt g aw V (s.synced g).1/\(s.synced g).1.x={s.x with sure:=true,bad:=if s.x.sure=true then s.x.bad else 0}/\(s.synced g).1.ro=s.ro:=by
 unfold Rs.synced;by_cases a:s.x.sure=true
 .rw [ak a];refine⟨rfl,h,?_,rfl⟩;rw[ak a];obtain⟨b,x,i⟩:=s;obtain⟨j,l,c,m,bad,N,t,u⟩:=x;simp only at a;subst a;rfl
 .rw [al a];obtain⟨d,e⟩:=h.Kz (act:=be) λQ f=>sL f;refine⟨d,e _,?_,rfl⟩;rw[al a];simp only[d];rfl
theorem Gt.settle(h:Gt g aw V s)(a:bT g s s' k er):Gt g aw V s'/\s'.x=(s.synced g).1.x/\s'.x.sure=true/\((er=0/\s'.ro={s.ro with wt:= []})\/(tu g aw s.ro s' k er/\s'.ro=s.ro)):=by
 obtain⟨e,f,i,j⟩:=h.sync;unfold bT at a;rw[ak e]at a;unfold cd at a;have b:(s.synced g).1.x.sure=true:=by rw[i]
 rw[ak b]at a;obtain⟨l,c,d⟩:=f.eV a;rw[j]at d;exact⟨l,c,by rw[c];exact b,d⟩
theorem Gt.finish(h:Gt g aw V s)(b:s.x.sure=true)(a:cd s s' k er):Gt g aw V s'/\s'.x=s.x/\((er=0/\s'.ro={s.ro with wt:= []})\/(tu g aw s.ro s' k er/\s'.ro=s.ro)):=by unfold cd at a;rw[ak b]at a;exact h.eV a
theorem Gt.eW(h:Gt g aw V s)(x:dZ g s s' k er):Gt g aw V s'/\s'.x=s.x/\s'.ro=s.ro/\(er=0\/tu g aw s.ro s' k er):=by
 obtain⟨c,u,f⟩:=x;have n:∀m,m∈ob g s.ro->m<g.M/\s.ro.down m 0=false:=λm y=>by have:=br.1 y;simpa using this
 have z:s'.b.aW=none:=by have:=By.eA h.aW ((ob g s.ro).map dq);rw[c]at this;exact this
 have A:s'.b.N=s.b.N:=by have:=By.gb s.b ((ob g s.ro).map dq);rw[c]at this;exact this
 have v:=Lit.run (aw:=aw) ((ob g s.ro).map dq) (λ_=>eH g s.ro (λ_ _=>True) s.ro.fv V λ_=>True) s.b h.lit λi a B=>by obtain⟨j,o,t⟩:=RK.1 (QV B);subst t;have F:=(n j o).1;exact⟨by show j<s.b.N;rw[h.gd.N];omega,fB (λd C=>⟨λe=>(C.1 e).fl,λe=>trivial⟩) λ_ _ _ h=>h⟩
 have D:er≠0->∃r,s.ro.down k r=false:=λe=>by
  have e:=By.hU (b:=s.b) (l:=(ob g s.ro).map dq) (by rw[c];exact e);rw[c]at e;obtain⟨a,h1,p⟩:=e;obtain⟨j,o,t⟩:=RK.1 h1;have E:j=k:=by rw[<-t]at p;exact p
  exact⟨0,by rw[<-E];exact(n j o).2⟩
 rw[c]at v;have w:∀d,tt aw (eH g s.ro (λ_ _=>True) s.ro.fv V λ_=>True) s'.b->s'.b.bz=d->d=false->Gt g aw V s':=λd h1 p o=>by refine⟨⟨by rw[f];exact h1,A.trans h.gd.N,by rw[f];exact h.gd.wt,by rw[f];exact h.gd.dn,h.gd.qw,h.gd.par⟩,p.trans o,z⟩
 rcases v with⟨q,h1⟩|⟨q,h1,p,i,G,o⟩|⟨-,h1,-⟩
 .exact ⟨w _ h1.dev h1.bz rfl,u,f,.inl q⟩
 .exact ⟨w _ o.dev o.bz rfl,u,f,.inr ⟨q,h1,p,D q.ne⟩⟩
 .exact absurd h.aW h1
theorem Gt.ck(h:Gt g aw V s){f:aN}(c:∀j,j<128->f j<256):(s.b.ck g.M f).2=0/\∀x,Gt g aw V {s with b:=(s.b.ck g.M f).1,x:=x}:=by obtain⟨d,e⟩:=h.Kz (act:=aR 1 f) λQ a=>sK c a;unfold By.ck;rw[ak d];exact(e s.x).Kz (act:=be) λQ a=>sL a
theorem Gt.gu(h:Gt g aw V s)(b:fL g s s' k er):Gt g aw V s'/\er=0/\s'.ro=s.ro/\s'.x=s.x.cz s.x.ep:=by obtain⟨c,-,d⟩:=b;obtain⟨e,i⟩:=h.ck (f:=aV s.x.ep s.x.nx ((s.x.t+s.x.u)%s.x.N)) (hL _ _ _);have a:(s.nu g s.x.ep).2=0:=e;subst c;refine⟨i _,d.trans a,rfl,?_⟩;show s.x.qo s.x.ep (s.nu g s.x.ep).2=_;rw[a];rfl
theorem Gt.OU(h:Gt g aw V s)(a:s.ro.wt= []):({s.ro with wt:= []}:Ro)=s.ro:=by obtain⟨b,x,d⟩:=s;obtain⟨e,f,c,i⟩:=d;simp only at a;subst a;rfl
theorem tu.of{b a:Ro}(h:tu g aw b s k er)(e:a.fr=b.fr):tu g aw a s k er:=
 ⟨h.gone,h.slot,h.dead,by obtain⟨r,c⟩:=h.hit;exact⟨r,by unfold Ro.down at c|-;rw[e];exact c⟩⟩
theorem Gt.empty(h:Gt g aw V s)(n:fY g s s' k er):Gt g aw V s'/\((er=0/\s'.ro={s.ro with wt:= []}/\s'.x={s.x with sure:=true,bad:=if s.x.sure=true then s.x.bad else 0}.cz s.x.ep)\/(tu g aw s.ro s' k er/\(s'.ro=s.ro\/s'.ro={s.ro with wt:= []})/\s'.x=(s.synced g).1.x)):=by
 have o:=h.sync.2.2.1;rcases n with⟨p,u,h1,d⟩|⟨h1,d⟩
 .obtain ⟨b,c,q,a4⟩:=h.settle h1;have e:p.ro={s.ro with wt:= []}:=by
   rcases a4 with a4|a4
   .exact a4.2
   .exact absurd rfl a4.1.gone.ne
  rcases d with⟨v,w,f,i⟩|⟨f,i⟩
  .obtain ⟨j,l,m,a⟩:=b.eW f;obtain⟨r,t,c3,c4⟩:=j.gu i;refine⟨r,.inl ⟨t,by rw[c3,m,e],?_⟩⟩;rw[c4,l,c,o]
  .obtain ⟨j,l,m,a⟩:=b.eW f;rcases a with a|a
   .exact absurd a i
   .exact ⟨j,.inr ⟨a.of (by rw[e]),.inr (by rw[m,e]),by rw[l,c]⟩⟩
 .obtain ⟨b,c,q,a4⟩:=h.settle h1;rcases a4 with a4|a4
  .exact absurd a4.1 d
  .exact ⟨b,.inr ⟨a4.1,.inl a4.2,c⟩⟩
end
end
theorem bq.GK(h:g.ok)(c:K.ok g)(e:1<=K.n):1<=(K.fH g).length:=by
 have b:g.row (K.aM 0)∈K.eM g:=br.2 ⟨aA.iU h (c.aM 0 J),dt.2 ⟨0,J,rfl⟩⟩;unfold bq.fH;rw[RB];cases d:K.eM g with
 |nil=>rw[d]at b;cases b
 |cons a l=>simp
theorem vc[Lo](R B W r:Nat)(g:aA)(a1:Nat)(s:Rs)(C:Nat)(z:bq)(pv:QC)(w:QA)(h:cl w R B W r g a1 s)(hF:Fit g C s)(e5:100000<=C)(b8:z.ok g)(d8:z.n<=256)(e_:1<=z.n)(a2:2*z.c_ g+1<=s.x.N)(a3:fj w pv z)(e6:Gy g z s):
  aF 105 #[ar R,pv] w (gZ R B W r g a1 (eS g z s) w):=by
 obtain⟨d9,D,e7,U,V,b9⟩:=eL w (ao #[ae 0,aH 0] 172);have X:w.heap.size<=D:=RN U;have u:Lo.lo<=D:=by rw[<-U];exact h.ct.low
 have Z:=h.below V;obtain⟨e8,f4,x1,x2⟩:=Z.row.aM;obtain⟨k0,f0,z0⟩:=cr x1;obtain⟨b7,H⟩:=ah (d9.setCell (ag R 8) iL);have a4:cl b7 R B W r g a1 s.fe:=by rw[<-H];exact Z.qs false
 have N:Fr [164] aG d9 b7:=by rw[<-H];exact jM Z 8 _
 have rK:=N.hp b9 rfl;have a5:fj b7 pv z:=(a3.below V).fr N rfl rfl;obtain⟨e0,e9,x3,x4⟩:=a4.row.aM;obtain⟨k1,f1,z1⟩:=cr x3;obtain⟨d1,d2,d3⟩:=cr rK;have a6:=ad (uj g z pv b7 hF.cJ b8 d8 a5);have A:=nh hF e5 b8 d8 a2 e6 (bq.GK hF.cJ b8 e_);have a7:=aY a4 rK a5 ((Fr.af (T:=iN) (S:=aG) V).tr (N.wide iN rfl));obtain⟨a8,a9,rfl,-⟩:=id a3;obtain⟨n,c0⟩:=ah z.n;rw[c0]at a6 a7|-;go_enter func105,ntmps105;go_wp2_with fail
 try simp only[e7,U,H]
 go_wp2_with fail;refine a6.mono ?_;rintro e w2 ⟨v,rfl,M,Q⟩;obtain⟨b0,b1,rfl,-⟩:=id M;obtain⟨m,f2⟩:=ah ((z.fH g).length);have c1:=A.2.2.2.2.2.2;rw[f2]at c1 M|-;have I:=a7.1.below Q;have c2:=(Q.block D d3).trans a7.2.1;have c3:=a7.2.2.1.below Q;have c4:=a7.2.2.2.then Q;have b2:=I.ct.low;obtain⟨T,c5⟩:=ah w2.heap.size;obtain⟨w3,Y⟩:=ah (w2.alloc (ao #[ar R,.slice a8 n a9,.slice b0 m b1,aO] 258));have c6:aq w2 w3:=by rw[<-Y];exact aK aj _
 have b3:aX w3 T (ao #[ar R,.slice a8 n a9,.slice b0 m b1,aO] 258):=by rw[<-Y,<-c5];exact QB _ _
 obtain⟨S,e1⟩:=ah w3.heap.size;obtain⟨w4,J⟩:=ah (w3.alloc (ao #[.func (.func 169) #[ar T] #[],.func (.func 170) #[ar T] #[],.func (.func 171) #[ar T] #[],.func (.func 172) #[ar T] #[],.func (.func 173) #[ar T] #[],.func (.func 174) #[ar T] #[]] 175));have b4:aq w3 w4:=by rw[<-J];exact aK aj _
 have c7:aX w4 S (ao #[.func (.func 169) #[ar T] #[],.func (.func 170) #[ar T] #[],.func (.func 171) #[ar T] #[],.func (.func 172) #[ar T] #[],.func (.func 173) #[ar T] #[],.func (.func 174) #[ar T] #[]] 175):=by rw[<-J,<-e1];exact QB _ _
 have K:=via c6 b4;have c8:sC w2 w4 T R (.slice a8 n a9) (.slice b0 m b1) []:=⟨RN c5,aO,(b4.block T (Z_ b3)).trans b3,fa.nil _ _⟩;have c9:QX (BM R B W r g a1 s z C w2 T (.slice a8 n a9) (.slice b0 m b1) 0 w4):=⟨I.below K,c8,K⟩;have x:=HQ I c2 c3 c4 M b2 K c7;have e2:¬m=0:=aa;have d0:((m:Int)==0)=false:=aS;go_wp2
 try simp only[c5,e1,Y,J,d0]
 go_loopw [51] (λi wr=>∃k:Nat,i= ae k/\k<=6/\QX (Fr LC aG w4 wr/\BM R B W r g a1 s z C w2 T (.slice a8 n a9) (.slice b0 m b1) k wr)) (λi _=>6-(intOf i).toNat)
 case atStart=>exact⟨0,rfl,QO _,Fr.refl _ _ _,c9⟩
 case round=>
  obtain⟨k,rfl,f5,y⟩:=hrel;have e3:=y.1.hp x.2.2.2.2.2.2.2 rfl;obtain⟨s1,s2,s3⟩:=cr e3;have e4:=y.1.hp ((x.2.2.2.2.2.2.1.block D (Z_ x.2.1)).trans x.2.1) rfl;obtain⟨d1,d2,d3⟩:=cr e4;have a0:=aB e4 e3;have d7:k=0\/k=1\/k=2\/k=3\/k=4\/k=5\/k=6:=aa;rcases d7 with e|e|e|e|e|e|e
  .subst e;have L:=ad (Pw A.2.1 A.1 A.2.2.1 A.2.2.2.1 A.2.2.2.2.1 x.2.2.1 x.1 y.2);go_wp2_with fail;refine L.mono ?_;rintro e p ⟨q,f,rfl,t,O,P⟩;have a:=t.hp a0.1 rfl;obtain⟨d4,d5,d6⟩:=cr a;have b:=aY t O P a;by_cases c:f=0
   .subst c;rw[di];have j:=ad (b.2.1 rfl);go_wp2;have l:∀o,aq p (p.alloc o):=λo=>aK aj o;exact⟨⟨1,aJ,aa,(y.1.tr b.1).alloc _,j.below (l _)⟩,by simp[intOf]⟩
   .rw [bl q c];have b5:¬(f:Int)=0:=aa;obtain⟨b6,E,F,G⟩:=b.2.2.1 c;have d:=aT E F G;go_wp2;refine QT (v:=.agg #[ae q,aH f]) (by simp[RP,results105,go_sem];go_simp) rfl ?_;exact(gZ.done d.1 d.2.1 (x.2.2.2.1.tr d.2.2) b.2.2.2 X u (bl q c)).alloc _
  .subst e;have L:=ad (Px A.2.1 A.1 A.2.2.2.2.2.1 x.2.2.2.2.1 x.2.2.2.2.2.1 y.2);go_wp2_with fail;refine L.mono ?_;rintro e p ⟨q,f,rfl,t,O,P⟩;have a:=t.hp a0.1 rfl;obtain⟨d4,d5,d6⟩:=cr a;have b:=aY t O P a;by_cases c:f=0
   .subst c;rw[di];have j:=ad (b.2.1 rfl);go_wp2;have l:∀o,aq p (p.alloc o):=λo=>aK aj o;exact⟨⟨2,aJ,aa,(y.1.tr b.1).alloc _,j.below (l _)⟩,by simp[intOf]⟩
   .rw [bl q c];have b5:¬(f:Int)=0:=aa;obtain⟨b6,E,F,G⟩:=b.2.2.1 c;have d:=aT E F G;go_wp2;refine QT (v:=.agg #[ae q,aH f]) (by simp[RP,results105,go_sem];go_simp) rfl ?_;exact(gZ.done d.1 d.2.1 (x.2.2.2.1.tr d.2.2) b.2.2.2 X u (bl q c)).alloc _
  .subst e;have L:=ad (Py A.2.1 y.2);go_wp2_with fail;refine L.mono ?_;rintro e p ⟨q,f,rfl,t,O,P⟩;have a:=t.hp a0.1 rfl;obtain⟨d4,d5,d6⟩:=cr a;have b:=aY t O P a;by_cases c:f=0
   .subst c;rw[di];have j:=ad (b.2.1 rfl);go_wp2;have l:∀o,aq p (p.alloc o):=λo=>aK aj o;exact⟨⟨3,aJ,aa,(y.1.tr b.1).alloc _,j.below (l _)⟩,by simp[intOf]⟩
   .rw [bl q c];have b5:¬(f:Int)=0:=aa;obtain⟨b6,E,F,G⟩:=b.2.2.1 c;have d:=aT E F G;go_wp2;refine QT (v:=.agg #[ae q,aH f]) (by simp[RP,results105,go_sem];go_simp) rfl ?_;exact(gZ.done d.1 d.2.1 (x.2.2.2.1.tr d.2.2) b.2.2.2 X u (bl q c)).alloc _
  .subst e;have L:=ad (Pz A.2.1 y.2);go_wp2_with fail;refine L.mono ?_;rintro e p ⟨q,f,rfl,t,O,P⟩;have a:=t.hp a0.1 rfl;obtain⟨d4,d5,d6⟩:=cr a;have b:=aY t O P a;by_cases c:f=0
   .subst c;rw[di];have j:=ad (b.2.1 rfl);go_wp2;have l:∀o,aq p (p.alloc o):=λo=>aK aj o;exact⟨⟨4,aJ,aa,(y.1.tr b.1).alloc _,j.below (l _)⟩,by simp[intOf]⟩
   .rw [bl q c];have b5:¬(f:Int)=0:=aa;obtain⟨b6,E,F,G⟩:=b.2.2.1 c;have d:=aT E F G;go_wp2;refine QT (v:=.agg #[ae q,aH f]) (by simp[RP,results105,go_sem];go_simp) rfl ?_;exact(gZ.done d.1 d.2.1 (x.2.2.2.1.tr d.2.2) b.2.2.2 X u (bl q c)).alloc _
  .subst e;have L:=ad (PA A.2.1 y.2);go_wp2_with fail;refine L.mono ?_;rintro e p ⟨q,f,rfl,t,O,P⟩;have a:=t.hp a0.1 rfl;obtain⟨d4,d5,d6⟩:=cr a;have b:=aY t O P a;by_cases c:f=0
   .subst c;rw[di];have j:=ad (b.2.1 rfl);go_wp2;have l:∀o,aq p (p.alloc o):=λo=>aK aj o;exact⟨⟨5,aJ,aa,(y.1.tr b.1).alloc _,j.below (l _)⟩,by simp[intOf]⟩
   .rw [bl q c];have b5:¬(f:Int)=0:=aa;obtain⟨b6,E,F,G⟩:=b.2.2.1 c;have d:=aT E F G;go_wp2;refine QT (v:=.agg #[ae q,aH f]) (by simp[RP,results105,go_sem];go_simp) rfl ?_;exact(gZ.done d.1 d.2.1 (x.2.2.2.1.tr d.2.2) b.2.2.2 X u (bl q c)).alloc _
  .subst e;have L:=ad (PB A.2.1 y.2);go_wp2_with fail;refine L.mono ?_;rintro e p ⟨q,f,rfl,t,O,P⟩;have a:=t.hp a0.1 rfl;obtain⟨d4,d5,d6⟩:=cr a;have b:=aY t O P a;by_cases c:f=0
   .subst c;rw[di];have j:=ad (b.2.1 rfl);go_wp2;have l:∀o,aq p (p.alloc o):=λo=>aK aj o;exact⟨⟨6,aJ,aa,(y.1.tr b.1).alloc _,j.below (l _)⟩,by simp[intOf]⟩
   .rw [bl q c];have b5:¬(f:Int)=0:=aa;obtain⟨b6,E,F,G⟩:=b.2.2.1 c;have d:=aT E F G;go_wp2;refine QT (v:=.agg #[ae q,aH f]) (by simp[RP,results105,go_sem];go_simp) rfl ?_;exact(gZ.done d.1 d.2.1 (x.2.2.2.1.tr d.2.2) b.2.2.2 X u (bl q c)).alloc _
  .subst e;obtain⟨f3,k2,E,F,G⟩:=y.2;have d:=aT E F G;go_wp2;refine QT (v:=.agg #[ae 0,aH 0]) (by simp[RP,results105,go_sem];go_simp) rfl ?_;exact gZ.done d.2.1 d.1 (x.2.2.2.1.tr d.2.2) a0.1 X u rfl
section
theorem oe{a b:Nat}{P:bW}(c:P.ok){j:Nat}(e:j<=2*P.N):Lt 128 (bh a b P j):=by
 intro k d;unfold bh;split
 .exact jG (cW (cI _) (cI _)) k
 .split
  .exact oL _ _ _ _ _ _ _ _ k
  .exact n' (c.da (j/2) J) k d
theorem dY.mem{α β:Type}{P:α->β->Prop}{a:List α}{K:List β}(h:dY P a K){x:α}(d:x∈a):∃y,y∈K/\P x y:=by
 obtain⟨i,b⟩:=TV.1 d;have c:i<K.length:=by have:=(QR.1 b).1;rw[<-h.1];exact this
 exact⟨K[i],YI c,h.2 i x K[i] b (QQ c)⟩
theorem dY.LJ{α β:Type}{P:α->β->Prop}{a:List α}{K:List β}(h:dY P a K){y:β}(d:y∈K):∃x,x∈a/\P x y:=by
 obtain⟨i,b⟩:=TV.1 d;have c:i<a.length:=by have:=(QR.1 b).1;rw[h.1];exact this
 exact⟨a[i],YI c,h.2 i a[i] y (QQ c) b⟩
theorem dY.tail{α β:Type}{P:α->β->Prop}{x:α}{c:List α}{y:β}{K:List β}(h:dY P (x::c) (y::K)):P x y/\dY P c K:=by refine⟨h.2 0 x y rfl rfl,by simpa using h.1,λi a b d e=>h.2 (i+1) a b (by simpa using d) (by simpa using e)⟩
theorem y'{M:Nat}{aw:Option Nat}{a:Ro}(d:∀m r,a.down m r=true->aw=some m){m r:Nat}(p:m<M):∀k,k∈fX M a m r->k<M/\a.down k r=false:=by
 have n:∀j k,k∈uz a j r->k=j/\(a.iG j r).isNone=true:=λj k b=>by
  unfold uz at b;split at b
  .cases b
  .rename_i h;refine⟨SM.1 b,?_⟩;cases q:a.iG j r with
   |none=>rfl
   |some f=>rw[q]at h;exact absurd rfl h
 intro k b;unfold fX at b;by_cases i:(a.iG m r).isNone=true/\a.down m r=true
 .rw [ak i]at b;obtain⟨j,t,c⟩:=WI.1 b;by_cases e:j=m
  .rw [ak e]at c;cases c
  .rw [al e]at c;obtain⟨rfl,-⟩:=n j k c;refine⟨TY.1 t,?_⟩;cases l:a.down k r with
   |false=>rfl
   |true=>have u:=d k r l;have o:=d m r i.2;rw[u]at o;cases o;exact absurd rfl e
 .rw [al i]at b;obtain⟨rfl,c⟩:=n m k b;refine⟨p,?_⟩;cases l:a.down k r with
  |false=>rfl
  |true=>exact absurd ⟨c,l⟩ i
theorem vd{g:aA}{aw:Option Nat}{a:Ro}(b:∀m r,a.down m r=true->aw=some m){e:Nat->List Pt}{K:List Nat}:∀k,k∈dO g a e K->k<g.M/\∃r,a.down k r=false:=by intro k c;unfold dO at c;obtain⟨r,-,d⟩:=WI.1 c;unfold jn nt at d;obtain⟨j,f,h⟩:=WI.1 d;obtain⟨i,l⟩:=y' b (lF f) k h;exact⟨i,r,l⟩
theorem fq{g:aA}{B:bq}{r:Nat}{p:Pt}:p∈B.bP g r↔∃m,m<g.M/\B.gd g m r=true/\p=(m,r,B.iM g m r):=by
 unfold bq.bP bq.nP;constructor
 .intro h;obtain⟨m,a,b⟩:=RK.1 h;obtain⟨c,d⟩:=br.1 a;exact⟨m,c,d,b.symm⟩
 .rintro ⟨m,a,b,rfl⟩;exact RK.2 ⟨m,br.2 ⟨a,b⟩,rfl⟩
section
variable {g:aA} {aw:Option Nat} {V:cH} {k_:Nat->Nat->Prop} {QJ:Dk->Prop} {s:Rs} {Bt:bq}
theorem JG(b:g.ok){m r:Nat}(h:Bt.gd g m r=true):Bt.fQ g V m r=Bt.iM g m r:=by
 have a:m≠g.par r:=λe=>by rw[e,bq.iX b]at h;cases h
 unfold bq.fQ;rw[al λe=>a e.1];unfold bq.base;rw[ak h]
theorem sM{m r:Nat}(h:Bt.gd g m r=false)(a:m=g.par r->aZ g Bt Bt.n r=false):Bt.fQ g V m r=V m r:=by unfold bq.fQ;rw[al λe=>by rw[a e.1]at e;cases e.2];unfold bq.base;rw[al (by rw[h];decide)]
theorem sN(n:g.ok)(t:Gd g aw V k_ QJ s){r:Nat}(u:r∈Bt.eM g)(o:∀k,k∈jn g.M s.ro (Bt.bP g r) r (g.par r)->va s.b k){l:List Pt}(v:pb g s.b s.ro (Bt.bP g) l r):
  (∀p,p∈l->p.1<g.M/\p.2.1=r/\s.ro.down p.1 r=false/\aD p.2.2 (Bt.fQ g V p.1 r))/\∀m,m<g.M->s.ro.down m r=false->(∃p,p∈l/\p.1=m)\/Bt.fQ g V m r=V m r:=by
 obtain⟨w,-⟩:=v;obtain⟨b,q⟩:=br.1 u;have a:∀p,p∈l↔(p∈Bt.bP g r/\s.ro.down p.1 r=false)\/(s.ro.down (g.par r) r=false/\p=(g.par r,r,fI (ez (nt g.M s.ro (Bt.bP g r) r (g.par r)) λj=>fc g.M s.b s.ro j r) (Bt.bP g r))):=λp=>by rw[w.mem_iff];unfold kk jj;rw[TH,List.mem_filter];cases d:s.ro.down (g.par r) r<;>simp[d]
 constructor
 .intro p x;rcases(a p).1 x with⟨f,y⟩|⟨f,rfl⟩
  .obtain ⟨m,z,A,rfl⟩:=fq.1 f;exact⟨z,rfl,y,by rw[JG n A];exact aD.refl _⟩
  .refine ⟨aA.iV n r,rfl,f,?_⟩;refine vb n t.par q b (λm i=>t.fc (lF i) b λk B=>o k ?_) f;exact WI.2 ⟨m,i,B⟩
 .intro m i d;by_cases e:m=g.par r
  .exact .inl ⟨_,(a _).2 (.inr ⟨by rw[<-e];exact d,rfl⟩),e.symm⟩
  .cases c:Bt.gd g m r with
   |true=>exact .inl ⟨(m,r,Bt.iM g m r),(a _).2 (.inl ⟨fq.2 ⟨m,i,c,rfl⟩,d⟩),rfl⟩
   |false=>exact .inr (sM c λh=>absurd h e)
structure Iw(g:aA)(ro:Ro)(V V':cH)(l:List Pt):Prop where
 val:∀p,p∈l->p.1<g.M/\p.2.1<g.R/\ro.down p.1 p.2.1=false/\aD p.2.2 (V' p.1 p.2.1)
 all:∀m r,m<g.M->r<g.R->ro.down m r=false->(∃p,p∈l/\p.1=m/\p.2.1=r)\/V' m r=V m r
theorem mS(j:g.ok)(n:Gd g aw V k_ QJ s){o:List (List Pt)}(q:dY (pb g s.b s.ro (Bt.bP g)) o (Bt.eM g))(u:(s.hl g Bt).2.2=0):Iw g s.ro V (Bt.fQ g V) o.flatten:=by
 have b:∀r,r∈Bt.eM g->∀k,k∈jn g.M s.ro (Bt.bP g r) r (g.par r)->va s.b k:=λr d k v=>By.pC u k (WI.2 ⟨r,d,v⟩);constructor
 .intro p w;obtain⟨l,e,x⟩:=YH.1 w;obtain⟨r,a,f⟩:=q.mem e;obtain⟨y,z,A,B⟩:=(sN j n a (b r a) f).1 p x;rw[z];exact⟨y,(br.1 a).1,A,B⟩
 .intro m r C d D;cases c:aZ g Bt Bt.n r with
  |false=>
   refine .inr (sM ?_ λ_=>c);cases i:Bt.gd g m r with
   |false=>rfl
   |true=>rw[bq.BY i]at c;cases c
  |true=>
   have a:r∈Bt.eM g:=br.2 ⟨d,c⟩;obtain⟨l,e,f⟩:=q.LJ a;obtain⟨E,F⟩:=sN j n a (b r a) f;rcases F m C D with⟨p,t,G⟩|h
   .exact .inl ⟨p,YH.2 ⟨l,e,t⟩,G,(E p t).2.1⟩
   .exact .inr h
theorem ve:∀{c:List (List Pt)} {K:List Nat},K.Pairwise (· <·)->dY (λl r=>(∀p,p∈l->p.2.1=r)/\l.Pairwise λp q:Pt=>p.1<q.1) c K->(c.flatten.map λp=>(p.1,p.2.1)).Nodup
 | [],_,_,_=>aJ
 |l::c,[],_,h=>by have:=h.1;simp at this
 |l::c,r::K,d,h=>by
  obtain⟨⟨i,j⟩,f⟩:=h.tail;have k:=ve (List.pairwise_cons.1 d).2 f;rw[List.flatten_cons,SH,YA];refine⟨?_,k,?_⟩
  .refine XZ.2 (j.imp λ{p q} m e=>?_);have:=congrArg Prod.fst e;simp only at this;omega
  .intro a n b o e;obtain⟨p,t,u⟩:=RK.1 n;obtain⟨q,v,w⟩:=RK.1 o;obtain⟨C,x,y⟩:=YH.1 v;obtain⟨z,A,B⟩:=f.mem x;have D:=i p t;have E:=B.1 q y;have:=(List.pairwise_cons.1 d).1 z A;rw[<-u,<-w]at e;have:=congrArg Prod.snd e;simp only at this;omega
theorem za:∀{a:List (List Pt)} {K:List Nat} {f:Nat->List Pt},dY (λl r=>l.length<=(f r).length+1) a K->a.flatten.length<=(K.map f).length+((K.map f).map VU).sum
 | [],_,_,_=>aJ
 |l::a,[],_,h=>by have:=h.1;simp at this
 |l::a,r::K,f,h=>by obtain⟨d,b⟩:=h.tail;have c:=za b;simp only[List.flatten_cons,QU,TO,SE,List.sum_cons]at c|-;omega
theorem dY.imp{α β:Type}{P Q:α->β->Prop}{a:List α}{K:List β}(h:dY P a K)(c:∀x y,y∈K->P x y->Q x y):dY Q a K:=
 ⟨h.1,λi x y d b=>c x y (QV b) (h.2 i x y d b)⟩
theorem GL(i:g.ok){r:Nat}{l:List Pt}(a:∀m r,s.ro.down m r=true->aw=some m)(b:pb g s.b s.ro (Bt.bP g) l r)(j:Bt.bP g r≠[]):l≠[]/\l.length<=(Bt.bP g r).length+1:=by
 constructor
 .intro e;have c:=b.1;rw[e]at c;refine uE j ?_ ?_ c.nil_eq.symm
  .intro p d;obtain⟨m,-,f,rfl⟩:=fq.1 d;intro e;simp only at e;rw[e,bq.iX i]at f;cases f
  .intro p d k n;have o:=a _ _ k;have h:=a _ _ n;rw[o]at h;exact RM h
 .rw [b.1.length_eq];exact mI _ _ _ _ _
theorem vf{r:Nat}(b:g.ok)(f:Bt.ok g)(c:r∈Bt.eM g):Bt.bP g r≠[]:=by obtain⟨i,d,e⟩:=dt.1 (br.1 c).2;have a:=bq.KP (g:=g) d;rw[e]at a;exact List.ne_nil_of_mem (fq.2 ⟨_,aA.kC b _,a,rfl⟩)
theorem AT(a:g.ok)(r:Nat):(Bt.bP g r).length<=g.M-1:=by unfold bq.bP;rw[RB];have c:=rA g.M λm=>Bt.gd g m r;have b:(g.par r)∈ZZ g.M λm=> !Bt.gd g m r:=br.2 ⟨aA.iV a r,by rw[bq.iX a];rfl⟩;have d:=List.length_pos_of_mem b;unfold bq.nP;omega
end
end
def dD(g:aA)(u:Su)(k:Nat):fR:=(k,aR 0 (fZ g (u.at k)))
def qx(g:aA)(u:Su)(n:Nat):List Nat:=ZZ n λm=>decide (u.st m≠2)
def eX(g:aA)(u:Su):List fR:= [dD g u g.M,dq g.M] ++((qx g u g.M).map (dD g u)++(qx g u g.M).map dq)
def KA:List Nat:= [100,106,108,142,217,219,1000000,120]
def LK(a:fR):Prop:=∀v:Dv,(a.2 v).1.d.n=v.d.n/\(a.2 v).1.d.cn<=v.d.cn+1
theorem sO(g:aA)(u:Su)(k:Nat):LK (dD g u k):=ey _ _
theorem zb(k:Nat):LK (dq k):=sE k
structure mh[Lo](Z:bm)(g:aA)(s:Rs)(u:Su)(yg:Bool)(w:M)(L:List fR)(wr:M):Prop where
 arr:lK wr Z g u yg
 rs:cl wr Z.R Z.B Z.W Z.r g Z.fb {s with b:=(s.b.run L).1}
 ok:(s.b.run L).2.2=0
 bY:Fr KA aG w wr
 q:∀a,a∈L->LK a
 h':L.length<=60
def KB(b:By):Prop:=∀k v,k<b.N->b.dv k=some v->0<v.d.n/\v.d.cn+100<1000000000000
theorem mh.room[Lo]{Z:bm}{L:List fR}(h:mh Z g s u d w L W)(b:KB s.b)(c:k<s.b.N)(e:(s.b.run L).1.dv k=some U):0<U.d.n/\U.d.cn<1000000000000:=by obtain⟨f,i,m,n⟩:=By.gI (l:=L) (λa j=>h.q a j) e;obtain⟨o,p⟩:=b k f c i;have:=h.h';omega
theorem mh.below[Lo]{Z:bm}{L:List fR}(h:mh Z g s u d w L W)(a:aq W z):mh Z g s u d w L z:=
 ⟨h.arr.fr (T:= []) (Fr.af a) rfl rfl,h.rs.below a,h.ok,h.bY.then a,h.q,h.h'⟩
theorem Fr.an[Lo](h:Fr TB aG w W):Fr KA aG w W:=h.wide KA rfl
theorem mh.op[Lo]{Z:bm}{L:List fR}(h:mh Z g s u d w L W){a:fR}{e:RV}(k:LK a)(o:L.length<60)(f:(s.b.run (L++ [a])).2.2=0)(l:CC Z.B (s.b.run L).1 a.1 a.2 W e z):
  aL e (aH 0)/\mh Z g s u d w (L++ [a]) z:=by
 obtain⟨i,m,c⟩:=l;obtain⟨n,j,-⟩:=By.jo (a:=a) h.ok;rw[j]at f;rw[f]at i;refine⟨i,h.arr.fr c rfl rfl,⟨h.rs.row.fr c rfl rfl rfl rfl,by rw[n];exact m,h.rs.kj.fr c rfl rfl rfl rfl,h.rs.lo⟩,by rw[j,f],h.bY.tr c.an,λx b=>?_,by rw[QU];show L.length+1<=60;omega⟩;rcases TH.1 b with b|b
 .exact h.q x b
 .rw [SM.1 b];exact k
theorem GM[Lo](Z:bm)(g:aA)(s:Rs)(u:Su)(b:Bool)(w:M)(L:List fR)(k:Nat)(wr:M)(h:mh Z g s u b w L wr)(f:KB s.b)(i:(u.at k).ok g)(c:k<s.b.N)(j:L.length<60)(l:(s.b.run (L++ [dD g u k])).2.2=0):
  aF 55 #[ar Z.A,Y k] wr λe d=>aL e (aH 0)/\mh Z g s u b w (L++ [dD g u k]) d:=
 (sJ Z g u b (s.b.run L).1 k wr h.arr h.rs.ct i (by rw[By.gb];exact c) λv m=>h.room f c m).mono λe d n=>h.op (a:=dD g u k) (sO g u k) j l n
theorem LL[Lo](Z:bm)(g:aA)(s:Rs)(u:Su)(b:Bool)(w:M)(L:List fR)(k:Nat)(wr:M)(h:mh Z g s u b w L wr)(d:k<s.b.N)(f:L.length<60)(i:(s.b.run (L++ [dq k])).2.2=0):
  aF 56 #[ar Z.B,Y k] wr λe c=>aL e (aH 0)/\mh Z g s u b w (L++ [dq k]) c:=
 (ik Z.B k (s.b.run L).1 wr h.rs.ct (by rw[By.gb];exact d)).mono λe c j=>h.op (a:=dq k) (zb k) f i j
theorem By.og{l l':List fR}(h:(b.run (l++l')).2.2=0):(b.run l).2.2=0:=by
 by_cases e:(b.run l).2.2=0
 .exact e
 .rw [By.pf e]at h;exact h
theorem DP(g:aA)(u:Su)(k:Nat):qx g u (k+1)=qx g u k++(if u.st k≠2 then[k]else[]):=by unfold qx;rw[dP];by_cases h:u.st k=2<;>simp[h]
theorem lP(a:g.ok)(u:Su)(k:Nat)(h:k<=g.M):(qx g u k).length<=16:=by have:=fy k λm=>decide (u.st m≠2);have:=a.m16;unfold qx;omega
theorem DQ(h:k<g.M):∃l,qx g u g.M=qx g u (k+1)++l:=rp _ h
structure JH[Lo](Z:bm)(g:aA)(s:Rs)(u:Su)(yg:Bool)(w:QA)(cn:Nat)(x:H)(act:Nat->fR):Prop where
 enters:∀args w,(VF cn args).run prog w= .ok (.enter cn args) w
 call:∀(L:List fR) (k:Nat) (wr:QA),mh Z g s u yg w L wr->k<g.M+1->L.length<60->(s.b.run (L++ [act k])).2.2=0->aF cn #[x,Y k] wr fun e w'=>aL e (aH 0)/\mh Z g s u yg w (L++ [act k]) w'
theorem DR[Lo](Z:bm)(g:aA)(s:Rs)(u:Su)(a:Bool)(w:QA)(b:KB s.b)(c:∀k,k<g.M+1->(u.at k).ok g)(i:s.b.N=g.M+1):JH Z g s u a w 55 (ar Z.A) (dD g u):=
 ⟨RH func55 aE rfl,λL k wr h d e f=>GM Z g s u a w L k wr h b (c k d) J e f⟩
theorem JI[Lo](Z:bm)(g:aA)(s:Rs)(u:Su)(a:Bool)(w:QA)(d:s.b.N=g.M+1):JH Z g s u a w 56 (ar Z.B) dq:=
 ⟨RH func56 aE rfl,λL k wr h e b c=>LL Z g s u a w L k wr h J b c⟩
theorem lK.ne[Lo]{Z:bm}(h:lK w Z g u d):Z.A≠Z.sb:=by obtain⟨b,-,a⟩:=h.aM;obtain⟨f,c,-⟩:=h.xu;intro e;rw[e,c]at a;exact absurd (UU (RM a)).2.1 ai
theorem de.set[Lo]{Z:bm}{u u':Su}{a yg':Bool}(h:de w Z g s u a)(f:g.M<=n)(d:aX w Z.A (N (DF Z g u n a) 120))(o:Nat)(v:H)(i:(DF Z g u n a).setIfInBounds o v=DF Z g u' n yg')(b:u'.st=u.st):
  de (w.setCell (R Z.A o) v) Z g s u' yg'/\Fr [120] aG w (w.setCell (R Z.A o) v)/\(w.setCell (R Z.A o) v).heap[Z.A]?=some (N (DF Z g u' n yg') 120):=by
 have c:Fr [120] aG w (w.setCell (R Z.A o) v):=(Fr.refl _ _ _).set (p:=R Z.A o) d rfl h.arr.lo.1 v;have e:(w.setCell (R Z.A o) v).heap[Z.A]?=some (N (DF Z g u' n yg') 120):=by rw[<-i];exact heap_setCell_same _ _ _ _ _ _ d
 exact⟨⟨⟨⟨n,f,e⟩,by rw[b];obtain⟨j,k,l⟩:=h.arr.xu;exact⟨j,c.hp k rfl,l⟩,h.arr.lo⟩,h.rs.fr c rfl⟩,c,e⟩
theorem Fr.LM[Lo]{Z:bm}(h:Fr [120] aG w W):iO Z w W:=(h.any).wide Jw rfl
theorem Fr.NJ[Lo]{Z:bm}(h:Fr KA aG w W):iO Z w W:=(h.any).wide Jw rfl
def Su.told(u:Su):Su:={u with ev:=u.ev+1,sf:=u.ev+1}
def Su.tell(u:Su):Su:={u with ev:=u.ev+1}
theorem Su.sJ(h:u.ok g)(a:u.ev<4611686018427387904)(b:k<g.M+1):(u.tell.at k).ok g:=
 ⟨h.cJ,h.id,⟨h.ev.1,QD h.ev.2.1 (US _),a⟩,Nat.lt_succ_iff.1 b,h.ring,h.st,h.one,h.cur⟩
theorem Su.sP(h:u.ok g)(a:u.ev<4611686018427387904):u.told.ok g:=
 ⟨h.cJ,h.id,⟨Nat.succ_pos _,QE _,a⟩,h.rl,h.ring,h.st,h.one,h.cur⟩
def OW[Lo](Z:bm)(g:aA)(s:Rs)(u:Su)(c:Bool)(w:QA)(e:RV)(a:QA):Prop:=
 aL e (.tuple #[])/\de a Z g {s with b:=(s.b.run (eX g u.tell)).1,ro:=s.ro.marks g u.told g.M} u.told c/\iO Z w a
abbrev Ix(n a:Nat):H:=.func (.func n) #[ar a] #[]
theorem mh.base[Lo]{Z:bm}{L:List fR}(h:mh Z g s u d w L z)(a:Fr KA aG W z):mh Z g s u d W L z:=⟨h.arr,h.rs,h.ok,a,h.q,h.h'⟩
theorem nE[Lo](Z:bm)(g:aA)(s:Rs)(u:Su)(a:Bool)(w:QA)(h:de w Z g s u a)(c9:u.ok g)(Q:u.ev<4611686018427387904)(y:u.lost=false)(e3:KB s.b)(d0:s.b.N=g.M+1)(t:(s.b.run (eX g u.tell)).2.2=0):
  aF 121 #[ar Z.A] w (OW Z g s u a w):=by
 obtain⟨e4,S,d1⟩:=h.arr.aM;obtain⟨k0,f0,z0⟩:=cr d1;obtain⟨s1,s2,s3⟩:=h.set S d1 2 (.int .u64 ((u.ev+1:Nat):Int)) (u':=u.tell) (yg':=a) rfl rfl;obtain⟨e5,U⟩:=ah (w.setCell (ag Z.A 2) (.int .u64 ((u.ev+1:Nat):Int)));rw[U]at s1 s2 s3;rw[show((u.ev+1:Nat):Int)=(u.ev:Int)+1 by omega]at U;obtain⟨z,D,V,a9,A,b0⟩:=eL e5 (ao #[Ix 55 Z.A,Ix 56 Z.B] 123);have W:w.heap.size=D:=by rw[<-a9,<-U];simp
 have e1:VP.wrap ((u.ev:Int)+1)=((u.ev+1:Nat):Int):=bs;have B:¬(4611686018427387904:Int)<=(u.ev:Nat):=aa;have b1:QX (mh Z g s u.tell a z [] z):=⟨s1.arr.fr (T:= []) (Fr.af A) rfl rfl,s1.rs.below A,rfl,Fr.refl _ _ _,λ_ e=>(by cases e),QO _⟩;have b2:=aB (Fr.NJ (Z:=Z) ((s2.wide KA rfl).then A)) b0;have O:=aB c9 Q;have b3:=ad (λw=>DR Z g s u.tell a w e3 (λk P=>Su.sJ c9 Q P) d0);have C:=ad (λw=>JI Z g s u.tell a w d0);have H0:=ad t;have E:=aY U W a9 V;clear U W a9 V;go_enter func121,ntmps121;go_wp2;rw[E.1,E.2.1,E.2.2.2];go_loopw [53] (λi wr=>∃k:Nat,i= ae k/\k<=2/\QX (mh Z g s u.tell a z ([dD g u.tell g.M,dq g.M].take k) wr)) (λi _=>2-(intOf i).toNat)
 case atStart=>exact⟨0,rfl,aa,b1⟩
 case round=>
  obtain⟨k,rfl,P,d⟩:=hrel;by_cases b:k<2
  .match k,b,P,d with
   |0,b,P,d=>obtain⟨X,c2,c3⟩:=cr (d.bY.hp b2.2 rfl);obtain⟨H,-,b4⟩:=d.arr.aM;have b5:=ad (dK Z g u.tell a wr d.arr);have d2:=(b3.out z).enters;have N:=ad ((b3 z).call _ g.M wr d aa (by show 0<60;omega) (by have:=H0.out;unfold eX at this;exact By.og (l:= [dD g u.tell g.M]) (l':= [dq g.M] ++_) (by rw[<-SV];exact this)));go_wp2_with(first|(go_at_call 107;refine b5.mono ?_;rintro e w3 ⟨rfl,rfl⟩)|(refine N.mono ?_;rintro e w4 ⟨rfl,M⟩;have p:=ad M));exact⟨⟨1,by go_num,aa,p⟩,by simp[intOf]⟩
   |1,b,P,d=>obtain⟨X,c2,c3⟩:=cr (d.bY.hp b2.2 rfl);obtain⟨H,-,b4⟩:=d.arr.aM;have b5:=ad (dK Z g u.tell a wr d.arr);have d2:=(C.out z).enters;have N:=ad ((C z).call _ g.M wr d aa (by show 1<60;omega) (by have:=H0.out;unfold eX at this;exact By.og this));go_wp2_with(first|(go_at_call 107;refine b5.mono ?_;rintro e w3 ⟨rfl,rfl⟩)|(refine N.mono ?_;rintro e w4 ⟨rfl,M⟩;have p:=ad M));exact⟨⟨2,by go_num,aa,p⟩,by simp[intOf]⟩
  .have F:(k:Int)=2:=aa;rw[F];clear F;obtain rfl:k=2:=aa;obtain⟨d3,b6,b7⟩:=d.arr.aM;obtain⟨k0,f0,z0⟩:=cr b7;obtain⟨f,D2,R,I,Y,b8⟩:=eL wr (ao #[Ix 55 Z.A,Ix 56 Z.B] 123);have b9:=ad b8;have c0:=ad (b2.1.trans ((Fr.NJ d.bY).then Y));have J:QX (mh Z g s u.tell a f ([dD g u.tell g.M,dq g.M] ++ []) f):=(d.below Y).base (Fr.refl _ _ _);have v:=aB R I;clear R I;go_wp2;rw[v.1,v.2];go_loopw [79] (λi wr=>∃k:Nat,i= ae k/\k<=2/\QX (mh Z g s u.tell a f ([dD g u.tell g.M,dq g.M] ++(if k=0 then[]else if k=1 then(qx g u.tell g.M).map (dD g u.tell)else(qx g u.tell g.M).map (dD g u.tell)++(qx g u.tell g.M).map dq)) wr)) (λi _=>2-(intOf i).toNat)
   case atStart=>exact⟨0,rfl,aa,J⟩
   case round=>
    clear J;obtain⟨k,rfl,P,G⟩:=hrel;by_cases b:k<2
    .have K:∃c4 x j c,wr.cell? (ag D2 k)=some (.func (.func c4) #[x] #[])/\JH Z g s u.tell a f c4 x j/\c.length<=18/\mh Z g s u.tell a f c wr/\(s.b.run (c++(qx g u.tell g.M).map j)).2.2=0/\(∀a5,mh Z g s u.tell a f (c++(qx g u.tell g.M).map j) a5->mh Z g s u.tell a f ([dD g u.tell g.M,dq g.M] ++(if k+1=0 then[]else if k+1=1 then(qx g u.tell g.M).map (dD g u.tell)else(qx g u.tell g.M).map (dD g u.tell)++(qx g u.tell g.M).map dq)) a5):=by
      obtain⟨X,-,-⟩:=cr (G.bY.hp b9 rfl);have t:=H0.out;unfold eX at t;have d4:=lP O.1.cJ u.tell g.M (QE _)
      match k,b,G with
      |0,_,G=>exact⟨55,_,_,_,X 0,b3 f,aJ,G,by refine By.og (l':=(qx g u.tell g.M).map dq) ?_;rw[ak rfl,TZ,SV];exact t,λa5 a0=>by rw[ak rfl,TZ]at a0;exact a0⟩
      |1,_,G=>exact⟨56,_,_,_,X 1,C f,aS,G,by rw[al aa,ak rfl,SV];exact t,λa5 a0=>by rw[al aa,ak rfl,SV]at a0;rw[al aa,al aa];exact a0⟩
     obtain⟨c4,x,j,c,X,p1,p2,p3,p4,p5⟩:=K;have n:=aY p1 p4 p5 b;have a1:QX (mh Z g s u.tell a f (c++(qx g u.tell 0).map j) wr):=by show mh Z g s u.tell a f (c++ []) wr;rw[TZ];exact p3
     obtain⟨d5,-,c5⟩:=p3.arr.aM;obtain⟨k0,f0,z0⟩:=cr c5;obtain⟨d6,rfl⟩:∃d6:QA,d6=wr:=⟨_,rfl⟩;have F:(k:Int)<2:=aa;have c6:=ad p2;go_wp2_with fail;go_loopw [89] (λi wr=>∃m:Nat,i= ae m/\m<=g.M/\QX (mh Z g s u.tell a f (c++(qx g u.tell m).map j) wr)) (λi _=>g.M-(intOf i).toNat)
     case atStart=>exact⟨0,rfl,QO _,a1⟩
     case round=>
      clear a1;obtain⟨m,rfl,f1,a6⟩:=hrel;have d7:=O.1.cJ.m16;by_cases b:m<g.M
      .have q:=ad (Gz Z g u.tell a m wr a6.arr b O.1.cJ.m16);have a2:=DP g u.tell m;have r:=ad b;by_cases B:u.tell.st m=2
       .rw [show decide (u.tell.st m≠2)=false by simp[B]]at q;rw[al (λh=>h B),TZ]at a2;have c7:=ad a2;clear B;go_wp2_with(go_at_call 120;refine q.mono ?_;rintro e w3 ⟨rfl,rfl⟩);go_roundw
        case rel=>exact⟨m+1,by go_num,r,by rw[c7.out];exact a6⟩
        case measure=>have:=r.out;simp[intOf];omega
       .rw [show decide (u.tell.st m≠2)=true by simp[B]]at q;rw[ak B]at a2;have c7:=ad a2;have d2:=n.1.enters;have d8:=lP O.1.cJ u.tell m aa;have d9:=c6.out;have N:=ad (n.1.call _ m wr a6 aa (by rw[QU,RB];omega) (by obtain⟨l,e6⟩:=DQ (u:=u.tell) b;have t:=n.2.1;rw[e6,a2,SH,SH,<-SV,<-SV]at t;exact By.og t));clear B;go_wp2_with(first|(go_at_call 120;refine q.mono ?_;rintro e w3 ⟨rfl,rfl⟩)|(refine N.mono ?_;rintro e w4 ⟨rfl,M⟩;have p:=ad M));go_roundw
        case rel=>exact⟨m+1,by go_num,r,by rw[c7.out,SH,<-SV];exact p⟩
        case measure=>have:=r.out;simp[intOf];omega
      .obtain rfl:g.M=m:=aa;go_wp2;exact⟨⟨k+1,by go_num,n.2.2.2,n.2.2.1 _ a6⟩,by have:=n.2.2.2;simp[intOf];omega⟩
    .obtain rfl:k=2:=aa;have a7:QX (mh Z g s u.tell a f (eX g u.tell) wr):=G.out;obtain⟨e0,L,a3⟩:=a7.arr.aM;obtain⟨k0,f0,z0⟩:=cr a3;obtain⟨t1,t2,t3⟩:=(de.mk a7.arr a7.rs).set L a3 3 (.int .u64 ((u.ev+1:Nat):Int)) (u':=u.told) (yg':=a) rfl rfl;obtain⟨e7,a8⟩:=ah (wr.setCell (ag Z.A 3) (.int .u64 ((u.ev+1:Nat):Int)));rw[a8]at t1 t2 t3;rw[show((u.ev+1:Nat):Int)=(u.ev:Int)+1 by omega]at a8;have c8:=ad (oc Z g _ u.told a e7 t1 (Su.sP O.1 O.2));have o:=aB t1 t2;have a4:=ad a8;have e8:u.tell.ev=u.ev+1:=rfl;have e9:u.tell.lost=false:=y;clear a8;go_wp2_with fail;rw[a4.out];refine c8.mono ?_;rintro e f2 ⟨rfl,q1,q2⟩;have p:=aB q1 q2;go_wp2;go_end0;exact⟨rfl,⟨o.1.arr.out p.2 o.1.rs.row.fJ o.1.rs.lo.2,o.1.rs.mark p.1 p.2⟩,(c0.trans (Fr.NJ a7.bY)).trans ((Fr.LM o.2).trans (Fr.wk (p.2.mono λk _ e=>e)))⟩
section
section
variable {g:aA} {aw:Option Nat} {V:cH} {s s':Rs} {k er C:Nat} {Bt:bq}
theorem Gt.DS(h:Gt g aw V s)(hF:Fit g C s)(l:20000<=C)(e:fY g s s' k er):Fit g (C-20000) s':=by
 have c:=h.sync.1;rcases e with⟨m,n,h1,d⟩|⟨h1,d⟩
 .have f1:=eE hF J c h1;obtain⟨f,-,-,-⟩:=h.settle h1;rcases d with⟨o,p,a,b⟩|⟨a,b⟩
  .have f2:=fM f1 J a;obtain⟨i,-,-,-⟩:=f.eW a;obtain⟨-,j,-,-⟩:=i.gu b;subst j;exact(nz f2 J b).less J
  .exact (fM f1 J a).less J
 .exact (eE hF J c h1).less J
theorem Gt.fe(h:Gt g aw V s):Gt g aw V s.fe:=⟨⟨h.gd.dev.mono λj d _ a=>a.imp (λ_ _ e=>e) (λ_ _ e=>e) λ_ _ _ e=>e,h.gd.N,h.gd.wt,h.gd.dn,h.gd.qw,h.gd.par⟩,h.bz,h.aW⟩
theorem Gt.xE(h:Gt g aw V s):(s.synced g).1.x.N=s.x.N:=by rw[h.sync.2.2.1]
theorem Gt.room(h:Gt g aw V s)(b:2*Bt.c_ g+1<=s.x.N)(c:dj g Bt s s' k er):
  Gt g aw V s'/\(s'.ro=s.ro\/s'.ro={s.ro with wt:= []})/\s'.x.N=s.x.N/\((er=0/\2*Bt.c_ g+1<=s'.x.N-s'.x.u)\/tu g aw s.ro s' k er):=by
 unfold dj at c;by_cases d:2*Bt.c_ g+1<=s.x.N-s.x.u
 .rw [ak d]at c;obtain⟨rfl,-,a⟩:=c;exact⟨h,.inl rfl,rfl,.inl ⟨a,d⟩⟩
 .rw [al d]at c;obtain⟨e,a|a⟩:=h.empty c
  .refine ⟨e,.inr a.2.1,by rw[a.2.2];rfl,.inl ⟨a.1,?_⟩⟩;rw[a.2.2];exact b
  .exact ⟨e,a.2.1,by rw[a.2.2,h.xE],.inr a.1⟩
theorem Gt.vg(h:Gt g aw V s)(hF:Fit g C s)(b:20000<=C)(a:dj g Bt s s' k er):Fit g (C-20000) s':=by
 unfold dj at a;split at a
 .obtain ⟨rfl,-,-⟩:=a;exact hF.less J
 .exact h.DS hF b a
theorem Gt.NK(h:Gt g aw V s)(hF:Fit g C s)(d:Bt.ok g){r:Nat}(f:r∈Bt.eM g):sD g s.b s.ro r (Bt.bP g r):=by
 have a:=(br.1 f).1;refine⟨⟨hF.cJ,a,hF.N,QD hF.h' J,λm v o q=>?_⟩,⟨a,vf hF.cJ d f,λp b=>?_,?_⟩,λi j _ _ t u=>?_,AT hF.cJ r,h.gd.eI a,λp b k w=>?_⟩
 .have:=(hF.mem m v o q).1;omega
 .obtain ⟨m,l,c,rfl⟩:=fq.1 b;refine⟨l,rfl,λe=>?_⟩;simp only at e;rw[e,bq.iX hF.cJ]at c;cases c
 .exact XZ.2 ((iW _ _).imp λh=>h)
 .have n:=h.gd.dn i r t;rw[h.gd.dn j r u]at n;cases n;rfl
 .obtain ⟨m,l,c,rfl⟩:=fq.1 b;exact bq.BZ d w
theorem Gt.xF(h:Gt g aw V s)(hF:Fit g C s)(v:Bt.ok g)(e_:1<=Bt.n)(B:s.x.N<=2048)(x:2*Bt.c_ g+1<=s.x.N-s.x.u){i:List (List Pt)}(n:dY (pb g s.b s.ro (Bt.bP g)) i (Bt.eM g))(y:(s.hl g Bt).2.2=0):
  rq g i.flatten/\1<=i.flatten.length/\2*i.flatten.length+1<=s.x.N-s.x.u/\(aQ i.flatten).ok:=by
 have c:=hF.cJ;have o:=mS c h.gd n y;have m:=bq.rV c v h.gd.par;have d:∀l r,r∈Bt.eM g->pb g s.b s.ro (Bt.bP g) l r->l≠[]/\l.length<=(Bt.bP g r).length+1:=λl r b j=>GL c h.gd.dn j (vf c v b);have w:i.flatten.length<=Bt.c_ g:=za (f:=Bt.bP g) (n.imp λl r b j=>(d l r b j).2);have e:∀p,p∈i.flatten->∀k,k<128->p.2.2 k<256:=λp a k q=>by obtain⟨t,u,A,z⟩:=o.val p a;rw[z k q];exact m.lt _ _ _ t u q
 refine⟨⟨J,λp a=>⟨(o.val p a).1,(o.val p a).2.1,e p a⟩,?_⟩,?_,J,?_⟩
 .refine ve (iW _ _) (n.imp λl r b j=>⟨λp a=>?_,j.2⟩);exact((sN c h.gd b (λk q=>By.pC y k (WI.2 ⟨r,b,q⟩)) j).1 p a).2.1
 .have b:g.row (Bt.aM 0)∈Bt.eM g:=br.2 ⟨aA.iU c (v.aM 0 J),dt.2 ⟨0,J,rfl⟩⟩;obtain⟨l,t,u⟩:=n.LJ b;obtain⟨p,a⟩:=WH l (d l _ b u).1;exact List.length_pos_of_mem (YH.2 ⟨l,t,a⟩)
 .refine Dd λp a=>?_;obtain⟨t,u,-,-⟩:=o.val p a;have A:=c.m16;have z:=aA.iJ c;exact⟨J,J,e p a⟩
theorem Gt.LN(h:Gt g aw V s)(hF:Fit g C s)(p:100000<=C)(d:Bt.ok g)(e_:1<=Bt.n)(e:s.x.N<=2048)(a:2*Bt.c_ g+1<=s.x.N):Gy g Bt s:=by
 constructor
 .intro c f b r i;have f1:=h.fe.vg (hF.sl false) J b;exact(h.fe.room a b).1.NK f1 d i
 .intro c f q b j l;have f1:=h.fe.vg (hF.sl false) J b;obtain⟨m,-,n,a4⟩:=h.fe.room a b;have o:2*Bt.c_ g+1<=c.x.N-c.x.u:=by
   rcases a4 with a4|a4
   .exact a4.2
   .exact absurd rfl a4.gone.ne
  exact m.xF f1 d e_ (by rw[n];exact e) o j l
theorem Gt.db(h:Gt g aw V s){pl:aN}{sf:dp}:∀n,(∀j,j<n->Lt 128 (sf j))->(s.b.db g.M pl sf n).2=0/\∀x,Gt g aw V {s with b:=(s.b.db g.M pl sf n).1,x:=x}
 |0,_=>⟨rfl,λx=>⟨⟨h.gd.dev,h.gd.N,h.gd.wt,h.gd.dn,h.gd.qw,h.gd.par⟩,h.bz,h.aW⟩⟩
 |n+1,a=>by obtain⟨c,d⟩:=Gt.db h n λj f=>a j J;unfold By.db;rw[ak c];exact(d s.x).Kz λQ e=>sK (a n J) e
theorem Gt.log(h:Gt g aw V s){l:List Pt}(c:(aQ l).ok)(d:qt g l s s' k er):Gt g aw V s'/\er=0/\s'.ro=s.ro/\s'.x=s.x.cN (2*l.length+1) (bh s.x.ep s.x.nx (aQ l) (2*l.length)) 0:=by
 obtain⟨e,-,f⟩:=d;obtain⟨i,m⟩:=h.db (pl:=s.x.pl) (sf:=bh s.x.ep s.x.nx (aQ l)) (2*l.length) λj n=>oe c (TF n);obtain⟨o,p⟩:=(m s.x).Kz (act:=be) λQ q=>sL q;have a:(s.gK g l).2=0/\∀x,Gt g aw V {s with b:=(s.gK g l).1,x:=x}:=by unfold Rs.gK By.hM;rw[ak i];exact⟨o,p⟩
 subst e;exact⟨a.2 _,f.trans a.1,rfl,by show s.x.cN _ _ (s.gK g l).2=_;rw[a.1]⟩
theorem Gt.qs(h:Gt g aw V s)(w:s.ro.wt= [])(x:g.ok)(y:Bt.ok g){l:List Pt}(n:Iw g s.ro V (Bt.fQ g V) l)(z:(aQ l).ok)(c:lI g l s s' k er):
  Gt g aw (Bt.fQ g V) s'/\er=0/\s'.ro={s.ro with sl:=true,wt:=l}/\s'.x=s.x.eo (2*l.length+1) 0:=by
 obtain⟨A,-,B⟩:=c;obtain⟨D,E⟩:=h.Kz (act:=aR (s.x.pl (2*l.length+1-1)) (bh s.x.ep s.x.nx (aQ l) (2*l.length))) λQ F=>sK (oe z (j:=2*l.length) (QE _)) F;have o:(s.cT g (2*l.length+1) (bh s.x.ep s.x.nx (aQ l) (2*l.length))).2=0:=D;have b:=E s.x;subst A;rw[o,ak rfl];refine⟨⟨⟨λj G=>?_,b.gd.N,λp c=>?_,h.gd.dn,h.gd.qw,bq.rV x y h.gd.par⟩,b.bz,b.aW⟩,B.trans o,rfl,rfl⟩
 .obtain ⟨K,d⟩:=b.gd.dev j G;refine⟨K,λv f=>⟨(d v f).eI,(d v f).mR,λL=>⟨λq=>⟨λr t u i=>?_,λr _ _ O=>absurd trivial O⟩,λ_=>trivial⟩⟩⟩;have:=(((d v f).holds L).1 q).view r t u (λ⟨p,a,_⟩=>by have:p∈s.ro.wt:=a;rw[w]at this;cases this);rcases n.all j r q t u with⟨p,a,m,P⟩|e
  .exact absurd ⟨p,a,m,P⟩ i
  .rw [e];exact this
 .obtain ⟨a,m,-,S⟩:=n.val p c;exact⟨a,m,S,trivial⟩
structure NL(g:aA)(aw:Option Nat)(V:cH)(Bt:bq)(C:Nat)(s s':Rs)(k er:Nat):Prop where
 fit:Fit g (C-60000) s'
 N:s'.x.N=s.x.N
 fr:s'.ro.fr=s.ro.fr
 lz:s'.ro.lz=s.ro.lz
 res:(er=0/\Gt g aw (Bt.fQ g V) s')\/(tu g aw s.ro s' k er/\s'.ro.sl=false/\Gt g aw V s')\/(tu g aw s.ro s' k er/\s'.ro.sl=true/\s'.x.sure=true/\Gt g aw (Bt.fQ g V) s')
theorem Gt.write(h:Gt g aw V s)(hF:Fit g C s)(b7:100000<=C)(Q:Bt.ok g)(e_:1<=Bt.n)(b0:s.x.N<=2048)(n:2*Bt.c_ g+1<=s.x.N)(y:eS g Bt s s' k er):NL g aw V Bt C s s' k er:=by
 have S:=hF.cJ;have K:=h.fe;rcases y with⟨d,k1,h1,T⟩|⟨h1,T⟩
 .obtain ⟨v,a2,o,a4⟩:=K.room n h1;have o:d.x.N=s.x.N:=o;have f1:=K.vg (hF.sl false) aa h1;have a5:2*Bt.c_ g+1<=d.x.N-d.x.u:=by
   rcases a4 with a4|a4
   .exact a4.2
   .exact absurd rfl a4.gone.ne
  have a:d.ro.fr=s.ro.fr/\d.ro.lz=s.ro.lz/\d.ro.sl=false:=by rcases a2 with a2|a2<;>rw[a2] <;>exact⟨rfl,rfl,rfl⟩
  obtain⟨w1,w2⟩:=v.bU (l:=dO g d.ro (Bt.bP g) (Bt.eM g)) λk b2=>by obtain⟨e1,u⟩:=vd v.gd.dn k b2;exact⟨aa,u⟩
  have a7:=f1.bU (dO g d.ro (Bt.bP g) (Bt.eM g));rcases T with⟨L,O,z,w⟩|⟨L,b5,O,z⟩
  .have w3:=w2.resolve_left L;subst O z w;exact⟨a7.less aa,o,a.1,a.2.1,.inr (.inl ⟨w3.of a.1.symm,a.2.2,w1⟩)⟩
  .obtain ⟨p1,p2,p3,A⟩:=v.xF f1 Q e_ (by rw[o];exact b0) a5 O L;have e:=mS S v.gd O L;obtain⟨l,b6⟩:=ah b5.flatten;rw[b6]at z p1 p2 p3 A e;obtain⟨q,i⟩:∃q:Rs,{d with b:=(d.hl g Bt).1}=q:=⟨_,rfl⟩;have u:q.ro=d.ro/\q.x=d.x:=by rw[<-i];exact⟨rfl,rfl⟩
   have B:Gt g aw V q:=by rw[<-i];exact w1
   have U:Fit g (C-20000) q:=by rw[<-i];exact a7
   rw[i]at z;rcases z with⟨s3,k3,w,W⟩|⟨w,W⟩
   .obtain ⟨b1,-,X,b4⟩:=B.log A w;have f3:=sI U aa aa w;rcases W with⟨Z,k4,D,H⟩|⟨D,H⟩
    .obtain ⟨P,N,c3⟩:=b1.eV D;have f4:=gJ f3 aa D;have c4:Z.ro={s3.ro with wt:= []}:=by
      rcases c3 with c3|c3
      .exact c3.2
      .exact absurd rfl c3.1.gone.ne
     have f:Z.ro={d.ro with wt:= []}:=by rw[c4,X,u.1]
     rcases H with⟨E,k5,j,c⟩|⟨j,c⟩
     .obtain ⟨d1,-,d3,d4⟩:=P.qs (Bt:=Bt) (by rw[f]) S Q (l:=l) (by
       refine⟨λp y=>?_,λm r M R F=>?_⟩
       .obtain ⟨I,Y,J,q4⟩:=e.val p y;exact⟨I,Y,by rw[f];exact J,q4⟩
       .rw [f]at F;exact e.all m r M R F) A j
      have f5:=pz f4 aa p1 j;have a8:E.x.N=s.x.N:=by rw[d4];show Z.x.N=_;rw[N,b4];show q.x.N=_;rw[u.2,o]
      have t:E.ro.fr=s.ro.fr/\E.ro.lz=s.ro.lz/\E.ro.sl=true:=by rw[d3,f];exact⟨a.1,a.2.1,rfl⟩
      unfold hj at c;by_cases a9:E.ro.lz=true
      .rw [ak a9]at c;obtain⟨rfl,-,a0⟩:=c;exact⟨f5.less aa,a8,t.1,t.2.1,.inl ⟨a0,d1⟩⟩
      .rw [al a9]at c;have f6:=eE f5 aa d1.sync.1 c;obtain⟨i1,i2,i3,i4⟩:=d1.settle c;have G:s'.x.N=s.x.N:=by rw[i2,d1.xE,a8]
       rcases i4 with⟨i5,x⟩|⟨i5,x⟩
       .exact ⟨f6.less aa,G,by rw[x];exact t.1,by rw[x];exact t.2.1,.inl ⟨i5,i1⟩⟩
       .exact ⟨f6.less aa,G,by rw[x];exact t.1,by rw[x];exact t.2.1,.inr (.inr ⟨i5.of t.1.symm,by rw[x];exact t.2.2,i3,i1⟩)⟩
     .have a6:=P.qs (Bt:=Bt) (by rw[f]) S Q (l:=l) (by
       refine⟨λp y=>?_,λm r M R F=>?_⟩
       .obtain ⟨I,Y,J,q4⟩:=e.val p y;exact⟨I,Y,by rw[f];exact J,q4⟩
       .rw [f]at F;exact e.all m r M R F) A j
      exact absurd a6.2.1 c
    .obtain ⟨P,N,c3⟩:=b1.eV D;have f4:=gJ f3 aa D;rcases c3 with c3|⟨c3,c4⟩
     .exact absurd c3.1 H
     .have f:s'.ro=d.ro:=by rw[c4,X,u.1]
      refine⟨f4.less aa,?_,by rw[f];exact a.1,by rw[f];exact a.2.1,.inr (.inl ⟨c3.of ?_,by rw[f];exact a.2.2,P⟩)⟩
      .rw [N,b4];show q.x.N=_;rw[u.2,o]
      .rw [X,u.1,a.1]
   .exact absurd (B.log A w).2.1 W
 .obtain ⟨v,a2,o,a4⟩:=K.room n h1;have f1:=K.vg (hF.sl false) aa h1;rcases a4 with a4|a4
  .exact absurd a4.1 T
  .have a:s'.ro.fr=s.ro.fr/\s'.ro.lz=s.ro.lz/\s'.ro.sl=false:=by rcases a2 with a2|a2<;>rw[a2] <;>exact⟨rfl,rfl,rfl⟩
   exact⟨f1.less aa,o,a.1,a.2.1,.inr (.inl ⟨a4.of rfl,a.2.2,v⟩)⟩
end
end
section
section
variable {g:aA} {aw aw':Option Nat} {V:cH} {s:Rs}
theorem tt.DT{Q:Nat->Dk->Prop}{b:By}(h:tt aw Q b)(f:aw=none\/aw=aw'):tt aw' Q b:=by
 intro k i;obtain⟨d,a⟩:=h k i;rcases f with rfl|rfl
 .refine ⟨λe=>absurd (d e) (by intro e;cases e),λv c=>⟨(a v c).eI,λ_=>(a v c).mR (by intro e;cases e),(a v c).holds⟩⟩
 .exact ⟨d,a⟩
theorem Gt.DT(h:Gt g none V s){m:Nat}(a:m<g.M):Gt g (some m) V s:=
 ⟨⟨h.gd.dev.DT (.inl rfl),h.gd.N,h.gd.wt,λj r b=>(by have:=h.gd.dn j r b;cases this),λj e=>(by cases e;exact a),h.gd.par⟩,h.bz,h.aW⟩
def bK(b:By):Prop:=∀k,k<b.N->∃v,b.dv k=some v/\v.hf=false/\v.d.failed=false
theorem tt.kO{Q:Nat->Dk->Prop}{b:By}(h:tt none Q b):bK b:=λk c=>by
 obtain⟨d,f⟩:=h k c;cases a:b.dv k with
 |none=>have:=d a;cases this
 |some v=>exact⟨v,rfl,(f v a).mR (by intro e;cases e)⟩
theorem Gt.mark(h:Gt g aw V s){a:Ro}(c:a.wt=s.ro.wt)(f:∀m r,a.down m r=false->s.ro.down m r=false)(i:∀m r,a.down m r=true->aw=some m):Gt g aw V {s with ro:=a}:=by
 refine⟨⟨h.gd.dev.mono λj d _ k=>k.imp f (λ_ _ e=>e) λm r _ b=>?_,h.gd.N,λp b=>?_,i,h.gd.qw,h.gd.par⟩,h.bz,h.aW⟩
 .intro ⟨p,l,n,o⟩;exact b ⟨p,by rw[c];exact l,n,o⟩
 .have:p∈s.ro.wt:=by rw[<-c];exact b
  exact h.gd.wt p this
theorem Gt.put(h:Gt g aw V s){k:Nat}(a:aw=some k){v:Dv}(c:v.d.eI)(d:v.d.failed=false->jv g s.ro (λ_ _=>True) s.ro.fv V k v.d):Gt g aw V {s with b:=s.b.put k v}:=by
 have m:=h.gd.qw k a;refine⟨⟨λj f=>?_,h.gd.N,h.gd.wt,h.gd.dn,h.gd.qw,h.gd.par⟩,h.bz,h.aW⟩;show((if j=k then some v else s.b.dv j)=none->aw=some j)/\∀u,(if j=k then some v else s.b.dv j)=some u->MI aw _ j u;by_cases e:j=k
 .rw [ak e];subst e;refine⟨λe=>(by cases e),λu i=>?_⟩;cases i;exact⟨c,λe=>absurd a e,λl=>⟨λ_=>d l,λ_=>trivial⟩⟩
 .rw [al e];exact h.gd.dev j f
theorem Gt.dead(h:Gt g aw V s){k:Nat}(a:aw=some k){v:Dv}(c:s.b.dv k=some v):Gt g aw V {s with b:=s.b.put k {v with d:=v.d.dead}}:=by refine h.put a (Dk.uU ((h.gd.dev k (by rw[h.gd.N];have:=h.gd.qw k a;omega)).2 v c).eI) λe=>?_;have:true=false:=e;cases this
theorem Gt.hf(h:Gt g aw V s){k n:Nat}(a:aw=some k){v:Dv}(d:s.b.dv k=some v):Gt g aw V {s with b:=s.b.put k {v with hf:=true,left:=n}}:=by have e:=h.gd.qw k a;have c:=(h.gd.dev k (by rw[h.gd.N];omega)).2 v d;exact h.put a c.eI λf=>(c.holds f).1 e
theorem Dk.rB(n:Nat):(Dk.fresh n).eI:=⟨λ_ _ _=>by show 0<256;omega,λi a=>absurd a (RQ i)⟩
theorem Gt.swap(h:Gt g aw V s){k n:Nat}(c:aw=some k)(i:∀r,s.ro.down k r=true):Gt g aw V {s with b:=s.b.put k ⟨Dk.fresh n,false,0⟩}/\bK (s.b.put k ⟨Dk.fresh n,false,0⟩):=by
 refine⟨h.put c (Dk.rB n) λ_=>⟨λr _ e=>(by rw[i r]at e;cases e),λr _ _ e=>absurd trivial e⟩,λj l=>?_⟩;show∃v,(if j=k then some _ else s.b.dv j)=some v/\_;by_cases e:j=k
 .rw [ak e];exact⟨_,rfl,rfl,rfl⟩
 .rw [al e];obtain⟨m,o⟩:=h.gd.dev j l;have a:aw≠some j:=λd=>e (by rw[c]at d;cases d;rfl);cases f:s.b.dv j with
  |none=>exact absurd (m f) a
  |some v=>exact⟨v,rfl,(o v f).mR a⟩
end
end
section
theorem jv.MJ{g:aA}{o:Ro}{c b:Nat->Nat->Prop}{V:cH}{m:Nat}{d:Dk}{f:aN}(h:jv g o c b V m d):jv g o c b V m (d.wr 0 f):=by
 refine⟨λr k l n=>?_,λr k l n=>?_⟩
 .rw [Dk.eU,al J];exact h.view r k l n
 .obtain ⟨p,q⟩:=h.last r k l n;refine⟨p,λi t j=>?_⟩;have u:i<d.cn+1:=t;have a:(if i=d.cn then 0 else d.cat i)=1+r:=j;show aD (if i=d.cn then f else d.bV i) _;by_cases e:i=d.cn
  .rw [ak e]at a;omega
  .rw [al e]at a|-;exact q i J a
theorem gO{g:aA}{u:Su}{a:fR}(h:a∈eX g u):∃k,(k=g.M\/(k<g.M/\u.st k≠2))/\(a=dD g u k\/a=dq k):=by
 unfold eX at h;simp only[TH,UH,List.not_mem_nil,or_false,RK]at h;have c:∀k,k∈qx g u g.M->k<g.M/\u.st k≠2:=λk b=>by have:=br.1 b;simpa using this
 rcases h with(rfl|rfl)|⟨k,b,rfl⟩|⟨k,b,rfl⟩
 .exact ⟨g.M,.inl rfl,.inl rfl⟩
 .exact ⟨g.M,.inl rfl,.inr rfl⟩
 .exact ⟨k,.inr (c k b),.inl rfl⟩
 .exact ⟨k,.inr (c k b),.inr rfl⟩
theorem zc{g:aA}{aw:Option Nat}{Q:Nat->Dk->Prop}{b:By}{u:Su}(y:Lit aw Q b)(m:b.aW=none)(z:b.N=g.M+1)(v:aw≠some g.M)(w:∀k,k<g.M->u.st k≠2->aw≠some k)(A:∀j d f,Q j d->Q j (d.wr 0 f))(n:∀j d,Q j d->Q j (d.settled λ_=>true)):
  (b.run (eX g u)).2.2=0/\Lit aw Q (b.run (eX g u)).1/\(b.run (eX g u)).1.aW=none/\(b.run (eX g u)).1.N=g.M+1:=by
 have x:=Lit.run (aw:=aw) (eX g u) (λ_=>Q) b y λi a B=>by
  obtain⟨k,l,e⟩:=gO (QV B);rcases e with rfl|rfl
  .exact ⟨by show k<b.N;omega,ej (λj _=>od _ _ j) (λd h=>A _ _ _ h) λ_ _ _ h=>h⟩
  .exact ⟨by show k<b.N;omega,fB (λd h=>n _ _ h) λ_ _ _ h=>h⟩
 refine⟨?_,?_,By.eA m _,by rw[By.gb,z]⟩
 .rcases x with⟨c,-⟩|⟨c,h1,-⟩|⟨-,h1,-⟩
  .exact c
  .exfalso;obtain⟨a,o,p⟩:=By.hU c.ne;obtain⟨k,l,e⟩:=gO o;have q:a.1=k:=by rcases e with rfl|rfl<;>rfl
   rw[<-p,q]at h1;rcases l with rfl|⟨r,t⟩
   .exact v h1
   .exact w k r t h1
  .exact absurd m h1
 .rcases x with⟨-,c⟩|⟨c,h1,-⟩|⟨-,h1,-⟩
  .exact c
  .exfalso;obtain⟨a,o,p⟩:=By.hU c.ne;obtain⟨k,l,e⟩:=gO o;have q:a.1=k:=by rcases e with rfl|rfl<;>rfl
   rw[<-p,q]at h1;rcases l with rfl|⟨r,t⟩
   .exact v h1
   .exact w k r t h1
  .exact absurd m h1
section
variable {g:aA} {aw:Option Nat} {V:cH} {s:Rs}
theorem eH.MJ{c:Ro}{b a:Nat->Nat->Prop}{j:Nat}{d:Dk}(f:aN)(h:eH g c b a V (λ_=>True) j d):eH g c b a V (λ_=>True) j (d.wr 0 f):=⟨λe=>(h.1 e).MJ,λ_=>trivial⟩
theorem eH.fl{c:Ro}{b a:Nat->Nat->Prop}{j:Nat}{d:Dk}(h:eH g c b a V (λ_=>True) j d):eH g c b a V (λ_=>True) j (d.settled λ_=>true):=⟨λe=>(h.1 e).fl,λ_=>trivial⟩
theorem Gt.NM(h:Gt g aw V s){u:Su}(i:∀k,k<g.M->u.st k≠2->aw≠some k):(s.b.run (eX g u)).2.2=0/\Gt g aw V {s with b:=(s.b.run (eX g u)).1}:=by obtain⟨l,c,m,n⟩:=zc h.lit h.aW h.gd.N (λe=>absurd (h.gd.qw _ e) (TL _)) i (λj d f a=>a.MJ f) λj d a=>a.fl;exact⟨l,h.gd.set c.dev (by rw[n,h.gd.N]),c.bz,m⟩
end
structure Inv[Lo](w:QA)(Z:bm)(g:aA)(aw:Option Nat)(V:cH)(C:Nat)(s:Rs)(u:Su):Prop where
 ay:de w Z g s u false
 gt:Gt g aw V s
 kr:u.ok g
 vZ:∀m,s.ro.fr m=if m<g.M then fu g u m else none
 only:∀m,m<g.M->u.st m≠1->aw=some m
 kO:(∃m,m<g.M/\u.st m=3)->bK s.b
 fit:Fit g C s
 ev:u.ev+C<=4611686018427387904
 same:u.N=s.x.N/\u.lz=s.ro.lz/\u.lost=false
 v_:u.N=Z.N/\u.lz=Z.lz
structure jZ[Lo](w:QA)(Z:bm)(g:aA)(aw:Option Nat)(V:cH)(C:Nat)(s:Rs)(u:Su):Prop where
 ay:de w Z g s u false
 gt:Gt g aw V s
 kr:u.ok g
 vZ:∀m,s.ro.fr m=if m<g.M then fu g u m else none
 only:∀m,m<g.M->u.st m≠1->aw=some m
 fit:Fit g C s
 ev:u.ev+C<=4611686018427387904
 same:u.N=s.x.N/\u.lz=s.ro.lz/\u.lost=false
 v_:u.N=Z.N/\u.lz=Z.lz
theorem Inv.GN[Lo]{w:M}{Z:bm}{g:aA}{aw:Option Nat}{V:cH}{C:Nat}{s:Rs}{u:Su}(h:Inv w Z g aw V C s u):jZ w Z g aw V C s u:=⟨h.ay,h.gt,h.kr,h.vZ,h.only,h.fit,h.ev,h.same,h.v_⟩
theorem vh{g:aA}{u:Su}{a:Ro}(h:∀m,g.M<=m->a.fr m=none)(m:Nat):(a.marks g u g.M).fr m=if m<g.M then fu g u m else none:=by
 show(if m<g.M then fu g u m else a.fr m)=_;by_cases e:m<g.M
 .rw [ak e,ak e]
 .rw [al e,al e];exact h m J
theorem GO{b a:Ro}{m r:Nat}(h:b.fr m=a.fr m):b.down m r=a.down m r:=by unfold Ro.down;rw[h]
def Su.drop(u:Su)(m:Nat):Su:={u with st:=λk=>if k=m then 2 else u.st k,cur:=0}
theorem Su.jP{g:aA}{u:Su}(h:u.ok g)(m:Nat):(u.drop m).ok g:=by
 have j:=h.cJ.s1;refine⟨h.cJ,h.id,h.ev,h.rl,h.ring,λk l=>?_,λa b n o p q=>?_,⟨j,λe=>absurd rfl e⟩⟩
 .show (if k=m then 2 else u.st k)=1\/(if k=m then 2 else u.st k)=2\/(if k=m then 2 else u.st k)=3;by_cases e:k=m
  .rw [ak e];exact .inr (.inl rfl)
  .rw [al e];exact h.st k l
 .have c:(if a=m then 2 else u.st a)=3:=p;have d:(if b=m then 2 else u.st b)=3:=q;by_cases f:a=m
  .rw [ak f]at c;omega
  .by_cases i:b=m
   .rw [ak i]at d;omega
   .rw [al f]at c;rw[al i]at d;exact h.one a b n o c d
end
theorem de.state[Lo]{Z:bm}(h:de w Z g s u d)(m x:Nat):
  de (w.setCell (R Z.sb m) (eb x)) Z g s {u with st:=λk=>if k=m then x else u.st k} d/\Fr [122] aG w (w.setCell (R Z.sb m) (eb x)):=by
 obtain⟨q,c,i⟩:=h.arr.xu;have a:Fr [122] aG w (w.setCell (R Z.sb m) (eb x)):=(Fr.refl _ _ _).set (p:=R Z.sb m) c rfl h.arr.lo.2 _;obtain⟨b,j,l⟩:=h.arr.aM;refine⟨⟨⟨⟨b,j,a.hp l rfl⟩,⟨_,heap_setCell_same w Z.sb m _ _ (eb x) c,λk n=>?_⟩,h.arr.lo⟩,h.rs.fr a rfl⟩,a⟩;have f:=i k n;have o:=(RC.1 f).1;by_cases e:k=m
 .subst e;simp[o]
 .rw [Array.getElem?_setIfInBounds_ne (Ne.symm e),f];simp[e]
theorem Fr.NN[Lo]{Z:bm}(h:Fr [122] aG w W):iO Z w W:=(h.any).wide Jw rfl
structure LO[Lo](Z:bm)(g:aA)(m:Nat)(V:cH)(C:Nat)(s:Rs)(u:Su)(w:M)(w':M)(s':Rs)(u':Su):Prop where
 inv:Inv w' Z g (some m) V C s' u'
 down:u'.st m=2
 x:s'.x=s.x
 wt:s'.ro.wt=s.ro.wt
 sl:s'.ro.sl=s.ro.sl
 lz:s'.ro.lz=s.ro.lz
 id:u'.id=u.id
 bY:iO Z w w'
 dv:s'.b.dv m=s.b.dv m
def DU[Lo](Z:bm)(g:aA)(m:Nat)(V:cH)(C:Nat)(s:Rs)(u:Su)(w:M)(e:RV)(a:M):Prop:=
 aL e (.tuple #[])/\∃b c,LO Z g m V C s u w a b c
theorem DV(h:Fit g C s)(i:1000<=C)(u:Su)(c:g.ok):Fit g (C-1000) {s with b:=(s.b.run (eX g u)).1}:=by
 have d:(eX g u).length<=60:=by have j:=lP c u g.M (QE _);unfold eX;simp only[QU,RB,SE,VW];omega
 exact(h.run (n:=60) d J (λa f v=>by
  obtain⟨k,-,e⟩:=gO f;rcases e with rfl|rfl
  .exact ey _ _ v
  .exact sE k v) (b':=(s.b.run (eX g u)).1) (k:=(s.b.run (eX g u)).2.1) (er:=(s.b.run (eX g u)).2.2) rfl).less J
theorem Fit.ro(h:Fit g C s)(a:o.wt=s.ro.wt):Fit g C {s with ro:=o}:=
 ⟨h.cJ,h.N,h.mem,h.gB,h.bad,h.cy,by show o.wt.length<=5000;rw[a];exact h.h',λp b=>h.wt p (by rw[<-a];exact b),by show(o.wt.map _).Nodup;rw[a];exact h.mg⟩
theorem Fit.PG(h:Fit g C s)(f:1000<=C):KB s.b:=by
 intro k v b a;rw[h.N]at b;by_cases e:k=g.M
 .subst e;obtain⟨c,d⟩:=h.gB v a;omega
 .obtain ⟨c,d⟩:=h.mem k v J a;omega
theorem xG(a:Ro)(g:aA)(u:Su):(a.marks g u g.M).marks g u.told g.M=a.marks g u g.M:=by
 unfold Ro.marks;congr 1;funext j;show(if j<g.M then fu g u.told j else if j<g.M then fu g u j else a.fr j)=_;by_cases e:j<g.M
 .rw [ak e,ak e];rfl
 .rw [al e,al e]
theorem By.vi{b:By}{j:Nat}:∀{l:List fR},(∀a,a∈l->a.1≠j)->(b.run l).1.dv j=b.dv j
 | [],_=>rfl
 |a::e,h=>by
  have c:=By.ei (b:=b) (k:=a.1) a.2 (Ne.symm (h a RZ));simp only[By.run];split
  .exact (By.vi λx d=>h x (SG _ d)).trans c
  .exact c
theorem DW{V:cH}(i:Gt g (some m) V s)(l:m<g.M)(c:∀m,s.ro.fr m=if m<g.M then fu g u m else none)(only:∀k,k<g.M->u.st k≠1->some m=some k):
  Gt g (some m) V {s with ro:=s.ro.marks g (u.drop m) g.M}/\(s.b.run (eX g (u.drop m).tell)).2.2=0/\Gt g (some m) V {s with b:=(s.b.run (eX g (u.drop m).tell)).1,ro:=s.ro.marks g (u.drop m) g.M}:=by
 have d:∀j,(s.ro.marks g (u.drop m) g.M).fr j=if j=m then some 0 else s.ro.fr j:=λj=>by
  rw[vh (λk n=>by rw[c k,al J])];by_cases e:j=m
  .subst e;rw[ak l,ak rfl];unfold fu Su.drop;simp
  .rw [al e,c j];by_cases f:j<g.M
   .rw [ak f,ak f];have h:u.st j=1:=by
     by_cases q:u.st j=1
     .exact q
     .exact absurd (RM (only j f q)).symm e
    unfold fu Su.drop;simp[e,h]
   .rw [al f,al f]
 have h:Gt g (some m) V {s with ro:=s.ro.marks g (u.drop m) g.M}:=by
  refine i.mark rfl (λj r a=>?_) λj r a=>?_
  .unfold Ro.down at a|-;rw[d j]at a;by_cases e:j=m
   .rw [ak e]at a;simp at a
   .rw [al e]at a;exact a
  .unfold Ro.down at a;rw[d j]at a;by_cases e:j=m
   .rw [e]
   .rw [al e]at a;exact i.gd.dn j r a
 obtain⟨o,p⟩:=h.NM (u:=(u.drop m).tell) (λk n t e=>by cases e;exact t (ak rfl));exact⟨h,o,p⟩
theorem jP[Lo](Z:bm)(g:aA)(m:Nat)(V:cH)(C:Nat)(s:Rs)(u:Su)(w:QA)(h:jZ w Z g (some m) V C s u)(P:m<g.M)(A:u.st m≠2)(Q:1000<=C):
  aF 117 #[ar Z.A,ae m] w (DU Z g m V (C-1000) s u w):=by
 have a7:=h.kr.cJ.m16;have J:=h.ay.arr.st P;obtain⟨a0,S,T⟩:=h.ay.arr.aM;obtain⟨k0,f0,z0⟩:=cr T;obtain⟨a1,o,-⟩:=h.ay.arr.xu;obtain⟨b0,b1,b2⟩:=cr o;obtain⟨x,U⟩:=ah (u.st m);rw[U]at J A;have a2:¬(x:Int)=2:=aa;obtain⟨B,W⟩:=h.ay.state m 2;obtain⟨X,f,p⟩:=B.arr.aM;obtain⟨t1,t2,t3⟩:=B.set f p 12 (ae ((0:Nat):Int)) (u':=u.drop m) (yg':=false) rfl rfl;obtain⟨H,c⟩:=ah ((w.setCell (ag Z.sb m) (.int .u8 ((2:Nat):Int))).setCell (ag Z.A 12) (ae ((0:Nat):Int)));rw[c]at t1 t2 t3;have c:(w.setCell (ag Z.sb m) (.int .u8 2)).setCell (ag Z.A 12) (ae 0)=H:=c;have D:=ad c;have b:=ad h;have l:=aT t1 W t2;have a3:=h.ay.arr.ne;clear T p B W t1 t2 c U b0 h;go_enter func117,ntmps117;go_wp2;go_loop [23] (λi=>∃k:Nat,i= ae k/\k<=g.M) (λi=>g.M-(intOf i).toNat)
 case atStart=>exact⟨0,rfl,QO _⟩
 case round=>
  obtain⟨k,rfl,a4⟩:=hrel;by_cases r:k<g.M
  .have N:=b.ay.arr.st r;by_cases e:k=m
   .subst e;clear N;go_wp2;go_round
    case rel=>exact⟨k+1,by go_num,aa⟩
    case measure=>simp[intOf];omega
   .have e2:¬(k:Int)=(m:Int):=aa;have M:u.st k=1:=by
     by_cases q:u.st k=1
     .exact q
     .exact absurd (RM (b.only k r q)) (Ne.symm e)
    rw[M]at N;clear e M;go_wp2;exact⟨⟨_,_,_,⟨k+1,by go_num,aa⟩,rfl,rfl,rfl⟩,by simp[intOf];omega⟩
  .obtain rfl:k=g.M:=aa;obtain⟨d1,d2,d3⟩:=DW b.gt P b.vZ b.only;have R:=aT d1 d2 d3;have E:=ad (oc Z g s (u.drop m) false H l.1 (Su.jP b.kr m));clear d1 d2 d3;go_wp2_with fail;rw[D.out];refine E.mono ?_;rintro e F ⟨rfl,t,n⟩;have I:QX (de F Z g {s with ro:=s.ro.marks g (u.drop m) g.M} (u.drop m) false/\iO Z w F):=⟨⟨l.1.arr.out n l.1.rs.row.fJ l.1.rs.lo.2,l.1.rs.mark t n⟩,((Fr.NN l.2.1).trans (Fr.LM l.2.2)).trans (Fr.wk (n.mono λk _ e=>e))⟩;have d:=b.ev;have G:=ad (nE Z g {s with ro:=s.ro.marks g (u.drop m) g.M} (u.drop m) false F I.1 (Su.jP b.kr m) (show u.ev<_ by omega) b.same.2.2 (b.fit.PG Q) b.fit.N R.2.1);clear t n d;go_wp2_with(go_at_call 121;refine G.mono ?_;rintro e w3 ⟨rfl,t,n⟩;have a5:=aB t n;clear t n);go_end0;obtain⟨Y,r2⟩:=a5.out;have K:((s.ro.marks g (u.drop m) g.M).marks g (u.drop m).told g.M)=s.ro.marks g (u.drop m) g.M:=xG s.ro g (u.drop m);simp only[K]at Y;have d:=b.ev;refine⟨rfl,_,_,⟨⟨Y,R.2.2,Su.sP (Su.jP b.kr m) (show u.ev<_ by omega),λj=>?_,λj L O=>?_,λ⟨j,L,O⟩=>?_,?_,by show u.ev+1+(C-1000)<=_;omega,b.same,b.v_⟩,ak rfl,rfl,rfl,rfl,rfl,rfl,I.2.trans r2,By.vi λa a6=>?_⟩⟩
   .exact vh (λk a4=>by rw[b.vZ k,al aa]) j
   .by_cases e:j=m
    .rw [e]
    .exact b.only j L (by have:(if j=m then 2 else u.st j)≠1:=O;rw[al e]at this;exact this)
   .exfalso;have v:(if j=m then 2 else u.st j)=3:=O;by_cases e:j=m
    .rw [ak e]at v;omega
    .rw [al e]at v;have:=b.only j L aa;exact e (RM this).symm
   .exact (DV b.fit Q (u.drop m).tell b.kr.cJ).ro rfl
   .obtain ⟨k,y,z⟩:=gO a6;have e:a.1=k:=by rcases z with z|z<;>rw[z] <;>rfl
    rw[e];rcases y with y|⟨-,y⟩
    .omega
    .exact λq=>y (ak q)
theorem Inv.below[Lo]{Z:bm}{a:Option Nat}{V:cH}(h:Inv w Z g a V C s u)(b:aq w W):Inv W Z g a V C s u:=
 ⟨h.ay.below b,h.gt,h.kr,h.vZ,h.only,h.kO,h.fit,h.ev,h.same,h.v_⟩
theorem Inv.less[Lo]{Z:bm}{a:Option Nat}{V:cH}{C C':Nat}(h:Inv w Z g a V C s u)(b:C'<=C):Inv w Z g a V C' s u:=
 ⟨h.ay,h.gt,h.kr,h.vZ,h.only,h.kO,h.fit.less b,QD (ZS b _) h.ev,h.same,h.v_⟩
theorem iu[Lo](Z:bm)(g:aA)(m:Nat)(V:cH)(C b:Nat)(s:Rs)(u:Su)(w:QA)(h:Inv w Z g (some m) V C s u)(B:m<g.M)(l:u.st m≠2)(E:1000<=C)(j:nT b):
  aF 111 #[ar Z.A,hN m b] w (DU Z g m V (C-1000) s u w):=by
 obtain⟨d,D,F,n,c,o⟩:=eL w (N #[Y m,aH b] 172);obtain⟨d1,d2,d3⟩:=cr o;have p:¬(m:Int)=(g.M:Nat):=J;have G:((m:Int)==((g.M:Nat):Int))=false:=by rw[beq_eq_false_iff_ne];exact p
 have T:¬(b:Int)=50:=by rcases j with e|e<;>omega
 have y:=I (λW=>yV b W (by rcases j with e|e<;>omega));rw[show decide (b=2\/b=51)=true from decide_eq_true j]at y;have z:=I (λW (k:aq d W)=>dK Z g u false W ((h.below c).below k).ay.arr);have K:QX (∀W,aq d W->aF 117 #[ar Z.A,Y m] W (DU Z g m V (C-1000) s u w)):=λW k=>(jP Z g m V C s u W ((h.below c).below k).GN B l E).mono λe A ⟨L,O,P,q⟩=>⟨L,O,P,q.inv,q.down,q.x,q.wt,q.sl,q.lz,q.id,((iO.af c).then k).trans q.bY,q.dv⟩;rw[bl _ j.ne];have f:=aB F n;go_enter func111,ntmps111;go_wp2_with fail
 try rw[f.1]
 try rw[f.2]
 refine(y _).mono ?_;rintro e U ⟨rfl,rfl⟩;go_wp2;go_quiet((go_at_call 107;exact WE ((z _ (cK aj _)).mono λe A h=>⟨h.1,h.2.symm⟩)));have a:QX (aq d (d.drewN nq)):=cK aj _;obtain⟨r,t,v⟩:=kp a D d3;obtain⟨X,x⟩:=ah (d.drewN nq);rw[x]at a r t v|-;have i:=I a;go_wp2;go_quiet((go_at_call 107;exact WE ((z _ (cK i _)).mono λe A h=>⟨h.1,h.2.symm⟩)));go_wp2_with(go_at_call 117;refine(K _ (cK i _)).mono ?_;rintro e H ⟨rfl,Q⟩;have S:=I Q);go_end0;exact⟨rfl,S⟩
structure MK[Lo](Z:bm)(g:aA)(cn:Nat)(fst cap:Array H)(Sf:Bool->QA->Prop)(Qf:QA->Prop)(Tf:Nat->Nat->QA->Prop):Prop where
 enters:∀args w,(VF cn args).run prog w= .ok (.enter cn args) w
 call:∀q W,Sf q W->aF cn (fst++cap) W fun e w'=>∃k er,aL e (hN k er)/\((er=0/\Qf w')\/(q=false/\nT er/\k<g.M/\Tf k er w'))
 hN:∀k er W,nT er->Tf k er W->aF 111 #[ar Z.A,hN k er] W fun e w'=>aL e (.tuple #[])/\Sf true w'
 arr:∀k er W,Tf k er W->∃u yg,lK W Z g u yg
 sb:∀q W W',Sf q W->aq W W'->Sf q W'
 qb:∀W W',Qf W->aq W W'->Qf W'
 tb:∀k er W W',Tf k er W->aq W W'->Tf k er W'
open Classical in
noncomputable def OX (a:Bool->M->Prop)(w:M):Nat:=if a true w then 0 else 1
theorem pE[Lo](Z:bm)(g:aA)(a0:g.M<=16)(B:Nat)(j l:Array QC)(a:Bool->QA->Prop)(C:QA->Prop)(L:Nat->Nat->QA->Prop)(H:MK Z g B j l a C L)(E:Bool)(w:QA)(O:a E w):
  aF 101 #[ar Z.A,.func (.func B) j l] w λe o=>aL e ec/\C o:=by
 have a1:=H.enters;have i:=ad H;have r:QX (∃q,a q w):=⟨E,O⟩;go_enter func101,ntmps101;go_wp2;go_loopw [5] (λ_ wr=>QX (∃q,a q wr)) (λ_ wr=>OX a wr)
 case atStart=>exact r
 case round=>
  have P:=hrel;obtain⟨q,F⟩:∃q,QX (a q wr/\(q=false->¬a true wr)):=by
   by_cases e:a true wr
   .exact ⟨true,e,λh=>by cases h⟩
   .obtain ⟨q,m⟩:=P.out;exact⟨q,m,λ_=>e⟩
  have Q:=ad (i.call q wr F.1);go_wp2_with fail;refine Q.mono ?_;rintro e s ⟨k,b,rfl,m⟩;rcases m with⟨rfl,S⟩|⟨rfl,G,a2,U⟩
  .have p:=ad (i.qb s _ S (aK aj (ao #[ae 0,aH 0] 172)));rw[di];go_wp2;go_ret;exact⟨rfl,p⟩
  .have c:b≠0:=G.ne;have a3:¬(b:Int)=0:=aa;have V:((k:Int)==((g.M:Nat):Int))=false:=by rw[beq_eq_false_iff_ne];omega
   obtain⟨f,D,X,t,v,x⟩:=eL s (ao #[ae k,aH b] 172);have K:=ad (i.tb k b s f U v);obtain⟨u,N,y⟩:=i.arr k b f K;have M:=ad (λW (z:aq f W)=>dK Z g u N W (y.fr (T:= []) (Fr.af z) rfl rfl));have A:QX (∀W,aq f W->aF 111 #[ar Z.A,.agg #[ae k,aH b]] W λe o=>aL e (.tuple #[])/\a true o):=λW z=>by rw[<-bl k c];exact i.hN k b W G (i.tb k b f W K z)
   obtain⟨d1,d2,d3⟩:=cr x;have n:=aB X t;rw[bl k c];go_wp2
   try rw[n.1,n.2]
   go_quiet((go_at_call 107;exact WE ((M _ (cK aj _)).mono λe o h=>⟨h.1,h.2.symm⟩)));have d:QX (aq f (f.drewN nq)):=cK aj _;obtain⟨R,I,Y⟩:=kp d D d3;go_wp2_with(go_at_call 111;refine(A _ d).mono ?_;rintro e w4 ⟨rfl,m⟩;have p:=ad m);refine⟨⟨true,p⟩,?_⟩;have J:=F.2 (by trivial);have h2:=p.out;unfold OX;rw[ak h2,al J];omega
theorem GP[Lo](Z:bm)(g:aA)(p:g.M<=16)(i:Nat)(a b:Array QC)(d:Bool->QA->Prop)(f:QA->Prop)(m:Nat->Nat->QA->Prop)(H:MK Z g i a b d f m)(r:∀q W,d q W->∃u h,lK W Z g u h)(s:∀W,f W->∃u h,lK W Z g u h)(j:Bool)(w:QA)(n:d j w):
  aF 113 #[ar Z.A,.func (.func i) a b] w λe t=>aL e (.tuple #[])/\f t:=by
 have v:=I (pE Z g p i a b d f m H j w n);obtain⟨u,h,k⟩:=r j w n;obtain⟨C,-,x⟩:=k.aM;obtain⟨D,f0,E⟩:=cr x;go_enter func113,ntmps113;go_wp2_with(go_at_call 101;refine v.mono ?_;rintro e y ⟨rfl,o⟩;obtain⟨F,z,c⟩:=s y o;obtain⟨A,-,l⟩:=c.aM;obtain⟨G,K,L⟩:=cr l;have B:=I o);go_end0;exact⟨rfl,B⟩
section
def rC(a:Dv->Dv × Nat):Prop:=∀v:Dv,v.hf=false->v.d.failed=false->(a v).1.hf=false/\(a v).1.d.failed=false
theorem JJ:rC bS:=λ_ a b=>⟨a,b⟩
theorem mT(a:Nat)(f:aN):rC (aR a f):=λv c b=>by rw[kM b];exact⟨c,b⟩
theorem pF:rC be:=λv b a=>by rw[kN a];exact⟨b,a⟩
theorem bK.op{b:By}(h:bK b){k:Nat}{a:Dv->Dv × Nat}(l:rC a):bK (b.op k a).1:=by
 intro j i;rw[By.fW]at i;obtain⟨v,d,c,f⟩:=h j i;by_cases e:j=k
 .subst e;unfold By.op;split
  .refine ⟨v,?_,c,f⟩;unfold By.off;split<;>exact d
  .rw [d];simp only;rw[Dv.hT c];exact⟨_,ak rfl,l v c f⟩
 .exact ⟨v,by rw[By.ei a e];exact d,c,f⟩
theorem bK.run:∀(l:List fR) {b:By},bK b->(∀a,a∈l->rC a.2)->bK (b.run l).1
 | [],_,h,_=>h
 |a::d,b,h,c=>by
  simp only[By.run];split
  .exact bK.run d (h.op (c a RZ)) λx e=>c x (SG _ e)
  .exact h.op (c a RZ)
theorem bK.bU{b:By}(h:bK b)(l:List Nat):bK (b.bU l).1:=by rw[By.dJ];exact h.run _ λa c=>by obtain⟨j,-,rfl⟩:=RK.1 c;exact JJ
theorem bK.db{b:By}(h:bK b){J:Nat}{pl:aN}{sf:dp}:∀n,bK (b.db J pl sf n).1
 |0=>h
 |n+1=>by
  unfold By.db;split
  .exact (bK.db h n).op (mT _ _)
  .exact bK.db h n
theorem bK.hM{b:By}(h:bK b){J:Nat}{a:aN}{c:dp}(n:Nat):bK (b.hM J a c n).1:=by
 unfold By.hM;split
 .exact (h.db n).op pF
 .exact h.db n
theorem bK.ck{b:By}(h:bK b){J:Nat}{f:aN}:bK (b.ck J f).1:=by
 unfold By.ck;split
 .exact (h.op (mT _ _)).op pF
 .exact h.op (mT _ _)
section
variable {g:aA} {s s':Rs} {k er:Nat}
theorem bK.eV(h:bK s.b)(b:dh s s' k er):bK s'.b:=by
 obtain⟨l,-,c,-⟩:=b;have:=h.run ((fK s.ro l).map gY) λa d=>by obtain⟨j,-,rfl⟩:=RK.1 d;exact mT _ _
 rw[c]at this;exact this
theorem bK.finish(h:bK s.b)(a:cd s s' k er):bK s'.b:=by
 unfold cd at a;split at a
 .exact h.eV a
 .rw [a.1];exact h
theorem bK.synced(h:bK s.b):bK (s.synced g).1.b:=by
 unfold Rs.synced;split
 .exact h
 .exact h.op pF
theorem bK.settle(h:bK s.b)(a:bT g s s' k er):bK s'.b:=by
 unfold bT at a;split at a
 .exact (h.synced (g:=g)).finish a
 .rw [a.1];exact h.synced
theorem bK.eW(h:bK s.b)(b:dZ g s s' k er):bK s'.b:=by
 have:=h.run ((ob g s.ro).map dq) λa c=>by obtain⟨j,-,rfl⟩:=RK.1 c;exact pF
 rw[b.1]at this;exact this
theorem bK.gu(h:bK s.b)(a:fL g s s' k er):bK s'.b:=by rw[a.1];exact h.ck
theorem bK.then'{p q:Rs->Rs->Nat->Nat->Prop}(c:∀{a b:Rs} {k er:Nat},bK a.b->p a b k er->bK b.b)(d:∀{a b:Rs} {k er:Nat},bK a.b->q a b k er->bK b.b)(h:bK s.b)(e:iH p q s s' k er):bK s'.b:=by
 rcases e with⟨i,j,h1,f⟩|⟨h1,-⟩
 .exact d (c h h1) f
 .exact c h h1
theorem bK.empty(h:bK s.b)(c:fY g s s' k er):bK s'.b:=
 bK.then' (λa b=>a.settle b) (λa b=>bK.then' (λa b=>a.eW b) (λa b=>a.gu b) a b) h c
theorem bK.room{B:bq}(h:bK s.b)(a:dj g B s s' k er):bK s'.b:=by
 unfold dj at a;split at a
 .rw [a.1];exact h
 .exact h.empty a
theorem bK.hj(h:bK s.b)(a:Proofs.YtbimjlmclegaeaaGreat.hj g s s' k er):bK s'.b:=by
 unfold Proofs.YtbimjlmclegaeaaGreat.hj at a;split at a
 .rw [a.1];exact h
 .exact h.settle a
theorem bK.write{B:bq}(h:bK s.b)(d:eS g B s s' k er):bK s'.b:=by
 refine bK.then' (s:=s.fe) (λa b=>a.room b) (λ{a b k er} c e=>?_) h d;rcases e with⟨-,f,-⟩|⟨-,j,-,i⟩
 .rw [f];exact c.bU _
 .refine bK.then' (s:={a with b:=(a.hl g B).1}) (λa b=>?_) (λa b=>bK.then' (λa b=>a.eV b) (λa b=>bK.then' (λa b=>?_) (λa b=>a.hj b) a b) a b) (c.bU _) i
  .rw [b.1];exact a.hM _
  .rw [b.1];exact a.op (mT _ _)
end
end
section
def rD(aw:Option Nat)(s:Rs):Prop:=∀m,aw=some m->∀r,s.ro.down m r=true
theorem rD.no{g:aA}{aw:Option Nat}{s s':Rs}{k c:Nat}(h:rD aw s)(a:tu g aw s.ro s' k c):False:=by obtain⟨r,b⟩:=a.hit;rw[h k a.slot r]at b;cases b
section
variable [Lo] {w w':QA} {Z:bm} {g:aA} {aw:Option Nat} {V V':cH} {C C':Nat} {s s':Rs} {u:Su}
theorem Inv.rows(h:Inv w Z g aw V C s u)(b:cl w' Z.R Z.B Z.W Z.r g Z.fb s')(f:Fr iN aG w w')(i:Gt g aw V' s')(a:Fit g C' s')(c:s'.ro.fr=s.ro.fr)(d:s'.ro.lz=s.ro.lz)(j:s'.x.N=s.x.N)(k:bK s.b->bK s'.b)(l:C'<=C):Inv w' Z g aw V' C' s' u:=
 ⟨⟨h.ay.arr.fr f rfl rfl,b⟩,i,h.kr,λm=>by rw[c];exact h.vZ m,h.only,λe=>k (h.kO e),a,QD (ZS l _) h.ev,⟨h.same.1.trans j.symm,h.same.2.1.trans d.symm,h.same.2.2⟩,h.v_⟩
theorem Inv.down(h:Inv w Z g aw V C s u){m:Nat}(a:m<g.M)(b:u.st m=2)(r:Nat):s.ro.down m r=true:=by unfold Ro.down;rw[h.vZ m,ak a];unfold fu;simp[b]
theorem Inv.hit(h:Inv w Z g aw V C s u){k d:Nat}{f:Rs}(a:tu g aw s.ro f k d):k<g.M/\u.st k≠2:=by have b:=h.gt.gd.qw k a.slot;refine⟨b,λe=>?_⟩;obtain⟨r,c⟩:=a.hit;rw[h.down b e r]at c;cases c
theorem Inv.quiet{m:Nat}(h:Inv w Z g (some m) V C s u)(a:u.st m=2):rD (some m) s:=λk e r=>by cases e;exact h.down (h.gt.gd.qw _ rfl) a r
end
structure DX[Lo](Z:bm)(g:aA)(aw:Option Nat)(V:cH)(C:Nat)(P Qr:Rs->Prop)(cn:Nat)(step:Rs->Rs->Nat->Nat->Prop):Prop where
 enters:∀args w,(VF cn args).run prog w= .ok (.enter cn args) w
 call:∀C' W s,C-30000<=C'->cl W Z.R Z.B Z.W Z.r g Z.fb s->Fit g C' s->aF cn #[ar Z.R] W (gZ Z.R Z.B Z.W Z.r g Z.fb (step s) W)
 step:∀C' s s' k er,C-30000<=C'->Gt g aw V s->Fit g C' s->P s->step s s' k er->Gt g aw V s'/\Fit g (C'-20000) s'/\s'.ro.fr=s.ro.fr/\s'.ro.lz=s.ro.lz/\s'.x.N=s.x.N/\(bK s.b->bK s'.b)/\((er=0/\Qr s')\/(tu g aw s.ro s' k er/\P s'))
 cV:∀s s':Rs,s'.x=s.x->s'.ro.wt=s.ro.wt->s'.ro.sl=s.ro.sl->P s->P s'
def PH[Lo](Z:bm)(g:aA)(aw:Option Nat)(V:cH)(C:Nat)(P:Rs->Prop)(w:M)(q:Bool)(W:M):Prop:=
 ∃s u,Inv W Z g aw V (if q=true then C-21000 else C) s u/\P s/\(q=true->rD aw s)/\iK Z w W
def NO[Lo](Z:bm)(g:aA)(aw:Option Nat)(V:cH)(C:Nat)(a:Rs->Prop)(w W:M):Prop:=
 ∃s u,Inv W Z g aw V (C-50000) s u/\a s/\iK Z w W
def PI[Lo](Z:bm)(g:aA)(aw:Option Nat)(V:cH)(C:Nat)(P:Rs->Prop)(w:QA)(k a:Nat)(W:QA):Prop:=
 ∃s u,Inv W Z g aw V (C-20000) s u/\P s/\aw=some k/\k<g.M/\u.st k≠2/\iK Z w W
theorem zd[Lo](Z:bm)(g:aA)(aw:Option Nat)(V:cH)(C:Nat)(P y:Rs->Prop)(z:Nat)(step:Rs->Rs->Nat->Nat->Prop)(H:DX Z g aw V C P y z step)(T:100000<=C)(w:M):
  MK Z g z #[ar Z.R] #[] (PH Z g aw V C P w) (NO Z g aw V C y w) (PI Z g aw V C P w) where
 enters:=H.enters
 call:=by
  rintro q W ⟨s,u,a,c,o,hF⟩;obtain⟨C',f⟩:=ah (if q=true then C-21000 else C);rw[f]at a;have j:C-30000<=C'/\C'<=C:=by rw[<-f];split<;>omega
  refine(H.call C' W s j.1 a.ay.rs a.fit).mono ?_;rintro e w' ⟨s',k,i,l,rfl,r,t⟩;obtain⟨B,D,E,F,G,K,L⟩:=H.step C' s s' k i j.1 a.gt a.fit c l;have m:=a.rows r t B D E F G K J;refine⟨k,i,rfl,?_⟩;rcases L with⟨rfl,v⟩|⟨n,x⟩
  .exact .inl ⟨rfl,s',u,m.less J,v,hF.trans (Fr.ra t)⟩
  .obtain ⟨p,h⟩:=a.hit n;refine .inr ⟨?_,n.gone,p,s',u,m.less ?_,x,n.slot,p,h,hF.trans (Fr.ra t)⟩
   .cases q with
    |false=>rfl
    |true=>exact((o rfl).no n).elim
   .cases q with
    |false=>rw[<-f];exact QE _
    |true=>exact((o rfl).no n).elim
 hN:=by rintro k i W O ⟨s,u,a,c,rfl,p,h,hF⟩;refine(iu Z g k V (C-20000) i s u W a p h J O).mono ?_;rintro e w' ⟨l,s',Q,d⟩;exact⟨l,s',Q,d.inv.less (by rw[ak rfl];omega),H.cV s s' d.x d.wt d.sl c,λ_=>d.inv.quiet d.down,hF.trans d.bY.a⟩
 arr:=by rintro k i W ⟨s,u,a,-⟩;exact⟨u,false,a.ay.arr⟩
 sb:=by rintro q W A ⟨s,u,a,c,o,hF⟩ b;exact⟨s,u,a.below b,c,o,hF.then b⟩
 qb:=by rintro W A ⟨s,u,a,v,hF⟩ b;exact⟨s,u,a.below b,v,hF.then b⟩
 tb:=by rintro k i W A ⟨s,u,a,c,l,S,r,hF⟩ b;exact⟨s,u,a.below b,c,l,S,r,hF.then b⟩
theorem ZV[Lo](Z:bm)(g:aA)(aw:Option Nat)(V:cH)(C:Nat)(j:100000<=C):DX Z g aw V C (λ_=>True) (λs=>s.ro.wt= []) 114 (fY g) where
 enters:=RH func114 aE rfl
 call:=λC' W s b h hF=>uR Z.R Z.B Z.W Z.r g Z.fb s C' W h hF J
 step:=λC' s s' k l b c hF _ d=>by
  obtain⟨e,a⟩:=c.empty d;have f:=c.xE;refine⟨e,c.DS hF J d,?_,?_,?_,λi=>i.empty d,?_⟩
  .rcases a with a|⟨-,a|a,-⟩
   .rw [a.2.1]
   .rw [a]
   .rw [a]
  .rcases a with a|⟨-,a|a,-⟩
   .rw [a.2.1]
   .rw [a]
   .rw [a]
  .rcases a with a|a
   .rw [a.2.2];rfl
   .rw [a.2.2,f]
  .rcases a with a|a
   .exact .inl ⟨a.1,by rw[a.2.1]⟩
   .exact .inr ⟨a.1,trivial⟩
 cV:=λ_ _ _ _ _ _=>trivial
end
def OY[Lo](Q:M->Prop)(e:RV)(a:M):Prop:=aL e (aH 0)/\Q a
theorem Inv.cell[Lo]{Z:bm}{a:Option Nat}{V:cH}(h:Inv W Z g a V C s u)(b:aX W n O)(c:Lo.lo<=n)(d:(120::122::TA).all (λt=> ![ty O].contains t)=true)(v:H):Inv (W.setCell (R n m) v) Z g a V C s u:=
 ⟨h.ay.fr ((Fr.refl [ty O] aG W).set (p:=R n m) b aJ c v) d,h.gt,h.kr,h.vZ,h.only,h.kO,h.fit,h.ev,h.same,h.v_⟩
theorem Inv.low[Lo]{Z:bm}{a:Option Nat}{V:cH}(h:Inv W Z g a V C s u):Lo.lo<=W.heap.size:=h.ay.rs.ct.low
theorem iK.new[Lo]{Z:bm}(h:iK Z W w)(a:W.heap.size<=p.block)(u:H):iK Z W (w.setCell p u):=Fr.new h a u
theorem DY[Lo](Z:bm)(g:aA)(c:Option Nat)(V:cH)(C:Nat)(s:Rs)(u:Su)(w:M)(h:Inv w Z g c V C s u)(v:100000<=C):
  aF 61 #[ar Z.A] w (OY (NO Z g c V C (λs=>s.ro.wt= []) w)):=by
 obtain⟨m,D,y,n,d,o⟩:=eL w (ao #[aH 0] 35);have a:=h.below d;obtain⟨z,-,A⟩:=a.ay.arr.aM;obtain⟨Q,f0,S⟩:=cr A;have p:=I (js Z g u false m a.ay.arr);have B:=I (GP Z g h.kr.cJ.m16 114 _ _ _ _ _ (zd Z g c V C _ _ 114 _ (ZV Z g c V C v) v m) (λq W ⟨s,u,r,_⟩=>⟨u,false,r.ay.arr⟩) (λW ⟨s,u,r,_⟩=>⟨u,false,r.ay.arr⟩) false m ⟨s,u,a,trivial,λe=>(by cases e),iK.af aj⟩);have l:=aY a o d h.low;have b:=aB y n
 go_enter_defers func61,ntmps61
 go_wp2_with fail
 try rw[b.1,b.2]
 go_wp2_with(first|(go_at_call 99;refine p.mono ?_;rintro e T ⟨rfl,rfl⟩)|(go_at_call 113;refine B.mono ?_;rintro e x ⟨rfl,E,F,G,K,f2⟩;have i:=(l.1.ay.wide f2).hp l.2.1 rfl;obtain⟨U,X,H⟩:=cr i;have j:=aY G K f2 i));refine WZ (f:=98) (args:= #[ar D]) aJ (by simp[go_sem]) ?_;refine(cY (R D 0) _).mono ?_;rintro e N L ⟨rfl,rfl,rfl⟩;have k:w.heap.size<=D:=RN b.2;have t:=QD l.2.2.2 k;have O:QX (NO Z g c V C (λs=>s.ro.wt= []) w (x.setCell (R D 0) (aH 0))):=⟨E,F,j.1.cell j.2.2.2 t rfl _,j.2.1,((iK.af l.2.2.1).trans j.2.2.1).new k _⟩;have P:=(cr (heap_setCell_same x D 0 _ _ (aH 0) j.2.2.2)).1 0;simp[Leaves,settle,RP,results61,go_sem,P];exact⟨rfl,O⟩
section
theorem Fit.put{g:aA}{C k:Nat}{s:Rs}{v c:Dv}(h:Fit g C s)(l:s.b.dv k=some v)(n:c.d.n=v.d.n/\c.d.cn<=v.d.cn):Fit g C {s with b:=s.b.put k c}:=by
 have i:∀j x,(s.b.put k c).dv j=some x->∃y,s.b.dv j=some y/\x.d.n=y.d.n/\x.d.cn<=y.d.cn:=λj x a=>by
  have a:(if j=k then some c else s.b.dv j)=some x:=a;by_cases e:j=k
  .subst e;rw[ak rfl]at a;cases a;exact⟨v,l,n⟩
  .rw [al e]at a;exact⟨x,a,rfl,QE _⟩
 refine⟨h.cJ,h.N,λm x o a=>?_,λx a=>?_,h.bad,h.cy,h.h',h.wt,h.mg⟩
 .obtain ⟨y,d,f,p⟩:=i m x a;have:=h.mem m y o d;rw[f];exact⟨this.1,J⟩
 .obtain ⟨y,d,f,p⟩:=i _ x a;have:=h.gB y d;rw[f];exact⟨this.1,J⟩
variable [Lo] {w w':QA} {Z:bm} {g:aA} {aw:Option Nat} {V:cH} {C:Nat} {s:Rs} {u:Su}
theorem jZ.ct(h:jZ w Z g aw V C s u){b:By}(c:aC w' Z.B b)(a:Fr TB aG w w')(d:Gt g aw V {s with b:=b})(hF:Fit g C {s with b:=b}):jZ w' Z g aw V C {s with b:=b} u:=
 ⟨⟨h.ay.arr.fr a rfl rfl,h.ay.rs.row.fr a rfl rfl rfl rfl,c,h.ay.rs.kj.fr a rfl rfl rfl rfl,h.ay.rs.lo⟩,d,h.kr,h.vZ,h.only,hF,h.ev,h.same,h.v_⟩
theorem jZ.below(h:jZ w Z g aw V C s u)(a:aq w w'):jZ w' Z g aw V C s u:=
 ⟨h.ay.below a,h.gt,h.kr,h.vZ,h.only,h.fit,h.ev,h.same,h.v_⟩
theorem jZ.up(h:jZ w Z g aw V C s u)(a:(∃m,m<g.M/\u.st m=3)->bK s.b):Inv w Z g aw V C s u:=
 ⟨h.ay,h.gt,h.kr,h.vZ,h.only,a,h.fit,h.ev,h.same,h.v_⟩
theorem AU(m:Nat)(h:jZ w Z g (some m) V C s u)(i:m<g.M):aF 62 #[ar Z.B,Y m] w λe w'=>(∃f:Nat,aL e (.int .u16 f))/\Fr TB aG w w'/\∃b,jZ w' Z g (some m) V C {s with b:=b} u/\uV b m:=by
 have j:=h.gt.gd.N;cases a:s.b.dv m with
 |none=>refine(wU Z.B m s.b w h.ay.rs.ct J a).mono ?_;rintro e w' ⟨rfl,d,c⟩;exact⟨⟨51,rfl⟩,c,s.b,h.ct d c h.gt h.fit,λv e=>(by rw[a]at e;cases e)⟩
 |some v=>refine(CE Z.B m s.b v w h.ay.rs.ct J a).mono ?_;rintro e w' ⟨rfl,d,c⟩;exact⟨⟨0,rfl⟩,c,_,h.ct d c (h.gt.dead rfl a) (h.fit.put a ⟨rfl,QO _⟩),λx e=>(by have e:(if m=m then some _ else s.b.dv m)=some x:=e;rw[ak rfl]at e;cases e;rfl)⟩
theorem AV(m:Nat)(h:lK w Z g u false)(b:m<g.M)(j:g.M<=16)(c:u.st m=2):aF 117 #[ar Z.A,Y m] w λe w'=>aL e (.tuple #[])/\w=w':=by have d:=h.st b;obtain⟨f,a,i⟩:=h.aM;obtain⟨k,f0,l⟩:=cr i;rw[c]at d;go_enter func117,ntmps117;go_wp2;exact QT (results_none rfl _ _ _) rfl ⟨rfl,rfl⟩
omit [Lo] in
theorem GQ{m:Nat}(h:∀k,k<g.M->u.st k≠1->some m=some k)(b:u.st m=2):¬∃k,k<g.M/\u.st k=3:=λ⟨k,a,c⟩=>by have:=RM (h k a J);subst this;omega
def D_(Z:bm)(g:aA)(m:Nat)(V:cH)(C:Nat)(w w':M):Prop:=∃s u,Inv w' Z g (some m) V C s u/\u.st m=2/\uV s.b m/\iK Z w w'
theorem D'(m:Nat)(h:jZ w Z g (some m) V C s u)(b:m<g.M)(d:1000<=C)(c:uV s.b m):aF 117 #[ar Z.A,Y m] w λe w'=>aL e (.tuple #[])/\D_ Z g m V (C-1000) w w':=by
 by_cases a:u.st m=2
 .refine (AV m h.ay.arr b h.kr.cJ.m16 a).mono ?_;rintro e w' ⟨rfl,rfl⟩;exact⟨rfl,s,u,(h.up λe=>absurd e (GQ h.only a)).less J,a,c,iK.af aj⟩
 .refine (jP Z g m V C s u w h b a d).mono ?_;rintro e w' ⟨rfl,f,i,q⟩;exact⟨rfl,f,i,q.inv,q.down,λv e=>c v (by rw[<-q.dv];exact e),q.bY.a⟩
theorem GR(m:Nat)(h:jZ w Z g (some m) V C s u)(K:m<g.M)(Q:1000<=C):aF 63 #[ar Z.A,ae m] w (OY (D_ Z g m V (C-1000) w)):=by
 obtain⟨q,D,S,r,i,t⟩:=eL w (ao #[aH 0] 35);have a:=h.below i;obtain⟨T,-,j⟩:=a.ay.arr.aM;obtain⟨Y,f0,J⟩:=cr j;have v:=ad (js Z g u false q a.ay.arr);have U:=ad (λW (j:aq q W)=>dK Z g u false W (a.below j).ay.arr);have x:=ad (λW (j:aq q W)=>AU m (a.below j) K);have y:=aY a t i h.ay.rs.ct.low;have c:=aB S r
 go_enter_defers func63,ntmps63
 go_wp2_with fail
 try rw[c.1,c.2]
 go_wp2_with(first|(go_at_call 99;refine v.mono ?_;rintro e L ⟨rfl,rfl⟩)|(go_at_call 107;refine(U _ aj).mono ?_;rintro e L ⟨rfl,rfl⟩)|(go_at_call 62;refine(x _ aj).mono ?_;rintro e O ⟨⟨a0,rfl⟩,p,b,z,A⟩;have B:=ad (dK Z g u false O z.ay.arr);have E:=ad (D' m z K Q A);have k:=aB p (p.hp y.2.1 rfl);have l:QX (∀W,iK Z O W->aX W D (ao #[aH 0] 35)):=λW p=>(z.ay.wide p).hp k.2 rfl));go_wp2_with(first|(go_at_call 107;refine B.mono ?_;rintro e L ⟨rfl,rfl⟩)|(go_at_call 117;refine E.mono ?_;rintro e P ⟨rfl,X,u3,H,N,F,f3⟩;have n:=l.out _ f3;obtain⟨e1,e2,e3⟩:=cr n;have d:=aY H (And.intro N F) f3 n));refine WZ (f:=98) (args:= #[ar D]) aJ (by simp[go_sem]) ?_;refine(cY (ag D 0) _).mono ?_;rintro e a1 M ⟨rfl,rfl,rfl⟩;have o:w.heap.size<=D:=RN c.2;have G:=QD y.2.2.2 o;have R:QX (D_ Z g m V (C-1000) w (P.setCell (ag D 0) (aH 0))):=⟨X,u3,d.1.cell d.2.2.2 G rfl _,d.2.1.1,d.2.1.2,(((iK.af y.2.2.1).trans (Fr.ra k.1.rb)).trans d.2.2.1).new o _⟩;have I:=(cr (heap_setCell_same P D 0 _ _ (aH 0) d.2.2.2)).1 0;simp[Leaves,settle,RP,results63,go_sem,I];exact⟨rfl,R⟩
end
section
theorem tu.kO{g:aA}{aw:Option Nat}{b:Ro}{s:Rs}{k c:Nat}(h:tu g aw b s k c)(d:bK s.b)(e:k<s.b.N):False:=by obtain⟨v,f,-,a⟩:=d k e;rw[h.dead v f]at a;cases a
section
variable [Lo] {w w':QA} {Z:bm} {g:aA} {aw:Option Nat} {V:cH} {C:Nat} {s:Rs} {u:Su}
end
end
def gP(B:bq):Nat->Nat->Bool
 |0,_=>false
 |n+1,b=>B.aM n==b||gP B n b
def gh(g:aA)(B:bq):Nat->Nat
 |0=>0
 |n+1=>gh g B n+(if gP B n (B.aM n)=true then 0 else 1)+if aZ g B n (g.row (B.aM n))=true then 0 else 1
theorem pG{p q:Nat->Bool}{a:Nat}:∀{n:Nat},a<n->(∀m,q m=(decide (m=a)||p m))->(ZZ n q).length=(ZZ n p).length+if p a=true then 0 else 1
 |0,h,_=>J
 |n+1,h,b=>by
  rw[dP,dP,QU,QU,b n];by_cases e:n=a
  .subst e;have:ZZ n q=ZZ n p:=List.filter_congr λm c=>by rw[b m];have:=TY.1 c;simp[show¬m=n by omega]
   rw[this];cases p n<;>simp
  .rw [pG J b];cases p n<;>simp[e] <;>omega
def mU(f:aN):Nat->Nat
 |0=>0
 |n+1=>mU f n+f n
theorem pH{f h:aN}:∀{n:Nat},(∀m,m<n->f m=h m)->mU f n=mU h n
 |0,_=>rfl
 |n+1,e=>by unfold mU;rw[pH λm a=>e m J,e n J]
theorem vj{f h:aN}{a d:Nat}:∀{n:Nat},a<n->(∀m,h m=if m=a then f m+d else f m)->mU h n=mU f n+d
 |0,h,_=>J
 |n+1,h,e=>by
  unfold mU;rw[e n];by_cases b:n=a
  .subst b;rw[ak rfl,pH λm c=>(e m).trans (al J)];omega
  .rw [al b,vj J e];omega
theorem vk(p:Nat->Bool)(f:aN)(a:∀m,p m=false->f m=0):∀n,((ZZ n p).map f).sum=mU f n
 |0=>rfl
 |n+1=>by
  rw[show mU f (n+1)=mU f n+f n from rfl,dP,SH,List.sum_append,vk p f a n];cases h:p n with
  |false=>simp[a n h]
  |true=>simp
def ks(g:aA)(B:bq)(n m r:Nat):Bool:=(cO g B n m r).isSome
theorem iv(g:aA)(B:bq)(n m r:Nat):ks g B (n+1) m r=(decide (g.mem (B.aM n)=m/\g.row (B.aM n)=r)||ks g B n m r):=by unfold ks;rw[cO];by_cases h:g.mem (B.aM n)=m/\g.row (B.aM n)=r<;>simp[h]
theorem AW(a:g.ok)(B:bq)(n b:Nat):ks g B n (g.mem b) (g.row b)=gP B n b:=by
 induction n with
 |zero=>rfl
 |succ n c=>
  rw[iv,c,gP];congr 1;by_cases e:B.aM n=b
  .rw [e];simp
  .rw [decide_eq_false (λh=>e (aA.inj a h.2 h.1))];exact(beq_eq_false_iff_ne.2 e).symm
theorem AX(h:aZ g K n r=false):ks g K n m r=false:=by
 induction n with
 |zero=>rfl
 |succ n a=>rw[aZ,ZO]at h;rw[iv,a h.2,decide_eq_false (λe=>by rw[e.2]at h;simp at h)];rfl
def vl(g:aA)(B:bq)(n:Nat):Nat:=(ZZ g.R (aZ g B n)).length+mU (λr=>(ZZ g.M λm=>ks g B n m r).length) g.R
theorem kP{p:Nat->Bool}(h:∀m,p m=false):ZZ n p= []:=by unfold ZZ;rw[List.filter_eq_nil_iff];intro m _;rw[h m];decide
theorem Ea(g:aA)(B:bq):vl g B B.n=B.c_ g:=by
 unfold bq.c_ bq.fH vl;rw[RB,List.map_map];congr 1;rw[<-vk (aZ g B B.n)]
 .unfold bq.eM;congr 1;apply UX;intro r _;simp only[Function.comp,bq.bP,RB,bq.nP];rfl
 .intro r h;rw[kP λm=>AX h];rfl
theorem pI{g:aA}(a:g.ok){B:bq}(b:B.ok g):∀n,n<=B.n->gh g B n=vl g B n
 |0,_=>by
  unfold gh vl;rw[show ZZ g.R (aZ g B 0)= []from kP λ_=>rfl];have:∀n,mU (λr=>(ZZ g.M λm=>ks g B 0 m r).length) n=0:=λn=>by
   induction n with
   |zero=>rfl
   |succ n i=>unfold mU;rw[i,show(ZZ g.M λm=>ks g B 0 m n)= []from kP λ_=>rfl];rfl
  rw[this];rfl
 |n+1,h=>by
  have c:=b.aM n J;unfold gh;rw[pI a b n J];unfold vl;rw[pG (aA.iU a c) (p:=aZ g B n) (q:=aZ g B (n+1)) (λr=>by rw[aZ];congr 1;rw[Bool.beq_eq_decide_eq];exact decide_eq_decide.2 ⟨Eq.symm,Eq.symm⟩)];rw[vj (aA.iU a c) (f:=λr=>(ZZ g.M λm=>ks g B n m r).length) (h:=λr=>(ZZ g.M λm=>ks g B (n+1) m r).length) (d:=if gP B n (B.aM n)=true then 0 else 1) (λr=>?_)]
  .omega
  .by_cases e:r=g.row (B.aM n)
   .subst e;rw[ak rfl,<-AW a];exact pG (aA.kC a _) λm=>by rw[iv];congr 1;exact decide_eq_decide.2 ⟨λh=>h.1.symm,λh=>⟨h.symm,rfl⟩⟩
   .rw [al e];congr 2;funext m;rw[iv,decide_eq_false (λh=>e h.2.symm),Bool.false_or]
theorem mV(a:g.ok)(b:K.ok g):gh g K K.n=K.c_ g:=(pI a b _ (QE _)).trans (Ea g K)
def hW(B:bq)(f:dp):Nat->Nat->Nat->Nat
 |0,b=>f b
 |n+1,b=>if B.aM n=b then B.da n else hW B f n b
def cR(g:aA)(V:cH)(b:Nat):Nat->Nat:=V (g.mem b) (g.row b)
theorem sQ(a:g.ok)(B:bq)(V:cH)(b:Nat):cR g (B.fQ g V) b=hW B (cR g V) B.n b:=by
 have h:∀n,(match cO g B n (g.mem b) (g.row b)with|some i=>B.da i|none=>cR g V b)=hW B (cR g V) n b:=λn=>by
  induction n with
  |zero=>rfl
  |succ n c=>
   rw[cO,hW];by_cases e:B.aM n=b
   .rw [e,ak ⟨rfl,rfl⟩,ak rfl]
   .rw [al e,al (λh=>e (aA.inj a h.2 h.1))];exact c
 rw[<-h];unfold cR bq.fQ;rw[al (λh=>aA.BW a b h.1)];unfold bq.base bq.gd bq.iM;cases cO g B B.n (g.mem b) (g.row b)<;>rfl
theorem fw(h:w.ownsRow m t i v n L)(a:v.ownBlock=some k):m<=k/\∃e f,w.heap[k]?=some (.cells e t f):=by
 rcases h.2 with⟨b,-⟩|⟨g,j,l,b,c,d,-⟩
 .rw [b]at a;cases a
 .rw [b]at a;cases a;exact⟨c,_,_,d⟩
section
section
variable {g:aA} {aw:Option Nat} {V:cH} {s:Rs} {C:Nat}
theorem Gt.LP(h:Gt g aw V s)(m r:Nat):yN g s.ro m r:=λ_ c j _ a _=>by
 cases d:s.ro.down j r with
 |false=>rfl
 |true=>have b:=h.gd.dn m r c;rw[h.gd.dn j r d]at b;exact absurd (RM b) a
theorem Gt.NP(h:Gt g aw V s)(hF:Fit g C s){r:Nat}(a:r<g.R):nS g s.b s.ro r:=
 ⟨hF.cJ,a,hF.N,QD hF.h' J,λm v b c=>by have:=(hF.mem m v b c).1;omega⟩
end
structure Eb(Z:bm)(bA bB bI bD k i:Nat)(W:M):Prop where
 a:W.heap[bA]? =some (N #[ar Z.A] 71)
 b:W.heap[bB]? =some (N #[Y k] 3)
 i:W.heap[bI]? =some (N #[Y i] 3)
 d:∃v,W.heap[bD]? =some (N #[v] 41)
theorem Eb.below{Z:bm}{bA b c d k i:Nat}{W W':M}(h:Eb Z bA b c d k i W)(a:aq W W'):Eb Z bA b c d k i W':=
 ⟨(a.block _ (Z_ h.a)).trans h.a,(a.block _ (Z_ h.b)).trans h.b,(a.block _ (Z_ h.i)).trans h.i,h.d.imp λ_ h=>(a.block _ (Z_ h)).trans h⟩
theorem Eb.PJ[Lo]{Z:bm}{bA b c d k i:Nat}{W W':M}(h:Eb Z bA b c d k i W)(a:iO Z W W')(e:b≠Z.fb)(f:c≠Z.fb)(j:bA≠Z.fb)(l:d≠Z.fb):Eb Z bA b c d k i W':=
 ⟨Fr.heap a h.a rfl j,Fr.heap a h.b rfl e,Fr.heap a h.i rfl f,h.d.imp λ_ h=>Fr.heap a h rfl l⟩
def Sm(s0 s:Rs):Prop:=s.x=s0.x/\s.ro.wt=s0.ro.wt/\s.ro.sl=s0.ro.sl/\s.ro.lz=s0.ro.lz
theorem Sm.trans{a b c:Rs}(h:Sm a b)(k:Sm b c):Sm a c:=⟨k.1.trans h.1,k.2.1.trans h.2.1,k.2.2.1.trans h.2.2.1,k.2.2.2.trans h.2.2.2⟩
def vm[Lo](Z:bm)(g:aA)(aw:Option Nat)(V:cH)(C:Nat)(s0:Rs)(w:M)(q:Bool)(W:M):Prop:=
 ∃s u,Inv W Z g aw V (if q=true then C-1000 else C) s u/\(q=true->rD aw s)/\iO Z w W/\Sm s0 s
section
variable [Lo] {Z:bm} {g:aA} {aw:Option Nat} {V:cH} {C C0:Nat} {s s0:Rs} {u u0:Su} {w W W':QA} {q:Bool}
theorem vm.below(h:vm Z g aw V C s0 w q W)(a:aq W W'):vm Z g aw V C s0 w q W':=by obtain⟨s,u,b,c,d,e⟩:=h;exact⟨s,u,b.below a,c,d.then a,e⟩
theorem iO.wide(h:iO Z w W){c:Array H}{d:Nat × Nat}(f:w.heap[Z.fb]?=some (.cells c 3 d))(i:Lo.lo<=Z.fb):Fr (3::Jw) aG w W:=by
 refine⟨h.os,h.tape,h.output,h.size,λk o a b _=>h.block k o a (b.imp (λe=>?_) id) λe=>?_⟩
 .simp only[List.contains_cons,ZO]at e;exact e.2
 .subst e;rw[f]at a;cases a;rcases b with e|e
  .exact absurd e (show¬(3::Jw).contains 3=false by decide)
  .omega
theorem vm.own(c:Inv w Z g aw V C0 s0 u0)(h:vm Z g aw V C s0 w q W){S:Nat->Prop}(b:Out S W W')(l:∀k,S k->w.heap.size<=k/\∃m n,W.heap[k]?=some (.cells m 5 n)):vm Z g aw V C s0 w q W':=by
 obtain⟨s,u,a,y,z,p,r,t,v⟩:=h;have A:=c.ay.rs.ct.low;have f5:Fr [5] aG W W':=⟨b.os,b.tape,b.output,b.size,λk o d f _=>b.heap d λe=>by
  obtain⟨G,m,n,B⟩:=l k e;rw[B]at d;cases d;rcases f with f|f
  .exact absurd f (by show¬[5].contains 5=false;decide)
  .omega⟩
 have x:iO Z w W':=Fr.out z b λk d e=>absurd (l k e).1 J;have i:=x.wide c.ay.rs.row.fJ c.ay.rs.lo.2;refine⟨s,u,⟨⟨a.ay.arr.fr f5 rfl rfl,⟨?_,?_⟩,a.ay.rs.ct.fn f5 rfl,?_,a.ay.rs.lo⟩,a.gt,a.kr,a.vZ,a.only,a.kO,a.fit,a.ev,a.same,a.v_⟩,y,x,p,r,t,v⟩
 .obtain ⟨j,D,E,F⟩:=c.ay.rs.row.aM;refine⟨j,D,?_,?_⟩
  .rw [v,t];exact i.hp E rfl
  .rw [r];exact F.fr i rfl rfl
 .exact f5.hp a.ay.rs.row.fJ rfl
 .rw [p];exact c.ay.rs.kj.fr i rfl rfl rfl rfl
end
def PK[Lo](Z:bm)(g:aA)(aw:Option Nat)(V:cH)(C:Nat)(s0:Rs)(w:QA)(k:Nat)(q:Bool)(W:QA)(e:RV)(b:QA):Prop:=
 ∃a n c t d,aL e (.tuple #[.slice a n c,hN t d])/\Fr TB aG W b/\((d=0/\vm Z g aw V C s0 w q b/\cA b (.slice a n c) 128 (cR g V k))\/(q=false/\nT d/\aw=some t/\t<g.M/\∃s u,Inv b Z g aw V C s u/\u.st t≠2/\iO Z w b/\Sm s0 s))
theorem GS[Lo](Z:bm)(g:aA)(aw:Option Nat)(V:cH)(C:Nat)(s0:Rs)(w:QA)(k:Nat)(y:k<g.B)(q:Bool)(W:QA)(h:vm Z g aw V C s0 w q W):
  aF 103 #[ar Z.R,Y k] W (PK Z g aw V C s0 w k q W):=by
 obtain⟨s,u,d,z,hF,A⟩:=h;have p:=d.kr.cJ;have r:=aA.iU p y;refine(Gl Z.R Z.B _ g Z.fb s.ro k s.b W d.ay.rs.row d.ay.rs.ct (d.gt.NP d.fit r) y (d.gt.LP _ _) (d.gt.gd.eI r)).mono ?_;rintro e E ⟨v,rfl,⟨a,n,c,rfl⟩,F,f,G⟩;obtain⟨K,i⟩:=d.gt.bU (l:=fX g.M s.ro (g.mem k) (g.row k)) (λj L=>by obtain⟨B,t⟩:=y' d.gt.gd.dn (aA.kC p k) j L;exact⟨J,_,t⟩);have D:iO Z W E:=(f.any).wide Jw rfl;have m:=d.rows (s':={s with b:=(s.b.bU (fX g.M s.ro (g.mem k) (g.row k))).1}) ⟨d.ay.rs.row.fr f rfl rfl rfl rfl,F,d.ay.rs.kj.fr f rfl rfl rfl rfl,d.ay.rs.lo⟩ (f.wide iN rfl) K (d.fit.bU _) rfl rfl rfl (λO=>O.bU _) (QE _);refine⟨a,n,c,_,_,rfl,f,?_⟩;rcases i with i|o
 .exact .inl ⟨i,⟨_,u,m,z,hF.trans D,A⟩,(G i).congr (d.gt.gd.fc (aA.kC p k) r (By.pC i))⟩
 .have x:q=false:=by
   cases q with
   |false=>rfl
   |true=>exact((z rfl).no o).elim
  subst x;obtain⟨B,t⟩:=d.hit o;exact .inr ⟨rfl,o.gone,o.slot,B,_,u,m,t,hF.trans D,A⟩
end
section
section
variable {g:aA} {aw:Option Nat} {V:cH} {s:Rs} {C m p:Nat}
theorem Fit.grow(hF:Fit g C s){b:By}{n:Nat}(h:b.N=s.b.N)(f:∀{j:Nat} {v:Dv},b.dv j=some v->∃a,s.b.dv j=some a/\v.d.n=a.d.n/\v.d.cn<=a.d.cn+n)(o:n<=C):Fit g (C-n) {s with b:=b}:=by
 refine⟨hF.cJ,h.trans hF.N,λk v i c=>?_,λv c=>?_,hF.bad,⟨by have:=hF.cy.1;show s.x.ep+(C-n)<=_;omega,hF.cy.2.1,by have:=hF.cy.2.2;show s.x.nx+(C-n)<=_;omega⟩,hF.h',hF.wt,hF.mg⟩
 .obtain ⟨a,d,e,l⟩:=f c;have:=hF.mem k a i d;rw[e];exact⟨this.1,J⟩
 .obtain ⟨a,d,e,l⟩:=f c;have:=hF.gB a d;rw[e];exact⟨this.1,J⟩
end
end
theorem gU{c a:Array H}{f d:Nat × Nat}(b:w.heap[n]?=some (.cells c k f))(g:w.heap[m]?=some (.cells a i d))(h:k≠i):¬n=m:=λe=>by rw[e,g]at b;exact h (UU (RM b)).2.1.symm
theorem iO.new[Lo]{Z:bm}(h:iO Z W w)(a:W.heap.size<=p.block)(u:H):iO Z W (w.setCell p u):=Fr.new h a u
theorem Inv.fr[Lo]{Z:bm}{a:Option Nat}{V:cH}(h:Inv w Z g a V C s u)(b:Fr T aG w W)(c:(120::122::TA).all (λt=> !T.contains t)=true):Inv W Z g a V C s u:=
 ⟨h.ay.fr b c,h.gt,h.kr,h.vZ,h.only,h.kO,h.fit,h.ev,h.same,h.v_⟩
theorem kQ[Lo]{g i:Array H}(x:aX W m (N g 172))(y:aX W k (N i 41))(n:¬m=k)(f:w.heap.size<=m)(o:w.heap.size<=k)(q:Lo.lo<=w.heap.size)(v:H)(c d:Int)(u:g.size=2:=by rfl)(z:i.size=1:=by rfl):
  Fr [41,172] aG W (((((W.setCell (R k 0) v).setCell (R m 0) (Y c)).setCell (R m 1) (.int .u16 d)).setCell (R m 0) (Y c)).setCell (R m 1) (.int .u16 d))/\
  (∀{Z:bm},iO Z w W->iO Z w (((((W.setCell (R k 0) v).setCell (R m 0) (Y c)).setCell (R m 1) (.int .u16 d)).setCell (R m 0) (Y c)).setCell (R m 1) (.int .u16 d)))/\
  (((((W.setCell (R k 0) v).setCell (R m 0) (Y c)).setCell (R m 1) (.int .u16 d)).setCell (R m 0) (Y c)).setCell (R m 1) (.int .u16 d)).heap[k]?=some (N #[v] 41)/\
  (((((W.setCell (R k 0) v).setCell (R m 0) (Y c)).setCell (R m 1) (.int .u16 d)).setCell (R m 0) (Y c)).setCell (R m 1) (.int .u16 d)).heap[m]?=some (N #[Y c,.int .u16 d] 172):=by
 obtain⟨_,_,rfl⟩:∃a b,g= #[a,b]:=by
  match g,u with
  |⟨[a,b]⟩,_=>exact⟨a,b,rfl⟩
 obtain⟨_,rfl⟩:∃a,i= #[a]:=by
  match i,z with
  |⟨[a]⟩,_=>exact⟨a,rfl⟩
 have A:=heap_setCell_same W k 0 _ 41 v y;have r:=(RJ W (R k 0) m v n).trans x;have s:=heap_setCell_same _ m 0 _ 172 (Y c) r;have t:=heap_setCell_same _ m 1 _ 172 (.int .u16 d) s;have x4:=heap_setCell_same _ m 0 _ 172 (Y c) t;have B:=heap_setCell_same _ m 1 _ 172 (.int .u16 d) x4;have j:=QD q f;have C:=QD q o;have l:k≠m:=λe=>n e.symm;refine⟨(((((Fr.refl [41,172] aG W).set (p:=R k 0) y rfl C _).set (p:=R m 0) r rfl j _).set (p:=R m 1) s rfl j _).set (p:=R m 0) t rfl j _).set (p:=R m 1) x4 rfl j _,λh=>((((iO.new h o _).new f _).new f _).new f _).new f _,?_,B⟩;exact(RJ _ (R m 1) k _ l).trans ((RJ _ (R m 0) k _ l).trans ((RJ _ (R m 1) k _ l).trans ((RJ _ (R m 0) k _ l).trans A)))
def OZ[Lo](Z:bm)(g:aA)(d:Option Nat)(V:cH)(C:Nat)(e:Rs)(w:M)(bA f h b k i:Nat)(q:Bool)(W:M):Prop:=
 vm Z g d V C e w q W/\Eb Z bA f h b k i W/\∃a n c,W.heap[b]?=some (N #[.slice a n c] 41)/\cA W (.slice a n c) 128 (cR g V (k+i))
def O_[Lo](Z:bm)(g:aA)(a:Option Nat)(V:cH)(C:Nat)(b:Rs)(w:QA)(bA c d e k i t:Nat)(W:QA):Prop:=
 a=some t/\t<g.M/\Eb Z bA c d e k i W/\∃s u,Inv W Z g a V C s u/\u.st t≠2/\iO Z w W/\Sm b s
theorem Ec[Lo](Z:bm)(g:aA)(O:Option Nat)(V:cH)(C:Nat)(P:Rs)(w:QA)(bA z A m k i:Nat)(b6:k+i<g.B)(q:Bool)(W:QA)(h:vm Z g O V C P w q W)(a0:Eb Z bA z A m k i W)(b0:w.heap.size<=m)(b1:Lo.lo<=w.heap.size):
  aF 102 #[ar bA,ar z,ar A,ar m] W λe j=>∃t B,aL e (hN t B)/\((B=0/\OZ Z g O V C P w bA z A m k i q j)\/(q=false/\nT B/\O_ Z g O V C P w bA z A m k i t j)):=by
 obtain⟨b2,D,b3,F,n,b⟩:=eL W (ao #[ae 0,aH 0] 172);have o:=h.below n;have b4:w.heap.size<=W.heap.size:=by obtain⟨_,_,_,_,hF,_⟩:=h;exact hF.size
 have a:=a0.below n;obtain⟨s,u,T,-,hF,-⟩:=id o;have b7:g.B<=1048576:=by have:=T.kr.cJ;unfold aA.B aA.E;have h1:=this.m16;have h2:=this.tC;have h3:=this.iS;exact QD (TG h3 (TG (show g.M-1<=16 by omega) h2)) ai
 obtain⟨b8,-,E⟩:=T.ay.arr.aM;obtain⟨k0,f0,z0⟩:=cr E;obtain⟨a1,a2,a3⟩:=cr a.a;obtain⟨a4,a5,a6⟩:=cr a.b;obtain⟨a7,a8,a9⟩:=cr a.i;have U:=ad (λb5 (E:aq b2 b5)=>(GS Z g O V C P w (k+i) b6 q b5 (o.below E)).mono λe j h=>And.intro h (show Fr TB aG b2 j from by obtain⟨_,_,_,_,_,_,f,_⟩:=h;exact(Fr.af E).tr f));have p:=ad E;obtain⟨c1,c⟩:=a.d;have n1:=gU a.a c ai;have n2:=gU a.b c ai;have n3:=gU a.i c ai;have n4:=gU a.a b ai;have n5:=gU a.b b ai;have n6:=gU a.i b ai;have n7:=gU c b ai;have X:=Ne.symm n7;have n8:=gU p b ai;have n9:=gU p c ai;have l:=aY a b b0 b1;have r:=aB b3 F;have H:=ad c;clear c;have b9:QG.wrap ((k:Int)+(i:Nat))=((k+i:Nat):Int):=bs;clear h a0 n b o a E b3 F T hF b0 b1;go_enter func102,ntmps102;go_wp2_with fail
 try simp only[r.out.1,r.out.2]
 go_region_held3(λj=>j.cell? ⟨bA,0,none⟩=some (ar Z.A)/\j.cell? ⟨Z.A,13,none⟩=some (ar Z.R)/\j.cell? ⟨z,0,none⟩=some (ae k)/\j.cell? ⟨A,0,none⟩=some (ae i)) ((simp[*,go_sem];done)) (first|(go_at_call 103;refine(U _ bF).mono ?_;rintro e w2 ⟨⟨N,M,R,t,B,rfl,-,d⟩,f⟩;obtain⟨Q,S,x⟩:=cC t B;rw[x];have G:=aT d f x;have v1:=(cr (f.hp l.1.a rfl)).1 0;have v2:=(cr (f.hp p rfl)).1 13;have v3:=(cr (f.hp l.1.b rfl)).1 0;have v4:=(cr (f.hp l.1.i rfl)).1 0;have I:=f.hp l.2.1 rfl;obtain⟨x1,x2,x3⟩:=cr I;have Y:=f.hp H rfl;obtain⟨y1,y2,y3⟩:=cr Y;have K:=aB I Y;clear d f x I Y));go_wp2;obtain⟨W5,J⟩:=ah (((((w2.setCell ⟨m,0,none⟩ (.slice N M R)).setCell ⟨D,0,none⟩ (ae Q)).setCell ⟨D,1,none⟩ (.int .u16 S)).setCell ⟨D,0,none⟩ (ae Q)).setCell ⟨D,1,none⟩ (.int .u16 S));have c0:W.heap.size=D:=r.2;obtain⟨y,q2,q3,q4⟩:=kQ (w:=w) K.1 K.2 X aa l.2.2.1 l.2.2.2 (.slice N M R) Q S;rw[J]at y q2 q3 q4|-;obtain⟨e1,-,-⟩:=cr q4;have e2:=e1 0;have e3:=e1 1;refine QT (v:=.agg #[ae Q,.int .u16 S]) (by simp[RP,results102,go_sem,e2,e3]) rfl ⟨t,B,by rw[G.2.2],?_⟩;have L:Eb Z bA z A m k i W5:=⟨y.hp (G.2.1.hp l.1.a rfl) rfl,y.hp (G.2.1.hp l.1.b rfl) rfl,y.hp (G.2.1.hp l.1.i rfl) rfl,_,q3⟩;rcases G.1 with⟨r1,⟨s2,u2,i2,j2,k2,l2⟩,r3⟩|⟨r1,r2,r3,r4,s2,u2,i2,j2,k2,l2⟩
 .exact .inl ⟨r1,⟨s2,u2,i2.fr y rfl,j2,q2 k2,l2⟩,L,N,M,R,q3,r3.fr y rfl⟩
 .exact .inr ⟨r1,r2,r3,r4,L,s2,u2,i2.fr y rfl,j2,q2 k2,l2⟩
def Su.fQ(g:aA)(u:Su)(m:Nat):Su:=if u.cur+1=g.s then{u with st:=λk=>if k=m then 1 else u.st k,cur:=0}else{u with cur:=u.cur+1}
theorem Su.one(a:∀k,k<g.M->u.st k≠1->some m=some k)(b:k<g.M)(e:k≠m):u.st k=1:=by
 by_cases q:u.st k=1
 .exact q
 .exact absurd (RM (a k b q)).symm e
theorem JK(w:M)(A B C D:Obj):((((w.alloc A).alloc B).alloc C).alloc D).heap[w.heap.size]?=some A/\((((w.alloc A).alloc B).alloc C).alloc D).heap[w.heap.size+1]?=some B/\((((w.alloc A).alloc B).alloc C).alloc D).heap[w.heap.size+1+1]?=some C/\((((w.alloc A).alloc B).alloc C).alloc D).heap[w.heap.size+1+1+1]?=some D/\((((w.alloc A).alloc B).alloc C).alloc D).heap.size=w.heap.size+4/\aq w ((((w.alloc A).alloc B).alloc C).alloc D):=by have a:∀(w:M) (o:Obj),(w.alloc o).heap.size=w.heap.size+1:=λw o=>aJ;have b:=a w A;have c:=a (w.alloc A) B;have g:=a ((w.alloc A).alloc B) C;have i:=a (((w.alloc A).alloc B).alloc C) D;have h:=QB w A;have d:=QB (w.alloc A) B;have e:=QB ((w.alloc A).alloc B) C;have f:=QB (((w.alloc A).alloc B).alloc C) D;rw[b]at d;rw[c,b]at e;rw[g,c,b]at f;exact⟨(YV _ _ J).trans ((YV _ _ J).trans ((YV _ _ J).trans h)),(YV _ _ J).trans ((YV _ _ J).trans d),(YV _ _ J).trans e,f,J,aK (aK (aK (aK aj _) _) _) _⟩
theorem Ed[Lo](Z:bm)(g:aA)(p:Option Nat)(V:cH)(C:Nat)(r:Rs)(w:QA)(bA j l m k i:Nat)(B:k+i<g.B)(D:1000<=C)(E:bA≠Z.fb)(F:j≠Z.fb)(G:l≠Z.fb)(K:w.heap.size<=m)(L:Lo.lo<=w.heap.size)(R:Z.fb<w.heap.size):
  MK Z g 102 #[] #[ar bA,ar j,ar l,ar m] (λq W=>vm Z g p V C r w q W/\Eb Z bA j l m k i W) (λW=>∃q,OZ Z g p V C r w bA j l m k i q W) (λt _ W=>O_ Z g p V C r w bA j l m k i t W) where
 enters:=RH func102 aE rfl
 call:=λq W h=>(Ec Z g p V C r w bA j l m k i B q W h.1 h.2 K L).mono λe O ⟨t,x,f,o⟩=>⟨t,x,f,o.imp (λh=>⟨h.1,q,h.2⟩) λh=>⟨h.1,h.2.1,h.2.2.2.1,h.2.2⟩⟩
 hN:=by rintro t x W P ⟨rfl,Q,S,s,u,y,T,U,X⟩;refine(iu Z g t V C x s u W y Q T D P).mono ?_;rintro e O ⟨f,H,N,d⟩;exact⟨f,⟨H,N,d.inv.less (by rw[ak rfl];omega),λ_=>d.inv.quiet d.down,U.trans d.bY,X.trans ⟨d.x,d.wt,d.sl,d.lz⟩⟩,S.PJ d.bY F G E J⟩
 arr:=λ_ _ _ ⟨_,_,_,s,u,y,_⟩=>⟨u,false,y.ay.arr⟩
 sb:=λ_ _ _ h b=>⟨h.1.below b,h.2.below b⟩
 qb:=λ_ _ ⟨q,f,o,a,n,c,v,z⟩ b=>⟨q,f.below b,o.below b,a,n,c,(b.block _ (Z_ v)).trans v,z.below b⟩
 tb:=λ_ _ _ _ ⟨f,o,v,s,u,z,M,A⟩ b=>⟨f,o,v.below b,s,u,z.below b,M,A.1.then b,A.2⟩
theorem Ee(e o:Nat)(w:M)(b:aX w e (N #[aH 0] 35)):CallsD prog 97 #[ar e,ar o] .returning w λe c a=>c=.returning/\aL e (.tuple #[])/\a=w:=by obtain⟨d1,d2,d3⟩:=cr b;refine callsD_of_wp (R:=λe a=>aL e (.tuple #[])/\a=w) func97 rfl ?_;simp only[ntmps97,Array.size];go_wp2;go_end0;exact⟨rfl,rfl⟩
theorem GU(h:w.ownsRow k i j (.slice P m r) n L):n<=r:=by
 rcases h.2 with⟨_,h⟩|⟨_,_,_,q,_,_,h,_⟩
 .omega
 .cases q;exact h
def O'[Lo](Z:bm)(g:aA)(d:Option Nat)(V:cH)(C:Nat)(f:Rs)(k n:Nat)(w:M)(e:RV)(b:M):Prop:=
 ∃a c,aL e (.tuple #[.slice a (n*128) c,aH 0])/\cA b (.slice a (n*128) c) (n*128) (λj=>cR g V (k+j/128) (j%128))/\n*128<=c/\∃q,vm Z g d V C f w q b
structure GV[Lo](Z:bm)(g:aA)(aw:Option Nat)(V:cH)(C:Nat)(s0:Rs)(bA bB bO bE k i:Nat)(w W:M):Prop where
 st:∃q,vm Z g aw V C s0 w q W
 a:W.heap[bA]? =some (N #[ar Z.A] 71)
 b:W.heap[bB]? =some (N #[Y k] 3)
 e:W.heap[bE]? =some (N #[aH 0] 35)
 o:∃v,W.heap[bO]? =some (N #[v] 41)/\W.ownsRow w.heap.size 5 1 v (i*128) (az (i*128) fun j=>cR g V (k+j/128) (j%128))
theorem GV.below[Lo]{Z:bm}{b:Option Nat}{V:cH}(h:GV Z g b V C s n m j r k i w W)(a:aq W z):GV Z g b V C s n m j r k i w z:=
 ⟨h.st.imp λ_ h=>h.below a,(a.block _ (Z_ h.a)).trans h.a,(a.block _ (Z_ h.b)).trans h.b,(a.block _ (Z_ h.e)).trans h.e,h.o.imp λ_ h=>⟨(a.block _ (Z_ h.1)).trans h.1,aP a h.2⟩⟩
theorem GV.step[Lo]{Z:bm}{A:Option Nat}{V:cH}{B:Rs}{X:Su}{bA O b Q k i N H:Nat}(S:Inv w Z g A V n B X)(M:vm Z g A V C B w d W)(zL:W.heap[b]?=some (ao #[.slice P N m] 41))(o:W.heap[Q]?=some (ao #[aH 0] 35))(q:W.heap[bA]?=some (ao #[ar Z.A] 71))(r:W.heap[O]?=some (ao #[ae k] 3))(t:W.ownsRow w.heap.size 5 1 (.slice P N m) N (az N λj=>cR g V (k+j/128) (j%128)))(E:cR g V (k+i)=f)(a1:i*128=N)(l:z.ownsRow w.heap.size 5 1 v (N+128) ((az N λj=>cR g V (k+j/128) (j%128))++az 128 f))(a:nO H W (.slice P N m) N 128 v z)(U:w.heap.size<=b):
  GV Z g A V C B bA O b Q k (i+1) w (z.setCell (ag b 0) v)/\z.heap[b]?=some (ao #[.slice P N m] 41):=by
 have c:∀{x T:Nat} {R:Array QC} {I:Nat × Nat},W.heap[x]?=some (.cells R T I)->T≠5->(RR P N m).ownBlock≠some x:=λY J e=>by obtain⟨-,F,G,y⟩:=fw t e;rw[Y]at y;exact J (UU (RM y)).2.1
 have D:=a.heap zL (c zL ai);have q4:vm Z g A V C B w d z:=M.own S (a.out (Out.refl (λx=>(RR P N m).ownBlock=some x) W) λ_ h _=>h) λx K=>fw t K;obtain⟨s,u,i1,i2,i3,i4⟩:=q4;have L:=QD S.low U;have f5:Fr [41] aG z (z.setCell (ag b 0) v):=(Fr.refl _ _ _).set (p:=ag b 0) D rfl L _;refine⟨⟨⟨d,s,u,i1.fr f5 rfl,i2,i3.new U _,i4⟩,f5.hp (a.heap q (c q ai)) rfl,f5.hp (a.heap r (c r ai)) rfl,f5.hp (a.heap o (c o ai)) rfl,v,heap_setCell_same z b 0 _ 41 v D,?_⟩,D⟩;have a0:Out (λx=>x=b) z (z.setCell (ag b 0) v):=(Out.refl (λx=>x=b) z).setCell (p:=ag b 0) (λ_=>rfl) v;have:=a0.own l λx K e=>by obtain⟨-,F,G,y⟩:=fw l K;rw[e,D]at y;exact absurd (UU (RM y)).2.1 ai
 rw[jE]at this;rw[show(i+1)*128=N+128 by omega];rw[ed (g:=cat N (λj=>cR g V (k+j/128) (j%128)) f) λj a2=>?_]
 .exact this
 .unfold cat;by_cases e:j<N
  .rw [ak e]
  .rw [al e,<-E,show j/128=i by omega,show j%128=j-N by omega]
theorem GW[Lo](Z:bm)(g:aA)(y:Option Nat)(V:cH)(C:Nat)(s:Rs)(u:Su)(k n:Nat)(w:QA)(h:Inv w Z g y V C s u)(j0:1000<=C)(j4:k+n<=g.B):
  aF 59 #[ar Z.A,ae k,ae n] w (O' Z g y V C s k n w):=by
 obtain⟨j5,g0,g1,g2,g3⟩:=SB kg;obtain⟨e9,g4⟩:=ah ((((w.alloc (ao #[ar Z.A] 71)).alloc (ao #[ae k] 3)).alloc (ao #[aO] 41)).alloc (ao #[aH 0] 35));obtain⟨f1,R,g5,f2,Q,z⟩:=JK w (ao #[ar Z.A] 71) (ao #[ae k] 3) (ao #[aO] 41) (ao #[aH 0] 35);rw[g4]at f1 R g5 f2 Q z;obtain⟨bA,r⟩:=ah w.heap.size;obtain⟨S,b⟩:=ah (w.heap.size+1);obtain⟨m,A⟩:=ah (w.heap.size+1+1);obtain⟨c,T⟩:=ah (w.heap.size+1+1+1);rw[r]at f1;rw[b]at R;rw[A]at g5;rw[T]at f2;have g7:=ad h;have U:QX (w.heap.size<=m):=by rw[<-A];exact QD (US _) (US _)
 have D:=h.below z;have f4:=h.kr.cJ;have g8:g.B<=1048576:=by have h1:=f4.m16;have J:=f4.tC;have h3:=f4.iS;unfold aA.B aA.E;exact QD (TG h3 (TG (show g.M-1<=16 by omega) J)) ai
 have a0:=Z_ h.ay.rs.row.fJ;obtain⟨j6,-,X⟩:=D.ay.arr.aM;obtain⟨k0,f0,z0⟩:=cr X;obtain⟨a1,a2,a3⟩:=cr f1;obtain⟨b1,b2,b3⟩:=cr R;obtain⟨x1,x2,x3⟩:=cr f2;have g9:=ad (js Z g u false e9 D.ay.arr);have a4:=ad (λW (R:aq e9 W)=>AL Z g u false W (D.below R).ay.arr f4);have a5:QX (GV Z g y V C s bA S m c k 0 w e9):=⟨⟨false,s,u,D,λe=>(by cases e),iO.af z,rfl,rfl,rfl,rfl⟩,f1,R,f2,_,g5,by rw[VY];exact SD _ _ _ _⟩;have d:=f' g4 r b A T Q;have I:=aY j0 z h.low a0;obtain⟨B,H⟩:=ah g.B;rw[H]at a4 j4 g8;have h0:=ad H;have e1:decide ((n:Int)<0)=false:=aJ;have e2:decide ((k:Int)<0)=false:=aJ;have e3:decide (B<k)=false:=aS;have j8:decide ((B:Int)<(k:Nat))=false:=aS;have e4:QG.wrap ((B:Int)-(k:Nat))=((B-k:Nat):Int):=by rw[show(B:Int)-(k:Nat)=((B-k:Nat):Int)by omega];go_arith
 have e5:decide (B-k<n)=false:=aS;have j9:decide (((B-k:Nat):Int)<(n:Nat))=false:=aS;clear g4 r b A T Q H j0;obtain⟨K,L,O⟩:=g
 go_enter_defers func59,ntmps59
 go_wp2_with fail;rw[d.1,d.2.2.2.2.1,d.2.2.2.1,d.2.2.1,d.2.1];go_wp2_with(go_at_call 99;refine g9.mono ?_;rintro e w1 ⟨rfl,rfl⟩);go_region_held3(λj1=>j1.cell? (ag bA 0)=some (ar Z.A)/\j1.cell? (ag S 0)=some (ae k)) ((simp[*,go_sem];done)) (first|(go_at_call 100;refine(a4 _ (by first|exact l|exact cK l _|exact cK aj _)).mono ?_;rintro e w2 ⟨rfl,h6⟩;have l:QX (aq e9 w2):=via (by first|exact l|exact cK l _|exact cK aj _) h6;obtain⟨p1,p2,p3⟩:=kp l bA a3;obtain⟨p4,p5,p6⟩:=kp l S b3));have a6:QX (GV Z ⟨K,L,O⟩ y V C s bA S m c k 0 w w2):=a5.below l;clear a5;go_wp2;go_loopw [34] (λj wr=>∃i:Nat,j= ae i/\i<=n/\QX (GV Z ⟨K,L,O⟩ y V C s bA S m c k i w wr)) (λj _=>n-(intOf j).toNat)
 case atStart=>exact⟨0,rfl,QO _,a6⟩
 case round=>
  clear a6;obtain⟨i,rfl,k1,o⟩:=hrel;obtain⟨q,k2⟩:=o.st;obtain⟨s1,u1,f5,a7,hF,a8⟩:=k2;obtain⟨j2,-,X⟩:=f5.ay.arr.aM;obtain⟨k0,f0,z0⟩:=cr X;obtain⟨a1,a2,a3⟩:=cr o.a;obtain⟨b1,b2,b3⟩:=cr o.b;obtain⟨x1,x2,x3⟩:=cr o.e;by_cases h7:i<n
  .have k3:(i:Int)<(n:Int):=aa;obtain⟨f8,a9⟩:=ah ((wr.alloc (ao #[ae i] 3)).alloc (ao #[aO] 41));have b:aq wr f8:=by rw[<-a9];exact aK (aK aj _) _
   have b0:aX f8 wr.heap.size (ao #[ae i] 3):=by rw[<-a9];exact e_ _ _ _
   have b4:aX f8 (wr.heap.size+1) (ao #[aO] 41):=by rw[<-a9];exact eZ _ _ _
   have b6:=ad a9;have b7:=hF.size;have a0:=I.2.2.2;have k4:=d.2;have b8:=o.below b;have h8:=ad (pE Z ⟨K,L,O⟩ f5.kr.cJ.m16 102 _ _ _ _ _ (Ed Z ⟨K,L,O⟩ y V C s1 wr bA S wr.heap.size (wr.heap.size+1) k i (by rw[h0.out];omega) I.1 aa aa aa (US _) (QD I.2.2.1 b7) aa) q f8 ⟨⟨s1,u1,f5.below b,a7,iO.af b,rfl,rfl,rfl,rfl⟩,b8.a,b8.b,b0,_,b4⟩);obtain⟨k5,Fq,wg⟩:=o.o;have a:=f' (And.intro o.a (And.intro o.b o.e)) (And.intro hF a8) k1 h7 Fq wg;have E:QX (m≠Z.fb/\c≠Z.fb/\bA≠Z.fb/\S≠Z.fb):=⟨aa,aa,aa,aa⟩;have h9:=ad b7;clear b b0 b4 a9;go_wp2_with fail;rw[b6.out];go_wp2_with(first
    |(go_at_call 101;refine h8.mono ?_;rintro e w3 ⟨rfl,q3,i0,k6,l3,l4,l5,b9,d0⟩
      obtain⟨s3,u3,i3,j3,f3,m3⟩:=i0;have zL:=Fr.heap f3 a.2.2.2.2.1 rfl E.1;have d1:=Fr.heap f3 a.1.2.2 rfl E.2.1;have d2:=Fr.heap f3 a.1.1 rfl E.2.2.1;have d3:=Fr.heap f3 a.1.2.1 rfl E.2.2.2;have t:=Fr.own f3 a.2.2.2.2.2 rfl λx k7 e=>by have h1:=(fw a.2.2.2.2.2 k7).1;have J:=I.2.2.2;omega
      obtain⟨N,Q⟩:=ah (i*128);rw[Q]at t;obtain⟨F,G,d4,-⟩:=au t;rw[d4]at zL t;obtain⟨gk,M⟩:=ah (cR ⟨K,L,O⟩ V (k+i));rw[M]at d0;obtain⟨l6,l7,e5,h5⟩:=d0;obtain⟨b5,o5,i1,i2,e6,d5,d6⟩:=h5.resolve_left ai;cases e5;subst e6;have i4:QX (∀j u,(az 128 gk)[j]?=some u->w3.cell? (((ag b5 o5):SR).add j)=some u):=λj u f9=>by
       by_cases d7:j<128
       .rw [ba _ _ _ d7]at f9;rw[iQ,<-f9];exact(QS w3 b5 (o5+j) i1 5 i2 d5).trans (d6 j d7)
       .rw [RF (by rw[aI];omega)]at f9;cases f9
      have i5:QX (wr.heap.size<=w3.heap.size):=f3.size;have i6:QX (vm Z ⟨K,L,O⟩ y V C s w q3 w3):=⟨s3,u3,i3,j3,a.2.1.1.trans f3,a.2.1.2.trans m3⟩;have Y:=ca zL d1 d2 d3 t;have d8:=aB M Q;obtain⟨c1,c2,c3⟩:=cr zL;obtain⟨c4,c5,c6⟩:=cr b9;have k8:N<=200000000:=by have:=a.2.2.1;omega
      clear i3 j3 f3 m3 zL d1 d2 d3 t Q d4 M h5 d5 d6 b9 a1 a3 b1 b3 x1 x2 x3 k0)
    |(at_builtin;refine aU _ rfl _ _ 41 rfl w.heap.size 5 j5 (.int .u8 0) 1 1 UO g0 g1 g2 g3 rfl ai (.slice F N G) N _ rfl Y.2.2.2.2 (ag b5 o5) 128 _ (az 128 gk) rfl (by rw[aI]) i4 (dr _ _) ai (by unfold UE;omega) aa (QD h9 i5) ?_;intro l8 w4 v P;obtain⟨l9,k9,rfl,-⟩:=au v
      obtain⟨r1,r2⟩:=GV.step g7 i6 Y.1 Y.2.1 Y.2.2.1 Y.2.2.2.1 Y.2.2.2.2 d8.1 d8.2 v P U;have i8:=ad r1;obtain⟨c7,c8,c9⟩:=cr r2;clear r1 r2 v P c1 c2))
   go_roundw
   case rel=>exact⟨i+1,by go_num,a.2.2.2.1,i8⟩
   case measure=>have:=a.2.2.2.1;simp[intOf];omega
  .obtain rfl:n=i:=aa;obtain⟨k5,Fq,wg⟩:=o.o;obtain⟨F,G,rfl,-⟩:=au wg;obtain⟨c1,c2,c3⟩:=cr Fq;have d9:=aT Fq wg o.e;have l0:QX (vm Z ⟨K,L,O⟩ y V C s w q wr):=⟨s1,u1,f5,a7,hF,a8⟩;have n1:=gU o.e Fq ai;have n2:=Ne.symm n1;go_wp2;have h1:=heap_setCell_same wr m 0 _ 41 (.slice F (n*128) G) d9.1;have J:=(RJ wr (ag m 0) c (.slice F (n*128) G) n1).trans d9.2.2;have h3:=heap_setCell_same _ c 0 _ 35 (aH 0) J;have h4:=(RJ _ (ag c 0) m (aH 0) n2).trans h1;have e0:w.heap.size<=c:=by have:=d.2.2.2.2.1;omega
   have f6:=((Fr.refl [41,35] aG wr).set (p:=ag m 0) d9.1 rfl (QD I.2.2.1 U) (.slice F (n*128) G)).set (p:=ag c 0) J rfl (QD I.2.2.1 e0) (aH 0);have g6:iO Z w wr->iO Z w ((wr.setCell (ag m 0) (.slice F (n*128) G)).setCell (ag c 0) (aH 0)):=λh=>(h.new (p:=ag m 0) U _).new (p:=ag c 0) e0 _;obtain⟨W6,i9⟩:=ah ((wr.setCell (ag m 0) (.slice F (n*128) G)).setCell (ag c 0) (aH 0));rw[i9]at h3 h4 f6 g6|-;refine WZ (f:=98) (args:= #[ar c]) aJ (by simp[go_sem]) ?_;refine(cY (ag c 0) _).mono ?_;rintro e l1 w7 ⟨rfl,rfl,e7⟩;rw[e7];refine WZ (f:=97) (args:= #[ar c,ar m]) (by simp[settle]) (by simp[go_sem]) ?_;refine(Ee c m _ h3).mono ?_;rintro e l1 w8 ⟨rfl,rfl,e8⟩;rw[e8];have l2:QX (O' Z ⟨K,L,O⟩ y V C s k n w (.returned (.tuple #[.slice F (n*128) G,aH 0])) W6):=by obtain⟨s7,u7,i7,j7,f7,m7⟩:=l0.out;refine⟨F,G,rfl,?_,GU d9.2.1,q,s7,u7,i7.fr f6 rfl,j7,g6 f7,m7⟩;have:=gj d9.2.1;exact this.fr f6 rfl
   have c0:=(cr h3).1 0;have c4:=(cr h4).1 0;simp[Leaves,settle,RP,results59,go_sem,c0,c4];exact l2
theorem sR(w:M)(A B:Obj):((w.alloc A).alloc B).heap[w.heap.size]?=some A/\((w.alloc A).alloc B).heap[w.heap.size+1]?=some B/\aq w ((w.alloc A).alloc B):=⟨e_ _ _ _,eZ _ _ _,aK (aK aj _) _⟩
structure lQ(a:fR):Prop where
 kO:rC a.2
 ok:∀v:Dv,v.d.failed=false->(a.2 v).2=0
 dv:∀v:Dv,(a.2 v).1.d.n=v.d.n/\(a.2 v).1.d.cn<=v.d.cn+1
theorem ho(k a:Nat)(f:aN):lQ (k,aR a f):=⟨mT a f,λv h=>by show(aR a f v).2=0;rw[kM h],λv=>ey a f v⟩
theorem sS(k:Nat):lQ (dq k):=⟨pF,λv h=>by show(be v).2=0;rw[kN h],sE k⟩
structure Lv(b:By):Prop where
 kO:bK b
 bz:b.bz=false
 aW:b.aW=none
theorem Lv.op(h:Lv b){a:fR}(f:a.1<b.N)(c:lQ a):(b.op a.1 a.2).2=0/\Lv (b.op a.1 a.2).1:=by
 obtain⟨v,d,g,i⟩:=h.kO a.1 f;have e:b.out=false:=by unfold By.out;rw[h.bz,h.aW];rfl
 have j:v.use=v:=by unfold Dv.use;rw[g];rfl
 refine⟨?_,h.kO.op c.kO,?_,By.dz h.aW⟩
 .unfold By.op;rw[e,d];simp only[j];exact c.ok v i
 .unfold By.op;rw[e,d];exact h.bz
theorem Lv.run:∀(l:List fR) {b:By},Lv b->(∀a,a∈l->a.1<b.N/\lQ a)->(b.run l).2.2=0/\Lv (b.run l).1
 | [],_,h,_=>⟨rfl,h⟩
 |a::d,b,h,c=>by obtain⟨e,f⟩:=h.op (c a RZ).1 (c a RZ).2;simp only[By.run];rw[ak e];exact Lv.run d f λx g=>by rw[By.fW];exact c x (SG _ g)
theorem Lv.db{b:By}(h:Lv b){J:Nat}(i:J<b.N){pl:aN}{sf:dp}:∀n,(b.db J pl sf n).2=0/\Lv (b.db J pl sf n).1/\(b.db J pl sf n).1.N=b.N/\∀j v,(b.db J pl sf n).1.dv j=some v->∃c,b.dv j=some c/\v.d.n=c.d.n/\v.d.cn<=c.d.cn+n
 |0=>⟨rfl,h,rfl,λj v d=>⟨v,d,rfl,QE _⟩⟩
 |n+1=>by
  obtain⟨m,o,k,l⟩:=Lv.db h i n;obtain⟨p,q⟩:=o.op (a:=(J,aR (pl n) (sf n))) (by rw[k];exact i) (ho _ _ _);unfold By.db;rw[ak m];refine⟨p,q,(By.fW ..).trans k,λj v d=>?_⟩;by_cases e:j=J
  .subst e;obtain⟨r,s,t,w⟩:=By.jh (ey _ _) d;obtain⟨c,f,g,u⟩:=l _ r s;exact⟨c,f,t.trans g,aa⟩
  .rw [By.ei _ e]at d;obtain⟨c,f,g,u⟩:=l j v d;exact⟨c,f,g,aa⟩
theorem Lv.ck(h:Lv b){J:Nat}(k:J<b.N):(b.ck J f).2=0/\Lv (b.ck J f).1/\(b.ck J f).1.N=b.N/\∀j v,(b.ck J f).1.dv j=some v->∃g,b.dv j=some g/\v.d.n=g.d.n/\v.d.cn<=g.d.cn+2:=by
 obtain⟨c,n⟩:=h.op (a:=(J,aR 1 f)) k (ho _ _ _);obtain⟨d,o⟩:=n.op (a:=(J,be)) (by rw[By.fW];exact k) (sS J);have e:b.ck J f=(b.op J (aR 1 f)).1.op J be:=ak c;have p:((b.op J (aR 1 f)).1.op J be).1=(b.run [(J,aR 1 f),dq J]).1:=by have c:(b.op J (aR 1 f)).2=0:=c;have d:((b.op J (aR 1 f)).1.op J be).2=0:=d;simp only[By.run,c,dq,d,if_true]
 rw[e];refine⟨d,o,(By.fW ..).trans (By.fW ..),λj v m=>?_⟩;rw[p]at m;exact By.gI (l:= [(J,aR 1 f),dq J]) (λa i w=>by
  rcases UH.1 i with rfl|i
  .exact (ho _ _ _).dv w
  .rw [SM.1 i];exact(sS J).dv w) m
def rE(m n:Nat):List fR:=(TQ n).map λr=>(m,aR (1+r) λ_=>0)
def eO(g:aA)(n:Nat):List fR:=(TQ n).flatMap λm=>rE m g.R
def j_(g:aA):List Nat:=g.M::TQ g.M
def qy(g:aA)(b:By):By:=(b.run (eO g g.M)).1
def j'(g:aA)(N:Nat)(b:By):By:=(((qy g b).db g.M (λp=>2+p) (λ_ _=>0) N).1.ck g.M (aV 1 1 0)).1
def qz(g:aA)(N:Nat)(u:Su)(b:By):By:=((j' g N b).run ((j_ g).map (dD g u)++(j_ g).map dq)).1
theorem lR{a:fR}(h:a∈eO g n):a.1<n/\∃r,r<g.R/\a=(a.1,aR (1+r) λ_=>0):=by obtain⟨m,b,h⟩:=WI.1 h;obtain⟨r,c,rfl⟩:=RK.1 h;exact⟨TY.1 b,r,TY.1 c,rfl⟩
theorem rF(g:aA)(n:Nat):eO g (n+1)=eO g n++rE n g.R:=by unfold eO;rw[UL,UY];simp
theorem Ef(m n:Nat):rE m (n+1)=rE m n++ [(m,aR (1+n) λ_=>0)]:=by unfold rE;rw[UL,SH];rfl
theorem lT(g:aA):∀n,(eO g n).length=n*g.R
 |0=>by simp[eO]
 |n+1=>by rw[rF,QU,lT g n,Nat.succ_mul];simp[rE]
theorem ze(h:k∈j_ g):k<g.M+1:=by
 rcases UH.1 h with e|e
 .omega
 .have:=TY.1 e;omega
section
def Su.born(N:Nat)(lz:Bool):Su:=⟨1,1,1,0,N,lz,false,λ_=>1,0⟩
theorem Su.oh{g:aA}(a:g.ok){N:Nat}(h:5<=N/\N<=2048)(lz:Bool):(Su.born N lz).ok g:=by have:=a.s1;exact⟨a,by show 1<_;decide,⟨QE _,QE _,by show 1<=_;decide⟩,QO _,h,λ_ _=>.inl rfl,λ_ _ _ _ h=>absurd (show(1:Nat)=3 from h) ai,⟨by show 0<g.s;omega,λh=>absurd rfl h⟩⟩
def Ro.born(lz:Bool):Ro:=⟨lz,λ_=>none,[],false⟩
def oj(g:aA)(N:Nat)(lz:Bool)(b:By):Rs:=⟨b,Wl.fresh N 1,(Ro.born lz).marks g (Su.born N lz) g.M⟩
section
variable {g:aA} {N:Nat} {lz:Bool}
theorem Eg(b:By)(m:Nat):(oj g N lz b).ro.fr m=none:=by show(if m<g.M then fu g (Su.born N lz) m else none)=none;split<;>rfl
theorem Eh(b:By)(m r:Nat):(oj g N lz b).ro.down m r=false:=by unfold Ro.down;rw[Eg]
def om:Nat->Nat->Nat->Nat:=λ_ _ _=>0
theorem Iy(p:Nat->Bool):∀n,xs p (λ_=>0) n=0
 |0=>rfl
 |n+1=>by unfold xs;rw[Iy p n];simp
theorem eH.PL{f:Ro}{b:Nat->Nat->Prop}{j a:Nat}{d:Dk}(h:eH g f (λ_ _=>True) b om (λ_=>True) j d):eH g f (λ_ _=>True) b om (λ_=>True) j (d.wr a λ_=>0):=by
 refine⟨λe=>⟨λr i k c=>?_,λr i k c=>absurd trivial c⟩,λ_=>trivial⟩;rw[Dk.eU];split
 .exact λ_ _=>rfl
 .exact (h.1 e).view r i k c
theorem Gt.runs{V:cH}{s:Rs}(h:Gt g none V s)(l:List fR)(c:∀a,a∈l->a.1<g.M+1/\ff (eH g s.ro (λ_ _=>True) s.ro.fv V λ_=>True) (eH g s.ro (λ_ _=>True) s.ro.fv V λ_=>True) a):(s.b.run l).2.2=0/\Gt g none V {s with b:=(s.b.run l).1}:=by
 have d:=Lit.run (aw:=none) l (λ_=>eH g s.ro (λ_ _=>True) s.ro.fv V λ_=>True) s.b ⟨h.bz,h.gd.dev⟩ λi a e=>by rw[h.gd.N];exact c a (QV e)
 rcases d with⟨f,h1⟩|⟨-,h1,-⟩|⟨-,h1,-⟩
 .exact ⟨f,h.gd.set h1.dev (By.gb _ _),h1.bz,By.eA h.aW _⟩
 .cases h1
 .exact absurd h.aW h1
structure qA(g:aA)(N:Nat)(b:By):Prop where
 bN:b.N=g.M+1
 dv:∀k,k<g.M+1->b.dv k=some ⟨Dk.fresh (if k=g.M then 2+N else 1+g.R),false,0⟩
 bz:b.bz=false
 aW:b.aW=none
theorem qA.lv{b:By}(h:qA g N b):Lv b:=⟨λk a=>⟨_,h.dv k (by rw[h.bN]at a;exact a),rfl,rfl⟩,h.bz,h.aW⟩
theorem qA.gt{b:By}(t:g.ok)(h:qA g N b)(lz:Bool):Gt g none om (oj g N lz b):=by
 refine⟨⟨λk d=>?_,h.bN,λp o=>(by cases o),λm r e=>?_,λm e=>(by cases e),?_⟩,h.bz,h.aW⟩
 .have c:k<b.N:=d;rw[h.bN]at c;have f:(oj g N lz b).b.dv k=_:=h.dv k c;refine⟨λe=>(by rw[f]at e;cases e),λv j=>?_⟩;rw[f]at j;obtain rfl:=RM j;refine⟨⟨λa k _=>by show 0<256;decide,λi q=>absurd q (RQ i)⟩,λ_=>⟨rfl,rfl⟩,λ_=>⟨λe=>⟨λr l s n=>λk _=>rfl,λr l s n=>absurd trivial n⟩,λ_=>trivial⟩⟩
 .rw [Eh]at e;cases e
 .exact ⟨λm r k _ _ _=>(by show 0<256;decide),λr k l d=>Iy _ _⟩
theorem vn{u:Su}{a:fR}(h:a∈(j_ g).map (dD g u)++(j_ g).map dq):∃k,k<g.M+1/\(a=dD g u k\/a=dq k):=by
 rcases TH.1 h with h|h
 .obtain ⟨k,b,rfl⟩:=RK.1 h;exact⟨k,ze b,.inl rfl⟩
 .obtain ⟨k,b,rfl⟩:=RK.1 h;exact⟨k,ze b,.inr rfl⟩
theorem pJ{b:By}(n:g.ok)(h:qA g N b)(S:N<=2048)(lz:Bool):Gt g none om (oj g N lz (qz g N (Su.born N lz) b))/\Lv (qz g N (Su.born N lz) b)
  /\∀j v,(qz g N (Su.born N lz) b).dv j=some v->∃i,b.dv j=some i/\v.d.n=i.d.n/\v.d.cn<=i.d.cn+100000:=by
 have l:∀a,a∈eO g g.M->a.1<g.M+1/\lQ a/\ff (eH g (oj g N lz b).ro (λ_ _=>True) (oj g N lz b).ro.fv om λ_=>True) (eH g (oj g N lz b).ro (λ_ _=>True) (oj g N lz b).ro.fv om λ_=>True) a:=λa c=>by obtain⟨o,r,T,u⟩:=lR c;rw[u];exact⟨by show a.1<_;omega,ho _ _ _,ej (λ_ _=>by show 0<256;decide) (λd e=>e.PL) λ_ _ _ e=>e⟩
 obtain⟨-,w⟩:=(h.gt n lz).runs (eO g g.M) λa c=>⟨(l a c).1,(l a c).2.2⟩;obtain⟨-,x⟩:=h.lv.run (eO g g.M) λa c=>⟨by rw[h.bN];exact(l a c).1,(l a c).2.1⟩;have q:(b.run (eO g g.M)).1.N=g.M+1:=(By.gb _ _).trans h.bN;obtain⟨-,y⟩:=w.db (pl:=λp=>2+p) (sf:=λ_ _=>0) N λ_ _ _ _=>(by show 0<256;decide);obtain⟨-,z,t,d2⟩:=x.db (J:=g.M) (by rw[q];omega) (pl:=λp=>2+p) (sf:=λ_ _=>0) N;obtain⟨-,A⟩:=(y (Wl.fresh N 1)).ck (f:=aV 1 1 0) (hL _ _ _);obtain⟨-,B,C,d3⟩:=z.ck (J:=g.M) (by rw[t,q];omega) (f:=aV 1 1 0);have m:∀a,a∈(j_ g).map (dD g (Su.born N lz))++(j_ g).map dq->a.1<g.M+1/\lQ a/\ff (eH g (oj g N lz b).ro (λ_ _=>True) (oj g N lz b).ro.fv om λ_=>True) (eH g (oj g N lz b).ro (λ_ _=>True) (oj g N lz b).ro.fv om λ_=>True) a:=λa c=>by
  obtain⟨k,o,rfl|rfl⟩:=vn c
  .exact ⟨o,ho _ _ _,ej (λj _=>od _ _ j) (λd s=>s.MJ _) λ_ _ _ e=>e⟩
  .exact ⟨o,sS _,fB (λd s=>s.fl) λ_ _ _ e=>e⟩
 obtain⟨-,D⟩:=(A (Wl.fresh N 1)).runs _ λa c=>⟨(m a c).1,(m a c).2.2⟩;obtain⟨-,E⟩:=B.run _ λa c=>⟨by rw[C,t,q];exact(m a c).1,(m a c).2.1⟩;refine⟨D,E,λj v F=>?_⟩;obtain⟨G,K,U,c3⟩:=By.gI (λa c=>(m a c).2.1.dv) F;obtain⟨L,O,V,W⟩:=d3 j G K;obtain⟨X,P,Z,H⟩:=d2 j L O;obtain⟨i,Q,M,R⟩:=By.gI (λa c=>(l a c).2.1.dv) P;have I:((j_ g).map (dD g (Su.born N lz))++(j_ g).map dq).length<=34:=by have:=n.m16;simp[j_];omega
 have Y:=lT g g.M;have e3:g.M*g.R<=16*4096:=TG n.m16 (aA.iJ n);exact⟨i,Q,aa,aa⟩
theorem pK[Lo]{w:QA}{Z:bm}{b:By}(f:g.ok)(h:qA g N b)(j:5<=N/\N<=2048)(k:Z.N=N/\Z.lz=lz)(o:de w Z g (oj g N lz (qz g N (Su.born N lz) b)) (Su.born N lz) false):
  Inv w Z g none om 100000000000 (oj g N lz (qz g N (Su.born N lz) b)) (Su.born N lz):=by
 obtain⟨l,q,n⟩:=pJ f h j.2 lz;refine⟨o,l,Su.oh f j lz,λm=>?_,λm _ e=>absurd rfl e,λ_=>q.kO,⟨f,l.gd.N,λm v t i=>?_,λv i=>?_,rfl,⟨(by show 1+100000000000<=4611686018427387904;decide),QE _,(by show 1+100000000000<=4611686018427387904;decide)⟩,QO _,λp r=>(by cases r),ZI⟩,(by show 1+100000000000<=4611686018427387904;decide),⟨rfl,rfl,rfl⟩,k.1.symm,k.2.symm⟩
 .rw [Eg];split<;>rfl
 .obtain ⟨s,c,d,a⟩:=n m v i;rw[h.dv m J]at c;obtain rfl:=RM c;rw[al J]at d a;exact⟨by rw[d];exact QE _,by have:(Dk.fresh (1+g.R)).cn=0:=rfl;show v.d.cn+100000000000<_;have a:v.d.cn<=(Dk.fresh (1+g.R)).cn+100000:=a;omega⟩
 .obtain ⟨s,c,d,a⟩:=n g.M v i;rw[h.dv g.M J]at c;obtain rfl:=RM c;rw[ak rfl]at d a;exact⟨by rw[d];exact QE _,by have:(Dk.fresh (2+N)).cn=0:=rfl;show v.d.cn+100000000000<_;have a:v.d.cn<=(Dk.fresh (2+N)).cn+100000:=a;omega⟩
end
end
end Go.Proofs.YtbimjlmclegaeaaGreat
