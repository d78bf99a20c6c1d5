/- TopWhole: a member replaced and rebuilt is whole, and any other may fail then; part 3 of 6. Conditions: none. -/
import Derived.Test.YtbimjlmclegaeaaGreatP1
namespace Go.Proofs.YtbimjlmclegaeaaGreat
set_option linter.all false
set_option maxRecDepth 1000000
set_option maxHeartbeats 8000000
open Go.RowKit Go.Proofs.Tryz
open Go renaming World->QL,World->M,Value->QN,results->RV,Ending->SG,Addr->TF,TypeId->TI,MapEntry->TO,callFunc->UY
open Go.IntKind renaming i64->QQ,u64->VY,u8->ZN
open List renaming length_append->RE,length_map->RL,getElem?_map->RU,mem_map->SA,length_cons->SQ,mem_singleton->TC,append_assoc->TK,mem_append->TV,map_cons->UC,range->UD,mem_range->UJ,append_nil->UK,mem_cons->UR,range_succ->UW,getElem_map->VO,length->WD,length_nil->WG
open Go.RowKit renaming Hid->RH,Below->SM
open Option renaming map_some->RJ,getD_some->TQ
open Nat renaming zero_add->RQ,mod_eq_of_lt->SL,xor_assoc->XV,succ_mul->YI
open Go.World renaming size_setCell->SE
open Go.Value renaming slice->SF,int->SU,ownBlock->XA
open Bool renaming false_eq_true->SX,and_eq_true->VX
open Option.some renaming injEq->SZ
open Go.Instr renaming mapUpdate->TN
open Go.Proofs.Tryz renaming underlying41->UX,prog->VW
open Go.Act renaming eval->WH
open _root_.Array renaming getElem?_eq_none->XB,getElem?_modify->XD
open Go.Exit renaming inBlock->XY
def VF:=@Obj.cells.inj
def VG:=@Nat.add_sub_cancel_left
def WS:=@List.mem_flatMap
def XI:=@leaves_cons
def YS:=@List.mem_flatten
def YZ:=@List.perm_append_comm
def ZC:=@List.mem_append_right
def ZH:=@Nat.sub_le
variable {w W z:World}{n m k i j r C:Nat}{c:Int}{v x y:Value}{T:List Nat}{p:Addr}{P:Option Addr}{A:Array Value}{d:Bool}{S Q X:Nat->Prop}{t:TypeId}{L:List Value}{O:Obj}{f:aO}{F:dj}{g:au}{K:bp}{l:List Pt}{D:Dk}{U:Dv}{b:By}{o:Ro}{s:Rs}
theorem LK(w:M)(k:Nat)(a b c:QN):Out (λj=>j=k) w (((w.setCell (R k 0) a).setCell (R k 1) b).setCell (R k 2) c):=
 (((Out.refl (λj=>j=k) w).setCell (p:=R k 0) (λ_=>rfl) a).setCell (p:=R k 1) (λ_=>rfl) b).setCell (p:=R k 2) (λ_=>rfl) c
def mF(L a:Nat)(v:QN)(l:List (Nat × Nat))(e:Nat × Nat->QN)(f:Nat × Nat->Nat->Nat)(p:Nat × Nat)(w b:M):Prop:=
 ∃c d,(d++ [p]).Perm l/\bd b L a c d e f/\Out (LZ L a v) w b/\c.ownBlock=v.ownBlock
theorem Dg{w u c g:M}{l j:List (Nat × Nat)}{C:Nat × Nat->QN}{K:Nat × Nat->Nat->Nat}{p:Nat × Nat}(h:bd w n m v l C K)(L:ar w u)(D:(j++ [p]).Perm l)(E:cP c n 2 y j)(P:Out (λk=>k=n\/v.ownBlock=some k) u c)(O:y.ownBlock=v.ownBlock)(F:c.heap[n]?=(u.setCell (R n 2) y).heap[n]?)(o:Out (λk=>k=m\/k=n) c g)(x:QN)(z:g.heap[n]?=(c.setCell (R n 0) x).heap[n]?)(Q:PM g m λq=>if q=p then none else if q∈l then some (C q)else none):mF n m v l C K p w g:=by
 have T:n<w.heap.size:=QY w _ h.c1;obtain⟨f1,f2⟩:=h.Db;have i:u.heap[n]?=w.heap[n]?:=L.block n T;have G:Out (LZ n m v) w c:=(Out.af (S:=LZ n m v) L).trans P λk _ e=>e.elim .inl λe=>.inr (.inr e);have r:Out (LZ n m v) w g:=G.trans o λk _ e=>e.elim (λe=>.inr (.inl e)) .inl;have s:∀k,y.ownBlock=some k->k≠n/\k≠m:=λk A=>f2 k (by rw[<-O];exact A);obtain⟨H,U⟩:=h.row;have d:∀a,a≠0->a≠2->g.cell? (R n a)=w.cell? (R n a):=λa V W=>by rw[QZ (w:=c.setCell (R n 0) x) z,VQ _ _ _ _ (λe=>V (by injection e with _ e3;exact e3.symm)),QZ (w:=u.setCell (R n 2) y) F,VQ _ _ _ _ (λe=>W (by injection e with _ e3;exact e3.symm))];exact QZ i
 have t:∀a,g.frozen? (R n a)=w.frozen? (R n a):=λa=>by rw[cE z a,WA,cE F a,WA];exact cE i a
 have f:(j++ [p]).Nodup:=(D.nodup_iff).2 h.mB;rw[YK]at f;obtain⟨X,N,Z⟩:=f;have b:∀q,q∈l↔q∈j\/q=p:=λq=>by rw[<-D.mem_iff];simp
 refine⟨y,j,D,⟨?_,(d 1 ai ai).trans h.c1,(d 3 ai ai).trans h.c3,⟨?_,?_,?_,E.ne⟩,λa=>(t a).trans (h.fy a),Q.congr λq=>?_,λq B=>⟨h.eG r (h.iQ q ((b q).2 (.inl B))).1,(h.iQ q ((b q).2 (.inl B))).2⟩,X⟩,r,O⟩
 .rw [z,World.setCell];simp only[World.setCell,XD,F,i,U];exact⟨_,rfl⟩
 .rw [QZ (w:=c.setCell (R n 0) x) z,VQ _ _ _ _ (λe=>by injection e with _ e3;cases e3)];exact E.cell
 .rw [t];exact h.fy 2
 .exact o.own E.own λk A e=>e.elim (s k A).2 (s k A).1
 .by_cases e:q=p
  .have:q∉j:=λB=>Z q B p aJ e;simp[e,e▸this]
  .simp [e,b]
theorem bd.out{w w1:M}{l:List (Nat × Nat)}{r:Nat × Nat->QN}{s:Nat × Nat->Nat->Nat}(h:bd w n m v l r s)(c:Out S w w1)(d:¬S n)(x:¬S m)(y:∀k,v.ownBlock=some k->¬S k)(z:∀k o,S k->w.heap[k]?=some o->ty o≠5):bd w1 n m v l r s:=by obtain⟨f,g⟩:=h.row;have i:w1.heap[n]?=w.heap[n]?:=(c.heap g d).trans g.symm;refine⟨⟨f,c.heap g d⟩,(QZ i).trans h.c1,(QZ i).trans h.c3,h.lB.out c d y,λo=>(cE i o).trans (h.fy o),h.map.out c x,λq t=>?_,h.mB⟩;refine⟨?_,(h.iQ q t).2⟩;obtain⟨a,j,A,p⟩:=(h.iQ q t).1;refine⟨a,j,A,p.imp id ?_⟩;rintro⟨b,o,f,B,C,u,p⟩;exact⟨b,o,f,B,C,c.heap u λe=>z b _ e u rfl,p⟩
theorem mF.Db{L b t:Nat}{l:List (Nat × Nat)}{c:Nat × Nat->QN}{d:Nat × Nat->Nat->Nat}{p:Nat × Nat}(f:bd w L b v l c d)(h:mF L b v l c d p w W)(m:Out (λk=>k=t) W z)(y:w.heap.size<=t)(g:W.heap[t]?=some O)(i:ty O≠5):mF L b v l c d p w z:=by
 obtain⟨o,q,r,s,u,n⟩:=h;have A:L<w.heap.size:=QY w _ f.c1;have x:=f.map.lt;have j:=λk a=>(bm f.lB.own (k:=k) a).1;refine⟨o,q,r,s.out m (λe=>J) (λe=>J) (λk a e=>?_) (λk B e a=>?_),u.trans m λk a e=>J,n⟩
 .rw [n]at a;have:=j k a;omega
 .subst e;rw[g]at a;cases a;exact i
theorem pd(L j:Nat)(v:QN)(l:List (Nat × Nat))(H:Nat × Nat->QN)(a3:Nat × Nat->Nat->Nat)(R:QN)(w:QL)(h:bd w L j v l H a3)(h0:w.cell? (ag L 0)=some R)(a4:l.length<=100000)(K:0<l.length):
  aD 200 #[aq L] w λe a8=>∃p,aK e (.tuple #[.agg #[ae p.1,ae p.2,H p],.bool true])/\mF L j v l H a3 p w a8:=by
 have a5:L<w.heap.size:=QY w _ h.c1;have a9:=ad (λ(u:QL) (b0:ar w u)=>Da L 2 v l u (h.lB.below b0) a4 K);obtain⟨b9,c0,rfl,-⟩:=av h.lB.own;obtain⟨N,a6⟩:=ah l.length;have m:=h.lB.cell;have n:=h.fy;have c1:=h.c1;rw[a6]at m a4 K;have r:=ad h;clear h a6;have b1:=λ(W:QL) (a b:Nat)=>Ih (.agg #[ae a,ae b]) W;go_enter func200,ntmps200;go_wp2_with fail;refine(a9 _ (aI aj _)).mono ?_;rintro e c ⟨⟨s,f⟩,c2,l2,rfl,g1,I,O,g4,M,g6⟩;have g:ar w (w.alloc (Obj.cells #[SU QQ 0,SU QQ 0,SF none 0 0] 206)):=aI aj _;have P:w.heap.size<(w.alloc (Obj.cells #[SU QQ 0,SU QQ 0,SF none 0 0] 206)).heap.size:=aJ;have Y:=λk J=>(bm r.lB.own (k:=k) J).1;obtain⟨f1,f2⟩:=r.Db;have x:c.heap[w.heap.size]?=some (Obj.cells #[SU QQ 0,SU QQ 0,SF none 0 0] 206 (0,0)):=(O.block _ P λe=>e.elim (λe=>aa) λe=>by have:=Y _ e;omega).trans (QM _ _);obtain⟨t1,t2,t3⟩:=cr x;obtain⟨a7,b2,-⟩:=kp g L a5;have s0:=((M 0 ai).1.trans (a7 0)).trans h0;have s1:=((M 1 ai).1.trans (a7 1)).trans c1;have c3:∀o,c.frozen? (ag L o)=false:=λo=>by
  by_cases e:o=2
  .rw [e];exact I.fy
  .exact ((M o e).2.trans (b2 o)).trans (n o)
 have a0:L<c.heap.size:=RS a5 (QO g.size O.size);have Q:PM c j λq=>if q∈l then some (H q)else none:=(r.map.out (Out.af (S:=λ_=>False) g) id).out O λe=>e.elim f1 λe=>(f2 j e).2 rfl
 have a1:=ad Q;have G:=bX g1 I O g4 g6;clear g1 I O g4 M g6 Q n h0 m;simp only[pv]at*;go_wp2_with fail;obtain⟨X,T⟩:=ah ((c.setCell {block:=L,off:=0} (SU QQ ↑f)).alloc (Obj.cells #[SU QQ ↑s,SU QQ ↑f] 289));have y:(c.setCell {block:=L,off:=0} (SU QQ ↑f)).heap.size=c.heap.size:=SE _ _ _;have z:SM c.heap.size (c.setCell {block:=L,off:=0} (SU QQ ↑f)) X:=by rw[<-T,<-y];exact aI aj _
 have b3:c.heap.size<X.heap.size:=by rw[<-T];simp
 have h4:X.heap[c.heap.size]?=some (Obj.cells #[SU QQ ↑s,SU QQ ↑f] 289 (0,0)):=by rw[<-T,<-y];exact QM _ _
 obtain⟨q1,q2,q3⟩:=cr h4;have A:X.heap[L]?=(c.setCell {block:=L,off:=0} (SU QQ ↑f)).heap[L]?:=z.block L a0;have u1:X.cell? (ag L 1)=some (.map (some j)):=by rw[QZ A,VQ _ _ _ _ (λe=>by injection e with _ e3;cases e3)];exact s1
 have d:Out (λk=>k=L) c X:=((Out.refl (λk=>k=L) c).setCell (p:=ag L 0) (λ_=>rfl) _).trans (Out.af (S:=λ_=>False) (by show SM _ _ _;rw[y];exact z)) λ_ _ e=>e.elim;have i:X.heap[w.heap.size]?=some (Obj.cells #[SU QQ 0,SU QQ 0,SF none 0 0] 206 (0,0)):=(d.block _ t3 λe=>aa).trans x;have B:=a1.out.out d f1;have U:(s,f)∈l:=(G.1.mem_iff).1 aJ;have C:=hc (B.out (Out.af (S:=λ_=>False) (aV aj)) id) 282 41 aU false underlying282 (z41 _) (s,f);rw[ak U]at C;simp only[pv,TQ,if_false,SX]at C;obtain⟨b4,b5,D⟩:=(r.iQ _ U).1.form;rw[D]at C;have a2:=ad D;clear D;have E:ar X X.drew.drew:=aV (aV aj);obtain⟨w6,e6,p6,o6,t6,F⟩:=qo (B.out (Out.af (S:=λ_=>False) E) id) 282 0 41 underlying282 289 (s,f);simp only[pv]at e6;have b6:=r.map.lt;have V:∀k,k≠j->w6.heap[k]?=X.heap[k]?:=λk J=>by rw[F];exact TU J
 have Z:Out (λk=>k=j\/k=L) c w6:=by rw[F];exact(d.mono λ_ _ e=>.inr e).trans ((Out.af (S:=λk=>k=j) E).wq (λ_=>rfl) o6) λk _ e=>.inl e
 obtain⟨z1,z2,z3⟩:=cr ((V w.heap.size aa).trans i);obtain⟨z4,z5,z6⟩:=cr ((V c.heap.size aa).trans h4);have b7:=ad ((V w.heap.size aa).trans i);have b8:=ad (Dg r g G.1 G.2.1 G.2.2.1 G.2.2.2.1 G.2.2.2.2 Z (ae f) ((V L (λe=>f1 e.symm)).trans A) p6);clear V Z F p6;clear B d A h4 i x P g z E;rw[T];clear T;go_wp2_with fail;go_region;go_wp2_with fail;go_region
 all_goals go_wp2_with fail
 (try simp only[XY,Exit.then])
 refine RB (v:=.tuple #[.agg #[ae s,ae f,.slice b4 128 b5],.bool true]) ?_ rfl ⟨(s,f),by rw[a2.out],?_⟩
 .rw [UP rfl];go_simp
 .refine mF.Db r b8 (t:=w.heap.size) ?_ (QP _) b7 ai;exact LK _ _ _ _ _
theorem xg(L c:Nat)(d:Nat × Nat->QN)(f:Nat × Nat->Nat->Nat)(v:QN)(w:M)(h:bd w L c v [] d f):
  aD 200 #[H L] w λe g=>aK e (.tuple #[.agg #[Y 0,Y 0,aU],.bool false])/\Out (λk=>k=L) w g:=by
 have i:L<w.heap.size:=QY w _ h.c1;obtain⟨j,l,rfl,-⟩:=av h.lB.own;have a:=h.lB.cell;have b:=h.fy;have c3:=h.c3;simp only[WG]at a;go_enter func200,ntmps200;go_wp2_with fail
 (try simp only[XY,Exit.then])
 refine RB (v:=.tuple #[.agg #[Y 0,Y 0,aU],.bool false]) ?_ rfl ⟨rfl,?_⟩
 .rw [UP rfl];go_simp
 .exact (((Out.refl (λk=>k=L) w).setCell (p:=R L 2) (λ_=>rfl) _).setCell (p:=R L 3) (λ_=>rfl) _).alloc _
theorem Dh{a:Array TO}{e:TO}(h:e∈a.toList)(q:Nat × Nat)(b:e.key=pv q):ty (.map a n)=1000002:=by simp only[ty];rw[ak];rw[XN];exact⟨e,h,by rw[b];rfl⟩
theorem cP.fn[Lo]{l:List (Nat × Nat)}(h:cP w n m v l)(b:Fr T aF w W)(a:W.heap[n]?=w.heap[n]?)(c:T.contains 289=false):cP W n m v l:=
 ⟨(QZ a).trans h.cell,(cE a m).trans h.fy,b.own h.own c λ_ _=>id,h.ne⟩
theorem bd.fn[Lo]{l:List (Nat × Nat)}{g:Nat × Nat->QN}{r:Nat × Nat->Nat->Nat}(h:bd w n m v l g r)(y:l≠[])(d:Fr T aF w W)(z:T.contains 286=false)(A:T.contains 289=false)(B:T.contains 1000002=false)(C:T.contains 5=false):bd W n m v l g r:=by
 obtain⟨D,j⟩:=h.row;have b:W.heap[n]?=w.heap[n]?:=(d.hp j z).trans j.symm;refine⟨⟨D,b.trans j⟩,(QZ b).trans h.c1,(QZ b).trans h.c3,h.lB.fn d b A,λo=>(cE b o).trans (h.fy o),?_,λp f=>⟨(h.iQ p f).1.fr d C,(h.iQ p f).2⟩,h.mB⟩;obtain⟨k,c,E,s,F,t⟩:=h.map;refine⟨k,c,d.hp E ?_,s,F,t⟩;obtain⟨p,f⟩:=WR l y;have this:(b_ p k.toList 0).map (·.2)=some (g p):=(t p).trans (ak f);cases m:b_ p k.toList 0 with
 |none=>rw[m]at this;cases this
 |some x=>obtain⟨i,u⟩:=x;obtain⟨e,G,_,_⟩:=jj p _ i u m;have a:=RF G;obtain⟨q,K⟩:=s e a;rw[Dh a q K];exact B
structure Ao(w:M)(L:Nat)(v:QN):Prop where
 row:∃cs,w.heap[L]? =some (N cs 286)
 c3:w.cell? (R L 3)=some aU
 lB:cP w L 2 v []
 fy:∀o,w.frozen? (R L o)=false
theorem bd.Gw{a:Nat × Nat->QN}{b:Nat × Nat->Nat->Nat}(h:bd w n m v [] a b):Ao w n v:=⟨h.row,h.c3,h.lB,h.fy⟩
theorem Ao.fn[Lo](h:Ao w n v)(c:Fr T aF w W)(d:T.contains 286=false)(e:T.contains 289=false):Ao W n v:=by obtain⟨f,b⟩:=h.row;have a:W.heap[n]?=w.heap[n]?:=(c.hp b d).trans b.symm;exact⟨⟨f,a.trans b⟩,(QZ a).trans h.c3,h.lB.fn c a e,λo=>(cE a o).trans (h.fy o)⟩
theorem rf(L:Nat)(v:QN)(w:M)(h:Ao w L v):
  aD 200 #[H L] w λe c=>aK e (.tuple #[.agg #[Y 0,Y 0,aU],.bool false])/\Out (λk=>k=L) w c:=by
 have d:L<w.heap.size:=QY w _ h.c3;obtain⟨f,g,rfl,-⟩:=av h.lB.own;have a:=h.lB.cell;have b:=h.fy;have c3:=h.c3;simp only[WG]at a;go_enter func200,ntmps200;go_wp2_with fail
 (try simp only[XY,Exit.then])
 refine RB (v:=.tuple #[.agg #[Y 0,Y 0,aU],.bool false]) ?_ rfl ⟨rfl,?_⟩
 .rw [UP rfl];go_simp
 .exact (((Out.refl (λk=>k=L) w).setCell (p:=R L 2) (λ_=>rfl) _).setCell (p:=R L 3) (λ_=>rfl) _).alloc _
def LL[Lo](B:Nat)(b:By)(c:Ro)(l:List Pt)(w:M)(e:SG)(d:M):Prop:=
 ∃a:List Pt,a.Perm l/\aK e (gV (b.run ((fM c a).map ha)).2.1 (b.run ((fM c a).map ha)).2.2)/\aB d B (b.run ((fM c a).map ha)).1/\Fr TB aF w d
def ga(p:Pt):Nat × Nat:=(p.1,p.2.1)
def dZ(a:Nat × Nat->Nat->Nat)(q:Nat × Nat):Pt:=(q.1,q.2,a q)
theorem uQ{a:Nat × Nat->Nat->Nat}:∀{l:List Pt},(∀p,p∈l->a (ga p)=p.2.2)->(l.map ga).map (dZ a)=l
 | [],_=>rfl
 |p::l,h=>by rw[UC,UC,uQ λq b=>h q (SY _ b)];congr 1;obtain⟨m,r,f⟩:=p;show(m,r,a (m,r))=_;have:=h (m,r,f) (SO ..);simp only[ga]at this;rw[this]
theorem bd.below{l:List (Nat × Nat)}{a:Nat × Nat->QN}{b:Nat × Nat->Nat->Nat}(h:bd w n m v l a b)(c:ar w W):bd W n m v l a b:=
 h.out (S:=λ_=>False) (Out.af c) id id (λ_ _=>id) λ_ _ e=>e.elim
structure xh(w0:M)(L:Nat)(l:List Pt)(k:Nat)(wr:M):Prop where
 du:ar w0 wr
 new:w0.heap.size<=L
 lift:∃hm v lk dv da,bd wr L hm v lk dv da/\lk.Perm ((l.take k).map ga)/\(∀p,p∈l.take k->da (ga p)=p.2.2)/\w0.heap.size<=hm/\∀x,v.ownBlock=some x->w0.heap.size<=x
 c0:wr.cell? (R L 0)=some (Y 0)
theorem uR{p:Pt}(c:l[k]?=some p)(d:(l.map ga).Nodup):ga p∉(l.take k).map ga:=by intro f;obtain⟨q,g,e⟩:=SA.1 f;obtain⟨i,h,a⟩:=List.getElem_of_mem g;rw[VN]at h;rw[List.getElem_take]at a;obtain⟨j,b⟩:=RC.1 c;refine WQ.1 d i k (by rw[RL];omega) (by rw[RL];exact j) J ?_;rw[VO,VO,a,b,e]
theorem Gx{α:Type}{l:List α}{x:α}(h:l[k]?=some x):l.take (k+1)=l.take k++ [x]:=by obtain⟨a,e⟩:=RC.1 h;rw[List.take_succ_eq_append_getElem a,e]
theorem xh.next{f wr r:M}{p:Pt}{g:List (Nat × Nat)}{i:Nat × Nat->Nat->Nat}(h:xh f n l k wr)(s:l[k]?=some p)(B:(l.map ga).Nodup)(t:g.Perm ((l.take k).map ga))(C:∀p,p∈l.take k->i (ga p)=p.2.2)(u:f.heap.size<=m)(w:∀x,v.ownBlock=some x->f.heap.size<=x)(y:ar wr W)(D:n<wr.heap.size)(a:pb n m v g i (p.1,p.2.1) p.2.2 W r):xh f n l (k+1) r:=by
 obtain⟨E,F,j,z,G,K,L,O⟩:=a;have c:=uR s B;have d:(p.1,p.2.1)∉g:=λe=>c (t.mem_iff.1 e);rw[al d]at z;have b:=via h.du y;have A:=Gx s;refine⟨b.trans (L.below (λx _ e=>?_) b.size),h.new,⟨m,E,F,j,_,G,?_,λq a=>?_,u,λx o=>(O x o).elim (w x) λo=>QO b.size o⟩,?_⟩
 .rcases e with e|e|e
  .rw [e];exact h.new
  .rw [e];exact u
  .exact w x e
 .rw [A,SR];exact z.trans (t.append_right _)
 .rw [A]at a;show(if ga q=(p.1,p.2.1)then p.2.2 else i (ga q))=q.2.2;rcases TV.1 a with a|a
  .rw [al,C q a];intro e;exact c (SA.2 ⟨q,a,e⟩)
  .simp only[TC]at a;subst a;exact ak rfl
 .rw [K,(kp y n D).1,h.c0]
structure Jv[Lo](w0:M)(B L:Nat)(b:By)(ro:Ro)(l:List Pt)(hm:Nat)(dv:Nat × Nat->QN)(da:Nat × Nat->Nat->Nat)(n:Nat)(wr:M):Prop where
 bU:Fr TB aF w0 wr
 new:w0.heap.size<=L/\w0.heap.size<=hm
 left:∃(ps:List Pt) (v:QN) (lk:List (Nat × Nat)),lk.length=n/\(ps++lk.map (dZ da)).Perm l/\aB wr B (b.run ((fM ro ps).map ha)).1/\(b.run ((fM ro ps).map ha)).2.2=0/\(lk≠[]->bd wr L hm v lk dv da)/\(lk= []->Ao wr L v)/\∀x,v.ownBlock=some x->w0.heap.size<=x
theorem pf(a:Ro)(l b:List Pt):fM a (l++b)=fM a l++fM a b:=List.filter_append ..
theorem yJ{l:List (Nat × Nat)}{c:Nat × Nat->QN}{d:Nat × Nat->Nat->Nat}(h:bd w n m v l c d):∃x,w.cell? (R n 0)=some x:=by obtain⟨e,a⟩:=h.row;have b:=(cr a).1 1;rw[h.c1]at b;obtain⟨f,-⟩:=RM.1 b.symm;exact⟨e[0],((cr a).1 0).trans (SH J)⟩
theorem bd.cg{l:List (Nat × Nat)}{g:Nat × Nat->QN}{r:Nat × Nat->Nat->Nat}(h:bd w n m v l g r)(s:l≠[]):∀k o,LZ n m v k->w.heap[k]?=some o->TB.contains (ty o)=false:=by
 intro k o t d;rcases t with e|e|e
 .subst e;obtain⟨O,y⟩:=h.row;rw[y]at d;cases d;rfl
 .subst e;obtain⟨j,c,z,A,P,B⟩:=h.map;rw[z]at d;cases d;obtain⟨p,C⟩:=WR l s;have this:(b_ p j.toList 0).map (·.2)=some (g p):=(B p).trans (ak C);cases m:b_ p j.toList 0 with
  |none=>rw[m]at this;cases this
  |some x=>obtain⟨i,u⟩:=x;obtain⟨e,D,_,_⟩:=jj p _ i u m;have a:=RF D;obtain⟨q,E⟩:=A e a;rw[Dh a q E];rfl
 .have F:=h.lB.own;rcases F.2 with⟨f,-⟩|⟨b,G,K,f,-,L,-⟩
  .rw [f]at e;cases e
  .rw [f]at e;simp only[XA,SZ]at e;subst e;rw[L]at d;cases d;rfl
theorem uS[Lo](R B:Nat)(l7:Option TF)(g:au)(l8:Nat)(t:Ro)(b:By)(l:List Pt)(pv:QN)(w:QL)(h:ff w R B l7 g l8 t)(f:aB w B b)(A:fc w pv l)(l9:g.ok)(o5:b.N=g.M+1)(i9:∀p,p∈l->p.1<g.M/\p.2.1<g.R)(e8:(l.map ga).Nodup)(e9:l.length<=50000)(M:∀m v,m<g.M->b.dv m=some v->1+g.R<=v.d.n/\v.d.cn+l.length<1000000000000):
  Calls VW 136 #[.pointer (some ⟨R,0,none⟩),pv] w (LL B b t l w):=by
 obtain⟨C,m0⟩:∃C,w.alloc (.cells #[.int .i64 0,.int .u16 0] 172)=C:=⟨_,rfl⟩;have T:SM w.heap.size w C:=by rw[<-m0];exact aI (SV _ _) _
 have c8:C.heap[w.heap.size]?=some (.cells #[.int .i64 0,.int .u16 0] 172 (0,0)):=by rw[<-m0];exact QM _ _
 obtain⟨D,a9⟩:∃D,w.heap.size=D:=⟨_,rfl⟩;rw[a9]at c8;have I:=RI (And.intro T (And.intro c8 (And.intro f.low (And.intro (h.below T) (And.intro (f.below T) (A.below T))))));have o8:D<C.heap.size:=Z_ c8;obtain⟨o9,r4,x1,x2⟩:=(h.below T).aL;obtain⟨k0,f0,z0⟩:=cr x1;obtain⟨n,m1⟩:∃n,l.length=n:=⟨_,rfl⟩;obtain⟨r5,r6,rfl,m2,j0⟩:=A.below T;have j1:=RI j0;have h6:=RI m1;rw[m1]at e9 M m2|-;have b1:=RI (And.intro l9 (And.intro o5 (And.intro i9 (And.intro e8 M))));have m3:=RI (λm (h7:m<g.M) W (f:SM C.heap.size C W)=>oP R B l7 g l8 t m W ((h.below T).below f) h7 l9.m16);have m4:=RI (λW=>ho (g.M:Nat) (g.c:Nat) (g.s:Nat) W (au.fZ l9));have m5:RH (SM C.heap.size C C):=SV _ _;have m6:=RI x1;clear h f A x1 x2 j0 m1 c8 T o5 i9 e8 M;go_enter Tryz.func136,Tryz.ntmps136;go_wp2
 try simp only[m0,a9]
 go_loopw [17] (λi wr=>∃k:Nat,i=.int .i64 k/\k<=n/\RH (SM C.heap.size C wr)) (λi _=>n-(intOf i).toNat)
 case atStart=>exact⟨0,rfl,QX _,m5⟩
 case round=>
  obtain⟨k,rfl,m7,q⟩:=hrel;obtain⟨y1,y2,y3⟩:=kp q.out R z0;by_cases b4:k<n
  .have j2:=RI b4;have j3:(k:Int)<(n:Int):=by omega
   obtain⟨p,A⟩:∃p,l[k]?=some p:=⟨_,RA (by rw[h6.out];exact b4)⟩;obtain⟨b5,p0,F,G,rfl,p1,p2⟩:=j1.out.resolve_left (λe=>by rw[e]at A;cases A);obtain⟨q1,q2,u,q3,q4⟩:=p2 k p A;obtain⟨o6,o7,c7,rfl⟩:=q4.form;have K:wr.heap[b5]?=some (.cells F 206 G):=(q.out.block b5 (Z_ p1)).trans p1;have c1:=(RD wr b5 _ F 206 G K).trans q1;have c2:=(RD wr b5 _ F 206 G K).trans q2;have c3:=(RD wr b5 _ F 206 G K).trans q3;obtain⟨h7,l6⟩:=b1.out.2.2.1 p (RF A);have j4:=RI (λW f=>m3.out p.1 h7 W f);obtain⟨m,c9⟩:∃m,p.1=m:=⟨_,rfl⟩;obtain⟨r,d0⟩:∃r,p.2.1=r:=⟨_,rfl⟩;rw[c9]at c1 h7 j4;rw[d0]at c2 l6;have q5:(r:Int)<(g.s:Int)*(g.c:Int):=by rw[gR];exact_mod_cast l6
   have d1:decide ((r:Int)<0)=false:=by simp
   have d2:decide ((g.s:Int)*(g.c:Int)<=(r:Int))=false:=by simp;omega
   clear p2 q1 q2 q3 q4 K A;go_wp2;go_region_held3(λY=>Y.cell? ⟨wr.heap.size,0,none⟩=some (.int .i64 (m:Nat))/\Y.cell? ⟨wr.heap.size,1,none⟩=some (.int .i64 (r:Nat))/\Y.cell? ⟨R,1,none⟩=some (.int .i64 (g.M:Nat))/\Y.cell? ⟨R,2,none⟩=some (.int .i64 (g.c:Nat))/\Y.cell? ⟨R,3,none⟩=some (.int .i64 (g.s:Nat))) ((simp[*,go_sem];done)) (first|(go_at_call 163;refine(j4.out _ (via q.out (by go_grown))).mono ?_;rintro e y ⟨rfl,rfl⟩)|(go_at_call 27;refine(m4.out _).mono ?_;rintro e y ⟨rfl,f⟩;obtain⟨p1,p2,p3⟩:=kp f wr.heap.size (by go_size);obtain⟨p4,p5,p6⟩:=kp f R (by go_size);have j5:RH (SM C.heap.size C y):=via (via q.out (by go_grown)) f))
   all_goals go_wp2
   all_goals exact⟨⟨k+1,by go_num,j2.out,j5⟩,by have:=j2.out;simp[intOf];omega⟩
  .obtain rfl:n=k:=by omega
   obtain⟨h8,rfl⟩:∃h8:QL,h8=wr:=⟨_,rfl⟩;go_wp2_with fail;refine(yI h8).mono ?_;rintro e w2 ⟨L,h7,rfl,b6,f3,q6,j6,j7⟩;have j8:RH (xh h8 L l 0 w2):=⟨j7,q6,⟨h7,_,[],_,_,b6,YG _,λp A=>by simp at A,j6,λx d7=>by cases d7⟩,f3⟩;have m8:=RI (show L<w2.heap.size from QY _ _ f3);clear b6 f3 j6 j7 y1 y2 y3;go_wp2;go_loopw [53] (λi h9=>∃k:Nat,i=.int .i64 k/\k<=n/\RH (xh h8 L l k h9)/\L<h9.heap.size) (λi _=>n-(intOf i).toNat)
   case atStart=>exact⟨0,rfl,QX _,j8,m8.out⟩
   case round=>
    obtain⟨k,rfl,m7,f1,f4⟩:=hrel;by_cases b4:k<n
    .have j2:=RI b4;have j3:(k:Int)<(n:Int):=by omega
     obtain⟨p,A⟩:∃p,l[k]?=some p:=⟨_,RA (by rw[h6.out];exact b4)⟩;obtain⟨b5,p0,F,G,rfl,p1,p2⟩:=j1.out.resolve_left (λe=>by rw[e]at A;cases A);obtain⟨q1,q2,u,q3,q4⟩:=p2 k p A;obtain⟨o6,o7,c7,rfl⟩:=q4.form;have J:=via q.out f1.out.du;have K:wr.heap[b5]?=some (.cells F 206 G):=(J.block b5 (Z_ p1)).trans p1;have c1:=(RD wr b5 _ F 206 G K).trans q1;have c2:=(RD wr b5 _ F 206 G K).trans q2;have c3:=(RD wr b5 _ F 206 G K).trans q3;obtain⟨d,s⟩:=b1.out.2.2.1 p (RF A);have q7:=b1.out.1.m16;have m9:=au.g_ b1.out.1;obtain⟨O,v,a5,i0,j,l1,P,l3,l4,l5⟩:=f1.out.lift;have c:∀o,SM wr.heap.size wr (wr.alloc o):=λo=>aI (SV _ _) o;have f2:=λo=>uP L O v a5 i0 j p.1 p.2.1 (.slice (some ⟨o6,o7,none⟩) 128 c7) p.2.2 (wr.alloc o) (l1.below (c o)) (((kp (c o) L f4).1 0).trans f1.out.c0) ((q4.below J).eG.below (c o)) (by omega) (by omega) (λe=>uR A b1.out.2.2.2.1 (P.mem_iff.1 e)) (by have:=P.length_eq;rw[RL,VN]at this;omega);have f5:=RI (λo=>(f2 o).mono λe y h=>(⟨h.1,xh.next f1.out A b1.out.2.2.2.1 P l3 l4 l5 (c o) f4 h.2,h.2⟩:e=.returned (.int .u16 0)/\xh h8 L l (k+1) y/\pb L O v a5 j (p.1,p.2.1) p.2.2 (wr.alloc o) y));obtain⟨m,c9⟩:∃m,p.1=m:=⟨_,rfl⟩;obtain⟨r,d0⟩:∃r,p.2.1=r:=⟨_,rfl⟩;rw[c9]at c1 f5;rw[d0]at c2 f5;clear p2 q1 q2 q3 q4 K A f2 l1 P l3 l4 l5 c J d s c9 d0 j8;go_wp2_with fail;refine(f5.out _).mono ?_;rintro e y ⟨rfl,g1,g2⟩;have n0:=RI g1;have n1:L<y.heap.size:=QY _ _ g1.c0;clear g1 g2;go_wp2;exact⟨⟨k+1,by go_num,j2.out,n0,n1⟩,by have:=j2.out;simp[intOf];omega⟩
    .obtain rfl:n=k:=by omega
     obtain⟨h9,rfl⟩:∃h9:QL,h9=wr:=⟨_,rfl⟩;obtain⟨O,v,a5,i0,j,l1,P,l3,l4,l5⟩:=f1.out.lift;have j9:l.take n=l:=by rw[<-h6.out,UN]
     rw[j9]at P l3;have J:=via q.out f1.out.du;have d8:=q.out.size;have f6:RH (Jv C B L b t l O i0 j a5.length h9):=by
      refine⟨Fr.af J,⟨QO d8 f1.out.new,QO d8 l4⟩,[],v,a5,rfl,?_,I.out.2.2.2.2.1.below J,rfl,λ_=>l1,λe=>?_,λx d7=>QO d8 (l5 x d7)⟩
      .have:=P.map (dZ j);rw[uQ l3]at this;exact this
      .subst e;exact l1.Gw
     have n2:a5.length<=50000:=by rw[P.length_eq,RL,h6.out];exact e9
     obtain⟨q0,k1⟩:∃q0,a5.length=q0:=⟨_,rfl⟩;rw[k1]at f6 n2;clear l1 P l3 l4 l5 j9 J d8 k1;go_wp2
     go_loopg [] q0 (λgk wr=>RH (Jv C B L b t l O i0 j gk wr))
     case atStart=>exact f6
     case round=>
      have b3:=RI hrel;clear hrel f6 f1 f4;have n3:=b3.out.out.bU.hp I.out.2.1 rfl;obtain⟨d1,d2,d3⟩:=cr n3;have d7:=b3.out.out.bU.hp m6.out rfl;obtain⟨y1,y2,y3⟩:=cr d7;have d9:=RI (And.intro n3 d7);have i9:Lo.lo<=w.heap.size:=I.out.2.2.1;clear n3 d7;obtain⟨U,v,a5,i1,i2,i3,i4,i5,i6,i7⟩:=b3.out.out.left;by_cases V:a5= []
      .subst V;have n4:=RI (rf L v wr (i6 rfl));have n5:=RI (i6 rfl).row;have q:=RI (And.intro i2 (And.intro i3 i4));clear i1 i2 i3 i4 i5 i6 i7;have k2:¬D=L:=by have:=b3.out.out.new.1;omega
       go_wp2_with(go_at_call 200;refine n4.out.mono ?_;rintro e y ⟨rfl,i8⟩;obtain⟨d4,d5,d6⟩:=cr (i8.heap d9.out.1 k2);have n6:=RI i8;clear i8);have a0:Fr TB aF w y:=((Fr.af I.out.1).tr b3.out.out.bU).out n6.out λk m7 e=>by have:=b3.out.out.new.1;have:=I.out.1.size;omega
       have b0:=lu q.out.2.1 n6.out λk o e i8=>by subst e;obtain⟨r7,l6⟩:=n5.out;rw[l6]at i8;cases i8;rfl
       obtain⟨e1,e2,-⟩:=cl a0 b0 (n6.out.heap d9.out.1 k2) (RY a9) (by rw[<-a9];exact i9) (.int .i64 0) (.int .u16 0);refine RB (v:=.agg #[.int .i64 0,.int .u16 0]) (by simp[RV,Tryz.results136,go_sem];go_simp) rfl ⟨U,by simpa using q.out.1,?_,e2.below (aI (SV _ _) _),e1.alloc _⟩;rw[q.out.2.2];rfl
      .have b7:=RI (i5 V);obtain⟨x0,k3⟩:=yJ b7.out;have n7:a5.length<=50000:=by have:=i2.length_eq;rw[RE,RL,h6.out]at this;omega
       have n8:=RI (pd L O v a5 i0 j x0 wr b7.out k3 (by omega) (by have:a5.length≠0:=λe=>V (WX.1 e);omega));have q:=RI (And.intro i1 (And.intro i2 (And.intro i3 (And.intro i4 i7))));clear i1 i2 i3 i4 i5 i6 i7 k3 n7;have n9:=RI V;clear V;go_wp2_with fail;refine n8.out.mono ?_;rintro e y ⟨p,rfl,o0,P,g1,g2,g3,g4⟩;have a6:p∈a5:=g1.mem_iff.1 (by simp);have f7:dZ j p∈l:=q.out.2.1.mem_iff.1 (ZC _ (SA.2 ⟨p,a6,rfl⟩));obtain⟨b8,e0⟩:=b1.out.2.2.1 _ f7;have b9:=b7.out.eG g3 (b7.out.iQ p a6).1;have f8:¬LZ L O v D:=λe=>by
        have h1:=b3.out.out.new;rcases e with e|e|e
        .omega
        .omega
        .have:=q.out.2.2.2.2 D e;omega
       have f9:¬LZ L O v R:=λe=>by
        have h1:=b3.out.out.new;rcases e with e|e|e
        .omega
        .omega
        .have:=q.out.2.2.2.2 R e;omega
       have Z:=g3.heap d9.out.1 f8;have H:=g3.heap d9.out.2 f9;have a0:Fr TB aF C y:=b3.out.out.bU.out g3 λk m7 e=>by
        have h1:=b3.out.out.new;rcases e with e|e|e
        .omega
        .omega
        .have:=q.out.2.2.2.2 k e;omega
       have b0:=lu q.out.2.2.1 g3 (b7.out.cg n9.out);have a2:P.length+1=a5.length:=by have:=g1.length_eq;rw[RE]at this;exact this
       have c0:=I.out.2.2.2.1.fr a0 rfl rfl rfl rfl;have a3:=RI (λW (f:SM y.heap.size y W)=>h_ R B l7 g l8 t p.1 p.2 W (c0.below f) b8 b1.out.1.m16);have Q:((U++ [dZ j p])++P.map (dZ j)).Perm l:=by refine List.Perm.trans ?_ q.out.2.1;rw[TK];refine List.Perm.append_left U ?_;refine(YZ).trans ?_;have:=g1.map (dZ j);rw[SR]at this;exact this
       have a7:∀x,o0.ownBlock=some x->C.heap.size<=x:=λx d7=>q.out.2.2.2.2 x (by rw[<-g4];exact d7);obtain⟨g0,c7,c4,-⟩:=id b9;rw[c4]at b9;have S:fM t (U++ [dZ j p])=fM t U++if t.down p.1 p.2=true then[]else[dZ j p]:=by rw[pf];congr 1;unfold fM;cases q8:t.down p.1 p.2<;>simp[dZ,q8]
       obtain⟨c5,a4⟩:∃c5,y.alloc (.cells #[.int .i64 (p.1:Nat),.int .i64 (p.2:Nat),.slice g0 128 c7] 206)=c5:=⟨_,rfl⟩;have c:SM y.heap.size y c5:=by rw[<-a4];exact aI (SV _ _) _
       have c6:c5.heap[y.heap.size]?=some (.cells #[.int .i64 (p.1:Nat),.int .i64 (p.2:Nat),.slice g0 128 c7] 206 (0,0)):=by rw[<-a4];exact QM _ _
       have g5:=RI (And.intro c c6);obtain⟨m,d⟩:∃m,p.1=m:=⟨_,rfl⟩;obtain⟨r,s⟩:∃r,p.2=r:=⟨_,rfl⟩;have a8:=c6;rw[d,s]at a8;obtain⟨c1,c2,c3⟩:=cr a8;cases e4:t.down p.1 p.2 with
       |true=>
        rw[e4]at a3 S;rw[if_pos rfl,UK]at S;have g6:=RI (show Jv C B L b t l O i0 j P.length c5 from⟨a0.then c,b3.out.out.new,U++ [dZ j p],o0,P,rfl,Q,by rw[S];exact b0.below c,by rw[S];exact q.out.2.2.2.1,λ_=>g2.below c,λe=>by subst e;exact(g2.below c).Gw,a7⟩);have q9:=RI (show P.length<gk by have:=q.out.1;omega);rw[d,s]at a3;rw[c4,d,s];rw[d,s]at a4;clear g1 g2 g3 g4 a6 f7 b8 e0 b9 f8 f9 Z H a0 b0 a2 c0 Q a7 c4 S c c6 a8 e4 d s;go_wp2_with(go_at_call 201;refine(a3.out _ g5.out.1).mono ?_;rintro e w4 ⟨rfl,rfl⟩)
        try simp only[a4]
        go_roundg P.length
        case rel=>exact g6.out
        case measure=>exact q9.out
       |false=>
        rw[e4]at a3 S;rw[if_neg (by decide)]at S;have r0:=b1.out.1;have e5:=λW (f:SM c5.heap.size c5 W)=>fo B p.1 (1+p.2) (.slice g0 128 c7) (j p) (b.run ((fM t U).map ha)).1 W (b0.below (via c f)) (by rw[By.fU,b1.out.2.1];exact Nat.lt_succ_of_lt b8) (b9.below (via c f)) (λv r1=>by
         obtain⟨v0,e1,e2,e3⟩:=By.gw gv r1;obtain⟨q1,q2⟩:=b1.out.2.2.2.2 p.1 v0 b8 e1;have h1:((fM t U).map ha).length<=n:=by rw[RL];refine QO (VS ..) ?_;have:=q.out.2.1.length_eq;rw[RE,h6.out]at this;omega
         have h2:p.2<g.R:=e0;omega)
        have e6:=By.ji (b:=b) (l:=(fM t U).map ha) (a:=ha (dZ j p)) q.out.2.2.2.1;have e1:(fM t (U++ [dZ j p])).map ha=(fM t U).map ha++ [ha (dZ j p)]:=by rw[S,SR];rfl
        rw[<-e1]at e6;have e7:RH ((b.run ((fM t (U++ [dZ j p])).map ha)).2.2≠0->b.run ((fM t ((U++ [dZ j p])++P.map (dZ j))).map ha)=b.run ((fM t (U++ [dZ j p])).map ha)):=λe=>by rw[pf t (U++ [dZ j p]),SR,By.oW e]
        unfold zM at e5;obtain⟨X,o1⟩:∃X,b.run ((fM t (U++ [dZ j p])).map ha)=X:=⟨_,rfl⟩;rw[o1]at e6 e7;obtain⟨b2,s2,g7⟩:=X;simp only[ha,dZ]at e6;simp only at e7;obtain⟨k4,g8,g9⟩:=e6;rw[<-k4,<-g8]at e5;rw[<-g8]at g9;have k5:=RI (λW (f:SM c5.heap.size c5 W)=>(e5 W f).mono λe w4 (h:_/\_/\_)=>(⟨h.1,⟨h.2.1,(Fr.af (via c f)).tr h.2.2⟩,((Fr.af f).tr h.2.2|>.hp c6 rfl)⟩:e=.returned (.int .u16 (g7:Nat))/\(aB w4 B b2/\Fr TB aF y w4)/\w4.heap[y.heap.size]?=some (.cells #[.int .i64 (p.1:Nat),.int .i64 (p.2:Nat),.slice g0 128 c7] 206 (0,0))));have o2:=RI (λW=>fq p.1 g7 W);have k6:=RI (And.intro o1 (And.intro g9 e7.out));have h3:=RI (And.intro Z H);have N:=RI (And.intro Q (And.intro a7 (And.intro a0 (And.intro g2 (And.intro Z (And.intro H a2))))));obtain⟨y4,y5,y6⟩:=cr ((c.block _ (Z_ H)).trans H);have k7:=(c.block _ (Z_ H)).trans H;have k8:=(c.block _ (Z_ Z)).trans Z;have r2:=RI (And.intro k7 k8);obtain⟨y7,y8,y9⟩:=cr ((c.block _ (Z_ Z)).trans Z);rw[d,s]at a3;rw[c4,d,s];rw[d,s]at a4;rw[d]at o2;obtain⟨a1,k9⟩:∃a1,1+r=a1:=⟨_,rfl⟩;have r3:QQ.wrap ((1:Int)+(r:Nat))=(a1:Nat):=by
         have h1:p.2<g.R:=e0;have h2:=au.g_ b1.out.1;have:(1:Int)+(r:Nat)=((a1:Nat):Int):=by omega
         rw[this];go_arith
        clear g1 g2 g3 g4 a6 f7 b8 e0 b9 f8 f9 Z H a0 b0 a2 c0 Q a7 c4 S c c6 a8 e4 e5 k4 g8 g9 o1 e7 e1 k7 k8;obtain⟨E,o3⟩:∃E,y.heap.size=E:=⟨_,rfl⟩;rw[o3]at k5 c1 c2 c3;have h4:=RI (λW (f:SM c5.heap.size c5 W)=>(k5.out W f).mono λe w4 h=>(⟨h.1,h.2.1,cr h.2.2⟩:e=.returned (.int .u16 (g7:Nat))/\(aB w4 B b2/\Fr TB aF y w4)/\(∀o,w4.cell? ⟨E,o,none⟩=(#[.int .i64 (p.1:Nat),.int .i64 (p.2:Nat),.slice g0 128 c7]:Array QN)[o]?)/\(∀o,w4.frozen? ⟨E,o,none⟩=false)/\E<w4.heap.size));rw[d,s,k9]at h4;clear k9;by_cases h0:g7=0
        .have g6:=RI h0;subst h0;go_wp2_with(go_at_call 201;refine(a3.out _ g5.out.1).mono ?_;rintro e w4 ⟨rfl,rfl⟩)
         try simp only[a4,o3]
         go_region_held3(λY=>Y.cell? ⟨R,0,none⟩=some (.pointer (some ⟨B,0,none⟩))/\Y.cell? ⟨E,0,none⟩=some (.int .i64 (m:Nat))/\Y.cell? ⟨E,1,none⟩=some (.int .i64 (r:Nat))/\Y.cell? ⟨E,2,none⟩=some (.slice g0 128 c7)) ((simp[*,go_sem];done)) (first|(go_at_call 52;refine(h4.out _ (by go_grown)).mono ?_;rintro e w4 ⟨rfl,g1,g2,g3,g4⟩;have z:=RI g1;obtain⟨p1,p2,p3⟩:=cr (z.out.2.hp h3.out.2 rfl);clear g1));go_wp2
         go_roundg P.length
         case measure=>have:=N.out.2.2.2.2.2.2;have:=q.out.1;omega
         case rel=>refine⟨N.out.2.2.1.tr z.out.2,b3.out.out.new,U++ [dZ j p],o0,P,rfl,N.out.1,by rw[k6.out.1];exact z.out.1,by rw[k6.out.1],λe=>N.out.2.2.2.1.fn e z.out.2 rfl rfl rfl rfl,λe=>?_,N.out.2.1⟩;have l0:=N.out.2.2.2.1;rw[e]at l0;exact l0.Gw.fn z.out.2 rfl rfl
        .have g6:=RI h0;have r8:¬(g7:Int)=0:=by omega
         rw[be _ h0]at o2;clear h0;go_wp2_with(go_at_call 201;refine(a3.out _ g5.out.1).mono ?_;rintro e w4 ⟨rfl,rfl⟩)
         try simp only[a4,o3]
         go_region_held3(λY=>Y.cell? ⟨R,0,none⟩=some (.pointer (some ⟨B,0,none⟩))/\Y.cell? ⟨E,0,none⟩=some (.int .i64 (m:Nat))/\Y.cell? ⟨E,1,none⟩=some (.int .i64 (r:Nat))/\Y.cell? ⟨E,2,none⟩=some (.slice g0 128 c7)) ((simp[*,go_sem];done)) (first|(go_at_call 52;refine(h4.out _ (by go_grown)).mono ?_;rintro e w4 ⟨rfl,g1,g2,g3,g4⟩;have z:=RI g1;obtain⟨p1,p2,p3⟩:=cr (z.out.2.hp h3.out.2 rfl);clear g1));have h5:=z.out.2.hp h3.out.1 rfl;obtain⟨p4,p5,p6⟩:=cr h5;have o4:=RI h5;clear h5;go_wp2_with(go_at_call 166;refine(o2.out _).mono ?_;rintro e w5 ⟨rfl,f⟩;obtain⟨p7,p8,p9⟩:=kp f D p6;have j5:=RI f;clear f);obtain⟨e1,e2,-⟩:=cl (w:=w) ((((Fr.af I.out.1).tr N.out.2.2.1).tr z.out.2).then j5.out) (z.out.1.below j5.out) ((j5.out.block D p6).trans o4.out) (RY a9) (by rw[<-a9];exact i9) (.int .i64 (m:Nat)) (.int .u16 (g7:Nat));refine RB (v:=.agg #[.int .i64 (m:Nat),.int .u16 (g7:Nat)]) (by simp[RV,Tryz.results136,go_sem];go_simp) rfl ⟨_,N.out.1,?_,?_,e1⟩
         .rw [k6.out.2.2 g6.out];have:=k6.out.2.1 g6.out;simp only at this|-;rw[this,d,be _ g6.out]
         .rw [k6.out.2.2 g6.out];exact e2
def TA:List Nat:= [100,106,108,142,217,219,1000000,153,221,385,5,164,3,206]
theorem cq.fr[Lo](h:cq w n m i r g j s)(a:Fr T aF w z)(c:TA.all (λt=> !T.contains t)=true):cq z n m i r g j s:=by
 have k:∀t,TA.contains t=true->T.contains t=false:=λt b=>by have:=WO.1 c t (by simpa using b);simpa using this
 refine⟨h.row.fr a (k 164 rfl) (k 3 rfl) (k 5 rfl) (k 206 rfl),h.cg.fn a (WO.2 λt b=>?_),h.kc.fr a (k 153 rfl) (k 221 rfl) (k 385 rfl) (k 5 rfl),h.lo⟩;have:TA.contains t=true:=by have d:TB.all (λt=>TA.contains t)=true:=rfl;exact WO.1 d t b
 rw[k t this];rfl
theorem cq.below[Lo]{R B W r:Nat}(h:cq w R B W r g n s)(a:ar w z):cq z R B W r g n s:=
 h.fr (T:= []) (Fr.af a) rfl
theorem gW.done[Lo]{step:Rs->Nat->Nat->Prop}{k c D:Nat}{e:Nat × Nat}(f:step s k c)(h:cq z n m i r g j s)(l:Fr iH aF w z)(o:aZ z D (.cells A 172 e))(d:w.heap.size<=D)(q:Lo.lo<=D){a b:Int}(t:gV k c=.agg #[Y a,.int .u16 b]):
  gW n m i r g j step w (.returned (.agg #[Y a,.int .u16 b])) ((z.setCell (R D 0) (Y a)).setCell (R D 1) (.int .u16 b)):=
 ⟨s,k,c,f,by rw[t],h.fr (jg (ni z D _ _) o q) rfl,(l.new (p:=R D 0) d _).new (p:=R D 1) d _⟩
theorem gW.alloc[Lo]{step:Rs->Nat->Nat->Prop}{e:SG}(h:gW n m i r g j step w e z)(o:Obj):gW n m i r g j step w e (z.alloc o):=by obtain⟨a,k,b,c,d,f,l⟩:=h;exact⟨a,k,b,c,d,f.below (aI aj _),l.alloc _⟩
theorem gW.drew[Lo]{step:Rs->Nat->Nat->Prop}{e:SG}(h:gW n m i r g j step w e z):gW n m i r g j step w e z.drew:=by obtain⟨a,k,b,c,d,f,l⟩:=h;exact⟨a,k,b,c,d,f.below (aV aj),l.drew⟩
theorem de(k:Nat):gV k 0=.agg #[Y 0,aG 0]:=rfl
theorem ff.ne(h:ff w n m P g k o):n≠k:=λe=>by obtain⟨a,c,b,-⟩:=h.aL;have:=h.fy;rw[<-e,b]at this;simp at this
theorem ff.wait{c:Ro}(h:ff w n m P g i c)(j:fc w v l):ff (w.setCell (R n 7) v) n m P g i {c with wt:=l}:=by
 have d:Out (λk=>k=n) w (w.setCell (R n 7) v):=(Out.refl (λk=>k=n) w).setCell (p:=R n 7) (λ_=>rfl) _;obtain⟨b,r,f,s⟩:=h.aL;refine⟨⟨b,v,?_,j.out d λk o q a=>?_⟩,d.heap h.fy λe=>h.ne e.symm⟩
 .rw [heap_setCell_same w n 7 _ 164 v f];rfl
 .subst q;rw[f]at a;cases a;constructor<;>simp[ty]
theorem ff.qp{c:Ro}(h:ff w n m P g i c)(x:Bool):ff (w.setCell (R n 8) (.bool x)) n m P g i {c with sl:=x}:=by
 have d:Out (λk=>k=n) w (w.setCell (R n 8) (.bool x)):=(Out.refl (λk=>k=n) w).setCell (p:=R n 8) (λ_=>rfl) _;obtain⟨b,j,f,l⟩:=h.aL;refine⟨⟨b,j,?_,l.out d λk o q a=>?_⟩,d.heap h.fy λe=>h.ne e.symm⟩
 .rw [heap_setCell_same w n 8 _ 164 (.bool x) f];rfl
 .subst q;rw[f]at a;cases a;constructor<;>simp[ty]
theorem cq.NB[Lo](h:cq w n m k r g i s):∃a,w.heap[n]?=some (N a 164):=by obtain⟨_,_,e,_⟩:=h.row.aL;exact⟨_,e⟩
theorem jK[Lo](h:cq w n m k r g i s)(o:Nat)(v:QN):Fr [164] aF w (w.setCell (R n o) v):=by obtain⟨a,e⟩:=h.NB;exact(Fr.refl [164] aF w).set (p:=R n o) e rfl h.lo.1 v
theorem cq.wait[Lo](h:cq w n m k r g i s)(b:fc w v l):cq (w.setCell (R n 7) v) n m k r g i {s with ro:={s.ro with wt:=l}}:=
 have a:=jK h 7 v
 ⟨h.row.wait b,h.cg.fn a rfl,h.kc.fr a rfl rfl rfl rfl,h.lo⟩
theorem cq.qp[Lo](h:cq w n m k r g i s)(x:Bool):cq (w.setCell (R n 8) (.bool x)) n m k r g i {s with ro:={s.ro with sl:=x}}:=
 have a:=jK h 8 (.bool x)
 ⟨h.row.qp x,h.cg.fn a rfl,h.kc.fr a rfl rfl rfl rfl,h.lo⟩
theorem rh[Lo](R B W r:Nat)(g:au)(A:Nat)(s:Rs)(C:Nat)(w:QL)(h:cq w R B W r g A s)(hF:Fit g C s)(b0:5000<=C):aD 177 #[aq R] w (gW R B W r g A (dt s) w):=by
 obtain⟨a0,D,U,c,d,q⟩:=dQ w (ao #[ae 0,aG 0] 172);have a:=aS d q h.cg.low (h.below d);obtain⟨a5,b1,L,V⟩:=(h.below d).row.aL;have t:=ad V;obtain⟨b3,b4,rfl,-⟩:=id V;obtain⟨n,Z⟩:=ah s.ro.wt.length;rw[Z]at L t;have O:=ad L;obtain⟨k0,f0,z0⟩:=cr L;obtain⟨a6,a7,a8⟩:=cr q;by_cases H:n=0
 .have f:s.ro.wt= []:=WX.1 (Z.trans H);subst H;have i:dt s s 0 0:=⟨[],by rw[f],rfl,rfl,by rw[ak rfl];obtain⟨b,x,ro⟩:=s;obtain⟨a1,a2,a3,a4⟩:=ro;simp only at f;rw[f]⟩;have P:=ad i;go_enter func177,ntmps177;go_wp2
  try simp only[U,c]
  have E:w.heap.size<=D:=RY c;refine RB (v:=.agg #[ae 0,aG 0]) (by simp[RV,results177,go_sem];go_simp) rfl (gW.done P a.2.2.2 (Fr.af a.1) a.2.1 E (by rw[<-c];exact a.2.2.1) rfl)
 .have P:=ad (uS R B (some (ag W 0)) g A s.ro s.b s.ro.wt _ a0 (h.below d).row (h.below d).cg t hF.bZ hF.N (λp F=>⟨(hF.wt p F).1,(hF.wt p F).2.1⟩) hF.mB (by have:=hF.iG;omega) λm v N M=>⟨(hF.mem m v N M).1,by have:=(hF.mem m v N M).2;have:=hF.iG;omega⟩);have a9:¬(n:Int)=0:=aa;go_enter func177,ntmps177;go_wp2_with fail
  try simp only[U,c]
  go_wp2_with fail;refine P.mono ?_;rintro e I ⟨Q,F,rfl,l,j⟩;obtain⟨X,Y⟩:=ah (s.b.run ((fM s.ro Q).map ha));rw[Y]at l|-;obtain⟨S,u,G⟩:=X;simp only at l;have o:cq I R B W r g A {s with b:=S}:=⟨a.2.2.2.row.fr j rfl rfl rfl rfl,l,a.2.2.2.kc.fr j rfl rfl rfl rfl,a.2.2.2.lo⟩;have y:=j.hp a.2.1 rfl;obtain⟨d1,d2,d3⟩:=cr y;have T:=j.hp O rfl;obtain⟨k1,f1,z1⟩:=cr T;have k:=bX o ((Fr.af a.1).tr j).rb y F Y;have E:w.heap.size<=D:=RY c;have J:Lo.lo<=D:=by rw[<-c];exact a.2.2.1
  by_cases K:G=0
  .subst K;rw[de];go_wp2;have o:=k.1.wait (fc.nil I);refine RB (v:=.agg #[ae 0,aG 0]) (by simp[RV,results177,go_sem];go_simp) rfl ?_;have i:dt s {s with b:=S,ro:={s.ro with wt:= []}} u 0:=⟨Q,k.2.2.2.1,k.2.2.2.2,rfl,rfl⟩;have z:=jK k.1 7 aU;exact(gW.done i o (k.2.1.tr (z.wide iH rfl)) (z.hp k.2.2.1 rfl) E J rfl).alloc _
  .rw [be u K];have b5:¬(G:Int)=0:=aa;go_wp2;refine RB (v:=.agg #[ae u,aG G]) (by simp[RV,results177,go_sem];go_simp) rfl ?_;have i:dt s {s with b:=S} u G:=⟨Q,k.2.2.2.1,k.2.2.2.2,rfl,by rw[al K]⟩;exact(gW.done i k.1 k.2.1 k.2.2.1 E J (be u K)).alloc _
theorem ri[Lo](R B W r:Nat)(g:au)(o:Nat)(s:Rs)(C:Nat)(w:QL)(h:cq w R B W r g o s)(hF:Fit g C s)(E:5000<=C):aD 112 #[aq R] w (gW R B W r g o (cz s) w):=by
 obtain⟨u,D,x,b,c,i⟩:=dQ w (N #[Y 0,aG 0] 172);have a:=aS c i h.cg.low (h.below c);obtain⟨F,V,G,X⟩:=(h.below c).row.aL;obtain⟨Z,f0,H⟩:=cr G;obtain⟨K,L,O⟩:=cr i;have n:=I (CI W r B g.M s.x u (h.below c).kc);have P:=I (rh R B W r g o s C u (h.below c) hF E);have y:w.heap.size<=D:=RY b;have Q:RH (s.x.sure=true->cz s=dt s):=λe=>by funext S k z;unfold cz;rw[ak e]
 have p:RH (s.x.sure=false->cz s s 0 0):=λe=>by unfold cz;rw[al (by rw[e];decide)];exact⟨rfl,rfl,rfl⟩
 cases d:s.x.sure with
 |false=>
  rw[d]at n;have f:=I d;go_enter func112,ntmps112;go_wp2_with fail
  try simp only[x,b]
  go_wp2_with(go_at_call 175;refine n.mono ?_;rintro e A ⟨rfl,rfl⟩);refine RB (v:=.agg #[Y 0,aG 0]) (by simp[RV,results112,go_sem];go_simp) rfl (gW.done (p f) a.2.2.2 (Fr.af a.1) a.2.1 y (by rw[<-b];exact a.2.2.1) rfl)
 |true=>
  rw[d]at n;have f:=I d;go_enter func112,ntmps112;go_wp2_with fail
  try simp only[x,b]
  go_wp2_with(first|(go_at_call 175;refine n.mono ?_;rintro e A ⟨rfl,rfl⟩)|(go_at_call 177;refine P.mono ?_;rintro e A ⟨S,k,z,q,rfl,t,j⟩;obtain⟨T,U,l⟩:=cj k z;rw[l];obtain⟨d1,d2,d3⟩:=cr (j.hp a.2.1 rfl);have m:=aS q t j l));refine RB (v:=.agg #[Y T,.int .u16 U]) (by simp[RV,results112,go_sem];go_simp) rfl ?_;exact gW.done (by rw[Q.out f.out];exact m.1) m.2.1 ((Fr.af a.1).tr m.2.2.1) (m.2.2.1.hp a.2.1 rfl) y (by rw[<-b];exact a.2.2.1) m.2.2.2
theorem pg(hF:Fit g C s)(d:(s.synced g).2=0):Fit g C (s.synced g).1:=by
 unfold Rs.synced at d|-;by_cases e:s.x.sure=true
 .rw [ak e];exact hF
 .rw [al e]at d|-;simp only at d|-;have c:∀j v,(s.b.op g.M ba).1.dv j=some v->∃a,s.b.dv j=some a/\v.d.n=a.d.n/\v.d.cn<=a.d.cn:=λj v b=>by
   by_cases e:j=g.M
   .subst e;exact By.iA (m:=0) (λv=>⟨(dW v).1,(dW v).2⟩) b
   .rw [By.dN ba e]at b;exact⟨v,b,rfl,QP _⟩
  refine⟨hF.bZ,(By.fp _ _ _).trans hF.N,λm v h b=>?_,λv b=>?_,d,hF.cA,hF.iG,hF.wt,hF.mB⟩
  .obtain ⟨a,f,i,k⟩:=c m v b;have:=hF.mem m a h f;omega
  .obtain ⟨a,f,i,k⟩:=c g.M v b;have:=hF.gB a f;show 2+s.x.N<=_/\_;omega
theorem Gy[Lo](R B W r:Nat)(g:au)(a:Nat)(s:Rs)(C:Nat)(w:QL)(h:cq w R B W r g a s)(hF:Fit g C s):aD 181 #[H W] w λe b=>aK e (.int .u16 ((s.synced g).2:Nat))/\cq b R B W r g a (s.synced g).1/\Fr iH aF w b:=by
 unfold Rs.synced;by_cases e:s.x.sure=true
 .rw [ak e];refine(z' W r B g.M s.x w h.kc e).mono ?_;rintro e d ⟨rfl,rfl⟩;exact⟨rfl,h,Fr.refl _ _ _⟩
 .rw [al e];refine(CK W r B g.M s.x s.b w h.kc h.cg (by rw[hF.N];omega) hF.bad (by simpa using e)).mono ?_;rintro e d ⟨rfl,f,i,c⟩;exact⟨rfl,⟨h.row.fr c rfl rfl rfl rfl,f,i,h.lo⟩,c.rw⟩
theorem mG[Lo](R B W r:Nat)(g:au)(p:Nat)(s:Rs)(C:Nat)(w:QL)(h:cq w R B W r g p s)(hF:Fit g C s)(Z:5000<=C):aD 123 #[aq R] w (gW R B W r g p (bV g s) w):=by
 obtain⟨H,D,N,b,c,E⟩:=dQ w (ao #[ae 0,aG 0] 172);have d:=aS c E h.cg.low (h.below c);obtain⟨M,a3,I,x2⟩:=(h.below c).row.aL;obtain⟨k0,f0,z0⟩:=cr I;have F:=ad (Gy R B W r g p s C H (h.below c) hF);have l:=ad (λe=>pg (g:=g) hF e);have G:=ad Z;have P:w.heap.size<=D:=RY b;have K:RH ((s.synced g).2=0->bV g s=cz (s.synced g).1):=λe=>by funext Y k m;unfold bV;rw[ak e]
 have n:RH ((s.synced g).2≠0->bV g s (s.synced g).1 g.M (s.synced g).2):=λe=>by unfold bV;rw[al e];exact⟨rfl,rfl,rfl⟩
 obtain⟨X,J⟩:=ah (s.synced g);rw[J]at F l K n;obtain⟨Q,m⟩:=X;simp only at F l K n;go_enter func123,ntmps123;go_wp2_with fail
 try simp only[N,b]
 go_wp2_with fail;refine F.mono ?_;rintro e U ⟨rfl,f,a⟩;have q:=a.hp d.2.1 rfl;obtain⟨d1,d2,d3⟩:=cr q;have z:=ad (h' R B (some (ag W 0)) g p Q.ro m U f.row);have t:=(Fr.af (T:=iH) (S:=aF) d.1).tr a;have o:=aM f t q;by_cases A:m=0
 .subst A;rw[de]at z;have L:=ad (K rfl);have a0:=ad (λV (i:ar U V)=>ri R B W r g p Q C V (o.1.below i) (l rfl) G);go_wp2_with(first|(go_at_call 178;refine z.mono ?_;rintro e w4 ⟨rfl,i⟩;have j:=aA (aI i (ao #[ae 0,aG 0] 172)) ((i.block D d3).trans o.2.2))|(go_at_call 112;refine(a0 _ j.1).mono ?_;rintro e w5 ⟨Y,k,m,O,rfl,f,a⟩;obtain⟨a1,a2,u⟩:=cj k m;rw[u];have x:=a.hp ((RG _ _ _ (Z_ j.2)).trans j.2) rfl;obtain⟨d4,d5,d6⟩:=cr x;have y:=bX O f a u x));refine RB (v:=.agg #[ae a1,.int .u16 a2]) (by simp[RV,results123,go_sem];go_simp) rfl ?_;exact gW.done (by rw[L.out];exact y.1) y.2.1 ((o.2.1.then j.1).tr y.2.2.1) y.2.2.2.2 P (by rw[<-b];exact d.2.2.1) y.2.2.2.1
 .rw [be _ A]at z;have a4:¬(m:Int)=0:=aa;go_wp2_with(first|(go_at_call 178;refine z.mono ?_;rintro e w4 ⟨rfl,i⟩;obtain⟨d4,d5,d6⟩:=kp i D d3;have j:=aA i ((i.block D d3).trans o.2.2)));refine RB (v:=.agg #[ae g.M,aG m]) (by simp[RV,results123,go_sem];go_simp) rfl ?_;exact(gW.done (n A) (o.1.below j.1) (o.2.1.then j.1) j.2 P (by rw[<-b];exact d.2.2.1) (be _ A)).alloc _
structure LM[Lo](w0:M)(B:Nat)(b:By)(l:List Nat)(wr:M):Prop where
 cg:aB wr B (b.run (l.map di)).1
 ok:(b.run (l.map di)).2.2=0
 bU:Fr TB aF w0 wr
def Jw[Lo](B:Nat)(b:By)(l:List Nat)(w:M)(e:SG)(a:M):Prop:=
 aK e (gV (b.run (l.map di)).2.1 (b.run (l.map di)).2.2)/\aB a B (b.run (l.map di)).1/\Fr TB aF w a
theorem rj(p:Nat->Bool)(h:k<=n):∃l,bP n p=bP k p++l:=by
 induction n with
 |zero=>obtain rfl:k=0:=J;exact⟨[],rfl⟩
 |succ n a=>
  by_cases e:k=n+1
  .subst e;exact⟨[],aJ⟩
  .obtain ⟨l,b⟩:=a J;exact⟨l++(if p n then[n]else[]),by rw[dG,b,TK]⟩
theorem Gz[Lo](R B:Nat)(a5:Option TF)(g:au)(a6:Nat)(c:Ro)(b:By)(w:QL)(h:ff w R B a5 g a6 c)(x:aB w B b)(a7:g.M<=16)(a8:b.N=g.M+1):
  aD 202 #[aq R,.func (.func 56) #[] #[]] w (Jw B b (oX g c) w):=by
 obtain⟨V,D,b7,y,d,L⟩:=dQ w (ao #[ae 0,aG 0] 172);have f:=bX d L x.low a8 (h.below d);obtain⟨b8,c2,I,x2⟩:=(h.below d).aL;have O:=ad I;obtain⟨k0,f0,z0⟩:=cr I;have a9:=ad (λj (b9:j<g.M) W (c0:Fr TB aF V W)=>h_ R B a5 g a6 c j 0 W ((h.below d).fr c0 rfl rfl rfl rfl) b9 a7);have Y:RH (LM V B b (bP 0 λm=> !c.down m 0) V):=⟨x.below d,rfl,Fr.refl _ _ _⟩;unfold oX;obtain⟨M,b0⟩:=ah g.M;rw[b0]at k0 a7 a8 a9 O f|-;have b1:w.heap.size<=D:=RY y;clear h x I L b0 d;go_enter func202,ntmps202;go_wp2
 try simp only[b7,y]
 go_loopw [12] (λi wr=>∃k:Nat,i= ae k/\k<=M/\RH (LM V B b (bP k λm=> !c.down m 0) wr)) (λi _=>M-(intOf i).toNat)
 case atStart=>exact⟨0,rfl,QX _,Y⟩
 case round=>
  obtain⟨k,rfl,c3,o⟩:=hrel;have J:=o.bU.hp O rfl;obtain⟨y1,y2,y3⟩:=cr J;have a0:=o.bU.hp f.2.1 rfl;obtain⟨d1,d2,d3⟩:=cr a0;have a1:=aA J a0;clear J a0 k0;have b3:Lo.lo<=D:=by rw[<-y];exact f.2.2.1
  by_cases z:k<M
  .have Z:=ad z;have b4:(k:Int)<(M:Int):=aa;have p:=ad (a9 k z wr o.bU);have n:=dG k λm=> !c.down m 0;cases r:c.down k 0 with
   |true=>
    rw[r]at p n;have A:RH (bP (k+1) (λm=> !c.down m 0)=bP k λm=> !c.down m 0):=by show _=_;rw[n];simp
    clear r n;go_wp2_with(go_at_call 201;refine p.mono ?_;rintro e H ⟨rfl,rfl⟩);exact⟨⟨k+1,by go_num,Z,by rw[A.out];exact o⟩,by have:=Z.out;simp[intOf];omega⟩
   |false=>
    rw[r]at p n;have A:RH (bP (k+1) (λm=> !c.down m 0)=(bP k λm=> !c.down m 0)++ [k]):=by show _=_;rw[n];simp
    have s:=gu B k (b.run ((bP k λm=> !c.down m 0).map di)).1 wr o.cg (by rw[By.fU,f.2.2.2.1];omega);have t:=By.ji (b:=b) (l:=(bP k λm=> !c.down m 0).map di) (a:=di k) o.ok;have u:RH ((b.run ((bP (k+1) λm=> !c.down m 0).map di)).2.2≠0->b.run ((bP M λm=> !c.down m 0).map di)=b.run ((bP (k+1) λm=> !c.down m 0).map di)):=λe=>by obtain⟨q,c1⟩:=rj (λm=> !c.down m 0) (show k+1<=M from z);rw[c1,SR,By.oW e]
    have F:(bP (k+1) λm=> !c.down m 0).map di=((bP k λm=> !c.down m 0).map di)++ [di k]:=by rw[A.out,SR];rfl
    rw[<-F]at t;unfold zM at s;obtain⟨X,a2⟩:=ah (b.run ((bP (k+1) λm=> !c.down m 0).map di));rw[a2]at t u;obtain⟨b2,s2,P⟩:=X;simp only[di]at t u;obtain⟨Q,C,E⟩:=t;rw[<-Q,<-C]at s;rw[<-C]at E;have b5:=ad s;have b6:=ad (λW=>fq k P W);have N:=aM a2 E u;clear r n s Q C E a2 u F;by_cases S:P=0
    .subst S;go_wp2_with(first|(go_at_call 201;refine p.mono ?_;rintro e H ⟨rfl,rfl⟩)|(go_at_call 56;refine b5.mono ?_;rintro e H ⟨rfl,T,G⟩;have K:=aA T G;clear T G));exact⟨⟨k+1,by go_num,Z,by rw[N.1];exact K.1,by rw[N.1],o.bU.tr K.2⟩,by have:=Z.out;simp[intOf];omega⟩
    .have c4:¬(P:Int)=0:=aa;rw[be k S]at b6;go_wp2_with(first|(go_at_call 201;refine p.mono ?_;rintro e H ⟨rfl,rfl⟩)|(go_at_call 56;refine b5.mono ?_;rintro e H ⟨rfl,T,G⟩;obtain⟨p1,p2,p3⟩:=cr (G.hp a1.2 rfl);have K:=aA T G;clear T G)|(go_at_call 166;refine(b6 _).mono ?_;rintro e w4 ⟨rfl,x⟩;obtain⟨p4,p5,p6⟩:=kp x D p3;have a3:=ad x;clear x));have a4:=(a3.block D p3).trans (K.2.hp a1.2 rfl);obtain⟨F,e2,-⟩:=cl (w:=w) (((Fr.af f.1).tr (o.bU.tr K.2)).then a3) (K.1.below a3) a4 b1 b3 (ae k) (aG P);refine RB (v:=.agg #[ae k,aG P]) (by simp[RV,results202,go_sem];go_simp) rfl ?_;unfold Jw;rw[N.2.2 S];have U:=N.2.1 S
     (try simp only at U)
     subst U;exact⟨by rw[be _ S],e2,F⟩
  .obtain rfl:M=k:=aa;go_wp2;obtain⟨F,e2,-⟩:=cl (w:=w) ((Fr.af f.1).tr o.bU) o.cg a1.2 b1 b3 (ae 0) (aG 0);refine RB (v:=.agg #[ae 0,aG 0]) (by simp[RV,results202,go_sem];go_simp) rfl ⟨?_,e2,F⟩;rw[o.ok];rfl
theorem ph[Lo](R B W r:Nat)(g:au)(m:Nat)(s:Rs)(C:Nat)(w:M)(h:cq w R B W r g m s)(hF:Fit g C s):aD 137 #[H R] w (gW R B W r g m (eA g s) w):=by
 obtain⟨x,D,y,d,c,n⟩:=dQ w (ao #[Y 0,aG 0] 172);have a:=aS c n h.cg.low (h.below c);have z:w.heap.size<=D:=RY d;have f:=I (Gz R B (some (ag W 0)) g m s.ro s.b x (h.below c).row (h.below c).cg hF.bZ.m16 hF.N);obtain⟨X,q⟩:=ah (s.b.run ((oX g s.ro).map di));unfold Jw at f;rw[q]at f;obtain⟨A,k,t⟩:=X;simp only at f;have o:RH (eA g s {s with b:=A} k t):=⟨q,rfl,rfl⟩;obtain⟨E,F,i⟩:=cj k t;rw[i]at f;have p:=I i;go_enter func137,ntmps137;go_wp2_with fail
 try simp only[y,d]
 go_wp2_with(go_at_call 202;refine f.mono ?_;rintro e K ⟨rfl,G,u⟩;have j:=u.hp a.2.1 rfl;obtain⟨d1,d2,d3⟩:=cr j;have l:=aM G u j);refine RB (v:=.agg #[Y E,.int .u16 F]) (by simp[RV,results137,go_sem];go_simp) rfl ?_;refine gW.done o ⟨a.2.2.2.row.fr l.2.1 rfl rfl rfl rfl,l.1,a.2.2.2.kc.fr l.2.1 rfl rfl rfl rfl,a.2.2.2.lo⟩ ((Fr.af a.1).tr l.2.1.rb) l.2.2 z (by rw[<-d];exact a.2.2.1) p
theorem Fit.less(h:Fit g C s)(c:n<=C):Fit g n s:=
 ⟨h.bZ,h.N,λm v b a=>⟨(h.mem m v b a).1,by have:=(h.mem m v b a).2;omega⟩,λv a=>⟨(h.gB v a).1,by have:=(h.gB v a).2;omega⟩,h.bad,(by have:=h.cA;omega),h.iG,h.wt,h.mB⟩
theorem Fit.run(h:Fit g C s){l:List fL}(t:l.length<=n)(u:n<=C)(o:∀a,a∈l->∀v:Dv,(a.2 v).1.d.n=v.d.n/\(a.2 v).1.d.cn<=v.d.cn+1){b':By}{k er:Nat}(i:s.b.run l=(b',k,er)):Fit g (C-n) {s with b:=b'}:=by
 have d:∀j v,b'.dv j=some v->∃c,s.b.dv j=some c/\v.d.n=c.d.n/\v.d.cn<=c.d.cn+l.length:=λj v e=>By.gw o (by rw[i];exact e);refine⟨h.bZ,?_,λm v p e=>?_,λv e=>?_,h.bad,(show s.x.ep+(C-n)<=_/\1<=s.x.nx/\s.x.nx+(C-n)<=_ by have:=h.cA;omega),h.iG,h.wt,h.mB⟩
 .have:=By.fU s.b l;rw[i]at this;exact this.trans h.N
 .obtain ⟨c,f,q,r⟩:=d m v e;have:=h.mem m c p f;omega
 .obtain ⟨c,f,q,r⟩:=d g.M v e;have:=h.gB c f;show 2+s.x.N<=_/\_;omega
theorem Fit.PJ(h:Fit g C s)(sl:Bool):Fit g C {s with ro:={s.ro with wt:= [],sl:=sl}}:=
 ⟨h.bZ,h.N,h.mem,h.gB,h.bad,h.cA,QX _,λp a=>(by cases a),List.nodup_nil⟩
theorem Fit.sl(h:Fit g C s)(a:Bool):Fit g C {s with ro:={s.ro with sl:=a}}:=
 ⟨h.bZ,h.N,h.mem,h.gB,h.bad,h.cA,h.iG,h.wt,h.mB⟩
theorem gC{s a:Rs}(h:Fit g C s)(f:5000<=C)(i:dt s a k n):Fit g (C-5000) a:=by
 obtain⟨l,j,c,d,e⟩:=i;have m:((fM s.ro l).map ha).length<=5000:=by rw[RL];refine QO (VS ..) ?_;rw[j.length_eq];exact h.iG
 have b:=h.run m f gv c;obtain⟨p,q,o⟩:=a;simp only at c d e b;subst d;subst e;split
 .exact b.PJ s.ro.sl
 .exact b
theorem pj{s b:Rs}(h:Fit g C s)(c:5000<=C)(a:cz s b k n):Fit g (C-5000) b:=by
 unfold cz at a;split at a
 .exact gC h c a
 .rw [a.1];exact h.less (ZH ..)
theorem d_{s b:Rs}(h:Fit g C s)(d:5000<=C)(c:(s.synced g).2=0)(a:bV g s b k n):Fit g (C-5000) b:=by unfold bV at a;rw[ak c]at a;exact pj (pg h c) d a
theorem d'{s b:Rs}(a:bV g s b k 0):(s.synced g).2=0:=by
 unfold bV at a;split at a
 .assumption
 .exact a.2.2.symm
theorem sH(a:g.ok)(b:Ro):(oX g b).length<=16:=QO (fv _ _) a.m16
theorem fF{s a:Rs}(h:Fit g C s)(f:5000<=C)(i:eA g s a k m):Fit g (C-5000) a:=by obtain⟨b,c,d⟩:=i;have e:=h.run (n:=5000) (by rw[RL];have:=sH h.bZ s.ro;omega) f w_ b;obtain⟨l,o,j⟩:=a;simp only at b c d e;subst c;subst d;exact e
theorem xi[Lo](R B W r:Nat)(g:au)(a:Nat)(s:Rs)(C:Nat)(w:QL)(h:cq w R B W r g a s)(hF:Fit g C s)(i:s.x.sure=true):aD 179 #[H W] w λe c=>aK e (.int .u16 ((s.nk g s.x.ep).2:Nat))/\cq c R B W r g a {s with b:=(s.nk g s.x.ep).1,x:=s.x.qm s.x.ep (s.nk g s.x.ep).2}/\Fr iH aF w c:=by refine(uy W r B g.M s.x s.b w h.kc h.cg (by rw[hF.N];omega) hF.cI (λv d=>⟨(hF.gB v d).1,by have:=(hF.gB v d).2;omega⟩) hF.bad i).mono ?_;rintro e l ⟨rfl,j,k,f⟩;exact⟨rfl,⟨h.row.fr f rfl rfl rfl rfl,j,k,h.lo⟩,f.rw⟩
theorem nm{s b:Rs}(a:cz s b k n):b.x=s.x:=by
 unfold cz at a;split at a
 .obtain ⟨_,_,_,h,_⟩:=a;exact h
 .rw [a.1]
theorem nn{s c:Rs}(b:bV g s c k 0):c.x.sure=true:=by
 have a:=d' b;unfold bV at b;rw[ak a]at b;rw[nm b];unfold Rs.synced at a|-;by_cases e:s.x.sure=true
 .rw [ak e];exact e
 .rw [al e]at a|-;simp only at a|-;rw[a];rfl
def uT[Lo](R B W r:Nat)(g:au)(b:Nat)(s:Rs)(k:Nat)(w:M):Prop:=
 (k=0/\cq w R B W r g b s)\/(k=1/\∃a c,bV g s a c 0/\cq w R B W r g b a)\/(k=2/\∃a c d e,bV g s a c 0/\eA g a d e 0/\cq w R B W r g b d)
theorem uT.below[Lo]{R B W r:Nat}(h:uT R B W r g n s k w)(a:ar w z):uT R B W r g n s k z:=by
 rcases h with⟨rfl,h⟩|⟨rfl,b,c,d,h⟩|⟨rfl,b,c,e,f,d,i,h⟩
 .exact .inl ⟨rfl,h.below a⟩
 .exact .inr (.inl ⟨rfl,b,c,d,h.below a⟩)
 .exact .inr (.inr ⟨rfl,b,c,e,f,d,i,h.below a⟩)
def LN[Lo](R B W r:Nat)(g:au)(c:Nat)(s:Rs)(k:Nat)(w:M)(e:SG)(b:M):Prop:=
 ∃q a,aK e (gV q a)/\Fr iH aF w b/\(a=0->uT R B W r g c s (k+1) b)/\(a≠0->∃d,gz g s d q a/\cq b R B W r g c d)
theorem NC[Lo](R B W r:Nat)(g:au)(a:Nat)(s:Rs)(C:Nat)(w:M)(h:uT R B W r g a s 0 w)(hF:Fit g C s)(j:20000<=C):aD 123 #[H R] w (LN R B W r g a s 0 w):=by
 rcases h with⟨_,h⟩|⟨h,_⟩|⟨h,_⟩
 .refine (mG R B W r g a s C w h hF J).mono ?_;rintro e l ⟨b,k,f,c,rfl,d,i⟩;refine⟨k,f,rfl,i,λe=>?_,λe=>⟨b,.inr ⟨c,e⟩,d⟩⟩;subst e;exact .inr (.inl ⟨rfl,b,k,c,d⟩)
 .omega
 .omega
theorem ND[Lo](R B W r:Nat)(g:au)(b:Nat)(s:Rs)(C:Nat)(w:M)(h:uT R B W r g b s 1 w)(hF:Fit g C s)(n:20000<=C):aD 137 #[H R] w (LN R B W r g b s 1 w):=by
 rcases h with⟨h,_⟩|⟨_,c,d,a,h⟩|⟨h,_⟩
 .omega
 .refine (ph R B W r g b c (C-5000) w h (d_ hF J (d' a) a)).mono ?_;rintro e o ⟨f,k,l,i,rfl,j,m⟩;refine⟨k,l,rfl,m,λe=>?_,λe=>⟨f,.inl ⟨c,d,a,.inr ⟨i,e⟩⟩,j⟩⟩;subst e;exact .inr (.inr ⟨rfl,c,d,f,k,a,i,j⟩)
 .omega
theorem uU[Lo](R B W r:Nat)(g:au)(l:Nat)(s:Rs)(C:Nat)(w:QL)(h:cq w R B W r g l s)(hF:Fit g C s)(b4:20000<=C):aD 114 #[aq R] w (gW R B W r g l (gz g s) w):=by
 obtain⟨Q,D,b5,u,y,H⟩:=dQ w (ao #[ae 0,aG 0] 172);have j:=aS y H h.cg.low (h.below y);have N:w.heap.size<=D:=RY u;have d:=aA hF b4;obtain⟨S,a9⟩:=ah Q.heap.size;obtain⟨Z,M⟩:=ah (Q.alloc (ao #[.func (.func 123) #[aq R] #[],.func (.func 137) #[aq R] #[]] 175));have z:ar Q Z:=by rw[<-M];exact aI aj _
 have I:aZ Z S (ao #[.func (.func 123) #[aq R] #[],.func (.func 137) #[aq R] #[]] 175):=by rw[<-M,<-a9];exact QM _ _
 have Y:RH (Fr iH aF Q Z/\uT R B W r g l s 0 Z):=⟨Fr.af z,.inl ⟨rfl,(h.below y).below z⟩⟩;have J:=aA I z;go_enter func114,ntmps114;go_wp2
 try simp only[b5,u,M,a9]
 go_loopw [12] (λi wr=>∃k:Nat,i= ae k/\k<=2/\RH (aZ wr S (ao #[.func (.func 123) #[aq R] #[],.func (.func 137) #[aq R] #[]] 175)/\Fr iH aF Q wr/\uT R B W r g l s k wr)) (λi _=>2-(intOf i).toNat)
 case atStart=>exact⟨0,rfl,QX _,J.1,Y⟩
 case round=>
  obtain⟨k,rfl,c4,p⟩:=hrel;obtain⟨b6,a0,A⟩:=p.out;obtain⟨s1,s2,s3⟩:=cr b6;have b7:=a0.hp j.2.1 rfl;have a1:=ad b7;have a2:Lo.lo<=D:=by rw[<-u];exact j.2.2.1
  have a3:k=0\/k=1\/k=2:=aa;rcases a3 with e|e|e
  .subst e;have a4:=ad (NC R B W r g l s C wr A d.1 d.2);go_wp2_with fail;refine a4.mono ?_;rintro e O ⟨q,f,rfl,m,P,g3⟩;have c:=m.hp a1 rfl;obtain⟨d4,d5,d6⟩:=cr c;have a:=bX m P g3 c (m.hp p.1 rfl);by_cases n:f=0
   .subst n;rw[de];have E:=ad (a.2.1 rfl);go_wp2;have F:∀o,ar O (O.alloc o):=λo=>aI aj o;exact⟨⟨1,aJ,aa,(RG _ _ _ (Z_ a.2.2.2.2)).trans a.2.2.2.2,(p.2.1.tr a.1).alloc _,E.below (F _)⟩,by simp[intOf]⟩
   .rw [be q n];have b8:¬(f:Int)=0:=aa;obtain⟨b9,t,G⟩:=a.2.2.1 n;have T:=aA t G;go_wp2;refine RB (v:=.agg #[ae q,aG f]) (by simp[RV,results114,go_sem];go_simp) rfl ?_;exact(gW.done T.1 T.2 (((Fr.af j.1).tr p.2.1).tr a.1) a.2.2.2.1 N a2 (be q n)).alloc _
  .subst e;have a4:=ad (ND R B W r g l s C wr A d.1 d.2);go_wp2_with fail;refine a4.mono ?_;rintro e O ⟨q,f,rfl,m,P,g3⟩;have c:=m.hp a1 rfl;obtain⟨d4,d5,d6⟩:=cr c;have a:=bX m P g3 c (m.hp p.1 rfl);by_cases n:f=0
   .subst n;rw[de];have E:=ad (a.2.1 rfl);go_wp2;have F:∀o,ar O (O.alloc o):=λo=>aI aj o;exact⟨⟨2,aJ,aa,(RG _ _ _ (Z_ a.2.2.2.2)).trans a.2.2.2.2,(p.2.1.tr a.1).alloc _,E.below (F _)⟩,by simp[intOf]⟩
   .rw [be q n];have b8:¬(f:Int)=0:=aa;obtain⟨b9,t,G⟩:=a.2.2.1 n;have T:=aA t G;go_wp2;refine RB (v:=.agg #[ae q,aG f]) (by simp[RV,results114,go_sem];go_simp) rfl ?_;exact(gW.done T.1 T.2 (((Fr.af j.1).tr p.2.1).tr a.1) a.2.2.2.1 N a2 (be q n)).alloc _
  .subst e;rcases A with⟨e,-⟩|⟨e,-⟩|⟨-,t1,k1,t2,k2,t,G,h3⟩
   .omega
   .omega
   .have a5:=fF (d_ d.1 (by have:=d.2;omega) (d' t) t) (by have:=d.2;omega) G;have a6:t2.x.sure=true:=by rw[G.2.1];exact nn t
    obtain⟨c0,c5,x1,x2⟩:=h3.row.aL;obtain⟨k5,f5,z5⟩:=cr x1;have K:=ad (xi R B W r g l t2 _ wr h3 a5 a6);have L:RH (∀f:Nat,f=(t2.nk g t2.x.ep).2->gz g s {t2 with b:=(t2.nk g t2.x.ep).1,x:=t2.x.qm t2.x.ep (t2.nk g t2.x.ep).2} g.M f):=λf e=>.inl ⟨t1,k1,t,.inl ⟨t2,k2,G,rfl,rfl,e⟩⟩;obtain⟨X,c1⟩:=ah (t2.nk g t2.x.ep);rw[c1]at K L;obtain⟨b3,f⟩:=X;simp only at K L;have U:=ad (L f rfl);obtain⟨c2,c3,V⟩:=cj g.M f;have b0:=ad (λb1 (h:ff b1 R B (some (ag W 0)) g l t2.ro)=>h' R B (some (ag W 0)) g l t2.ro f b1 h);rw[V]at b0;have a7:=ad V;go_wp2_with(first|(go_at_call 179;refine K.mono ?_;rintro e O ⟨rfl,m,P⟩;have c:=P.hp a1 rfl;obtain⟨d4,d5,d6⟩:=cr c;have a:=aM m P c)|(go_at_call 178;refine(b0 _ a.1.row).mono ?_;rintro e w4 ⟨rfl,b2⟩;obtain⟨d7,d8,d9⟩:=kp b2 D d6;have a8:=ad b2));refine RB (v:=.agg #[ae c2,.int .u16 c3]) (by simp[RV,results114,go_sem];go_simp) rfl ?_;exact gW.done U (a.1.below a8) ((((Fr.af j.1).tr p.2.1).tr a.2.1).then a8) ((a8.block D d6).trans a.2.2) N a2 a7
def Wl.eJ(x:Wl)(c a:Nat):Wl:=if a=0 then{x with nx:=x.nx+1,sure:=false,lg:=none,u:=x.u+c,bad:=0}else{x with bad:=a}
theorem Di[Lo](W r B J c:Nat)(f:aO)(x:Wl)(b:By)(w:QL)(G:bG w W r B J x)(h:aB w B b)(Y:J<b.N)(Z:x.lg=some (c,f))(a0:1<=c)(a1:x.u+c<=x.N)(a2:x.nx<=4611686018427387904)(H:∀v,b.dv J=some v->2+x.N<=v.d.n/\v.d.cn<1000000000000)(L:x.bad=0):
  aD 257 #[aq W] w (hG W r B J (x.eJ c (b.op J (aN (x.pl (c-1)) f)).2) (b.op J (aN (x.pl (c-1)) f)).1 (b.op J (aN (x.pl (c-1)) f)).2 w):=by
 obtain⟨p,j⟩:=G;have G:bG w W r B J x:=⟨p,j⟩;have i:=j.lg;rw[Z]at i;obtain⟨g,v,rfl,a3,y⟩:=i;obtain⟨O,f0,z0⟩:=cr j.aL;obtain⟨q0,a4,a5⟩:=cr a3;rw[L]at O;have a6:=j.ring.hi;obtain⟨a7,a8,rfl⟩:=y.form;have z:=ad (λ(s:QL) (m:Fr [] aF w s)=>(qU W r B J (c-1) x b (.slice a7 128 a8) f s (G.fr m rfl rfl rfl rfl) (h.fn m rfl) Y (y.fr m rfl) aa H L).mono (R':=H' W r B J x b (aN (x.pl (c-1)) f) w) λe a9 g=>⟨g.1,g.2.1,g.2.2.1,(m.wide fT rfl).tr g.2.2.2⟩);have P:=ad Z;have e1:QQ.wrap ((c:Int)-1)=(c-1:Nat):=bf;have b0:VY.wrap ((x.nx:Int)+1)=(x.nx+1:Nat):=bf;obtain⟨M,Q⟩:=ah (c-1);rw[Q]at z e1;rw[Q];clear G H L Q;go_enter func257,ntmps257;go_wp2_with fail
 go_region_law (first|(go_simp;go_at_call 304;refine(z _ (by first|exact(Fr.refl _ _ _).drew|exact(Fr.refl _ _ _).drewN _|exact(Fr.refl _ _ _).drew.drewN _)).mono ?_;rintro e s ⟨rfl,t,⟨p2,d⟩,u⟩;have S:=aM t d u))
 all_goals(
  obtain⟨E,l⟩:=ah ((b.op J (aN (x.pl M) f)).2);rw[l];obtain⟨t,d,u⟩:=S.out;have N:=ad l;by_cases R:E=0
  .subst R;have i:=d.lg;rw[show({x with bad:=(b.op J (aN (x.pl M) f)).2}:Wl).lg=some (c,f)from P.out]at i;obtain⟨b3,b4,rfl,T,b1⟩:=i;obtain⟨O,f0,z0⟩:=cr d.aL;obtain⟨q0,a4,a5⟩:=cr T;rw[l]at O;have U:=ad (λ(I:QL) (m:Fr [] aF s I)=>(Gg r x.N x.t x.u c I (d.ring.fr m rfl) d.lo.2 a1).mono (R':=uw r x.N x.t (x.u+c) s) (by rintro e a9 ⟨a,n,c2,rfl,q1,q2⟩;exact⟨a,n,c2,rfl,q1,(m.wide TR rfl).tr q2⟩));have V:=aM t d u;clear l;go_wp2_with fail
   go_region_law (first|(go_simp;go_at_call 305;refine(U _ (by first|exact(Fr.refl _ _ _).drew|exact(Fr.refl _ _ _).drewN _|exact(Fr.refl _ _ _).drew.drewN _)).mono ?_;rintro e K ⟨b5,b6,b7,rfl,X,A⟩;have b2:=aA X A))
   all_goals(
    obtain⟨X,A⟩:=b2.out;obtain⟨t,d,u⟩:=V.out;have o:=A.hp d.aL rfl;have C:=heap_setCell_same K W 4 _ 153 (.int .u64 ((x.nx+1:Nat):Int)) o;have D:=heap_setCell_same _ W 5 _ 153 iD C;have F:=heap_setCell_same _ W 6 _ 153 (.pointer none) D;have k:Fr [153] aF K (((K.setCell (ag W 4) (.int .u64 ((x.nx+1:Nat):Int))).setCell (ag W 5) iD).setCell (ag W 6) (.pointer none)):=(((Fr.refl _ _ _).set (p:=ag W 4) o rfl d.lo.1 _).set (p:=ag W 5) C rfl d.lo.1 _).set (p:=ag W 6) D rfl d.lo.1 _;have q:RH (hG W r B J (x.eJ c (b.op J (aN (x.pl M) f)).2) (b.op J (aN (x.pl M) f)).1 (b.op J (aN (x.pl M) f)).2 w (.returned (aG 0)) (((K.setCell (ag W 4) (.int .u64 ((x.nx+1:Nat):Int))).setCell (ag W 5) iD).setCell (ag W 6) (.pointer none))):=by rw[N.out];rw[N.out]at F;exact⟨rfl,(t.fn A rfl).fn k rfl,⟨none,F,X.fr k rfl,rfl,d.lo⟩,u.tr ((A.wide fT rfl).tr (k.wide fT rfl))⟩
    obtain⟨k1,f1,z1⟩:=cr o;clear k;go_wp2;go_ret;exact q)
  .have q:RH (hG W r B J (x.eJ c (b.op J (aN (x.pl M) f)).2) (b.op J (aN (x.pl M) f)).1 (b.op J (aN (x.pl M) f)).2 w (.returned (aG E)) s):=by
    refine⟨by rw[l],t,⟨p2,?_⟩,u⟩;unfold Wl.eJ;rw[l,al R];rw[l]at d;exact d
   have b8:(E:Int)≠0:=aa;clear l;go_wp2;go_ret;exact q)
def lC(g:au)(s a:Rs)(k b:Nat):Prop:=if s.ro.lz=true then a=s/\k=0/\b=0 else bV g s a k b
def Rs.dF(g:au)(s:Rs)(c:Nat)(f:aO):By × Nat:=s.b.op g.M (aN (s.x.pl (c-1)) f)
def Dj(g:au)(c:Nat)(f:aO)(l:List Pt)(s a:Rs)(k d:Nat):Prop:=
 a={b:=(s.dF g c f).1,x:=s.x.eJ c (s.dF g c f).2,ro:=if(s.dF g c f).2=0 then{s.ro with sl:=true,wt:=l}else s.ro}/\k=g.M/\d=(s.dF g c f).2
theorem Dl[Lo](q:M)(T R B W r:Nat)(g:au)(l:Nat)(s:Rs)(C:Nat)(pv t:QN)(u:List Pt)(w:M)(h:cq w R B W r g l s)(x:sD q w T R pv t u)(hF:Fit g C s)(y:5000<=C):aD 172 #[H T] w (gW R B W r g l (dt s) w):=by
 obtain⟨z,D,A,c,a,m⟩:=dQ w (N #[Y 0,aG 0] 172);have b:=aS a m h.cg.low (h.below a);have E:w.heap.size<=D:=RY c;obtain⟨L,j,O⟩:=x.aL;have n:=(a.block T (Z_ j)).trans j;obtain⟨t0,t1,t2⟩:=cr n;have F:=I (rh R B W r g l s C z (h.below a) hF y);go_enter func172,ntmps172;go_wp2_with fail
 try simp only[A,c]
 go_wp2_with(go_at_call 177;refine F.mono ?_;rintro e P ⟨Q,k,G,o,rfl,p,d⟩;obtain⟨K,j,f⟩:=cj k G;rw[f];obtain⟨d1,d2,d3⟩:=cr (d.hp b.2.1 rfl);have i:=aS o p d f);refine RB (v:=.agg #[Y K,.int .u16 j]) (by simp[RV,results172,go_sem];go_simp) rfl ?_;exact gW.done i.1 i.2.1 ((Fr.af b.1).tr i.2.2.1) (i.2.2.1.hp b.2.1 rfl) E (by rw[<-c];exact b.2.2.1) i.2.2.2
theorem Jx[Lo](E:QL)(T R B W r:Nat)(g:au)(o:Nat)(s:Rs)(C:Nat)(pv F:QN)(G:List Pt)(w:QL)(h:cq w R B W r g o s)(K:sD E w T R pv F G)(hF:Fit g C s)(L:5000<=C):aD 174 #[aq T] w (gW R B W r g o (lC g s) w):=by
 obtain⟨O,D,x,b,c,i⟩:=dQ w (ao #[ae 0,aG 0] 172);have a:=aS c i h.cg.low (h.below c);have y:w.heap.size<=D:=RY b;obtain⟨I,n,Y⟩:=K.aL;have p:=(c.block T (Z_ n)).trans n;obtain⟨t0,t1,t2⟩:=cr p;obtain⟨P,Q,S⟩:=cr i;obtain⟨U,V,X,J⟩:=(h.below c).row.aL;obtain⟨z,f0,z0⟩:=cr X;have Z:=ad (mG R B W r g o s C O (h.below c) hF L);have H:RH (s.ro.lz=false->lC g s=bV g s):=λe=>by funext N k A;unfold lC;rw[al (by rw[e];decide)]
 have q:RH (s.ro.lz=true->lC g s s 0 0):=λe=>by unfold lC;rw[ak e];exact⟨rfl,rfl,rfl⟩
 cases d:s.ro.lz with
 |true=>
  rw[d]at z;have f:=ad (q d);go_enter func174,ntmps174;go_wp2_with fail
  try simp only[x,b]
  go_wp2_with fail;refine RB (v:=.agg #[ae 0,aG 0]) (by simp[RV,results174,go_sem];go_simp) rfl (gW.done f a.2.2.2 (Fr.af a.1) a.2.1 y (by rw[<-b];exact a.2.2.1) rfl)
 |false=>
  rw[d]at z;have f:=ad (H d);go_enter func174,ntmps174;go_wp2_with fail
  try simp only[x,b]
  go_wp2_with(go_at_call 123;refine Z.mono ?_;rintro e w3 ⟨N,k,A,t,rfl,u,j⟩;obtain⟨M,n,l⟩:=cj k A;rw[l];obtain⟨d1,d2,d3⟩:=cr (j.hp a.2.1 rfl);have m:=aS t u j l);refine RB (v:=.agg #[ae M,.int .u16 n]) (by simp[RV,results174,go_sem];go_simp) rfl ?_;exact gW.done (by rw[f.out];exact m.1) m.2.1 ((Fr.af a.1).tr m.2.2.1) (m.2.2.1.hp a.2.1 rfl) y (by rw[<-b];exact a.2.2.1) m.2.2.2
structure uV[Lo](wA:M)(R B W r:Nat)(g:au)(fb:Nat)(s:Rs)(v:QN)(wl:List Pt)(ta tb:Int)(T':Nat)(wx:M):Prop where
 new:wA.heap.size<=T'
 PK:wx.heap[T']? =some (N #[Y ta,.int .u16 tb] 172)
 rs:cq wx R B W r g fb s
 bU:Fr iH aF wA wx
 yq:fc wx v wl
theorem uV.wg[Lo]{a b:Int}(h:z.heap[j]?=some (N #[x,y] 172))(c:w.heap.size<=j)(e:Lo.lo<=w.heap.size)(f:cq z n m k r g i s)(o:Fr iH aF w z)(q:fc z v l):
  uV w n m k r g i s v l a b j ((z.setCell (R j 0) (Y a)).setCell (R j 1) (.int .u16 b)):=by
 have d:=jg (ni z j (Y a) (.int .u16 b)) h (QO e c);refine⟨c,?_,f.fr d rfl,(o.new (p:=R j 0) c _).new (p:=R j 1) c _,q.fr d rfl rfl⟩;have t:=heap_setCell_same z j 0 _ 172 (Y a) h;have u:=heap_setCell_same (z.setCell (R j 0) (Y a)) j 1 _ 172 (.int .u16 b) t;rw[u];rfl
theorem uV.fresh[Lo]{a b:Int}(d:cq z n m k r g i s)(c:Fr iH aF w z)(e:fc z v l):
  uV w n m k r g i s v l a b z.heap.size (z.alloc (N #[Y a,.int .u16 b] 172)):=
 ⟨c.size,QM _ _,d.below (aI aj _),c.alloc _,e.below (aI aj _)⟩
theorem xj[Lo](w0:QL)(T R B W r:Nat)(g:au)(P:Nat)(s:Rs)(C c:Nat)(f:aO)(pv d3:QN)(t:List Pt)(w:QL)(h:cq w R B W r g P s)(d4:sD w0 w T R pv d3 t)(hF:Fit g C s)(d5:s.x.lg=some (c,f))(a3:1<=c)(b5:s.x.u+c<=s.x.N):
  aD 173 #[aq T] w (gW R B W r g P (Dj g c f t s) w):=by
 obtain⟨V,D,d6,u,a,a4⟩:=dQ w (ao #[ae 0,aG 0] 172);have j:=aS a a4 h.cg.low (h.below a);have b6:w.heap.size<=D:=RY u;obtain⟨g6,A,d7⟩:=d4.aL;have d8:T<D:=by rw[<-u];exact Z_ A
 have G:=(a.block T (Z_ A)).trans A;have Z:=(d7.below a).yq;obtain⟨Q,U,rfl,-⟩:=id Z;obtain⟨t0,t1,t2⟩:=cr G;obtain⟨d9,e0,x1,x2⟩:=(h.below a).row.aL;obtain⟨k0,f0,z0⟩:=cr x1;have H:∀E,ar V E->aD 257 #[aq W] E (λe d=>aK e (.int .u16 ((s.dF g c f).2:Nat))/\(cq d R B W r g P {s with b:=(s.dF g c f).1,x:=s.x.eJ c (s.dF g c f).2}/\Fr iH aF V d/\fc d (.slice Q t.length U) t)/\(d.cell? ⟨T,0,none⟩=some (aq R)/\d.cell? ⟨T,3,none⟩=some (.slice Q t.length U)/\d.cell? ⟨R,4,none⟩=some (aq W))/\∀k o,E.heap[k]?=some o->iH.contains (ty o)=false->d.heap[k]?=some o):=λE a5=>by refine(Di W r B g.M c f s.x s.b E ((h.below a).below a5).kc ((h.below a).below a5).cg (by rw[hF.N];omega) d5 a3 b5 hF.cI.2.2 (λv b7=>⟨(hF.gB v b7).1,by have:=(hF.gB v b7).2;omega⟩) hF.bad).mono ?_;rintro e d ⟨rfl,g1,g2,g3⟩;have K:=(Fr.af (T:=fT) (S:=aF) a5).tr g3;have q1:=(cr (K.hp G rfl)).1;exact⟨rfl,⟨⟨(h.below a).row.fr K rfl rfl rfl rfl,g1,g2,h.lo⟩,K.rw,Z.fr K rfl rfl⟩,⟨q1 0,q1 3,(cr (K.hp x1 rfl)).1 4⟩,λk o e7 e8=>g3.rw.hp e7 e8⟩
 have y:RH (∀l:Nat,l=(s.dF g c f).2->Dj g c f t s {b:=(s.dF g c f).1,x:=s.x.eJ c (s.dF g c f).2,ro:=if(s.dF g c f).2=0 then{s.ro with sl:=true,wt:=t}else s.ro} g.M l):=λl e=>⟨rfl,rfl,e⟩;obtain⟨X,b8⟩:=ah (s.dF g c f);rw[b8]at H y;obtain⟨b2,l⟩:=X;simp only at H y;have i:=ad (y l rfl);obtain⟨e9,N⟩:=ah (s.x.eJ c l);rw[N]at H i;have b9:=ad (λE (h:ff E R B (some ⟨W,0,none⟩) g P s.ro)=>h' R B (some ⟨W,0,none⟩) g P s.ro l E h);have c0:=ad H;have c4:=aA G x1;obtain⟨n,c5⟩:=ah t.length;rw[c5]at t0 c0 c4;clear H y N b8 b5 c5;obtain⟨a2,A,z⟩:=cj g.M l;have M:=ad z;rw[z]at b9;have c6:=ad (show Lo.lo<=V.heap.size from QO j.2.2.1 j.1.size);go_enter func173,ntmps173;go_wp2_with fail
 try simp only[d6,u]
 go_cut [3,15,16] (λs3 a6 a7 f2=>∃a8,s3= aq a8/\a6= aG l/\a7=.agg #[ae a2,.int .u16 A]/\RH (uV V R B W r g P {s with b:=b2,x:=e9} (.slice Q n U) t a2 A a8 f2))
 case first=>
  go_region_held3(λd=>d.cell? ⟨T,0,none⟩=some (aq R)/\d.cell? ⟨T,3,none⟩=some (.slice Q n U)/\d.cell? ⟨R,4,none⟩=some (aq W)) ((simp[*,go_sem];done)) (first|(go_at_call 257;refine(c0 _ bC).mono ?_;rintro e w3 ⟨rfl,g1,⟨g2,g3,K⟩,g5⟩;(try(have F:=g5 _ _ (QM V (ao #[ae 0,aG 0] 172)) rfl;obtain⟨c7,f7,z7⟩:=cr F;have H7:=ad F));have m:=ad g1;have a9:=QY _ _ g2;have b0:=QY _ _ K)|(go_at_call 178;refine(b9 _ (m.1.below bC).row).mono ?_;rintro e w4 ⟨rfl,b1⟩;(try(have F:=(b1.block _ dI).trans H7;obtain⟨c8,f8,z8⟩:=cr F;have H8:=ad F));(try(have F:=(b1.block _ dI).trans (QM w3 (ao #[ae 0,aG 0] 172));obtain⟨c9,f9,z9⟩:=cr F;have H9:=ad F));have p:RH (ar w3 w4):=via bC b1;obtain⟨q1,q2,q3⟩:=kp p T a9;obtain⟨q4,q5,q6⟩:=kp p R b0))
  all_goals go_wp2
  all_goals go_meet
  all_goals first
   |exact⟨_,rfl,rfl,rfl,uV.wg H8 (QP _) c6 (m.1.below p) (m.2.1.then p) (m.2.2.below p)⟩
   |exact⟨_,rfl,rfl,rfl,uV.wg H9 m.2.1.size c6 (m.1.below p) (m.2.1.then p) (m.2.2.below p)⟩
   |exact⟨_,rfl,rfl,rfl,uV.fresh (m.1.below p) (m.2.1.then p) (m.2.2.below p)⟩
 case rest=>
  rename_i f3;refine f3 _ _ ?_;obtain⟨a8,rfl,rfl,rfl,q⟩:=hcut;have d0:=q.bU.hp j.2.1 rfl;obtain⟨e1,e2,e3⟩:=cr d0;have z:=q.bU.hp c4.1 rfl;obtain⟨e4,e5,e6⟩:=cr z;obtain⟨c1,c2,c3⟩:=cr q.PK;obtain⟨d1,f4,y1,y2⟩:=q.rs.row.aL;obtain⟨k1,f1,z1⟩:=cr y1;obtain⟨f5,f6,rfl,-⟩:=y2;have d2:=ad d0;have I:Lo.lo<=D:=by rw[<-u];exact j.2.2.1
  by_cases Y:l=0
  .have g0:=ad Y;have L:a2=0/\A=0:=by have:=M.out;rw[Y,de]at this;cases this;exact⟨rfl,rfl⟩
   obtain⟨rfl,rfl⟩:=L;go_wp2;go_region_held3(λd=>d.cell? ⟨T,0,none⟩=some (aq R)/\d.cell? ⟨T,3,none⟩=some (.slice Q n U)) ((simp[*,go_sem];done)) (first|fail);go_wp2;have J:=q.rs.qp true;have a0:=jK q.rs 8 dU;have b3:=q.yq.fr a0 rfl rfl;have b4:=J.wait b3;have a1:=a0.tr (jK J 7 (.slice Q n U));have O:=i.out;rw[g0.out]at O;rw[ak rfl]at O;refine RB (v:=.agg #[ae 0,aG 0]) (by simp[RV,results173,go_sem];go_simp) rfl ?_;exact(gW.done O b4 (((Fr.af j.1).tr q.bU).tr (a1.wide iH rfl)) (a1.hp d2 rfl) b6 I rfl).drew
  .have L:a2=(g.M:Nat)/\A=(l:Nat):=by
    have:=M.out;rw[be _ Y]at this;cases this;exact⟨rfl,rfl⟩
   obtain⟨rfl,rfl⟩:=L;have g7:¬(l:Int)=0:=aa;rw[al Y]at i;go_wp2;refine RB (v:=.agg #[ae g.M,aG l]) (by simp[RV,results173,go_sem];go_simp) rfl ?_;exact gW.done i q.rs ((Fr.af j.1).tr q.bU) d2 b6 I (be _ Y)
def ea(g:au)(B:bp)(s a:Rs)(k b:Nat):Prop:=if 2*B.dJ g+1<=s.x.N-s.x.u then a=s/\k=0/\b=0 else gz g s a k b
theorem bp.yK(h:g.ok)(B:bp):B.dJ g<=100000:=by
 unfold bp.dJ;have e:=B.qO h;have c:∀l:List (List Pt),(∀x,x∈l->x.length<=16)->(l.map WD).sum<=16*l.length:=by
  intro l;induction l with
  |nil=>intro _;simp
  |cons a l d=>intro h;have:=d λx b=>h x (SY _ b);have:=h a (SO ..);simp only[UC,List.sum_cons,SQ];omega
 have:=c _ λx b=>B.yx h b;omega
theorem GA[Lo](w0:QL)(T R B W r:Nat)(g:au)(H:Nat)(s:Rs)(C:Nat)(i:bp)(pv b1:QN)(w:QL)(h:cq w R B W r g H s)(b2:sD w0 w T R pv b1 [])(hF:Fit g C s)(b3:20000<=C)(b4:i.ok g)(b5:i.n<=256)(b6:gQ w pv i)(y:2*i.dJ g+1<=s.x.N)(b7:s.x.N<=2048)(a7:s.x.u<=s.x.N):
  aD 169 #[aq T] w λe b=>gW R B W r g H (ea g i s) w e b/\(2*i.dJ g+1<=s.x.N-s.x.u->ar w b):=by
 obtain⟨K,D,a8,o,d,O⟩:=dQ w (ao #[ae 0,aG 0] 172);have f:=aS d O h.cg.low (h.below d);have X:w.heap.size<=D:=RY o;obtain⟨c8,Z,c9⟩:=b2.aL;have M:=(d.block T (Z_ Z)).trans Z;obtain⟨t0,t1,t2⟩:=cr M;obtain⟨b8,b9,t⟩:=cr O;obtain⟨c0,c1,x1,x2⟩:=(h.below d).row.aL;obtain⟨k0,f0,z0⟩:=cr x1;have I:=ad (λW (j:ar K W)=>yy g i pv W hF.bZ b4 b5 ((b6.below d).below j));have l:=ad (λV (j:ar K V)=>CG W r B g.M s.x V ((h.below d).below j).kc);have A:=ad (λV (j:ar K V)=>CH W r B g.M s.x V ((h.below d).below j).kc);have Y:=ad (λV (j:ar K V)=>uU R B W r g H s C V ((h.below d).below j) hF b3);have E:=i.yK hF.bZ;have P:RH (¬2*i.dJ g+1<=s.x.N-s.x.u->ea g i s=gz g s):=λe=>by funext c2 k a9;unfold ea;rw[al e]
 have m:RH (2*i.dJ g+1<=s.x.N-s.x.u->ea g i s s 0 0):=λe=>by unfold ea;rw[ak e];exact⟨rfl,rfl,rfl⟩
 obtain⟨q,c3⟩:=ah (i.dJ g);obtain⟨N,J⟩:=ah s.x.N;obtain⟨u,a0⟩:=ah s.x.u;rw[c3]at I P m E y;rw[J]at l P m y b7 a7;rw[a0]at A P m a7;obtain⟨a,c4⟩:=ah (2*q);obtain⟨n,a1⟩:=ah (a+1);have e1:QQ.wrap (2*(q:Int))=(a:Nat):=by have:(2:Int)*(q:Nat)=((a:Nat):Int):=aa;rw[this];go_arith
 have e2:QQ.wrap ((a:Int)+1)=(n:Nat):=by have:((a:Nat):Int)+1=((n:Nat):Int):=aa;rw[this];go_arith
 obtain⟨z,x⟩:=ah (N-u);have e3:QQ.wrap ((N:Int)-(u:Nat))=(z:Nat):=by have:((N:Nat):Int)-(u:Nat)=((z:Nat):Int):=aa;rw[this];go_arith
 have e4:decide ((n:Int)>(N:Nat))=false:=aQ;have c5:¬N<n:=aa;rw[c4,x,a1]at P m;have b0:Lo.lo<=D:=by rw[<-o];exact f.2.2.1
 have a2:RH (2*i.dJ g+1<=s.x.N-s.x.u->n<=z):=λe=>aa;by_cases F:n<=z
 .have G:=ad (m F);have e5:decide ((n:Int)>(z:Nat))=false:=aQ;have a3:¬z<n:=aa;go_enter func169,ntmps169;go_wp2_with fail
  try simp only[a8,o]
  go_wp2_with fail;go_region_held3(λb=>b.cell? (ag T 0)=some (aq R)/\b.cell? (ag T 1)=some pv/\b.cell? (ag R 1)=some (ae g.M)/\b.cell? (ag R 2)=some (ae g.c)/\b.cell? (ag R 3)=some (ae g.s)) ((simp[*,go_sem];done)) (first|(go_at_call 104;refine(I _ bC).mono ?_;rintro e w3 ⟨rfl,j⟩;have c:RH (ar K w3):=via bC j;obtain⟨p1,p2,p3⟩:=kp c T t2;obtain⟨p4,p5,p6⟩:=kp c R z0;obtain⟨p7,p8,p9⟩:=kp c D t));go_wp2_with(go_at_call 254;refine(l _ c).mono ?_;rintro e L ⟨rfl,rfl⟩);go_region_held3(λb=>b.cell? (ag T 0)=some (aq R)/\b.cell? (ag R 4)=some (aq W)) ((simp[*,go_sem];done)) (first|(go_at_call 254;refine(l _ (via c bC)).mono ?_;rintro e L ⟨rfl,rfl⟩)|(go_at_call 144;refine(A _ (via c bC)).mono ?_;rintro e L ⟨rfl,rfl⟩));go_wp2;have c6:=(c.block D t).trans f.2.1;refine RB (v:=.agg #[ae 0,aG 0]) (by simp[RV,results169,go_sem];go_simp) rfl ?_;exact⟨(gW.done G (f.2.2.2.below c) ((Fr.af f.1).then c) c6 X b0 rfl).drew,λ_=>aV (((f.1.trans (c.mono f.1.size)).setCell (p:=ag D 0) X _).setCell (p:=ag D 1) X _)⟩
 .have G:=ad (P F);have a4:=ad F;have e5:decide ((n:Int)>(z:Nat))=true:=aQ;have a3:z<n:=aa;go_enter func169,ntmps169;go_wp2_with fail
  try simp only[a8,o]
  go_wp2_with fail;go_region_held3(λb=>b.cell? (ag T 0)=some (aq R)/\b.cell? (ag T 1)=some pv/\b.cell? (ag R 1)=some (ae g.M)/\b.cell? (ag R 2)=some (ae g.c)/\b.cell? (ag R 3)=some (ae g.s)) ((simp[*,go_sem];done)) (first|(go_at_call 104;refine(I _ bC).mono ?_;rintro e w3 ⟨rfl,j⟩;have c:RH (ar K w3):=via bC j;obtain⟨p1,p2,p3⟩:=kp c T t2;obtain⟨p4,p5,p6⟩:=kp c R z0;obtain⟨p7,p8,p9⟩:=kp c D t));go_wp2_with(go_at_call 254;refine(l _ c).mono ?_;rintro e L ⟨rfl,rfl⟩);go_region_held3(λb=>b.cell? (ag T 0)=some (aq R)/\b.cell? (ag R 4)=some (aq W)) ((simp[*,go_sem];done)) (first|(go_at_call 254;refine(l _ (via c bC)).mono ?_;rintro e L ⟨rfl,rfl⟩)|(go_at_call 144;refine(A _ (via c bC)).mono ?_;rintro e L ⟨rfl,rfl⟩))
  all_goals go_wp2_with(go_at_call 114;refine(Y _ (via c bC)).mono ?_;rintro e L ⟨c2,k,a9,a5,rfl,a6,x⟩;obtain⟨c7,Z,Q⟩:=cj k a9;rw[Q];have S:=x.hp ((c.block D t).trans f.2.1) rfl;obtain⟨y1,y2,y3⟩:=cr S;have U:=bX a5 a6 x Q S)
  refine RB (v:=.agg #[ae c7,.int .u16 Z]) (by simp[RV,results169,go_sem];go_simp) rfl ?_;refine⟨?_,λe=>absurd (a2 e) a4⟩;exact gW.done (by rw[G.out];exact U.1) U.2.1 (((Fr.af f.1).then c).tr (Fr.low (Fr.af aj) (aV aj) (QP _)|>.tr U.2.2.1)) U.2.2.2.2 X b0 U.2.2.2.1
def Rs.hf(g:au)(s:Rs)(l:List Pt):By × Nat:=s.b.iF g.M s.x.pl (bo s.x.ep s.x.nx (aR l)) (2*l.length)
def xk(g:au)(l:List Pt)(s a:Rs)(k c:Nat):Prop:=a={s with b:=(s.hf g l).1,x:=s.x.cK (2*l.length+1) (bo s.x.ep s.x.nx (aR l) (2*l.length)) (s.hf g l).2}/\k=g.M/\c=(s.hf g l).2
def po(g:au)(l:List Pt)(s a:Rs)(k b:Nat):Prop:=Dj g (2*l.length+1) (bo s.x.ep s.x.nx (aR l) (2*l.length)) l s a k b
def Dm(g:au)(l:List Pt):Rs->Rs->Nat->Nat->Prop:=ly dt (ly (po g l) (lC g))
def yL(g:au)(l:List Pt):Rs->Rs->Nat->Nat->Prop:=ly (xk g l) (Dm g l)
def Rs.jm(g:au)(B:bp)(s:Rs):By × Nat × Nat:=s.b.bK (dE g s.ro (B.bT g) (B.eR g))
def LO(g:au)(B:bp)(s a:Rs)(k c:Nat):Prop:=
 ((s.jm g B).2.2≠0/\a={s with b:=(s.jm g B).1}/\k=(s.jm g B).2.1/\c=(s.jm g B).2.2)\/
 ((s.jm g B).2.2=0/\∃d,dX (oU g s.b s.ro (B.bT g)) d (B.eR g)/\yL g d.flatten {s with b:=(s.jm g B).1} a k c)
def Rs.fG(s:Rs):Rs:={s with ro:={s.ro with sl:=false}}
def gD(g:au)(B:bp)(s:Rs):Rs->Nat->Nat->Prop:=ly (ea g B) (LO g B) s.fG
theorem By.sI:∀{l:List Nat} {j:Nat} {v:Dv},(b.bK l).1.dv j=some v->∃c,b.dv j=some c/\v.d.n=c.d.n/\v.d.cn<=c.d.cn:=by
 intro l;induction l generalizing b with
 |nil=>exactλh=>⟨_,h,rfl,QP _⟩
 |cons a t o=>
  intro j v d;have one:∀u,(b.op a bS).1.dv j=some u->∃c,b.dv j=some c/\u.d.n=c.d.n/\u.d.cn<=c.d.cn:=λu f=>by
   by_cases e:j=a
   .subst e;obtain⟨c,g,i,k⟩:=By.iA (m:=0) (act:=bS) (λv=>⟨rfl,QP _⟩) f;exact⟨c,g,i,k⟩
   .rw [By.dN bS e]at f;exact⟨u,f,rfl,QP _⟩
  simp only[By.bK]at d;by_cases n:(b.op a bS).2=0
  .rw [ak n]at d;obtain⟨p,g,i,k⟩:=o d;obtain⟨c,q,r,s⟩:=one p g;exact⟨c,q,i.trans r,QO k s⟩
  .rw [al n]at d;exact one v d
theorem Fit.bK(h:Fit g C s)(l:List Nat):Fit g C {s with b:=(s.b.bK l).1}:=by
 refine⟨h.bZ,(By.oR s.b l).trans h.N,λm v e a=>?_,λv a=>?_,h.bad,h.cA,h.iG,h.wt,h.mB⟩
 .obtain ⟨c,d,f,i⟩:=By.sI a;have:=h.mem m c e d;omega
 .obtain ⟨c,d,f,i⟩:=By.sI a;have:=h.gB c d;show 2+s.x.N<=_/\_;omega
theorem By.Dn(c:(b.iF k f F n).1.dv j=some U):∃a,b.dv j=some a/\U.d.n=a.d.n/\U.d.cn<=a.d.cn+n:=by
 have h:∀m u,(b.dq k f F m).1.dv j=some u->∃a,b.dv j=some a/\u.d.n=a.d.n/\u.d.cn<=a.d.cn+m:=by
  intro m u g;by_cases e:j=k
  .subst e;exact By.gv b j f F m u g
  .have:∀m,(b.dq k f F m).1.dv j=b.dv j:=by
    intro m;induction m with
    |zero=>rfl
    |succ m i=>
     unfold By.dq;split
     .rw [By.dN _ e,i]
     .exact i
   rw[this]at g;exact⟨u,g,rfl,Nat.le_add_right _ _⟩
 unfold By.iF at c;split at c
 .have l:∃d,(b.dq k f F n).1.dv j=some d/\U.d.n=d.d.n/\U.d.cn<=d.d.cn:=by
   by_cases e:j=k
   .subst e;exact By.iA (m:=0) (λU=>⟨(dW U).1,(dW U).2⟩) c
   .rw [By.dN ba e]at c;exact⟨U,c,rfl,QP _⟩
  obtain⟨d,o,p,q⟩:=l;obtain⟨a,r,s,t⟩:=h n d o;exact⟨a,r,p.trans s,QO q t⟩
 .exact h n U c
theorem sJ{s d:Rs}(h:Fit g C s)(q:5000<=C)(r:l.length<=2048)(e:xk g l s d k 0):Fit g (C-5000) d:=by
 obtain⟨rfl,-,f⟩:=e;have i:s.x.cK (2*l.length+1) (bo s.x.ep s.x.nx (aR l) (2*l.length)) (s.hf g l).2={s.x with sure:=true,lg:=some (2*l.length+1,bo s.x.ep s.x.nx (aR l) (2*l.length)),bad:=0}:=by unfold Wl.cK;rw[<-f];rfl
 have j:(s.hf g l).1.N=s.b.N:=by
  show(s.b.iF g.M s.x.pl (bo s.x.ep s.x.nx (aR l)) (2*l.length)).1.N=_;unfold By.iF;split
  .rw [By.fp,By.kb]
  .exact By.kb ..
 rw[i];refine⟨h.bZ,j.trans h.N,λm v n a=>?_,λv a=>?_,rfl,(show s.x.ep+(C-5000)<=_/\1<=s.x.nx/\s.x.nx+(C-5000)<=_ by have:=h.cA;omega),h.iG,h.wt,h.mB⟩
 .obtain ⟨b,c,o,p⟩:=By.Dn a;have:=h.mem m b n c;omega
 .obtain ⟨b,c,o,p⟩:=By.Dn a;have:=h.gB b c;show 2+s.x.N<=_/\_;omega
structure rk(g:au)(l:List Pt):Prop where
 iG:l.length<=5000
 wt:∀p,p∈l->p.1<g.M/\p.2.1<g.R/\∀k,k<128->p.2.2 k<256
 mB:(l.map fun p=>(p.1,p.2.1)).Nodup
theorem pq{s i:Rs}(h:Fit g C s)(w:5000<=C)(d:rk g l)(o:po g l s i k 0):Fit g (C-5000) i:=by
 obtain⟨rfl,-,n⟩:=o;have p:s.x.eJ (2*l.length+1) (s.dF g (2*l.length+1) (bo s.x.ep s.x.nx (aR l) (2*l.length))).2={s.x with nx:=s.x.nx+1,sure:=false,lg:=none,u:=s.x.u+(2*l.length+1),bad:=0}:=by unfold Wl.eJ;rw[<-n];rfl
 rw[p,<-n,ak rfl];have c:∀j v,(s.dF g (2*l.length+1) (bo s.x.ep s.x.nx (aR l) (2*l.length))).1.dv j=some v->∃b,s.b.dv j=some b/\v.d.n=b.d.n/\v.d.cn<=b.d.cn+1:=λj v a=>by
  unfold Rs.dF at a;by_cases e:j=g.M
  .subst e;exact By.iA (m:=1) (λv=>ey _ _ v) a
  .rw [By.dN _ e]at a;exact⟨v,a,rfl,VC _⟩
 refine⟨h.bZ,(By.fp _ _ _).trans h.N,λm v q a=>?_,λv a=>?_,rfl,(show s.x.ep+(C-5000)<=_/\1<=s.x.nx+1/\s.x.nx+1+(C-5000)<=_ by have:=h.cA;omega),d.iG,d.wt,d.mB⟩
 .obtain ⟨b,f,r,t⟩:=c m v a;have:=h.mem m b q f;omega
 .obtain ⟨b,f,r,t⟩:=c g.M v a;have:=h.gB b f;show 2+s.x.N<=_/\_;omega
def Ap(w:M)(n:Nat):M:={w with heap:=w.heap.extract 0 n}
theorem lD(w:M)(n k:Nat):(Ap w n).heap[k]?=if k<n then w.heap[k]? else none:=by
 show(w.heap.extract 0 n)[k]?=_;rw[Array.getElem?_extract];by_cases h:k<n
 .rw [ak h];by_cases a:k<w.heap.size
  .rw [ak J];congr 1;omega
  .rw [al J,XB J]
 .rw [al h,al J]
theorem mH(h:n<=w.heap.size):(Ap w n).heap.size=n:=by show(w.heap.extract 0 n).size=n;rw[Array.size_extract];omega
theorem Fr.cut[Lo](h:Fr T aF W w):Fr T aF W (Ap w W.heap.size):=by refine⟨h.os,h.tape,h.output,RY (mH h.size).symm,λk o a b c=>?_⟩;rw[lD,ak (Z_ a)];exact h.block k o a b c
theorem Jy[Lo](h:n<=w.heap.size):Fr T aF (Ap w n) w:=by
 refine⟨rfl,rfl,rfl,by rw[mH h];exact h,λk o a _ _=>?_⟩;rw[lD]at a;split at a
 .exact a
 .cases a
theorem ff.cut(h:ff w m k P g i o)(d:o.wt= [])(e:m<n)(f:i<n):ff (Ap w n) m k P g i o:=by
 obtain⟨b,j,l,p⟩:=h.aL;refine⟨⟨b,j,?_,?_⟩,?_⟩
 .rw [lD,ak e];exact l
 .obtain ⟨a,c,q,r,-⟩:=p;exact⟨a,c,q,r,.inl d⟩
 .rw [lD,ak f];exact h.fy
theorem sD.base(h:sD W w n m v x l)(e:W.heap.size=z.heap.size):sD z w n m v x l:=by obtain⟨a,b⟩:=h;rw[e]at a b;exact⟨a,b⟩
def LP:List Nat:= [258,206,100,106,108,142,217,219,1000000,153,221,164]
theorem Fr.w2[Lo](h:Fr iH aF w W):Fr LP aF w W:=h.wide LP rfl
structure Jz(g:au)(Bt:bp)(s0:Rs):Prop where
 rows:∀s1 k1,ea g Bt s0.fG s1 k1 0->∀r,r∈Bt.eR g->sE g s1.b s1.ro r (Bt.bT g r)
 NF:∀s1 k1 ls,ea g Bt s0.fG s1 k1 0->dX (oU g s1.b s1.ro (Bt.bT g)) ls (Bt.eR g)->(s1.jm g Bt).2.2=0->rk g ls.flatten/\1<=ls.flatten.length/\2*ls.flatten.length+1<=s1.x.N-s1.x.u/\(aR ls.flatten).ok
structure Ij[Lo](R B W r:Nat)(g:au)(fb:Nat)(wS:M)(T:Nat)(pv lv:QN)(s:Rs)(l:List Pt)(w:M):Prop where
 rs:cq w R B W r g fb s
 bt:sD wS w T R pv lv l
 bU:Fr iH aF wS w
structure O'(s:Rs)(l:List Pt):Prop where
 lg:s.x.lg=some (2*l.length+1,bo s.x.ep s.x.nx (aR l) (2*l.length))
 room:s.x.u+(2*l.length+1)<=s.x.N
def BA[Lo](R B W r:Nat)(g:au)(e:Nat)(f:Rs)(h:bp)(C:Nat)(d:M)(T:Nat)(pv i:QN):Nat->M->Prop
 |0,w=>cq w R B W r g e f.fG/\sD d w T R pv i []/\ar d w
 |1,w=>∃m n j,ea g h f.fG m n 0/\Ij R B W r g e d T pv i m [] w/\j.heap.size=d.heap.size/\ff j R B (some ⟨W,0,none⟩) g e m.ro/\Fr TB aF j w/\Fr iH aF d j
 |2,w=>∃a l,Ij R B W r g e d T pv i a l w/\(∀b k c,yL g l a b k c->gD g h f b k c)/\Fit g (C-20000) a/\rk g l/\1<=l.length/\2*l.length+1<=a.x.N-a.x.u/\(aR l).ok
 |3,w=>∃a l,Ij R B W r g e d T pv i a l w/\(∀b k c,Dm g l a b k c->gD g h f b k c)/\Fit g (C-25000) a/\rk g l/\O' a l
 |4,w=>∃a l,Ij R B W r g e d T pv i a l w/\(∀b k c,ly (po g l) (lC g) a b k c->gD g h f b k c)/\Fit g (C-30000) a/\rk g l/\O' a l
 |5,w=>∃a l,Ij R B W r g e d T pv i a l w/\(∀b k c,lC g a b k c->gD g h f b k c)/\Fit g (C-35000) a
 |_,w=>∃a o,cq w R B W r g e a/\gD g h f a o 0/\Fr iH aF d w
def KL[Lo](R B W r:Nat)(g:au)(c:Nat)(d:Rs)(f:bp)(C:Nat)(h:M)(T:Nat)(pv l:QN)(i:Nat)(w:M)(e:SG)(a:M):Prop:=
 ∃k b,aK e (gV k b)/\Fr LP aF w a/\(b=0->BA R B W r g c d f C h T pv l (i+1) a)/\(b≠0->∃j,gD g f d j k b/\cq a R B W r g c j/\Fr iH aF h a)
theorem Ij.below[Lo]{R B W r:Nat}{w b:M}(h:Ij R B W r g n z m v x s l w)(a:ar w b):Ij R B W r g n z m v x s l b:=
 ⟨h.rs.below a,h.bt.fr (T':= []) (Fr.af a) rfl rfl rfl,h.bU.then a⟩
theorem BA.below[Lo]{R B W r:Nat}:∀{i:Nat} {w f:M},BA R B W r g n s K C z m v x i w->ar w f->BA R B W r g n s K C z m v x i f
 |0,_,_,⟨b,c,e⟩,a=>⟨b.below a,c.fr (T':= []) (Fr.af a) rfl rfl rfl,via e a⟩
 |1,_,_,⟨h,j,k,b,c,e,o,p,q⟩,a=>⟨h,j,k,b,c.below a,e,o,p.then a,q⟩
 |2,_,_,⟨d,l,b,c⟩,a=>⟨d,l,b.below a,c⟩
 |3,_,_,⟨d,l,b,c⟩,a=>⟨d,l,b.below a,c⟩
 |4,_,_,⟨d,l,b,c⟩,a=>⟨d,l,b.below a,c⟩
 |5,_,_,⟨d,l,b,c⟩,a=>⟨d,l,b.below a,c⟩
 |_+6,_,_,⟨d,t,b,c,e⟩,a=>⟨d,t,b.below a,c,e.then a⟩
theorem np{s o:Rs}(h:Fit g C s)(B:5000<=C)(p:gy g s o k 0):Fit g (C-5000) o:=by
 obtain⟨rfl,-,q⟩:=p;have r:s.x.qm s.x.ep (s.nk g s.x.ep).2=s.x.cy s.x.ep:=by unfold Wl.qm;rw[<-q];rfl
 rw[r];have c:∀j v,(s.nk g s.x.ep).1.dv j=some v->∃a,s.b.dv j=some a/\v.d.n=a.d.n/\v.d.cn<=a.d.cn+1:=λj v b=>by
  unfold Rs.nk By.ck at b;have one:∀u,(s.b.op g.M (aN 1 (aW s.x.ep s.x.nx ((s.x.t+s.x.u)%s.x.N)))).1.dv j=some u->∃a,s.b.dv j=some a/\u.d.n=a.d.n/\u.d.cn<=a.d.cn+1:=λu i=>by
   by_cases e:j=g.M
   .subst e;exact By.iA (m:=1) (λv=>ey _ _ v) i
   .rw [By.dN _ e]at i;exact⟨u,i,rfl,VC _⟩
  split at b
  .have d:∃f,(s.b.op g.M (aN 1 (aW s.x.ep s.x.nx ((s.x.t+s.x.u)%s.x.N)))).1.dv j=some f/\v.d.n=f.d.n/\v.d.cn<=f.d.cn:=by
    by_cases e:j=g.M
    .subst e;exact By.iA (m:=0) (λv=>⟨(dW v).1,(dW v).2⟩) b
    .rw [By.dN ba e]at b;exact⟨v,b,rfl,QP _⟩
   obtain⟨f,l,n,t⟩:=d;obtain⟨a,w,x,y⟩:=one f l;exact⟨a,w,n.trans x,QO t y⟩
  .exact one v b
 have z:(s.nk g s.x.ep).1.N=s.b.N:=by unfold Rs.nk By.ck;split<;>simp only[By.fp]
 refine⟨h.bZ,z.trans h.N,λm v A b=>?_,λv b=>?_,h.bad,(show s.x.ep+(C-5000)<=_/\1<=s.x.nx/\s.x.nx+(C-5000)<=_ by have:=h.cA;omega),h.iG,h.wt,h.mB⟩
 .obtain ⟨a,d,l,n⟩:=c m v b;have:=h.mem m a A d;omega
 .obtain ⟨a,d,l,n⟩:=c g.M v b;have:=h.gB a d;show 2+s.x.N<=_/\_;omega
theorem ft{p q:Rs->Rs->Nat->Nat->Prop}{s a:Rs}(h:ly p q s a k 0):∃b c,p s b c 0/\q b a k 0:=by
 rcases h with h|h
 .exact h
 .exact absurd rfl h.2
theorem Aq{s a:Rs}(h:Fit g C s)(i:20000<=C)(c:gz g s a k 0):Fit g (C-20000) a:=by obtain⟨j,l,b,d⟩:=ft c;obtain⟨m,n,e,f⟩:=ft d;have f1:=d_ h J (d' b) b;have f2:=fF f1 J e;have f3:=np f2 J f;exact f3.less J
theorem Dp{s d:Rs}(h:gz g s d k 0):d.ro.wt= []/\d.x.u=0/\d.x.N=s.x.N:=by
 obtain⟨i,u,b,j⟩:=ft h;obtain⟨a,v,m,n⟩:=ft j;have o:=d' b;have p:i.x.sure=true:=nn b;unfold bV at b;rw[ak o]at b;have e:=nm b;unfold cz at b;rw[ak (by rw[<-e];exact p)]at b;obtain⟨l,-,-,-,c⟩:=b;rw[ak rfl]at c;obtain⟨-,q,r⟩:=m;obtain⟨rfl,-,f⟩:=n;have t:(s.synced g).1.x.N=s.x.N:=by unfold Rs.synced;split<;>rfl
 refine⟨by show a.ro.wt= [];rw[r,c],?_,?_⟩
 .show (a.x.qm a.x.ep (a.nk g a.x.ep).2).u=0;unfold Wl.qm;rw[<-f];rfl
 .show (a.x.qm a.x.ep (a.nk g a.x.ep).2).N=s.x.N;unfold Wl.qm;rw[<-f,ak rfl];show a.x.N=_;rw[q,e,t]
theorem Dq{s b:Rs}(h:Fit g C s)(c:20000<=C)(a:ea g K s b k 0):Fit g (C-20000) b:=by
 unfold ea at a;split at a
 .rw [a.1];exact h.less (ZH ..)
 .exact Aq h c a
section
theorem cq.ring[Lo]{w:M}{R B W r:Nat}{g:au}{fb:Nat}{s:Rs}(h:cq w R B W r g fb s):5<=s.x.N/\s.x.N<=2048/\s.x.t<s.x.N/\s.x.u<=s.x.N:=by obtain⟨p,a⟩:=h.kc;exact⟨a.ring.lo,a.ring.hi,a.ring.t,a.ring.u⟩
section
variable [Lo] {R B W r:Nat} {g:au} {fb:Nat} {s0:Rs} {Bt:bp} {C:Nat} {wS:QL} {T:Nat} {pv lv:QN}
theorem PL{w:M}(F:100000<=C)(hF:Fit g C s0)(v:Bt.ok g)(x:Bt.n<=256)(l:2*Bt.dJ g+1<=s0.x.N)(o:gQ wS pv Bt)(f:cq wS R B W r g fb s0.fG)(h:BA R B W r g fb s0 Bt C wS T pv lv 0 w):
  aD 169 #[H T] w (KL R B W r g fb s0 Bt C wS T pv lv 0 w):=by
 obtain⟨q,s,p⟩:=h;have t:=q.ring;refine(GA wS T R B W r g fb s0.fG C Bt pv lv w q s (hF.sl false) J v x (o.below p) l t.2.1 t.2.2.2).mono ?_;rintro e y ⟨⟨u,k,z,c,rfl,d,i⟩,m⟩;have b:=(Fr.af (T:=iH) (S:=aF) p).tr i;refine⟨k,z,rfl,i.w2,λe=>?_,λe=>⟨u,.inr ⟨c,e⟩,d,b⟩⟩;subst e;have n:=s.fr i rfl rfl rfl;by_cases j:2*Bt.dJ g+1<=s0.fG.x.N-s0.fG.x.u
 .have A:=m j;have a:=c;unfold ea at a;rw[ak j]at a;obtain⟨rfl,-,-⟩:=a;exact⟨s0.fG,k,wS,c,⟨d,n,b⟩,rfl,f.row,Fr.af (via p A),Fr.refl _ _ _⟩
 .have a:=c;unfold ea at a;rw[al j]at a;obtain⟨D,G,E,-⟩:=f.row.aL;exact⟨u,k,Ap y wS.heap.size,c,⟨d,n,b⟩,mH b.size,d.row.cut (Dp a).1 (Z_ E) (Z_ f.row.fy),Jy b.size,b.cut⟩
theorem PN{w:M}(Q:100000<=C)(hF:Fit g C s0)(p:Jz g Bt s0)(l:IY wS lv (Bt.fD g))(m:Lo.lo<=wS.heap.size)(h:BA R B W r g fb s0 Bt C wS T pv lv 1 w):
  aD 170 #[H T] w (KL R B W r g fb s0 Bt C wS T pv lv 1 w):=by
 obtain⟨a,i,y,c,j,n,q,z,s⟩:=h;have A:(Bt.eR g).length<=5000:=by have S:=fv g.R (aX g Bt Bt.n);have U:=au.g_ hF.bZ;unfold bp.eR;omega
 refine(wZ y T R B (some (ag W 0)) g fb a.ro a.b (Bt.bT g) (Bt.eR g) pv lv w q z j.rs.cg (j.bt.base n.symm) (l.fr s rfl rfl rfl) (p.rows a i c) A (by rw[n];exact m)).mono ?_;rintro e t ⟨rfl,D,u,v,E⟩;have d:cq t R B W r g fb {a with b:=(a.jm g Bt).1}:=⟨q.fr u rfl rfl rfl rfl,D,j.rs.kc.fr v rfl rfl rfl rfl,j.rs.lo⟩;have f:Fr iH aF wS t:=s.tr u.rb;refine⟨(a.jm g Bt).2.1,(a.jm g Bt).2.2,rfl,v.wide LP rfl,λe=>?_,λe=>⟨_,.inl ⟨a,i,c,.inl ⟨e,rfl,rfl,rfl⟩⟩,d,f⟩⟩;obtain⟨o,x,F⟩:=E e;obtain⟨G,K,L,O⟩:=p.NF a i o c x e;exact⟨_,o.flatten,⟨d,F.base n,f⟩,λV k X P=>.inl ⟨a,i,c,.inr ⟨e,o,x,P⟩⟩,(Dq (hF.sl false) J c).bK _,G,K,L,O⟩
theorem PO{w:QL}(G:100000<=C)(h:BA R B W r g fb s0 Bt C wS T pv lv 2 w):
  aD 171 #[H T] w (KL R B W r g fb s0 Bt C wS T pv lv 2 w):=by
 obtain⟨a,l,d,o,hF,s,t,u,y⟩:=h;have K:=d.rs.ring;refine(Ai wS T R B W r g.M g fb a.ro a.b a.x l pv lv w d.rs.row d.rs.cg d.rs.kc d.bt (by rw[hF.N];omega) y t J hF.cI (λv p=>⟨(hF.gB v p).1,by have:=(hF.gB v p).2;omega⟩) hF.bad u).mono ?_;rintro e z ⟨rfl,A,D,m⟩;have i:cq z R B W r g fb {a with b:=(a.hf g l).1,x:=a.x.cK (2*l.length+1) (bo a.x.ep a.x.nx (aR l) (2*l.length)) (a.hf g l).2}:=⟨d.rs.row.fr m rfl rfl rfl rfl,A,D,d.rs.lo⟩;have j:=d.bU.tr m.rw;have f:∀n,n=(a.hf g l).2->xk g l a {a with b:=(a.hf g l).1,x:=a.x.cK (2*l.length+1) (bo a.x.ep a.x.nx (aR l) (2*l.length)) (a.hf g l).2} g.M n:=λn e=>⟨rfl,rfl,e⟩;refine⟨g.M,(a.hf g l).2,rfl,m.rw.w2,λe=>?_,λe=>⟨_,o _ _ _ (.inr ⟨f _ rfl,e⟩),i,j⟩⟩;have c:=f 0 e.symm;have q:a.x.cK (2*l.length+1) (bo a.x.ep a.x.nx (aR l) (2*l.length)) (a.hf g l).2={a.x with sure:=true,lg:=some (2*l.length+1,bo a.x.ep a.x.nx (aR l) (2*l.length)),bad:=0}:=by unfold Wl.cK;rw[e];rfl
 have E:=sJ hF J J c;refine⟨_,l,⟨i,d.bt.fr m rfl rfl rfl,j⟩,λL k n F=>o _ _ _ (.inl ⟨_,g.M,c,F⟩),E.less J,s,?_⟩;constructor
 .show (a.x.cK _ _ _).lg=some (2*l.length+1,bo (a.x.cK _ _ _).ep (a.x.cK _ _ _).nx (aR l) (2*l.length));rw[q]
 .show (a.x.cK _ _ _).u+(2*l.length+1)<=(a.x.cK _ _ _).N;rw[q];show a.x.u+(2*l.length+1)<=a.x.N;omega
theorem PQ{w:M}(t:100000<=C)(h:BA R B W r g fb s0 Bt C wS T pv lv 3 w):
  aD 172 #[H T] w (KL R B W r g fb s0 Bt C wS T pv lv 3 w):=by
 obtain⟨f,l,c,i,hF,p,j⟩:=h;refine(Dl wS T R B W r g fb f _ pv lv l w c.rs c.bt hF J).mono ?_;rintro e u ⟨m,k,n,a,rfl,d,b⟩;refine⟨k,n,rfl,b.w2,λe=>?_,λe=>⟨_,i _ _ _ (.inr ⟨a,e⟩),d,c.bU.tr b⟩⟩;subst e;have o:m.x=f.x:=by obtain⟨_,_,_,h,_⟩:=a;exact h
 refine⟨m,l,⟨d,c.bt.fr b rfl rfl rfl,c.bU.tr b⟩,λq v n s=>i _ _ _ (.inl ⟨_,k,a,s⟩),(gC hF J a).less J,p,?_⟩;exact⟨by rw[o];exact j.lg,by rw[o];exact j.room⟩
theorem PR{w:M}(s:100000<=C)(h:BA R B W r g fb s0 Bt C wS T pv lv 4 w):
  aD 173 #[H T] w (KL R B W r g fb s0 Bt C wS T pv lv 4 w):=by
 obtain⟨f,l,c,i,hF,n,j⟩:=h;refine(xj wS T R B W r g fb f _ (2*l.length+1) (bo f.x.ep f.x.nx (aR l) (2*l.length)) pv lv l w c.rs c.bt hF j.lg J j.room).mono ?_;rintro e t ⟨o,k,m,b,rfl,d,a⟩;refine⟨k,m,rfl,a.w2,λe=>?_,λe=>⟨_,i _ _ _ (.inr ⟨b,e⟩),d,c.bU.tr a⟩⟩;subst e;exact⟨o,l,⟨d,c.bt.fr a rfl rfl rfl,c.bU.tr a⟩,λp u m q=>i _ _ _ (.inl ⟨_,k,b,q⟩),(pq hF J n b).less J⟩
theorem PS{w:M}(n:100000<=C)(h:BA R B W r g fb s0 Bt C wS T pv lv 5 w):
  aD 174 #[H T] w (KL R B W r g fb s0 Bt C wS T pv lv 5 w):=by
 obtain⟨i,l,d,f,hF⟩:=h;refine(Jx wS T R B W r g fb i _ pv lv l w d.rs d.bt hF J).mono ?_;rintro e o ⟨j,k,m,b,rfl,c,a⟩;refine⟨k,m,rfl,a.w2,λe=>?_,λe=>⟨_,f _ _ _ b,c,d.bU.tr a⟩⟩;subst e;exact⟨j,k,c,f _ _ _ b,d.bU.tr a⟩
end
end
theorem uW[Lo](a:aB w n b):aD 49 #[H n] w λe c=>aK e (Y b.N)/\w=c:=by obtain⟨S,d,h,i,r,wc,f,g⟩:=a;exact lj g
theorem Dr[Lo](R B:Nat)(S:Option TF)(g:au)(T:Nat)(C:Ro)(b:By)(m a:Nat)(w:QL)(h:ff w R B S g T C)(Y:aB w B b)(o:g.ok)(J:b.N=g.M+1)(U:m<g.M)(E:a<g.s)(a0:∀k,k<g.c->C.down m (a*g.c+k)=true):
  aD 182 #[aq B,g.V,aq R,ae m,ae a] w λe F=>aK e (aG 0)/\ar w F:=by
 obtain⟨r,D,V,G,f,s⟩:=dQ w (ao #[ae g.M,ae g.c,ae g.s] 39);obtain⟨d1,d2,d3⟩:=cr s;have K:=aA f s;have X:=ad (eI o r);have L:=ad (λW (O:ar r W)=>uW ((Y.below f).below O));rw[J]at L;have Z:=ad (λj W (a1:ar r W)=>h_ R B S g T C m j W ((h.below f).below a1) U o.m16);have l:=ad a0;have t:=o.m16;have c:=o.qd;have n:=o.gP;obtain⟨u,d,H⟩:=g;simp only at d1 K L Z l t c n U E V X;have e1:QQ.wrap ((u:Int)+1)=((u+1:Nat):Int):=bf;have e2:decide ((m:Int)<0)=false:=aJ;have e3:decide ((u:Int)<=(m:Nat))=false:=aQ;have e4:decide ((a:Int)<0)=false:=aJ;have e5:decide ((H:Int)<=(a:Nat))=false:=aQ;have a2:¬u<=m:=aa;have a3:¬H<=a:=aa;obtain⟨p,P⟩:=ah (a*d);have a4:p<=4096:=by rw[<-P];exact QO (TJ (show a<=256 by omega) c) aa
 rw[P]at l;have e6:QQ.wrap ((a:Int)*(d:Nat))=(p:Nat):=by
  have:((a:Nat):Int)*(d:Nat)=((p:Nat):Int):=by rw[<-P,TS]
  rw[this];go_arith
 go_enter func182,ntmps182;go_wp2_with fail
 try simp only[V,G]
 go_wp2_with(go_at_call 26;refine X.mono ?_;rintro e w1 ⟨rfl,v⟩;obtain⟨k0,f0,z0⟩:=kp v D d3;have x:=ad v);go_region_held3(λF=>F.cell? (ag D 0)=some (ae u)) ((simp[*,go_sem];done)) (first|(go_at_call 49;refine(L _ (via x bC)).mono ?_;rintro e w2 ⟨rfl,rfl⟩));go_wp2;have Q:RH (ar r w1.drew):=aV x;go_loopw [46] (λi wr=>∃k:Nat,i= ae k/\k<=d/\RH (ar r wr)) (λi _=>d-(intOf i).toNat)
 case atStart=>exact⟨0,rfl,QX _,Q⟩
 case round=>
  obtain⟨k,rfl,a5,A⟩:=hrel;obtain⟨y1,y2,y3⟩:=kp A D d3;by_cases y:k<d
  .have N:=ad y;have M:(k:Int)<(d:Int):=aa;obtain⟨q,I⟩:=ah (p+k);have e7:QQ.wrap ((p:Int)+(k:Nat))=(q:Nat):=by have:((p:Nat):Int)+(k:Nat)=((q:Nat):Int):=aa;rw[this];go_arith
   have z:=ad (Z q wr A);rw[<-I,l.out k y,I]at z;go_wp2_with(go_at_call 201;refine z.mono ?_;rintro e w3 ⟨rfl,rfl⟩);exact⟨⟨k+1,by go_num,N,A⟩,by have:=N.out;simp[intOf];omega⟩
  .obtain rfl:d=k:=aa;go_wp2;go_ret;exact⟨rfl,K.1.trans (A.mono K.1.size)⟩
def cG(g:au)(a:Ro)(m p:Nat)(b:By):Nat->By × Nat × Nat
 |0=>(b,0,0)
 |k+1=>
  if(cG g a m p b k).2.2≠0 then cG g a m p b k
  else if((cG g a m p b k).1.bK (dK g.M a m (p+k))).2.2≠0 then(cG g a m p b k).1.bK (dK g.M a m (p+k))
  else(((cG g a m p b k).1.bK (dK g.M a m (p+k))).1.op m (aN (1+(p+k)) (dS g.M (cG g a m p b k).1 a m (p+k))))|>λz=>(z.1,m,z.2)
theorem Ar(h:(cG g o m i b k).2.2≠0):∀n,k<=n->cG g o m i b n=cG g o m i b k:=by
 intro n c;induction n with
 |zero=>obtain rfl:k=0:=J;rfl
 |succ n a=>
  by_cases e:k=n+1
  .subst e;rfl
  .have:=a J;rw[cG,this,ak h]
theorem ib{g:au}{ro:Ro}{m p:Nat}{b:By}:∀k,(cG g ro m p b k).1.N=b.N
 |0=>rfl
 |k+1=>by
  have a:=ib (g:=g) (ro:=ro) (m:=m) (p:=p) (b:=b) k;rw[cG];split
  .exact a
  .split
   .rw [By.oR,a]
   .show (By.op _ _ _).1.N=_;rw[By.fp,By.oR,a]
def gE(g:au)(a:Ro)(m p:Nat)(b:By):By × Nat × Nat:=
 if(cG g a m p b g.c).2.2≠0 then cG g a m p b g.c else((cG g a m p b g.c).1.op m ba)|>λz=>(z.1,m,z.2)
structure LQ[Lo](B:Nat)(g:au)(ro:Ro)(m p:Nat)(b:By)(w:M)(k:Nat)(wr:M):Prop where
 cg:aB wr B (cG g ro m p b k).1
 ok:(cG g ro m p b k).2.2=0
 bU:Fr TB aF w wr
def nr[Lo](B:Nat)(x:By × Nat × Nat)(w:M)(e:SG)(a:M):Prop:=
 aK e (gV x.2.1 x.2.2)/\aB a B x.1/\Fr TB aF w a
structure JA(g:au)(ro:Ro)(m p:Nat)(b:By):Prop where
 fit:∀k,k<g.c->(cG g ro m p b k).2.2=0->mz g (cG g ro m p b k).1 ro (p+k)/\uG g ro m (p+k)/\nM g (cG g ro m p b k).1 ro (p+k)
 room:∀k v,k<=g.c->(cG g ro m p b k).1.dv m=some v->1+g.R<=v.d.n/\v.d.cn<1000000000000
theorem JB[Lo](R B:Nat)(d9:Option TF)(g:au)(e0:Nat)(a:Ro)(b:By)(m y:Nat)(w:QL)(h:ff w R B d9 g e0 a)(e3:aB w B b)(b2:g.ok)(g0:b.N=g.M+1)(g7:m<g.M)(b5:y<g.s)(g8:JA g a m (y*g.c) b):
  aD 183 #[g.V,aq R,ae m,ae y,.func (.func 52) #[aq B] #[],.func (.func 56) #[aq B] #[]] w (nr B (gE g a m (y*g.c) b) w):=by
 obtain⟨g9,G,h4,b6,U,a0⟩:=dQ w (ao #[ae g.M,ae g.c,ae g.s] 39);obtain⟨b7,D,h7,a1,a2,b8⟩:=dQ g9 (ao #[ae 0,aG 0] 172);have b9:=(a2.block G (Z_ a0)).trans a0;have z:=U.trans (a2.mono U.size);have a3:w.heap.size<=D:=by rw[<-a1];exact U.size
 have E:Lo.lo<=D:=QO e3.low a3;have r:=jY z b9 b8 (h.below z) g0 b2 g8;have a4:RH (LQ B g a m (y*g.c) b b7 0 b7):=⟨e3.below z,rfl,Fr.refl _ _ _⟩;have c0:=ad (λ(c1:By) W (V:aB W B c1) (b3:m<c1.N)=>gu B m c1 W V b3);have h8:=au.g_ b2;have a5:=b2.qd;have c2:=b2.gP;have c3:∀k,k<g.c->y*g.c+k<g.R:=λk b3=>by have:(y+1)*g.c<=g.s*g.c:=WN _ b5;rw[YI]at this;unfold au.R;omega
 have a6:=ad c3;obtain⟨p,c4⟩:=ah (y*g.c);have h9:p<=4096:=by rw[<-c4];exact QO (TJ (show y<=256 by omega) a5) aa
 have e6:QQ.wrap ((y:Int)*(g.c:Nat))=(p:Nat):=by
  have:((y:Nat):Int)*(g.c:Nat)=((p:Nat):Int):=by rw[<-c4,TS]
  rw[this];go_arith
 rw[c4]at r a4 a6|-;obtain⟨d1,d2,d3⟩:=cr r.2.1;go_enter func183,ntmps183;go_wp2
 try simp only[h4,b6,h7,a1]
 go_loopw [21] (λi wr=>∃k:Nat,i= ae k/\k<=g.c/\RH (LQ B g a m p b b7 k wr)) (λi _=>g.c-(intOf i).toNat)
 case atStart=>exact⟨0,rfl,QX _,a4⟩
 case round=>
  obtain⟨k,rfl,b3,s⟩:=hrel;have c5:=s.bU.hp r.2.1 rfl;have a7:=s.bU.hp r.2.2.1 rfl;obtain⟨g1,g2,g3⟩:=cr c5;obtain⟨d1,d2,d3⟩:=cr a7;have I:=ad a7;by_cases F:k<g.c
  .have e4:=ad F;have e5:(k:Int)<(g.c:Int):=aa;obtain⟨q,c6⟩:=ah (p+k);have i0:q<g.R:=c6▸a6.out k F;have e7:QQ.wrap ((p:Int)+(k:Nat))=(q:Nat):=by have:((p:Nat):Int)+(k:Nat)=((q:Nat):Int):=aa;rw[this];go_arith
   obtain⟨X,c7⟩:=ah (1+q);have e8:QQ.wrap ((1:Int)+(q:Nat))=(X:Nat):=by have:(1:Int)+(q:Nat)=((X:Nat):Int):=aa;rw[this];go_arith
   obtain⟨f1,f2,f3⟩:=r.2.2.2.2.2.2.fit k F s.ok;rw[c6]at f1 f2 f3;have c:=kC R B d9 g e0 a m q (cG g a m p b k).1 wr (r.2.2.2.1.fr s.bU rfl rfl rfl rfl) s.cg f1 g7 f2 f3;have A:cG g a m p b (k+1)=if((cG g a m p b k).1.bK (dK g.M a m q)).2.2≠0 then(cG g a m p b k).1.bK (dK g.M a m q)else((((cG g a m p b k).1.bK (dK g.M a m q)).1.op m (aN X (dS g.M (cG g a m p b k).1 a m q))).1,m,(((cG g a m p b k).1.bK (dK g.M a m q)).1.op m (aN X (dS g.M (cG g a m p b k).1 a m q))).2):=by rw[cG,c6,c7,al (by rw[s.ok];decide)]
   have c8:(cG g a m p b (k+1)).2.2≠0->gE g a m p b=cG g a m p b (k+1):=λe=>by unfold gE;rw[Ar e g.c F,ak e]
   have H:=r.2.2.2.2.2.2.room k;have a8:(cG g a m p b k).1.N=g.M+1:=(ib k).trans r.2.2.2.2.1;have K:∀v,((cG g a m p b k).1.bK (dK g.M a m q)).1.dv m=some v->X<v.d.n/\v.d.cn<1000000000000:=λv i1=>by obtain⟨v0,Q,h2,h3⟩:=By.sI i1;have:=H v0 b3 Q;omega
   obtain⟨e9,c9⟩:=ah ((cG g a m p b k).1);unfold lq at c;rw[c9]at c A K a8;obtain⟨d0,d4⟩:=ah (dS g.M e9 a m q);rw[d4]at c A;obtain⟨Y,f0⟩:=ah (e9.bK (dK g.M a m q));have a9:Y.1.N=g.M+1:=by rw[<-f0,By.oR,a8]
   rw[f0]at c A K;obtain⟨d5,d6,b4⟩:=Y;simp only at c A K a9;have L:=aA A c8;have j:=ad c;have b0:=aA K a9;by_cases h0:b4=0
   .subst h0;rw[de]at j;have l:=L.1;rw[al ai]at l;have b1:=ad (λu W (V:aB W B d5) (i2:cN W u 128 d0)=>fo B m X u d0 d5 W V (by rw[b0.2];omega) i2 b0.1);unfold zM at b1;obtain⟨Z,d7⟩:=ah (d5.op m (aN X d0));rw[d7]at b1 l;obtain⟨i3,O⟩:=Z;simp only at b1 l;have n:=ad l;by_cases Q:O=0
    .subst Q;go_wp2_with(first|(go_at_call 167;refine j.mono ?_;rintro e J ⟨v,rfl,⟨f4,f5,f6,rfl⟩,t,f,g6⟩;obtain⟨p1,p2,p3⟩:=cr (f.hp I rfl);have d:=aM t f (g6 rfl))|(go_at_call 52;refine(b1 _ _ (d.1.below (aI aj _)) (d.2.2.below (aI aj _))).mono ?_;rintro e w4 ⟨rfl,t,f⟩;have x:=aA t f));exact⟨⟨k+1,by go_num,e4,by rw[n.out];exact x.1,by rw[n.out],(s.bU.tr d.2.1).tr ((Fr.af (aI aj _)).tr x.2)⟩,by have:=e4.out;simp[intOf];omega⟩
    .have f7:¬(O:Int)=0:=aa;go_wp2_with(first|(go_at_call 167;refine j.mono ?_;rintro e J ⟨v,rfl,⟨f4,f5,f6,rfl⟩,t,f,g6⟩;obtain⟨p1,p2,p3⟩:=cr (f.hp I rfl);have d:=aS t f (g6 rfl) (f.hp I rfl))|(go_at_call 52;refine(b1 _ _ (d.1.below (aI aj _)) (d.2.2.1.below (aI aj _))).mono ?_;rintro e w4 ⟨rfl,t,f⟩;have h5:=(Fr.af (T:=TB) (S:=aF) (aI (SV J.heap.size J) (ao #[ae 0,aG 0] 172))).tr f;have C:=h5.hp d.2.2.2 rfl;obtain⟨p4,p5,p6⟩:=cr C;have x:=aM t h5 C));have o:=((Fr.af (T:=TB) (S:=aF) r.1).tr s.bU).tr (d.2.1.tr x.2.1);obtain⟨N,M,-⟩:=cl o x.1 x.2.2 a3 E (ae m) (aG O);refine RB (v:=.agg #[ae m,aG O]) (by simp[RV,results183,go_sem];go_simp) rfl ?_;unfold nr;rw[L.2 (by rw[n.out];exact Q),n.out];exact⟨by rw[be _ Q],M,N⟩
   .rw [be d6 h0]at j;have f7:¬(b4:Int)=0:=aa;have l:=L.1;rw[ak h0]at l;have n:=ad l;go_wp2_with(go_at_call 167;refine j.mono ?_;rintro e J ⟨v,rfl,⟨f4,f5,f6,rfl⟩,t,f,g6⟩;have C:=f.hp I rfl;obtain⟨p1,p2,p3⟩:=cr C;have d:=aM t f C);have o:=((Fr.af (T:=TB) (S:=aF) r.1).tr s.bU).tr d.2.1;obtain⟨N,M,-⟩:=cl o d.1 d.2.2 a3 E (ae d6) (aG b4);refine RB (v:=.agg #[ae d6,aG b4]) (by simp[RV,results183,go_sem];go_simp) rfl ?_;unfold nr;rw[L.2 (by rw[n.out];exact h0),n.out];exact⟨by rw[be _ h0],M.below (aI aj _),N.alloc _⟩
  .obtain rfl:g.c=k:=aa;have d8:gE g a m p b=(((cG g a m p b g.c).1.op m ba).1,m,((cG g a m p b g.c).1.op m ba).2):=by unfold gE;rw[al (by rw[s.ok];decide)]
   have P:=c0.out _ wr s.cg (by rw[ib,r.2.2.2.2.1];omega);unfold zM at P;obtain⟨Z,d7⟩:=ah ((cG g a m p b g.c).1.op m ba);rw[d7]at d8 P;obtain⟨i3,O⟩:=Z;simp only at d8 P;have f8:=ad d8;have f9:=ad P;by_cases Q:O=0
   .subst Q;go_wp2_with(go_at_call 56;refine f9.mono ?_;rintro e J ⟨rfl,t,f⟩;have C:=f.hp I rfl;obtain⟨p1,p2,p3⟩:=cr C;have d:=aM t f C);have o:=((Fr.af (T:=TB) (S:=aF) r.1).tr s.bU).tr d.2.1;obtain⟨N,M,-⟩:=cl o d.1 d.2.2 a3 E (ae 0) (aG 0);refine RB (v:=.agg #[ae 0,aG 0]) (by simp[RV,results183,go_sem];go_simp) rfl ?_;unfold nr;rw[f8.out];exact⟨rfl,M,N⟩
   .have f7:¬(O:Int)=0:=aa;go_wp2_with(go_at_call 56;refine f9.mono ?_;rintro e J ⟨rfl,t,f⟩;have C:=f.hp I rfl;obtain⟨p1,p2,p3⟩:=cr C;have d:=aM t f C);have o:=((Fr.af (T:=TB) (S:=aF) r.1).tr s.bU).tr d.2.1;obtain⟨N,M,-⟩:=cl o d.1 d.2.2 a3 E (ae m) (aG O);refine RB (v:=.agg #[ae m,aG O]) (by simp[RV,results183,go_sem];go_simp) rfl ?_;unfold nr;rw[f8.out];exact⟨by rw[be _ Q],M,N⟩
theorem Ds[Lo](R B:Nat)(u:Option TF)(g:au)(x:Nat)(d:Ro)(b:By)(m c:Nat)(w:QL)(h:ff w R B u g x d)(j:aB w B b)(F:g.ok)(K:b.N=g.M+1)(L:m<g.M)(l:c<g.s)(N:∀k,k<g.c->d.down m (c*g.c+k)=true)(M:JA g d m (c*g.c) b):
  aD 125 #[aq B,g.V,aq R,ae m,ae c] w (nr B (gE g d m (c*g.c) b) w):=by
 obtain⟨I,G,Y,y,f,n⟩:=dQ w (ao #[ae g.M,ae g.c,ae g.s] 39);obtain⟨O,D,J,o,p,q⟩:=dQ I (ao #[ae 0,aG 0] 172);have r:=(p.block G (Z_ n)).trans n;have a:=f.trans (p.mono f.size);have P:w.heap.size<=D:=by rw[<-o];exact f.size
 have z:Lo.lo<=D:=QO j.low P;have Q:=aM a r q;have a0:=ad (Dr R B u g x d b m c O (h.below a) (j.below a) F K L l N);have s:=ad (λW (t:ar O W)=>JB R B u g x d b m c W ((h.below a).below t) ((j.below a).below t) F K L l M);obtain⟨X,a1⟩:=ah (gE g d m (c*g.c) b);unfold nr at s|-;rw[a1]at s|-;obtain⟨b2,k2,a2⟩:=X;simp only at s|-;obtain⟨U,V,A⟩:=cj k2 a2;rw[A]at s|-;obtain⟨d1,d2,d3⟩:=cr r;obtain⟨d4,d5,d6⟩:=cr q;go_enter func125,ntmps125;go_wp2_with fail
 try simp only[Y,y,J,o]
 go_wp2_with(first|(go_at_call 182;refine a0.mono ?_;rintro e w3 ⟨rfl,j⟩;obtain⟨p1,p2,p3⟩:=kp j G d3;have i:=ad j)|(go_at_call 183;refine(s _ i).mono ?_;rintro e w4 ⟨rfl,g4,Z⟩;have H:=Z.hp ((i.block D d6).trans Q.2.2) rfl;obtain⟨q1,q2,q3⟩:=cr H;have C:=aM g4 Z H));have E:=((Fr.af (T:=TB) (S:=aF) Q.1).then i).tr C.2.1;obtain⟨e1,e2,-⟩:=cl E C.1 C.2.2 P z (ae U) (.int .u16 V);exact RB (v:=.agg #[ae U,.int .u16 V]) (by simp[RV,results125,go_sem];go_simp) rfl ⟨rfl,e2,e1⟩
def kh(w:M)(v:QN)(n:Nat)(f:aO):Prop:=
 ∃b o a c d,v=.slice (some (R b o)) n a/\n<=a/\w.heap[b]?=some (.cells c 122 d)/\∀k,k<n->c[o+k]?=some (.int .u8 (f k:Nat))
theorem kh.below(h:kh w v n f)(d:ar w W):kh W v n f:=by obtain⟨b,o,a,g,i,e,j,c,k⟩:=h;exact⟨b,o,a,g,i,e,j,(d.block b (Z_ c)).trans c,k⟩
theorem kh.fr[Lo](h:kh w v n f)(c:Fr T aF w W)(d:T.contains 122=false):kh W v n f:=by obtain⟨b,o,a,g,i,e,j,k,l⟩:=h;exact⟨b,o,a,g,i,e,j,c.hp k d,l⟩
theorem pr(v:QN)(n:Nat)(a:aO)(x:Nat)(w:M)(h:kh w v n a)(G:n<=1000000)(K:x<256):aD 122 #[v,bs x] w λe p=>aK e (Y (eP (λk=>decide (a k=x)) n))/\w=p:=by
 obtain⟨b,o,r,s,t,rfl,-,u,y⟩:=h;have z:=I y;have A:=I u;go_enter func122,ntmps122;go_wp2;go_loop [8] (λi=>∃k:Nat,i= Y k/\k<=n/\RH (∀j,j<k->decide (a j=x)=false)) (λi=>n-(intOf i).toNat)
 case atStart=>exact⟨0,rfl,QX _,λj B=>J⟩
 case round=>
  obtain⟨k,rfl,L,d⟩:=hrel;by_cases c:k<n
  .have C:=(RD w b (o+k) s 122 t A).trans (z k c);by_cases f:a k=x
   .rw [f]at C;have g:RH (eP (λk=>decide (a k=x)) n=(k:Nat)):=by show _=_;unfold eP;rw[ky c (by simp[f]) d.out]
    go_wp2;go_ret;exact⟨by rw[g.out];rfl,rfl⟩
   .have D:¬(x:Int)=(a k:Nat):=J;have l:RH (∀j,j<k+1->decide (a j=x)=false):=λj B=>by
     by_cases e:j=k
     .rw [e];simp[f]
     .exact d j J
    go_wp2;go_round
    case rel=>exact⟨k+1,by go_num,c,l⟩
    case measure=>simp[intOf];omega
  .obtain rfl:k=n:=J;have g:RH (eP (λk=>decide (a k=x)) k= -1):=by
    show _=_;unfold eP;have:gone (λk=>decide (a k=x)) k=none:=by
     cases E:gone (λk=>decide (a k=x)) k with
     |none=>rfl
     |some q=>obtain⟨F,m⟩:=eQ E;rw[d.out q F]at m;cases m
    rw[this]
   go_wp2;go_ret;exact⟨by rw[g.out];rfl,rfl⟩
theorem uX(v:QN)(n:Nat)(a:aO)(x:Nat)(w:M)(h:kh w v n a)(g:n<=1000000)(i:x<256):aD 212 #[v,bs x] w λe j=>(∃d,aK e (.bool d)/\((∀k,k<n->a k≠x)->d=false))/\w=j:=by
 have b:=I (pr v n a x w h g i);cases c:gone (λk=>decide (a k=x)) n with
 |none=>
  have e:eP (λk=>decide (a k=x)) n= -1:=by unfold eP;rw[c]
  rw[e]at b;go_enter func212,ntmps212;go_wp2_with(go_at_call 122;refine b.mono ?_;rintro e l ⟨rfl,rfl⟩);go_ret;exact⟨⟨false,by first|rfl|simp,λ_=>rfl⟩,rfl⟩
 |some q=>
  have e:eP (λk=>decide (a k=x)) n=(q:Nat):=by unfold eP;rw[c]
  obtain⟨m,o⟩:=eQ c;have f:RH (q<n/\a q=x):=⟨m,by simpa using o⟩;rw[e]at b;go_enter func212,ntmps212;go_wp2_with(go_at_call 122;refine b.mono ?_;rintro e l ⟨rfl,rfl⟩);go_ret;exact⟨⟨true,by first|rfl|simp,λh=>absurd f.2 (h q f.1)⟩,rfl⟩
theorem xl(n a b:Int)(w:M)(d:a<=n)(f:n<=b):aD 210 #[Y n,Y a,Y b] w λe c=>aK e dU/\w=c:=by go_enter func210,ntmps210;go_wp2;go_ret;exact⟨aJ,rfl⟩
theorem Dt(n a b:Int)(w:M)(d:a<=n)(f:n<=b):aD 211 #[.int .u64 n,.int .u64 a,.int .u64 b] w λe c=>aK e dU/\w=c:=by go_enter func211,ntmps211;go_wp2;go_ret;exact⟨aJ,rfl⟩
structure Su where
 id:Nat
 ev:Nat
 sf:Nat
 rl:Nat
 N:Nat
 lz:Bool
 lost:Bool
 st:Nat->Nat
 cur:Nat
variable {u:Su}
abbrev dr(g:au)(u:Su)(a:QN):Array QN:= #[bj u.id,bj u.ev,bj u.sf,Y u.rl,Y g.M,Y g.c,Y g.s,Y u.N,.bool u.lz,.bool u.lost,a,Y u.cur]
structure Su.ok(g:au)(u:Su):Prop where
 bZ:g.ok
 id:u.id<18446744073709551616
 ev:1<=u.sf/\u.sf<=u.ev/\u.ev<=4611686018427387904
 rl:u.rl<=g.M
 ring:5<=u.N/\u.N<=2048
 st:∀m,m<g.M->u.st m=1\/u.st m=2\/u.st m=3
 one:∀m k,m<g.M->k<g.M->u.st m=3->u.st k=3->m=k
 cur:u.cur<g.s/\(u.cur≠0->∃m,m<g.M/\u.st m=3)
def rp(g:au)(u:Su)(k:Nat):Nat:=if(UD k).any (λm=>u.st m==3)=true then g.s-1 else 0
theorem xm(g:au)(u:Su)(k:Nat):rp g u (k+1)=if u.st k=3 then g.s-1 else rp g u k:=by
 unfold rp;rw[UW,List.any_append];by_cases h:u.st k=3
 .simp [h]
 .simp [h]
theorem rq(g:au)(u:Su)(Q:QN)(w:QL)(a0:kh w Q g.M u.st)(h:u.ok g):aD 153 #[.agg (dr g u Q)] w λe T=>aK e (aG 0)/\ar w T:=by
 obtain⟨U,V⟩:=ah (w.alloc (ao (dr g u Q) 117));have p:ar w U:=by rw[<-V];exact aI aj _
 have d:aZ U w.heap.size (ao (dr g u Q) 117):=by rw[<-V];exact QM _ _
 obtain⟨D,z⟩:=ah w.heap.size;rw[z]at d;obtain⟨S,G,a6,X,q,A⟩:=dQ U (ao #[ae g.M,ae g.c,ae g.s] 39);have B:=(q.block D (Z_ d)).trans d;have C:=p.trans (q.mono p.size);have t:=(a0.below p).below q;obtain⟨Z,H,E,a1,a2,rfl,a3,v,x⟩:=id t;obtain⟨y,i2,⟨i3,i4,i5⟩,i6,⟨i7,i8⟩,i9,F,⟨a7,K⟩⟩:=h;have a8:=y.m3;have a9:=y.m16;have b0:=y.c1;have b1:=y.qd;have b2:=y.s1;have b3:=y.gP;have N:=aS C t v x;have M:=aM i9 F K;obtain⟨e1,e2,e3⟩:=cr d;obtain⟨d1,d2,d3⟩:=cr B;obtain⟨g1,g2,g3⟩:=cr A;have a4:=ad (λn a b W R I=>xl n a b W R I);have Y:=ad (λn a b W R I=>Dt n a b W R I);have J:RH (∀k,k<g.M->aD 212 #[.slice (some (ag Z H)) k E,.int .u8 3] S λe T=>(∃L,aK e (.bool L)/\((∀j,j<k->u.st j≠3)->L=false))/\S=T):=λk b4=>uX _ k u.st 3 S ⟨Z,H,E,a1,a2,rfl,aa,v,λj b5=>x j aa⟩ aa aa;clear a0 p d q A B C t v x y i9 F K;go_enter func153,ntmps153;go_wp2_with fail
 try simp only[V,z]
 go_wp2_with fail
 try simp only[a6,X]
 go_wp2_with(first|(go_at_call 210;refine(a4 _ _ _ _ aa aa).mono ?_;rintro e O ⟨rfl,rfl⟩)|(go_at_call 211;refine(Y _ _ _ _ aa aa).mono ?_;rintro e O ⟨rfl,rfl⟩));go_loopw [6,66] (λl i wr=>∃k:Nat,i= ae k/\k<=g.M/\l= ae (rp g u k:Nat)/\wr=S) (λl i _=>g.M-(intOf i).toNat)
 case atStart=>exact⟨0,rfl,QX _,rfl,rfl⟩
 case round=>
  obtain⟨k,rfl,b4,rfl,rfl⟩:=hrel;by_cases c:k<g.M
  .have r:=ad c;have c1:=(RD wr Z (H+k) a1 122 a2 N.2.2.1).trans (N.2.2.2 k c);have s:=xm g u k;rcases M.1 k c with o|o|o
   .rw [o]at c1;rw[al aa]at s;have P:=ad s;clear o s c;go_wp2_with(go_at_call 212;refine(J k r).mono ?_;rintro e O ⟨⟨L,rfl,f⟩,rfl⟩;clear f);exact⟨⟨k+1,by go_num,r,by rw[P.out],by trivial⟩,by have:=r.out;simp[intOf];omega⟩
   .rw [o]at c1;rw[al aa]at s;have P:=ad s;clear o s c;go_wp2_with(go_at_call 212;refine(J k r).mono ?_;rintro e O ⟨⟨L,rfl,f⟩,rfl⟩;clear f);exact⟨⟨k+1,by go_num,r,by rw[P.out],by trivial⟩,by have:=r.out;simp[intOf];omega⟩
   .rw [ak o]at s;have P:=ad s;have b6:RH (∀j,j<k->u.st j≠3):=λj b5 e=>by have:=M.2.1 j k aa c e o;omega
    rw[o]at c1;have b7:QQ.wrap ((g.s:Int)-1)=((g.s-1:Nat):Int):=bf;clear o s c;go_wp2_with(go_at_call 212;refine(J k r).mono ?_;rintro e O ⟨⟨L,rfl,f⟩,rfl⟩;obtain rfl:=f b6);exact⟨⟨k+1,by go_num,r,by rw[P.out],by trivial⟩,by have:=r.out;simp[intOf];omega⟩
  .obtain rfl:g.M=k:=aa;have a5:u.cur<=rp g u g.M:=by
    by_cases e:u.cur=0
    .omega
    .obtain ⟨m,m1,m2⟩:=M.2.2 e;unfold rp;rw[ak (XN.2 ⟨m,UJ.2 m1,by simp[m2]⟩)];omega
   go_wp2_with(go_at_call 210;refine(a4 _ _ _ _ aa aa).mono ?_;rintro e O ⟨rfl,rfl⟩);go_ret;exact⟨rfl,N.1⟩
def dL(g:au)(u:Su)(m:Nat):Option Nat:=if u.st m=1 then none else if u.st m=2 then some 0 else some (u.cur*g.c)
structure bg where
 A:Nat
 B:Nat
 R:Nat
 W:Nat
 r:Nat
 fb:Nat
 sb:Nat
 N:Nat
 lz:Bool
abbrev BB(Z:bg)(g:au)(u:Su)(a:Nat)(b:Bool):Array QN:= #[H Z.B,bj u.id,bj u.ev,bj u.sf,Y u.rl,Y g.M,Y g.c,Y g.s,Y u.N,.bool u.lz,.bool u.lost,a_ Z.sb g.M a,Y u.cur,H Z.R,H Z.W,.bool false,aG 0,.bool true,.bool b]
structure lY[Lo](w:QL)(Z:bg)(g:au)(u:Su)(yg:Bool):Prop where
 aL:∃cap,g.M<=cap/\w.heap[Z.A]? =some (N (BB Z g u cap yg) 120)
 uY:∃cs,w.heap[Z.sb]? =some (N cs 122)/\∀m,m<g.M->cs[m]? =some (.int .u8 (u.st m:Nat))
 lo:Lo.lo<=Z.A/\Lo.lo<=Z.sb
structure cY[Lo](w:M)(Z:bg)(g:au)(s:Rs)(u:Su)(yg:Bool):Prop where
 arr:lY w Z g u yg
 rs:cq w Z.R Z.B Z.W Z.r g Z.fb s
theorem lY.fr[Lo]{Z:bg}(h:lY w Z g u d)(b:Fr T aF w W)(c:T.contains 120=false)(e:T.contains 122=false):lY W Z g u d:=by obtain⟨⟨a,f,i⟩,⟨j,k,l⟩,m⟩:=h;exact⟨⟨a,f,b.hp i c⟩,⟨j,b.hp k e,l⟩,m⟩
theorem cY.fr[Lo]{Z:bg}(h:cY w Z g s u d)(c:Fr T aF w W)(a:(120::122::TA).all (λt=> !T.contains t)=true):cY W Z g s u d:=by have b:=a;simp only[List.all_cons,VX,Bool.not_eq_true']at b;exact⟨h.arr.fr c b.1 b.2.1,h.rs.fr c (by rw[List.all_cons,List.all_cons]at a;simp only[VX]at a;exact a.2.2)⟩
theorem cY.below[Lo]{Z:bg}(h:cY w Z g s u d)(a:ar w W):cY W Z g s u d:=
 h.fr (T:= []) (Fr.af a) rfl
theorem lY.st[Lo]{Z:bg}(h:lY w Z g u d)(a:m<g.M):w.cell? (R Z.sb m)=some (.int .u8 (u.st m:Nat)):=by obtain⟨e,b,c⟩:=h.uY;rw[(cr b).1,c m a]
theorem lY.NG[Lo]{Z:bg}(h:lY w Z g u d)(a:g.M<=n):kh w (a_ Z.sb g.M n) g.M u.st:=by obtain⟨f,b,c⟩:=h.uY;exact⟨Z.sb,0,n,_,_,rfl,a,b,λk e=>by rw[RQ,c k e]⟩
def mI:List Nat:= [100,106,108,142,217,219,1000000,153,221,164,120,122]
def eB[Lo](Z:bg)(w a:M):Prop:=Fr mI (λk=>k=Z.fb) w a
def ed:List Nat:= [100,106,108,142,217,219,1000000,153,221,164,120,122,3]
def JC:List Nat:= [100,106,108,142,217,219,1000000,120,122]
def iI[Lo](Z:bg)(w a:M):Prop:=Fr JC (λk=>k=Z.fb) w a
theorem iI.a[Lo]{Z:bg}(h:iI Z w W):eB Z w W:=Fr.wide mI h rfl
theorem iI.af[Lo]{Z:bg}(h:ar w W):iI Z w W:=Fr.af h
theorem iI.trans[Lo]{Z:bg}(h:iI Z w W)(k:iI Z W z):iI Z w z:=Fr.tr h k
theorem iI.then[Lo]{Z:bg}(h:iI Z w W)(k:ar W z):iI Z w z:=Fr.then h k
theorem Fr.ra[Lo]{Z:bg}(h:Fr iH aF w W):eB Z w W:=(h.any).wide mI rfl
theorem eB.af[Lo]{Z:bg}(h:ar w W):eB Z w W:=Fr.af h
theorem eB.trans[Lo]{Z:bg}(h:eB Z w W)(k:eB Z W z):eB Z w z:=Fr.tr h k
theorem eB.then[Lo]{Z:bg}(h:eB Z w W)(k:ar W z):eB Z w z:=Fr.then h k
theorem eB.wide[Lo]{Z:bg}(h:eB Z w W){i:Nat × Nat}(j:w.heap[Z.fb]?=some (.cells A 3 i))(v:Lo.lo<=Z.fb):Fr ed aF w W:=by
 refine⟨h.os,h.tape,h.output,h.size,λk o a g _=>?_⟩;have b:mI.contains (ty o)=false\/k<Lo.lo:=by refine g.imp (λe=>?_) id;unfold ed at e;unfold mI;simp only[List.contains_cons,Bool.or_eq_false_iff]at e|-;obtain⟨l,m,n,p,q,r,s,t,u,c,d,f,-⟩:=e;exact⟨l,m,n,p,q,r,s,t,u,c,d,f,rfl⟩
 refine h.block k o a b λe=>?_;subst e;rw[j]at a;cases a;rcases g with e|e
 .cases e
 .omega
theorem cY.wide[Lo]{Z:bg}(h:cY w Z g s u d)(a:eB Z w W):Fr ed aF w W:=a.wide h.rs.row.fy h.rs.lo.2
theorem cq.mark[Lo](h:cq w n m i r g j s){a:Ro}(d:ff z n m (some (R i 0)) g j a)(b:Out (λk=>k=j) w z):cq z n m i r g j {s with ro:=a}:=by refine⟨d,lu h.cg b λk o e c=>?_,h.kc.fr (jg b h.row.fy h.lo.2) rfl rfl rfl rfl,h.lo⟩;subst e;rw[h.row.fy]at c;cases c;rfl
theorem lY.out[Lo]{w w1:M}{Z:bg}(h:lY w Z g u d)(a:Out (λk=>k=Z.fb) w w1){b:Nat × Nat}(c:aZ w Z.fb (.cells A 3 b))(e:Lo.lo<=Z.fb):lY w1 Z g u d:=
 h.fr (jg a c e) rfl rfl
theorem eb[Lo](Z:bg)(g:au)(u:Su)(a:Bool)(w:QL)(h:lY w Z g u a):aD 107 #[H Z.A] w λe b=>aK e (Y g.M)/\w=b:=by obtain⟨c,-,d⟩:=h.aL;obtain⟨k,f,z⟩:=cr d;go_enter func107,ntmps107;go_wp2;go_ret;exact⟨rfl,rfl⟩
theorem ic[Lo](Z:bg)(g:au)(u:Su)(b:Bool)(m:Nat)(w:QL)(h:lY w Z g u b)(c:m<g.M)(n:g.M<=16):aD 120 #[H Z.A,Y m] w λe d=>aK e (.bool (decide (u.st m≠2)))/\w=d:=by
 have i:=h.st c;obtain⟨j,-,l⟩:=h.aL;obtain⟨k,f,z⟩:=cr l;by_cases e:u.st m=2
 .rw [e]at i;have a:RH (decide (u.st m≠2)=false):=by show _=_;simp[e]
  go_enter func120,ntmps120;go_wp2;go_ret;exact⟨by rw[a.out];first|rfl|(simp;done)|(simp;omega),rfl⟩
 .have a:RH (decide (u.st m≠2)=true):=by show _=_;simp[e]
  have o:¬(u.st m:Int)=2:=J;go_enter func120,ntmps120;go_wp2;go_ret;exact⟨by rw[a.out];first|rfl|(simp;done)|(simp;omega),rfl⟩
theorem GB(a:Nat)(w:M)(h:a<65536):aD 108 #[aG a] w λe d=>aK e (.bool (decide (a=2\/a=51)))/\w=d:=by
 by_cases b:a=2
 .subst b;go_enter func108,ntmps108;go_wp2;go_ret;exact⟨by first|rfl|(simp;done)|(simp;omega),rfl⟩
 .by_cases c:a=51
  .subst c;go_enter func108,ntmps108;go_wp2;go_ret;exact⟨by first|rfl|(simp;done)|(simp;omega),rfl⟩
  .have g:¬(a:Int)=2:=J;have i:¬(a:Int)=51:=J;have f:RH (decide (a=2\/a=51)=false):=by show _=_;simp[b,c]
   go_enter func108,ntmps108;go_wp2;go_ret;exact⟨by rw[f.out];first|rfl|(simp;done)|(simp;omega),rfl⟩
theorem gF[Lo](Z:bg)(g:au)(u:Su)(a:Bool)(w:M)(h:lY w Z g u a):aD 99 #[H Z.A] w λe b=>aK e (.tuple #[])/\w=b:=by obtain⟨c,-,d⟩:=h.aL;obtain⟨k,f,z⟩:=cr d;go_enter func99,ntmps99;go_wp2;go_end0;exact⟨rfl,rfl⟩
theorem JE(a:g.ok):(g.s:Int)*(g.c:Nat)*(((g.M:Nat):Int)-1)=((g.B:Nat):Int):=by have h:=a.m3;have e:((g.M-1:Nat):Int)=((g.M:Nat):Int)-1:=J;unfold au.B au.E;rw[TS,TS,e,Int.mul_assoc,Int.mul_comm (g.c:Int)]
theorem xn(a:g.ok)(w:QL):aD 164 #[g.V] w λe b=>aK e (Y g.B)/\ar w b:=
 (wj (g.M:Nat) (g.c:Nat) (g.s:Nat) w (au.fZ a)).mono λe b ⟨c,d⟩=>⟨by rw[c,JE a],d⟩
theorem jn(b:g.ok)(w:QL):aD 27 #[g.V] w λe a=>aK e (Y g.R)/\ar w a:=
 (ho (g.M:Nat) (g.c:Nat) (g.s:Nat) w (au.fZ b)).mono λe a ⟨c,d⟩=>⟨by rw[c];unfold au.R;rw[TS],d⟩
theorem As[Lo](Z:bg)(g:au)(u:Su)(c:Bool)(w:M)(h:lY w Z g u c)(d:g.ok):aD 100 #[H Z.A] w λe i=>aK e (Y g.B)/\ar w i:=by obtain⟨j,-,l⟩:=h.aL;obtain⟨k,f,z⟩:=cr l;have m:=I (xn d w);obtain⟨n,o,p⟩:=g;go_enter func100,ntmps100;go_wp2_with(go_at_call 164;refine m.mono ?_;rintro e q ⟨rfl,a⟩;have b:=I a);go_ret;exact⟨rfl,b⟩
theorem cM(p:TF)(w:M):CallsD prog 98 #[.pointer (some p)] .returning w λe a b=>aK e (.tuple #[])/\a=.returning/\b=w:=by
 refine callsD_of_wpS func98 rfl λc f d=>?_;apply wpS_seq;apply wpS_region;simp[wpOpsS,go_sem,recoverD,d,ntmps98,Exit.thenS];apply wpS_seq;apply wpS_region;simp[wpOpsS,go_sem,Exit.thenS];refine wpS_cond (t:=false) (by simp[WH,Array.replicate]) ?_;simp only[SX,if_false];refine wpS_of_wp (wp_skip ?_);cases c
 simp_all [bodyPostS,RV,results98]
def Ro.marks(a:Ro)(g:au)(u:Su)(k:Nat):Ro:={a with fr:=λj=>if j<k then dL g u j else a.fr j}
theorem Ro.xp(a:Ro)(g:au)(u:Su)(k:Nat):(a.marks g u k).mark k (dL g u k)=a.marks g u (k+1):=by
 unfold Ro.marks Ro.mark;congr 1;funext j;by_cases e:j=k
 .rw [ak e,ak J,e]
 .rw [al e];show(if j<k then dL g u j else a.fr j)=_;by_cases h:j<k
  .rw [ak h,ak J]
  .rw [al h,al J]
theorem Au:prog.underlying 122=some (.int .u8):=underlying122
theorem JF(w:M):(zeroValue 165).run prog w=.ok .nilFunc w:=zeroValue165 w
theorem LR(g h i:QN)(W:M):∃d f c,(TN 166 (.map (some W.heap.size)) (.int .u8 1) g).run prog (W.alloc (.map #[] 0))=.ok () d
  /\(TN 166 (.map (some W.heap.size)) (.int .u8 2) h).run prog d=.ok () f/\(TN 166 (.map (some W.heap.size)) (.int .u8 3) i).run prog f=.ok () c
  /\UM c W.heap.size (λb=>if b=3 then some i else if b=2 then some h else if b=1 then some g else none)/\ar W c/\W.heap.size<c.heap.size:=by
 obtain⟨d,m,n,x,_,p⟩:=bc (UM.made W) 166 122 165 underlying166 Au 1 g;obtain⟨f,q,r,y,_,s⟩:=bc n 166 122 165 underlying166 Au 2 h;obtain⟨c,t,u3,z,_,u⟩:=bc r 166 122 165 underlying166 Au 3 i;refine⟨d,f,c,m,q,t,u3,?_,u3.lt⟩;have v:ar W (W.alloc (.map #[] 0)):=aI aj _;have j:∀{a b:M} {o:Obj},ar W a->b=a.putObj W.heap.size o->ar W b:=λ{a b o} l w=>by rw[w];exact l.grown (grownBy_putObj' _ _ _) l.size (λk e=>by cases e;exact QP _)
 exact j (j (j v p) s) u
theorem Av[Lo](Z:bg)(g:au)(u:Su)(c:Bool)(w:M)(h:lY w Z g u c)(d:g.ok):aD 93 #[H Z.A] w λe i=>aK e (Y g.R)/\ar w i:=by obtain⟨j,-,l⟩:=h.aL;obtain⟨k,f,z⟩:=cr l;have m:=I (jn d w);obtain⟨n,o,p⟩:=g;go_enter func93,ntmps93;go_wp2_with(go_at_call 27;refine m.mono ?_;rintro e q ⟨rfl,a⟩;have b:=I a);go_ret;exact⟨rfl,b⟩
theorem Aw(a:QN)(w:M):aD 94 #[a] w λe b=>aK e (Y 0)/\ar w b:=by go_enter func94,ntmps94;go_wp2;go_ret;exact⟨rfl,aj⟩
theorem xq[Lo](Z:bg)(g:au)(u:Su)(c:Bool)(w:M)(h:lY w Z g u c)(a:u.ok g):aD 95 #[H Z.A] w λe d=>aK e (Y (u.cur*g.c:Nat))/\ar w d:=by
 obtain⟨i,-,j⟩:=h.aL;obtain⟨k,f,z⟩:=cr j;have l:=a.bZ.qd;have n:=a.bZ.gP;have o:=a.cur.1;obtain⟨p,b⟩:=ah (u.cur*g.c);have m:p<=4096:=by rw[<-b];exact QO (TJ (show u.cur<=256 by omega) l) J
 have q:QQ.wrap ((u.cur:Int)*(g.c:Nat))=(p:Nat):=by
  have:((u.cur:Nat):Int)*(g.c:Nat)=((p:Nat):Int):=by rw[<-b,TS]
  rw[this];go_arith
 rw[b];go_enter func95,ntmps95;go_wp2;go_region;go_wp2;go_ret;exact⟨rfl,aj.drew⟩
structure GC(Z:bg)(g:au)(s:Rs)(u:Su)(w:M)(k:Nat)(wr:M):Prop where
 out:Out (fun x=>x=Z.fb) w wr
 row:ff wr Z.R Z.B (some (ag Z.W 0)) g Z.fb (s.ro.marks g u k)
def LS(Z:bg)(g:au)(b:Ro)(w:M)(e:SG)(a:M):Prop:=aK e (.tuple #[])/\ff a Z.R Z.B (some (ag Z.W 0)) g Z.fb b/\Out (λk=>k=Z.fb) w a
theorem nY[Lo](Z:bg)(g:au)(s:Rs)(u:Su)(C:Bool)(w:QL)(h:cY w Z g s u C)(a1:u.ok g):aD 58 #[aq Z.A] w (LS Z g (s.ro.marks g u g.M) w):=by
 obtain⟨x1,x2,D,m1,m2,m3,d,n,X⟩:=LR (.func (.func 93) #[] #[]) (.func (.func 94) #[] #[]) (.func (.func 95) #[] #[]) w;have a6:=λw=>eN 166 w;obtain⟨a7,E⟩:=ah w.heap.size;rw[E]at m1 m2 m3 d;have H:Z.fb≠a7:=by have:=Z_ h.rs.row.fy;omega
 have F:Z.A≠Z.fb:=by obtain⟨y,-,a⟩:=h.arr.aL;intro e;rw[e,h.rs.row.fy]at a;exact absurd (VF (RT a)).2.1 ai
 have a2:=h.arr.fr (T:= []) (Fr.af n) rfl rfl;obtain⟨y,a3,a⟩:=a2.aL;have a4:=a1.bZ.m16;have N:=aS a2 h.rs.row.fy h.rs.lo.2 a;have M:=ad a1;have a5:=aM n d X;have R:RH (GC Z g s u D 0 D):=⟨Out.refl _ _,by
  have:s.ro.marks g u 0=s.ro:=by unfold Ro.marks;simp
  rw[this];exact h.rs.row.below n⟩
 have G:=n.block Z.fb (Z_ h.rs.row.fy);have I:=ad (G.trans h.rs.row.fy);obtain⟨k0,f0,z0⟩:=cr a;go_enter func58,ntmps58;go_wp2
 try simp only[E]
 go_loopw [13] (λi wr=>∃k:Nat,i= ae k/\k<=g.M/\RH (GC Z g s u D k wr)) (λi _=>g.M-(intOf i).toNat)
 case atStart=>exact⟨0,rfl,QX _,R⟩
 case round=>
  obtain⟨k,rfl,a9,z⟩:=hrel;by_cases j:k<g.M
  .have A:=ad j;have K:=N.1.out z.out.out I N.2.2.1;have Y:=K.st j;have L:=ad K;have O:=z.out.out.heap N.2.2.2 F;obtain⟨k0,f0,z0⟩:=cr O;have P:=ad O;have d:=a5.2.1.out z.out.out (Ne.symm H);have J:=Ro.xp s.ro g u k;have a0:=M.st k j;have B:RH (∀W,ar wr W->∀U f,(match dL g u k with|none=>U=false|some x=>U=true/\f=((x:Nat):Int))->aD 96 #[aq Z.R,ae k,.bool U,ae f] W λe c=>aK e (.tuple #[])/\GC Z g s u D (k+1) c/\Out (λx=>x=Z.fb) W c/\c.heap[Z.A]?=some (ao (BB Z g u y C) 120)):=λW a U f V=>by
    have r:=z.row.below a;have a8:=(a.block _ (Z_ P)).trans P;have b:∀{c:QL},ff c Z.R Z.B (some (ag Z.W 0)) g Z.fb ((s.ro.marks g u k).mark k (dL g u k))->Out (λx=>x=Z.fb) W c->GC Z g s u D (k+1) c/\Out (λx=>x=Z.fb) W c/\c.heap[Z.A]?=some (ao (BB Z g u y C) 120):=λh1 h2=>⟨⟨z.out.out.tr ((Out.af a).tr h2),by rw[<-J];exact h1⟩,h2,h2.heap a8 F⟩;cases t:dL g u k with
    |none=>rw[t]at V b;subst V;exact(Gn _ _ _ g Z.fb _ k f W r j a4).mono λe c ⟨o,p,q⟩=>⟨o,b p q⟩
    |some x=>rw[t]at V b;obtain⟨rfl,rfl⟩:=V;exact(Ae _ _ _ g Z.fb _ k x W r j a4).mono λe c ⟨o,p,q⟩=>⟨o,b p q⟩
   rcases a0 with v|v|v
   .have t:dL g u k=none:=by unfold dL;simp[v]
    rw[v]at Y;have l:=dH (d.out ((Out.refl (λ_=>False) wr).drew) id) 166 122 165 .nilFunc false underlying166 Au (JF _) 1;simp only[Int.reduceEq,if_true,if_false,TQ,SX]at l;rw[t]at B;have Q:=ad (λW (a:ar wr W)=>Av Z g u C W (L.fr (T:= []) (Fr.af a) rfl rfl) M.bZ);go_wp2;go_region_held3(λc=>c.cell? (ag Z.A 13)=some (aq Z.R)) ((simp[*,go_sem];done)) (first|(go_at_call 93;refine(Q _ bC).mono ?_;rintro e w3 ⟨rfl,a⟩;obtain⟨p1,p2,p3⟩:=kp a Z.A dI;have m:=ad a)|(go_at_call 96;refine(B _ (via bC m) _ _ rfl).mono ?_;rintro e w4 ⟨rfl,o,p,q⟩;have S:=aA o p;have p4:=(cr q).1 13));go_wp2;exact⟨⟨k+1,by go_num,A,S.1⟩,by have:=A.out;simp[intOf];omega⟩
   .have t:dL g u k=some 0:=by unfold dL;simp[v]
    rw[v]at Y;have l:=dH (d.out ((Out.refl (λ_=>False) wr).drew) id) 166 122 165 .nilFunc false underlying166 Au (JF _) 2;simp only[Int.reduceEq,if_true,if_false,TQ,SX]at l;rw[t]at B;have Q:=ad (λW (a:ar wr W)=>Aw (aq Z.A) W);go_wp2;go_region_held3(λc=>c.cell? (ag Z.A 13)=some (aq Z.R)) ((simp[*,go_sem];done)) (first|(go_at_call 94;refine(Q _ bC).mono ?_;rintro e w3 ⟨rfl,a⟩;obtain⟨p1,p2,p3⟩:=kp a Z.A dI;have m:=ad a)|(go_at_call 96;refine(B _ (via bC m) _ _ ⟨rfl,rfl⟩).mono ?_;rintro e w4 ⟨rfl,o,p,q⟩;have S:=aA o p;have p4:=(cr q).1 13));go_wp2;exact⟨⟨k+1,by go_num,A,S.1⟩,by have:=A.out;simp[intOf];omega⟩
   .have t:dL g u k=some (u.cur*g.c):=by unfold dL;simp[v]
    rw[v]at Y;have l:=dH (d.out ((Out.refl (λ_=>False) wr).drew) id) 166 122 165 .nilFunc false underlying166 Au (JF _) 3;simp only[Int.reduceEq,if_true,if_false,TQ,SX]at l;rw[t]at B;have Q:=ad (λW (a:ar wr W)=>xq Z g u C W (L.fr (T:= []) (Fr.af a) rfl rfl) M);go_wp2;go_region_held3(λc=>c.cell? (ag Z.A 13)=some (aq Z.R)) ((simp[*,go_sem];done)) (first|(go_at_call 95;refine(Q _ bC).mono ?_;rintro e w3 ⟨rfl,a⟩;obtain⟨p1,p2,p3⟩:=kp a Z.A dI;have m:=ad a)|(go_at_call 96;refine(B _ (via bC m) _ _ ⟨rfl,rfl⟩).mono ?_;rintro e w4 ⟨rfl,o,p,q⟩;have S:=aA o p;have p4:=(cr q).1 13));go_wp2;exact⟨⟨k+1,by go_num,A,S.1⟩,by have:=A.out;simp[intOf];omega⟩
  .obtain rfl:k=g.M:=aa;go_wp2;go_end0;exact⟨rfl,z.row,(Out.af a5.1).tr z.out.out⟩
theorem Pk.lt(h:Pk S w n m i f)(hk:S k):k<w.heap.size:=by
 obtain⟨c,a,b,d,rfl⟩:=h;rcases hk with rfl|hk
 .exact Z_ a
 .exact (b.lt _ hk).2
def xr(b o:Nat):Prop:=(∀a w,(UY b a).run prog w=.ok (.enter b a) w)/\∀(D:Nat) (w:M),aD b #[H D] w λe c=>aK e (.pointer (some ⟨D,o,none⟩))/\w=c
theorem Ik:xr 221 0:=⟨RP func221 aE rfl,λD w=>by go_enter func221,ntmps221;go_wp2;go_ret;exact⟨rfl,rfl⟩⟩
theorem Il:xr 222 1:=⟨RP func222 aE rfl,λD w=>by go_enter func222,ntmps222;go_wp2;go_ret;exact⟨rfl,rfl⟩⟩
theorem Im:xr 223 2:=⟨RP func223 aE rfl,λD w=>by go_enter func223,ntmps223;go_wp2;go_ret;exact⟨rfl,rfl⟩⟩
theorem Io:xr 227 3:=⟨RP func227 aE rfl,λD w=>by go_enter func227,ntmps227;go_wp2;go_ret;exact⟨rfl,rfl⟩⟩
theorem Ip:xr 228 4:=⟨RP func228 aE rfl,λD w=>by go_enter func228,ntmps228;go_wp2;go_ret;exact⟨rfl,rfl⟩⟩
theorem Iq:xr 229 5:=⟨RP func229 aE rfl,λD w=>by go_enter func229,ntmps229;go_wp2;go_ret;exact⟨rfl,rfl⟩⟩
theorem Ir:xr 236 6:=⟨RP func236 aE rfl,λD w=>by go_enter func236,ntmps236;go_wp2;go_ret;exact⟨rfl,rfl⟩⟩
theorem Is:xr 237 7:=⟨RP func237 aE rfl,λD w=>by go_enter func237,ntmps237;go_wp2;go_ret;exact⟨rfl,rfl⟩⟩
theorem It:xr 238 11:=⟨RP func238 aE rfl,λD w=>by go_enter func238,ntmps238;go_wp2;go_ret;exact⟨rfl,rfl⟩⟩
theorem Du(m o v d g p N:Nat)(Z:Nat->Prop)(f:aO)(h:Array QN)(W:QL)(z:xr m o)(A:h[o]?=some (bj v))(C:Pk Z W p 128 N f)(I:N+8<=128)(q:¬Z d)(r:¬Z g)(E:aZ W d (ao #[.func (.func 219) #[] #[]] 316))(F:aZ W g (ao #[.func (.func m) #[] #[]] 321))(s:∃G K L O x4 P Q S T U i j,h= #[G,K,L,O,x4,P,Q,S,T,U,i,j]):
  aD 280 #[aq p,.agg h,aq d,aq g] W (ox Z W p 128 (N+8) (cat N f (leB v))):=by
 obtain⟨k,t⟩:=ah (W.alloc (ao h 117));have a:ar W k:=by rw[<-t];exact aI aj _
 have c:aZ k W.heap.size (ao h 117):=by rw[<-t];exact QM _ _
 obtain⟨D,l⟩:=ah W.heap.size;rw[l]at c;have V:=(a.block _ (Z_ E)).trans E;have X:=(a.block _ (Z_ F)).trans F;obtain⟨k1,f1,z1⟩:=cr V;obtain⟨k2,f2,z2⟩:=cr X;have c1:k.cell? (ag D o)=some (bj v):=((cr c).1 o).trans A;have a4:=z.1;have Y:=ad (λW=>z.2 D W);have u:¬Z D:=λe=>by have:=C.lt e;omega
 have J:RH (∀n,ar k n->aD 219 #[aq p,.int .u64 v] n λe b=>ox Z W p 128 (N+8) (cat N f (leB v)) e b/\b.cell? (ag d 0)=some (.func (.func 219) #[] #[])/\b.cell? (ag g 0)=some (.func (.func m) #[] #[])/\b.cell? (ag D o)=some (bj v)):=λn w=>(rZ Z n p 128 N v f ((C.cS a).cS w) aa I).mono λe b ⟨H,a0,M,x⟩=>
  have y:∀{B:Nat} {o:Obj},aZ k B o->¬Z B->aZ b B o:=λR a1=>x.out.heap ((w.block _ (Z_ R)).trans R) a1
  ⟨⟨H,a0,M,iE.pre (a.trans (w.mono a.size)) x⟩,(cr (y V q)).1 0,(cr (y X r)).1 0,((cr (y c u)).1 o).trans A⟩
 obtain⟨G,K,L,O,x4,P,Q,S,T,U,i,j,rfl⟩:=s;go_enter func280,ntmps280;go_wp2_with fail
 try simp only[t,l]
 go_region_held3(λb=>b.cell? (ag d 0)=some (.func (.func 219) #[] #[])/\b.cell? (ag g 0)=some (.func (.func m) #[] #[])/\b.cell? (ag D o)=some (bj v)) ((simp[*,go_sem];done)) (first|(go_at_call 219;refine(J _ bC).mono ?_;rintro e w3 ⟨⟨rfl,a2⟩,H,M,x⟩;have a3:=ad a2)|(refine(Y _).mono ?_;rintro e w3 ⟨rfl,rfl⟩))
 all_goals go_wp2
 go_end0;exact⟨rfl,a3⟩
theorem JG(m o v d g p N:Nat)(Z:Nat->Prop)(f:aO)(h:Array QN)(W:QL)(z:xr m o)(A:h[o]?=some (ae v))(C:Pk Z W p 128 N f)(I:N+1<=128)(Y:v<256)(q:¬Z d)(r:¬Z g)(E:aZ W d (ao #[.func (.func 225) #[] #[]] 323))(F:aZ W g (ao #[.func (.func m) #[] #[]] 327))(s:∃G K L O x4 P Q S T U i j,h= #[G,K,L,O,x4,P,Q,S,T,U,i,j]):
  aD 283 #[aq p,.agg h,aq d,aq g] W (ox Z W p 128 (N+1) (cat N f (leB v))):=by
 obtain⟨k,t⟩:=ah (W.alloc (ao h 117));have a:ar W k:=by rw[<-t];exact aI aj _
 have c:aZ k W.heap.size (ao h 117):=by rw[<-t];exact QM _ _
 obtain⟨D,l⟩:=ah W.heap.size;rw[l]at c;have V:=(a.block _ (Z_ E)).trans E;have X:=(a.block _ (Z_ F)).trans F;obtain⟨k1,f1,z1⟩:=cr V;obtain⟨k2,f2,z2⟩:=cr X;have c1:k.cell? (ag D o)=some (ae v):=((cr c).1 o).trans A;have a5:=z.1;have J:=ad (λW=>z.2 D W);have u:¬Z D:=λe=>by have:=C.lt e;omega
 have a0:RH (∀n,ar k n->aD 225 #[aq p,.int .u8 v] n λe b=>ox Z W p 128 (N+1) (cat N f (leB v)) e b/\b.cell? (ag d 0)=some (.func (.func 225) #[] #[])/\b.cell? (ag g 0)=some (.func (.func m) #[] #[])/\b.cell? (ag D o)=some (ae v)):=λn w=>(wC Z n p 128 N v f ((C.cS a).cS w) aa I Y).mono λe b ⟨H,a1,M,x⟩=>
  have y:∀{B:Nat} {o:Obj},aZ k B o->¬Z B->aZ b B o:=λR a2=>x.out.heap ((w.block _ (Z_ R)).trans R) a2
  ⟨⟨H,a1,M,iE.pre (a.trans (w.mono a.size)) x⟩,(cr (y V q)).1 0,(cr (y X r)).1 0,((cr (y c u)).1 o).trans A⟩
 obtain⟨G,K,L,O,x4,P,Q,S,T,U,i,j,rfl⟩:=s;have a6:ZN.wrap (v:Int)=v:=bf;go_enter func283,ntmps283;go_wp2_with fail
 try simp only[t,l]
 go_region_held3(λb=>b.cell? (ag d 0)=some (.func (.func 225) #[] #[])/\b.cell? (ag g 0)=some (.func (.func m) #[] #[])/\b.cell? (ag D o)=some (ae v)) ((simp[*,go_sem];done)) (first|(go_at_call 225;refine(a0 _ bC).mono ?_;rintro e w3 ⟨⟨rfl,a3⟩,H,M,x⟩;have a4:=ad a3)|(refine(J _).mono ?_;rintro e w3 ⟨rfl,rfl⟩))
 all_goals go_wp2
 go_end0;exact⟨rfl,a4⟩
theorem Dw(m o v d g p N:Nat)(Z:Nat->Prop)(f:aO)(h:Array QN)(W:QL)(z:xr m o)(A:h[o]?=some (ae v))(C:Pk Z W p 128 N f)(I:N+2<=128)(Y:v<65536)(q:¬Z d)(r:¬Z g)(E:aZ W d (ao #[.func (.func 234) #[] #[]] 330))(F:aZ W g (ao #[.func (.func m) #[] #[]] 327))(s:∃G K L O x4 P Q S T U i j,h= #[G,K,L,O,x4,P,Q,S,T,U,i,j]):
  aD 285 #[aq p,.agg h,aq d,aq g] W (ox Z W p 128 (N+2) (cat N f (leB v))):=by
 obtain⟨k,t⟩:=ah (W.alloc (ao h 117));have a:ar W k:=by rw[<-t];exact aI aj _
 have c:aZ k W.heap.size (ao h 117):=by rw[<-t];exact QM _ _
 obtain⟨D,l⟩:=ah W.heap.size;rw[l]at c;have V:=(a.block _ (Z_ E)).trans E;have X:=(a.block _ (Z_ F)).trans F;obtain⟨k1,f1,z1⟩:=cr V;obtain⟨k2,f2,z2⟩:=cr X;have c1:k.cell? (ag D o)=some (ae v):=((cr c).1 o).trans A;have a5:=z.1;have J:=ad (λW=>z.2 D W);have u:¬Z D:=λe=>by have:=C.lt e;omega
 have a0:RH (∀n,ar k n->aD 234 #[aq p,.int .u16 v] n λe b=>ox Z W p 128 (N+2) (cat N f (leB v)) e b/\b.cell? (ag d 0)=some (.func (.func 234) #[] #[])/\b.cell? (ag g 0)=some (.func (.func m) #[] #[])/\b.cell? (ag D o)=some (ae v)):=λn w=>(yo Z n p 128 N v f ((C.cS a).cS w) aa I Y).mono λe b ⟨H,a1,M,x⟩=>
  have y:∀{B:Nat} {o:Obj},aZ k B o->¬Z B->aZ b B o:=λR a2=>x.out.heap ((w.block _ (Z_ R)).trans R) a2
  ⟨⟨H,a1,M,iE.pre (a.trans (w.mono a.size)) x⟩,(cr (y V q)).1 0,(cr (y X r)).1 0,((cr (y c u)).1 o).trans A⟩
 obtain⟨G,K,L,O,x4,P,Q,S,T,U,i,j,rfl⟩:=s;have a6:IntKind.u16.wrap (v:Int)=v:=bf;go_enter func285,ntmps285;go_wp2_with fail
 try simp only[t,l]
 go_region_held3(λb=>b.cell? (ag d 0)=some (.func (.func 234) #[] #[])/\b.cell? (ag g 0)=some (.func (.func m) #[] #[])/\b.cell? (ag D o)=some (ae v)) ((simp[*,go_sem];done)) (first|(go_at_call 234;refine(a0 _ bC).mono ?_;rintro e w3 ⟨⟨rfl,a3⟩,H,M,x⟩;have a4:=ad a3)|(refine(J _).mono ?_;rintro e w3 ⟨rfl,rfl⟩))
 all_goals go_wp2
 go_end0;exact⟨rfl,a4⟩
def hh(k:Nat):Nat:=if k=0 then 83 else if k=1 then 80 else if k=2 then 83 else if k=3 then 66 else if k=4 then 1 else 0
theorem pt(w:M):aD 215 #[] w λe a=>(∃v,aK e v/\lX a v 8 hh)/\ar w a:=by
 have d:=λ(w:M) (C:Array QN) (n c:Nat)=>Lib.run_convert_bytes_const (P:=prog) w 41 5 C n c UX UL;go_enter func215,ntmps215;go_wp2;go_ret;refine⟨⟨_,rfl,some (R w.heap.size 0),_,rfl,.inr ⟨_,_,rfl,λk b=>?_⟩⟩,aI aj _⟩;refine(RD _ _ _ _ _ _ (QM _ _)).trans ?_
 match k,b with
 |0,_=>rfl
 |1,_=>rfl
 |2,_=>rfl
 |3,_=>rfl
 |4,_=>rfl
 |5,_=>rfl
 |6,_=>rfl
 |7,_=>rfl
theorem Ax(p:Nat)(Z:Nat->Prop)(N:Nat)(f:aO)(h:Array QN)(W:M)(j:Pk Z W p 128 N f)(k:N+8<=128):
  aD 213 #[H p,.agg h] W (ox Z W p 128 (N+8) (cat N f hh)):=by
 obtain⟨g,i⟩:=ah (W.alloc (ao h 117));have a:ar W g:=by rw[<-i];exact aI aj _
 have l:=I (pt g);have m:RH (∀v b,ar g b->lX b v 8 hh->aD 214 #[H p,v] b (ox Z W p 128 (N+8) (cat N f hh))):=λv b c d=>(sc Z b p 128 N 8 v f hh ((j.cS a).cS c) d J J k).mono λe x ⟨n,o,q,r⟩=>⟨n,o,q,iE.pre (a.trans (c.mono a.size)) r⟩;go_enter func213,ntmps213;go_wp2_with fail
 try simp only[i]
 refine l.mono ?_;rintro e y ⟨⟨v,rfl,d⟩,c⟩;have s:=I d;have t:=I c;obtain⟨z,A,rfl,-⟩:=d;go_wp2_with fail;refine(m _ _ t s).mono ?_;rintro e B ⟨rfl,u⟩;have w:=I u;go_wp2;go_end0;exact⟨rfl,w⟩
def jo(u:Su):Nat:=(if u.lz=true then 1 else 0)+(if u.lost=true then 2 else 0)
theorem GD(g:au)(u:Su)(c:QN)(w:M):aD 231 #[.agg (dr g u c)] w λe d=>aK e (.int .u8 (jo u:Nat))/\ar w d:=by
 have b:=I (show jo u=(if u.lz=true then 1 else 0)+(if u.lost=true then 2 else 0)from rfl);obtain⟨id,i,j,k,N,f,a,l,h⟩:=u;simp only at b;cases f<;>cases a
 all_goals
  go_enter func231,ntmps231;go_wp2;go_ret;exact⟨by rw[b.out];first|rfl|simp,aI aj _⟩
theorem Dx(g:au)(u:Su)(d:QN)(p:Nat)(Z:Nat->Prop)(N:Nat)(f:aO)(W:M)(m:Pk Z W p 128 N f)(n:N+1<=128):
  aD 230 #[H p,.agg (dr g u d)] W (ox Z W p 128 (N+1) (cat N f (leB (jo u)))):=by
 obtain⟨h,k⟩:=ah (W.alloc (ao (dr g u d) 117));have a:ar W h:=by rw[<-k];exact aI aj _
 have b:aZ h W.heap.size (ao (dr g u d) 117):=by rw[<-k];exact QM _ _
 obtain⟨D,c⟩:=ah W.heap.size;rw[c]at b;have o:=I (GD g u d h);have l:jo u<256:=by unfold jo;split<;>split<;>omega
 have q:RH (∀i,ar h i->aD 225 #[H p,.int .u8 (jo u:Nat)] i (ox Z W p 128 (N+1) (cat N f (leB (jo u))))):=λi j=>(wC Z i p 128 N (jo u) f ((m.cS a).cS j) J n l).mono λe z ⟨r,s,t,v⟩=>⟨r,s,t,iE.pre (a.trans (j.mono a.size)) v⟩;obtain⟨d1,d2,d3⟩:=cr b;go_enter func230,ntmps230;go_wp2_with fail
 try simp only[k,c]
 go_wp2_with(first|(go_at_call 231;refine o.mono ?_;rintro e A ⟨rfl,j⟩;have w:=I j)|(go_at_call 225;refine(q _ w).mono ?_;rintro e B ⟨rfl,x⟩;have y:=I x));go_end0;exact⟨rfl,y⟩
theorem Dy(c:Array QN)(p:Nat)(Z:Nat->Prop)(N:Nat)(f:aO)(W:M)(g:Pk Z W p 128 N f)(h:N+2<=128):
  aD 239 #[H p,.agg c] W (ox Z W p 128 (N+2) (cat N f (leB 0))):=by
 obtain⟨b,d⟩:=ah (W.alloc (ao c 117));have a:ar W b:=by rw[<-d];exact aI aj _
 have i:RH (aD 234 #[H p,aG 0] b (ox Z W p 128 (N+2) (cat N f (leB 0)))):=(yo Z b p 128 N 0 f (g.cS a) J h J).mono λe q ⟨j,k,l,m⟩=>⟨j,k,l,iE.pre a m⟩;go_enter func239,ntmps239;go_wp2_with fail
 try simp only[d]
 refine i.mono ?_;rintro e r ⟨rfl,n⟩;have o:=I n;go_wp2;go_end0;exact⟨rfl,o⟩
theorem Pk.congr{f g:aO}(h:Pk S w n m i f)(e:∀k,k<i->f k=g k):Pk S w n m i g:=by obtain⟨a,b,c,d,j⟩:=h;exact⟨a,b,by rw[<-ee e];exact c,d,j⟩
def Iu(u:Su)(j:Nat):Nat:=u.st j%256
structure LU(Z:Nat->Prop)(W:M)(p N:Nat)(F:aO)(wr:M):Prop where
 pk:∃Z',Pk Z' wr p 128 N F/\iE Z W wr Z'
theorem LU.next{e:SG}(a:iE S W w Q)(h:ox Q w n 128 (m+k+1) (cat (m+k) (cat m f (Iu u)) (leB (u.st k))) e z):LU S W n (m+(k+1)) (cat m f (Iu u)) z:=by
 obtain⟨-,b,c,d⟩:=h;refine⟨b,c.congr λj i=>?_,a.trans d⟩;unfold cat;by_cases g:j<m+k
 .rw [ak g]
 .obtain rfl:j=m+k:=J;rw[al (UA _),al J];unfold leB Iu;rw[Nat.sub_self,VG,Nat.pow_zero,Nat.div_one]
theorem xt(g:au)(u:Su)(c:QN)(p:Nat)(Z:Nat->Prop)(N:Nat)(f:aO)(W:QL)(G:Pk Z W p 128 N f)(K:kh W c g.M u.st)(l:∀k,c.ownBlock=some k->¬Z k)(H:N+g.M<=128)(n:∀m,m<g.M->u.st m<256):
  aD 242 #[aq p,.agg (dr g u c)] W (ox Z W p 128 (N+g.M) (cat N f (Iu u))):=by
 obtain⟨q,r⟩:=ah (W.alloc (ao (dr g u c) 117));have d:ar W q:=by rw[<-r];exact aI aj _
 have h:aZ q W.heap.size (ao (dr g u c) 117):=by rw[<-r];exact QM _ _
 obtain⟨D,j⟩:=ah W.heap.size;rw[j]at h;obtain⟨b,o,L,z,A,rfl,B,O,P⟩:=K;have s:¬Z b:=l b rfl;have t:=aM O s P;have v:=ad n;have w:RH (LU Z W p (N+0) (cat N f (Iu u)) q):=⟨Z,(G.cS d).congr λk Q=>by unfold cat;rw[ak J],iE.same d⟩;have M:g.M<=128:=J;obtain⟨d1,d2,d3⟩:=cr h;go_enter func242,ntmps242;go_wp2
 try simp only[r,j]
 go_loopw [9] (λi wr=>∃k:Nat,i= Y k/\k<=g.M/\RH (LU Z W p (N+k) (cat N f (Iu u)) wr)) (λi _=>g.M-(intOf i).toNat)
 case atStart=>exact⟨0,rfl,QX _,w⟩
 case round=>
  obtain⟨k,rfl,Q,C⟩:=hrel;by_cases a:k<g.M
  .have E:=ad a;obtain⟨S,T,F⟩:=C.pk;have x:aZ wr b (.cells z 122 A):=F.out.heap t.1 t.2.1;have R:=(RD wr b (o+k) z 122 A x).trans (t.2.2 k a);have U:=ad (wC S wr p 128 (N+k) (u.st k) _ T J J (v k a));have V:=ad F;go_wp2_with(go_at_call 225;refine U.mono ?_;rintro e I y;have X:=ad (LU.next V y);obtain⟨rfl,y⟩:=y);exact⟨⟨k+1,by go_num,E,X⟩,by have:=E.out;simp[intOf];omega⟩
  .obtain rfl:g.M=k:=J;go_wp2;go_end0;exact⟨rfl,C.pk⟩
structure tB(w:M)(b:Nat)(t1 t2 t3:TI)(v1 v2 v3:QN):Prop where
 b1:w.heap[b]? =some (.cells #[v1] t1 (0,0))
 b2:w.heap[b+1]? =some (.cells #[v2] t2 (0,0))
 b3:w.heap[b+2]? =some (.cells #[v3] t3 (0,0))
theorem tB.below{t1 t2 t3:TI}(h:tB w n t1 t2 t3 v x y)(a:ar w W):tB W n t1 t2 t3 v x y:=
 ⟨(a.block _ (Z_ h.b1)).trans h.b1,(a.block _ (Z_ h.b2)).trans h.b2,(a.block _ (Z_ h.b3)).trans h.b3⟩
abbrev gG(n:Nat):QN:=.func (.func n) #[] #[]
abbrev ns(n a b:Nat):QN:=.func (.func n) #[] #[H a,H b]
def JH(f1 f2:Nat)(t1 t2 t3:TI)(c d f:Nat)(w:M)(e:SG)(a:M):Prop:=
 ∃b,aK e (.agg #[ns f1 b (b+2),ns f2 (b+1) (b+2)])/\tB a b t1 t2 t3 (gG c) (gG d) (gG f)/\ar w a
theorem NH(w:M)(a b c:QN)(t1 t2 t3:TI)(o:Obj):tB ((((w.alloc (.cells #[a] t1)).alloc (.cells #[b] t2)).alloc (.cells #[c] t3)).alloc o) w.heap.size t1 t2 t3 a b c:=by
 have d:(((w.alloc (.cells #[a] t1)).alloc (.cells #[b] t2)).alloc (.cells #[c] t3)).heap[w.heap.size+2]?=some (.cells #[c] t3 (0,0)):=fg (w.alloc (.cells #[a] t1)) (.cells #[b] t2) (.cells #[c] t3)|>λh=>by simpa using h
 have e:(((w.alloc (.cells #[a] t1)).alloc (.cells #[b] t2)).alloc (.cells #[c] t3)).heap[w.heap.size+1]?=some (.cells #[b] t2 (0,0)):=by have:=fX (w.alloc (.cells #[a] t1)) (.cells #[b] t2) (.cells #[c] t3);simpa using this
 have f:SM (w.alloc (.cells #[a] t1)).heap.size (w.alloc (.cells #[a] t1)) (((w.alloc (.cells #[a] t1)).alloc (.cells #[b] t2)).alloc (.cells #[c] t3)):=aI (aI aj _) _;have g:=(f.block w.heap.size (Z_ (QM w (.cells #[a] t1)))).trans (QM w (.cells #[a] t1));exact(tB.mk g e d).below (aI aj _)
theorem Dz(a b c:Nat)(w:M):aD 218 #[gG a,gG b,gG c] w (JH 280 281 316 318 321 a b c w):=by go_enter func218,ntmps218;go_wp2;refine RB (v:=.agg #[ns 280 w.heap.size (w.heap.size+2),ns 281 (w.heap.size+1) (w.heap.size+2)]) (by simp[RV,results218,go_sem]) rfl ?_;exact⟨w.heap.size,rfl,NH w _ _ _ _ _ _ _,aI (aI (aI (aI aj _) _) _) _⟩
theorem JI(a b c:Nat)(w:M):aD 224 #[gG a,gG b,gG c] w (JH 283 284 323 325 327 a b c w):=by go_enter func224,ntmps224;go_wp2;refine RB (v:=.agg #[ns 283 w.heap.size (w.heap.size+2),ns 284 (w.heap.size+1) (w.heap.size+2)]) (by simp[RV,results224,go_sem]) rfl ?_;exact⟨w.heap.size,rfl,NH w _ _ _ _ _ _ _,aI (aI (aI (aI aj _) _) _) _⟩
theorem DB(a b c:Nat)(w:M):aD 233 #[gG a,gG b,gG c] w (JH 285 286 330 332 327 a b c w):=by go_enter func233,ntmps233;go_wp2;refine RB (v:=.agg #[ns 285 w.heap.size (w.heap.size+2),ns 286 (w.heap.size+1) (w.heap.size+2)]) (by simp[RV,results233,go_sem]) rfl ?_;exact⟨w.heap.size,rfl,NH w _ _ _ _ _ _ _,aI (aI (aI (aI aj _) _) _) _⟩
def DC(b:aO):Array QN:= #[gG 213,gG 216,ns 280 (b 1) (b 1+2),ns 281 (b 1+1) (b 1+2),ns 280 (b 2) (b 2+2),ns 281 (b 2+1) (b 2+2),ns 280 (b 3) (b 3+2),ns 281 (b 3+1) (b 3+2),ns 283 (b 4) (b 4+2),ns 284 (b 4+1) (b 4+2),ns 283 (b 5) (b 5+2),ns 284 (b 5+1) (b 5+2),ns 283 (b 6) (b 6+2),ns 284 (b 6+1) (b 6+2),gG 230,gG 232,ns 285 (b 8) (b 8+2),ns 286 (b 8+1) (b 8+2),ns 285 (b 9) (b 9+2),ns 286 (b 9+1) (b 9+2),ns 285 (b 10) (b 10+2),ns 286 (b 10+1) (b 10+2),gG 239,gG 240,gG 242,gG 243]
structure fV(w:M)(F:Nat)(b:aO):Prop where
 aL:w.heap[F]? =some (N (DC b) 238)
 f1:tB w (b 1) 316 318 321 (gG 219) (gG 220) (gG 221)
 f2:tB w (b 2) 316 318 321 (gG 219) (gG 220) (gG 222)
 f3:tB w (b 3) 316 318 321 (gG 219) (gG 220) (gG 223)
 f4:tB w (b 4) 323 325 327 (gG 225) (gG 226) (gG 227)
 f5:tB w (b 5) 323 325 327 (gG 225) (gG 226) (gG 228)
 f6:tB w (b 6) 323 325 327 (gG 225) (gG 226) (gG 229)
 f8:tB w (b 8) 330 332 327 (gG 234) (gG 235) (gG 236)
 f9:tB w (b 9) 330 332 327 (gG 234) (gG 235) (gG 237)
 f10:tB w (b 10) 330 332 327 (gG 234) (gG 235) (gG 238)
theorem fV.below(h:fV w n f)(a:ar w W):fV W n f:=
 ⟨(a.block _ (Z_ h.aL)).trans h.aL,h.f1.below a,h.f2.below a,h.f3.below a,h.f4.below a,h.f5.below a,h.f6.below a,h.f8.below a,h.f9.below a,h.f10.below a⟩
def NI(w:M)(e:SG)(a:M):Prop:=∃F b,aK e (a_ F 13 13)/\fV a F b/\ar w a
theorem ru(w:QL):aD 155 #[] w (NI w):=by go_enter func155,ntmps155;go_wp2_with fail;refine(Dz 219 220 221 _).mono ?_;rintro e w1 ⟨B,rfl,W,X⟩;have q:=ad W;have c:=ad X;go_wp2_with fail;refine(Dz 219 220 222 _).mono ?_;rintro e w2 ⟨C,rfl,Z,H⟩;have r:=ad Z;have d:=ad H;go_wp2_with fail;refine(Dz 219 220 223 _).mono ?_;rintro e w3 ⟨D,rfl,N,M⟩;have s:=ad N;have f:=ad M;go_wp2_with fail;refine(JI 225 226 227 _).mono ?_;rintro e w4 ⟨E,rfl,x4,R⟩;have t:=ad x4;have g:=ad R;go_wp2_with fail;refine(JI 225 226 228 _).mono ?_;rintro e w5 ⟨F,rfl,I,Y⟩;have u:=ad I;have h:=ad Y;go_wp2_with fail;refine(JI 225 226 229 _).mono ?_;rintro e w6 ⟨G,rfl,J,y6⟩;have v:=ad J;have i:=ad y6;go_wp2_with fail;refine(DB 234 235 236 _).mono ?_;rintro e w8 ⟨K,rfl,x8,y8⟩;have x:=ad x8;have k:=ad y8;go_wp2_with fail;refine(DB 234 235 237 _).mono ?_;rintro e w9 ⟨L,rfl,x9,y9⟩;have y:=ad x9;have l:=ad y9;go_wp2_with fail;refine(DB 234 235 238 _).mono ?_;rintro e b ⟨m,rfl,z,A⟩;have n:=ad z;have a:=ad A;go_wp2;go_ret;have a0:∀o,ar b (b.alloc o):=λo=>aI aj _;have p:=a0 (ao (DC (λj=>if j=1 then B else if j=2 then C else if j=3 then D else if j=4 then E else if j=5 then F else if j=6 then G else if j=8 then K else if j=9 then L else if j=10 then m else 0)) 238);have O:=a.trans (p.mono a.size);have P:=l.trans (O.mono l.size);have Q:=k.trans (P.mono k.size);have S:=i.trans (Q.mono i.size);have T:=h.trans (S.mono h.size);have z3:=g.trans (T.mono g.size);have U:=f.trans (z3.mono f.size);have V:=d.trans (U.mono d.size);refine⟨b.heap.size,λj=>if j=1 then B else if j=2 then C else if j=3 then D else if j=4 then E else if j=5 then F else if j=6 then G else if j=8 then K else if j=9 then L else if j=10 then m else 0,rfl,⟨QM _ _,q.below V,r.below U,s.below z3,t.below T,u.below S,v.below Q,x.below P,y.below O,n.below p⟩,c.trans (V.mono c.size)⟩
def gb(g:au):Nat->Nat
 |0=>0
 |1=>8
 |2=>16
 |3=>24
 |4=>32
 |5=>33
 |6=>34
 |7=>35
 |8=>36
 |9=>38
 |10=>40
 |11=>42
 |12=>44
 |_=>44+g.M
def xu(g:au)(u:Su):Nat->Nat->Nat
 |0=>hh
 |1=>leB u.id
 |2=>leB u.ev
 |3=>leB u.sf
 |4=>leB u.rl
 |5=>leB g.M
 |6=>leB g.c
 |7=>leB (jo u)
 |8=>leB g.s
 |9=>leB u.N
 |10=>leB u.cur
 |11=>leB 0
 |_=>Iu u
def qq(g:au)(u:Su):Nat->Nat->Nat
 |0=>λ_=>0
 |k+1=>cat (gb g k) (qq g u k) (xu g u k)
def ki(g:au)(u:Su):Nat->Nat:=cat (44+g.M) (qq g u 13) λ_=>0
def fQ(g:au)(u:Su):Nat->Nat:=cat 128 (cat 124 (ki g u) (leB (dD 0 124 (ki g u)))) λ_=>0
theorem Pk.ty(h:Pk S w n m i f){b:Nat × Nat}(a:w.heap[k]?=some (.cells A t b))(c:t≠309)(d:t≠5):¬S k:=by
 obtain⟨r,j,l,s,rfl⟩:=h;rintro(rfl|e)
 .rw [j]at a;cases a;exact c rfl
 .rcases l.2 with⟨rfl,_⟩|⟨g,o,p,rfl,_,q,_⟩
  .cases e
  .cases e;rw[q]at a;cases a;exact d rfl
theorem tB.Ay{t1 t2 t3:TI}(h:tB w i t1 t2 t3 v x y)(b:Pk S w n m k f)(c:iE S w W Q)(a:([t1,t2,t3].all λt=>t !=309&&t !=5)=true):tB W i t1 t2 t3 v x y:=by simp only[List.all_cons,VX,bne_iff_ne,List.all_nil]at a;exact⟨c.out.heap h.b1 (b.ty h.b1 a.1.1 a.1.2),c.out.heap h.b2 (b.ty h.b2 a.2.1.1 a.2.1.2),c.out.heap h.b3 (b.ty h.b3 a.2.2.1.1 a.2.2.1.2)⟩
theorem fV.Ay{f b:aO}(h:fV w i b)(a:Pk S w n m k f)(c:iE S w W Q):fV W i b:=
 ⟨c.out.heap h.aL (a.ty h.aL ai ai),h.f1.Ay a c rfl,h.f2.Ay a c rfl,h.f3.Ay a c rfl,h.f4.Ay a c rfl,h.f5.Ay a c rfl,h.f6.Ay a c rfl,h.f8.Ay a c rfl,h.f9.Ay a c rfl,h.f10.Ay a c rfl⟩
theorem kh.Ay{c:aO}(h:kh w v n c)(g:Pk S w m k i f)(j:iE S w W Q):kh W v n c:=by obtain⟨b,o,a,l,p,e,q,d,r⟩:=h;exact⟨b,o,a,l,p,e,q,j.out.heap d (g.ty d ai ai),r⟩
theorem kh.off{a:aO}(h:kh w v n a)(c:Pk S w m i j f):∀k,v.ownBlock=some k->¬S k:=by obtain⟨b,o,d,l,p,rfl,q,e,r⟩:=h;intro k g;cases g;exact c.ty e ai ai
structure LV(g:au)(u:Su)(sv:QN)(F:Nat)(b:aO)(k pn:Nat)(pc:Array QN):Prop where
 enters:∀args w,(UY pn args).run prog w= .ok (.enter pn args) w
 at_:(DC b)[k*2]? =some (.func (.func pn) #[] pc)
 put:∀(Z:Nat->Prop) (W:QL) (p:Nat),fV W F b->kh W sv g.M u.st->Pk Z W p 128 (gb g k) (qq g u k)->aD pn (#[H p,.agg (dr g u sv)] ++pc) W (ox Z W p 128 (gb g (k+1)) (qq g u (k+1)))
theorem GF(g:au)(u:Su)(f:QN)(F:Nat)(b:aO)(h:u.ok g):∀k,k<13->∃l n,LV g u f F b k l n:=by
 have B:=h.bZ.m16;have C:=h.bZ.qd;have D:=h.bZ.gP;have E:=h.rl;have G:=h.ring.2;have K:=h.cur.1;have d:∃o q r s x4 t v w x y i j,dr g u f= #[o,q,r,s,x4,t,v,w,x,y,i,j]:=⟨_,_,_,_,_,_,_,_,_,_,_,_,rfl⟩;intro k z
 match k,z with
 |0,_=>exact⟨213,#[],RP func213 aE rfl,rfl,λZ W p hF c a=>Ax p Z 0 _ _ W a J⟩
 |1,_=>exact⟨280,_,RP func280 aE rfl,rfl,λZ W p hF c a=>Du 221 0 u.id (b 1) (b 1+2) p 8 Z _ _ W Ik rfl a J (a.ty hF.f1.b1 ai ai) (a.ty hF.f1.b3 ai ai) hF.f1.b1 hF.f1.b3 d⟩
 |2,_=>exact⟨280,_,RP func280 aE rfl,rfl,λZ W p hF c a=>Du 222 1 u.ev (b 2) (b 2+2) p 16 Z _ _ W Il rfl a J (a.ty hF.f2.b1 ai ai) (a.ty hF.f2.b3 ai ai) hF.f2.b1 hF.f2.b3 d⟩
 |3,_=>exact⟨280,_,RP func280 aE rfl,rfl,λZ W p hF c a=>Du 223 2 u.sf (b 3) (b 3+2) p 24 Z _ _ W Im rfl a J (a.ty hF.f3.b1 ai ai) (a.ty hF.f3.b3 ai ai) hF.f3.b1 hF.f3.b3 d⟩
 |4,_=>exact⟨283,_,RP func283 aE rfl,rfl,λZ W p hF c a=>JG 227 3 u.rl (b 4) (b 4+2) p 32 Z _ _ W Io rfl a J J (a.ty hF.f4.b1 ai ai) (a.ty hF.f4.b3 ai ai) hF.f4.b1 hF.f4.b3 d⟩
 |5,_=>exact⟨283,_,RP func283 aE rfl,rfl,λZ W p hF c a=>JG 228 4 g.M (b 5) (b 5+2) p 33 Z _ _ W Ip rfl a J J (a.ty hF.f5.b1 ai ai) (a.ty hF.f5.b3 ai ai) hF.f5.b1 hF.f5.b3 d⟩
 |6,_=>exact⟨283,_,RP func283 aE rfl,rfl,λZ W p hF c a=>JG 229 5 g.c (b 6) (b 6+2) p 34 Z _ _ W Iq rfl a J J (a.ty hF.f6.b1 ai ai) (a.ty hF.f6.b3 ai ai) hF.f6.b1 hF.f6.b3 d⟩
 |7,_=>exact⟨230,#[],RP func230 aE rfl,rfl,λZ W p hF c a=>Dx g u f p Z 35 _ W a J⟩
 |8,_=>exact⟨285,_,RP func285 aE rfl,rfl,λZ W p hF c a=>Dw 236 6 g.s (b 8) (b 8+2) p 36 Z _ _ W Ir rfl a J J (a.ty hF.f8.b1 ai ai) (a.ty hF.f8.b3 ai ai) hF.f8.b1 hF.f8.b3 d⟩
 |9,_=>exact⟨285,_,RP func285 aE rfl,rfl,λZ W p hF c a=>Dw 237 7 u.N (b 9) (b 9+2) p 38 Z _ _ W Is rfl a J J (a.ty hF.f9.b1 ai ai) (a.ty hF.f9.b3 ai ai) hF.f9.b1 hF.f9.b3 d⟩
 |10,_=>exact⟨285,_,RP func285 aE rfl,rfl,λZ W p hF c a=>Dw 238 11 u.cur (b 10) (b 10+2) p 40 Z _ _ W It rfl a J J (a.ty hF.f10.b1 ai ai) (a.ty hF.f10.b3 ai ai) hF.f10.b1 hF.f10.b3 d⟩
 |11,_=>exact⟨239,#[],RP func239 aE rfl,rfl,λZ W p hF c a=>Dy _ p Z 42 _ W a J⟩
 |12,_=>exact⟨242,#[],RP func242 aE rfl,rfl,λZ W p hF c a=>xt g u f p Z 44 _ W a c (c.off a) J (λm A=>by rcases h.st m A with e|e|e<;>omega)⟩
theorem GG(h:fV w n f)(a:LV g u v n f k m A):w.cell? ⟨n,k*2,none⟩=some (.func (.func m) #[] A):=((cr h.aL).1 _).trans a.at_
theorem GH(h:fV w n f)(a:k<13):∃b c,w.cell? ⟨n,k*2+1,none⟩=some (.func (.func b) #[] c):=by
 rw[(cr h.aL).1]
 match k,a with
 |0,_=>exact⟨_,_,rfl⟩
 |1,_=>exact⟨_,_,rfl⟩
 |2,_=>exact⟨_,_,rfl⟩
 |3,_=>exact⟨_,_,rfl⟩
 |4,_=>exact⟨_,_,rfl⟩
 |5,_=>exact⟨_,_,rfl⟩
 |6,_=>exact⟨_,_,rfl⟩
 |7,_=>exact⟨_,_,rfl⟩
 |8,_=>exact⟨_,_,rfl⟩
 |9,_=>exact⟨_,_,rfl⟩
 |10,_=>exact⟨_,_,rfl⟩
 |11,_=>exact⟨_,_,rfl⟩
 |12,_=>exact⟨_,_,rfl⟩
theorem GI(g:au)(u:Su)(j k:Nat):xu g u j k<256:=by
 unfold xu;split
 all_goals first|exact cH _ _|skip
 .unfold hh
  repeat' split
  all_goals omega
 .unfold Iu;omega
theorem yM(g:au)(u:Su):∀j k,qq g u j k<256
 |0,_=>by show 0<256;omega
 |j+1,k=>cU (yM g u j) (GI g u j) k
theorem lE(g:au)(u:Su)(k:Nat):ki g u k<256:=cU (yM g u 13) (λ_=>by show 0<256;omega) k
theorem nZ(g:au)(u:Su)(k:Nat):fQ g u k<256:=cU (cU (lE g u) (cH _)) (λ_=>by show 0<256;omega) k
structure JJ(g:au)(u:Su)(sv:QN)(F:Nat)(b:aO)(w0:QL)(p D k:Nat)(wr:QL):Prop where
 pk:∃Z,Pk Z wr p 128 (gb g k) (qq g u k)/\∀x,Z x->w0.heap.size<=x
 du:ar w0 wr
 MM:fV wr F b
 uY:kh wr sv g.M u.st
 box:wr.heap[D]? =some (N (dr g u sv) 117)
theorem kE(g:au)(u:Su)(n:QN)(w:QL)(a9:kh w n g.M u.st)(h:u.ok g):aD 88 #[.agg (dr g u n)] w (se 128 (fQ g u) w):=by
 obtain⟨R,I⟩:=ah (w.alloc (ao (dr g u n) 117));have y:ar w R:=by rw[<-I];exact aI aj _
 have z:aZ R w.heap.size (ao (dr g u n) 117):=by rw[<-I];exact QM _ _
 obtain⟨D,K⟩:=ah w.heap.size;rw[K]at z;have l:=aM y z (a9.below y);have Y:=ad (rq g u n R (a9.below y) h);have b0:=ad h;obtain⟨d1,d2,d3⟩:=cr z;go_enter func88,ntmps88;go_wp2_with fail
 try simp only[I,K]
 go_wp2_with(go_at_call 153;refine Y.mono ?_;rintro e w1 ⟨rfl,c⟩;have f:=ad c);refine(wB 128 _ aa).mono ?_;rintro e w2 ⟨p,Z,rfl,b6,b7,c⟩;have E:=aM b6 b7 c;go_wp2_with fail;refine(ru _).mono ?_;rintro e w3 ⟨F,b,rfl,hF,c⟩;have L:=aA hF c;have J:RH (JJ g u n F b w p D 0 w3):=⟨⟨Z,E.1.cS L.2,λx q=>QO (l.1.trans (f.mono l.1.size)).size (E.2.1 x q)⟩,((l.1.trans (f.mono l.1.size)).trans ((E.2.2).mono (l.1.trans (f.mono l.1.size)).size)).trans (L.2.mono (((l.1.trans (f.mono l.1.size)).trans ((E.2.2).mono (l.1.trans (f.mono l.1.size)).size)).size)),L.1,((l.2.2.below f).below E.2.2).below L.2,by have h1:=(f.block D d3).trans l.2.1;have h2:=(E.2.2.block D (Z_ h1)).trans h1;exact(L.2.block D (Z_ h2)).trans h2⟩;have b1:=b0.bZ.m16;go_wp2;go_loopw [24] (λi wr=>∃k:Nat,i= ae k/\k<=13/\RH (JJ g u n F b w p D k wr)) (λi _=>13-(intOf i).toNat)
 case atStart=>exact⟨0,rfl,QX _,J⟩
 case round=>
  obtain⟨k,rfl,b2,d⟩:=hrel;by_cases A:k<13
  .have b3:=ad A;obtain⟨b8,b9,m⟩:=GF g u n F b b0 k A;have c1:=GG d.MM m;obtain⟨c6,a0,c2⟩:=GH d.MM A;have c7:=m.enters;have O:=ad m;obtain⟨d1,d2,d3⟩:=cr d.box;obtain⟨G,j,r⟩:=d.pk;have c0:RH (∀o:Obj,aD b8 (#[aq p,.agg (dr g u n)] ++b9) (wr.alloc o) λe b4=>aK e (.tuple #[])/\JJ g u n F b w p D (k+1) b4):=λo=>
    have c:ar wr (wr.alloc o):=aI aj _
    (O.put G _ p (d.MM.below c) (d.uY.below c) (j.cS c)).mono λe b4 ⟨q1,H,q2,P⟩=>⟨q1,⟨H,q2,λx q=>by
     rcases P.new x q with h|h
     .exact r x h
     .exact QO (QO d.du.size c.size) h⟩,(d.du.trans (c.mono d.du.size)).trans (P.out.below (λx _ q=>r x q) (QO d.du.size c.size)),(d.MM.below c).Ay (j.cS c) P,(d.uY.below c).Ay (j.cS c) P,P.out.heap ((c.block _ (Z_ d.box)).trans d.box) ((j.cS c).ty ((c.block _ (Z_ d.box)).trans d.box) ai ai)⟩
   go_wp2_with(refine(c0 _).mono ?_;rintro e w4 ⟨rfl,c3⟩;have c4:=ad c3);exact⟨⟨k+1,by go_num,b3,c4⟩,by have:=b3.out;simp[intOf];omega⟩
  .obtain rfl:k=13:=aa;obtain⟨G,j,r⟩:=d.pk;have a1:=aA j r;go_wp2_with fail;obtain⟨s,Q⟩:=ah (44+g.M);have t:RH (Pk G wr p 128 s (qq g u 13)/\∀x,G x->w.heap.size<=x):=by rw[<-Q];exact a1
   have a2:=ad (show ki g u=cat s (qq g u 13) λ_=>0 by unfold ki;rw[Q]);refine(IU G wr p 128 s _ t.1).mono ?_;rintro e w4 ⟨rfl,rfl⟩;have c8:QQ.wrap (124-(s:Int))=((124-s:Nat):Int):=bf;have S:=ad (BX G wr p 128 s (124-s) 0 _ t.1 aa aa aa);rw[show s+(124-s)=124 by omega,<-a2.out]at S;go_wp2_with(go_at_call 156;refine S.mono ?_;rintro e w4 ⟨rfl,H,B,C⟩;have v:=aA B C);refine(jE H w4 p 128 124 _ v.1 aa aa aa).mono ?_;rintro e w5 ⟨b5,a0,rfl,a3,c⟩;have N:=aA a3 c;have a4:lX w5 (a_ b5 124 a0) 124 (ki g u):=by
    refine⟨_,_,rfl,.inr ⟨b5,0,rfl,λk b2=>?_⟩⟩;have:=oC N.1;obtain⟨a,a5,e1,M⟩:=this;cases e1;rcases M with M|⟨c9,d0,e3,e4⟩
    .omega
    .cases e3;rw[e4 k aa];unfold cat;rw[ak b2]
   have a6:=ad (v.1.cS N.2);have T:=ad (jC 124 _ (ki g u) w5 a4 (λk _=>lE g u k) aa);have c5:128<=a0:=by obtain⟨a,a5,e1,M,-⟩:=eX N.1;cases e1;exact M
   go_wp2_with fail;refine T.mono ?_;rintro e w6 ⟨rfl,c⟩;have U:=aA (a6.cS c) c;have V:=ad (fx H w6 p 128 124 (dD 0 124 (ki g u)) _ U.1 aa aa (gT _ _ _ aa λk _=>lE g u k));go_wp2_with fail;refine V.mono ?_;rintro e w7 ⟨rfl,Z3,B,C⟩;have W:=aA B C;go_wp2_with fail;refine(jE Z3 w7 p 128 128 _ W.1 aa aa aa).mono ?_;rintro e w8 ⟨a7,a8,rfl,a3,c⟩;have X:=aA a3 c;go_wp2;go_ret2;have z1:=d.du;have z2:=z1.trans (v.2.out.below (λx _ q=>t.2 x q) z1.size);have z3:=z2.trans (N.2.mono z2.size);have z4:=z3.trans (U.2.mono z3.size);have z5:=z4.trans (W.2.out.below (λx _ q=>by
    rcases v.2.new x q with h|h
    .exact t.2 x h
    .exact QO z1.size h) z4.size)
   have z6:=z5.trans (X.2.mono z5.size);exact⟨a7,a8,rfl,cu X.1 z5.size,z6⟩
abbrev Su.at(u:Su)(k:Nat):Su:={u with rl:=k}
theorem yN(h:w.ownsRow m 5 1 (a_ k n i) n (az n f)):cN w (a_ k n i) n f:=fY h
theorem sK[Lo](Z:bg)(g:au)(u:Su)(s:Bool)(b:By)(k:Nat)(w:QL)(h:lY w Z g u s)(t:aB w Z.B b)(x:(u.at k).ok g)(y:k<b.N)(z:∀v,b.dv k=some v->0<v.d.n/\v.d.cn<1000000000000):
  aD 55 #[aq Z.A,ae k] w (zM Z.B b k (aN 0 (fQ g (u.at k))) w):=by
 obtain⟨c,f,p⟩:=h.aL;obtain⟨Q,f0,S⟩:=cr p;obtain⟨o,d⟩:=ah (w.alloc (ao (dr g (u.at k) (a_ Z.sb g.M c)) 117));have a:ar w o:=by rw[<-d];exact aI aj _
 have i:aZ o w.heap.size (ao (dr g (u.at k) (a_ Z.sb g.M c)) 117):=by rw[<-d];exact QM _ _
 obtain⟨D,j⟩:=ah w.heap.size;rw[j]at i;have l:=ad (kE g (u.at k) (a_ Z.sb g.M c) o ((h.NG f).below a) x);have q:RH (∀(v:QN) W,ar o W->cN W v 128 (fQ g (u.at k))->aD 52 #[aq Z.B,ae k,ae 0,v] W (zM Z.B b k (aN 0 (fQ g (u.at k))) w)):=λv W m A=>(fo Z.B k 0 v (fQ g (u.at k)) b W ((t.below a).below m) y A z).mono λe T ⟨B,C,E⟩=>⟨B,C,((Fr.af a).then m).tr E⟩;have F:=aA a ((a.block _ (Z_ p)).trans p);obtain⟨d1,d2,d3⟩:=cr i;obtain⟨U,V,G⟩:=cr F.2;go_enter func55,ntmps55;go_wp2_with fail
 try simp only[d,j]
 go_wp2_with(first|(go_at_call 88;refine l.mono ?_;rintro e X ⟨H,N,rfl,K,n⟩;obtain⟨M,R,I⟩:=kp n Z.A G;have r:=aA (yN K) n)|(go_at_call 52;refine(q _ _ r.2 r.1).mono ?_;rintro e Y ⟨rfl,L,O⟩;have P:=aA L O));go_ret;exact⟨rfl,P⟩
def aC(f h:aO):Prop:=∀k,k<128->f k=h k
theorem aC.refl(f:aO):aC f f:=λ_ _=>rfl
theorem aC.trans{f h q:aO}(a:aC f h)(b:aC h q):aC f q:=λk c=>(a k c).trans (b k c)
theorem aC.symm{f h:aO}(a:aC f h):aC h f:=λk b=>(a k b).symm
def dp(f:aO):Nat->Nat
 |0=>0
 |n+1=>dp f n+f n*256^n
theorem rv{f h:aO}:∀{n:Nat},(∀k,k<n->f k=h k)->dp f n=dp h n
 |0,_=>rfl
 |n+1,e=>by unfold dp;rw[rv λk a=>e k J,e n (TX n)]
theorem gH{f:aO}:∀{n:Nat},(∀k,k<n->f k<256)->dp f n<256^n
 |0,_=>by show 0<1;decide
 |n+1,h=>by have a:=gH (n:=n) λk b=>h k J;have c:=h n (TX n);unfold dp;rw[Nat.pow_succ];have d:f n*256^n<=255*256^n:=WN _ J;omega
theorem yO(v:Nat):∀n,dp (leB v) n=v%256^n
 |0=>by show 0=v%1;omega
 |n+1=>by unfold dp;rw[yO v n,Nat.mod_pow_succ,VL];rfl
theorem e_{v n:Nat}(h:∀k,k<n->f k=leB v k)(a:v<256^n):dp f n=v:=by rw[rv h,yO,SL a]
theorem NJ(f:aO):dp f 1=f 0:=by unfold dp dp;omega
theorem jL(a:k<124):iV n m i j f k=gU n m i j f k:=by unfold iV;rw[show cat 128 _ zB k=_ from ak J,show cat 124 _ _ k=_ from ak a,show cat 0 zB _ k=_ from al J];rfl
theorem DD(a:k<4):iV n m i j f (124+k)=leB (dD 0 124 (gU n m i j f)) k:=by unfold iV;rw[show cat 128 _ zB (124+k)=_ from ak J,show cat 124 _ _ (124+k)=_ from al J,VG]
theorem lF(a:k<24):gU n m i j f k=KH n m i k:=by unfold gU;rw[show cat (24+j) _ zB k=_ from ak J,show cat 24 _ _ k=_ from ak a]
theorem mJ(a:k<j)(b:j<=100):iV n m i j f (24+k)=f k:=by rw[jL J];unfold gU;rw[show cat (24+j) _ zB (24+k)=_ from ak J,show cat 24 _ _ (24+k)=_ from al J,VG]
theorem xv(a:k<4):iV n m i j f k=iU k:=by rw[jL J,lF J];unfold KH;rw[show cat 16 _ _ k=_ from ak J,show cat 8 _ _ k=_ from ak J,show cat 4 _ _ k=_ from ak a,show cat 0 zB _ k=_ from al J];rfl
theorem Az(a:k<4):iV n m i j f (4+k)=leB n k:=by rw[jL J,lF J];unfold KH;rw[show cat 16 _ _ (4+k)=_ from ak J,show cat 8 _ _ (4+k)=_ from ak J,show cat 4 _ _ (4+k)=_ from al J,VG]
theorem GJ(a:k<8):iV n m i j f (8+k)=leB m k:=by rw[jL J,lF J];unfold KH;rw[show cat 16 _ _ (8+k)=_ from ak J,show cat 8 _ _ (8+k)=_ from al J,VG]
theorem GK(a:k<8):iV n m i j f (16+k)=leB i k:=by rw[jL J,lF J];unfold KH;rw[show cat 16 _ _ (16+k)=_ from al J,VG]
def yP(f:aO):Prop:=∀k,k<4->f k=iU k
structure gI(kind:Nat)(f:aO):Prop where
 Iv:yP f
 kind:f 4=kind
 sum:dp (fun k=>f (124+k)) 4=dD 0 124 f
theorem nt{s:Nat}{f h:aO}:∀{n:Nat},(∀k,k<n->f k=h k)->iw s f n=iw s h n
 |0,_=>rfl
 |n+1,e=>by unfold iw;rw[nt λk a=>e k J,e n (TX n)]
theorem hL{f h:aO}(e:∀k,k<n->f k=h k):dD m n f=dD m n h:=by unfold dD;rw[nt e]
theorem gI.of{g f:aO}(a:n<256)(b:∀k,g k<256)(h:aC f (iV n m i j g)):gI n f:=by
 refine⟨λk a=>by rw[h k J,xv a],?_,?_⟩
 .rw [h 4 J,show(4:Nat)=4+0 from rfl,Az J];unfold leB;rw[Nat.pow_zero,Nat.div_one,SL a]
 .rw [e_ (v:=dD 0 124 (gU n m i j g)) (λk a=>by rw[h (124+k) J,DD a]) (gT _ _ _ ai λk _=>kV b k)];exact(hL λk a=>by rw[h k J,jL a]).symm
theorem mK{kind ep sq M:Nat}{g f:aO}(h:aC f (iV kind ep sq M g))(b:ep<18446744073709551616)(c:sq<18446744073709551616):dp (λk=>f (8+k)) 8=ep/\dp (λk=>f (16+k)) 8=sq:=
 ⟨e_ (λk a=>by rw[h (8+k) J,GJ a]) b,e_ (λk a=>by rw[h (16+k) J,GK a]) c⟩
structure Hd where
 ep:Nat
 sq:Nat
 ix:Nat
 cA:Nat
 me:Nat
 row:Nat
 nu:Bool
 sm:Nat
structure Hd.ok(h:Hd):Prop where
 c:cI h.ep h.sq
 cA:1<=h.cA/\h.cA<=1023
 ix:h.ix<h.cA
 me:h.me<=15
 row:h.row<=4095
 sm:h.sm<4294967296
abbrev Hd.enc(h:Hd):Nat->Nat:=iX h.ep h.sq h.ix h.cA h.me h.row h.nu h.sm
def Hd.of(f:aO):Hd:=⟨dp (λk=>f (8+k)) 8,dp (λk=>f (16+k)) 8,dp (λk=>f (24+k)) 4,dp (λk=>f (28+k)) 4,dp (λk=>f (32+k)) 4,dp (λk=>f (36+k)) 4,dp (λk=>f (40+k)) 4==1,dp (λk=>f (44+k)) 4⟩
theorem jq{f g:aO}:cat n f g (n+k)=g k:=by unfold cat;rw[al J,VG]
theorem cW{f g:aO}(h:k<n):cat n f g k=f k:=ak h
theorem Hd.cF{h:Hd}(i:h.ok)(e:aC f h.enc):Hd.of f=h:=by
 obtain⟨l,m⟩:=mK (g:=mb h.ix h.cA h.me h.row h.nu h.sm) (M:=24) (kind:=1) (ep:=h.ep) (sq:=h.sq) (f:=f) e (by have:=i.c.1;omega) (by have:=i.c.2.2;omega);have j:∀k,k<24->f (24+k)=mb h.ix h.cA h.me h.row h.nu h.sm k:=λk i=>by rw[e (24+k) J];exact mJ i J
 have q:=i.cA;have w:=i.ix;have x:=i.me;have y:=i.row;have n:dp (λk=>f (24+k)) 4=h.ix:=e_ (λk i=>by rw[j k J];unfold mb;rw[cW J,cW J,cW J,cW J,cW i]) J;have o:dp (λk=>f (28+k)) 4=h.cA:=e_ (λk i=>by rw[show 28+k=24+(4+k)by omega,j (4+k) J];unfold mb;rw[cW J,cW J,cW J,cW J,jq]) J;have p:dp (λk=>f (32+k)) 4=h.me:=e_ (λk i=>by rw[show 32+k=24+(8+k)by omega,j (8+k) J];unfold mb;rw[cW J,cW J,cW J,jq]) J;have r:dp (λk=>f (36+k)) 4=h.row:=e_ (λk i=>by rw[show 36+k=24+(12+k)by omega,j (12+k) J];unfold mb;rw[cW J,cW J,jq]) J;have t:dp (λk=>f (40+k)) 4=if h.nu then 1 else 0:=e_ (λk i=>by rw[show 40+k=24+(16+k)by omega,j (16+k) J];unfold mb;rw[cW J,jq]) (by split<;>omega)
 have u:dp (λk=>f (44+k)) 4=h.sm:=e_ (λk i=>by rw[show 44+k=24+(20+k)by omega,j (20+k) J];unfold mb;rw[jq]) i.sm;unfold Hd.of;rw[l,m,n,o,p,r,t,u];cases h with
 |mk a b c d e f v s=>cases v<;>rfl
structure Cm where
 ep:Nat
 sq:Nat
 cA:Nat
 sm:Nat
structure Cm.ok(h:Cm):Prop where
 c:cI h.ep h.sq
 cA:1<=h.cA/\h.cA<=1023
 sm:h.sm<4294967296
abbrev Cm.enc(h:Cm):Nat->Nat:=eh h.ep h.sq h.cA h.sm
def Cm.of(f:aO):Cm:=⟨dp (λk=>f (8+k)) 8,dp (λk=>f (16+k)) 8,dp (λk=>f (24+k)) 4,dp (λk=>f (28+k)) 4⟩
theorem Cm.cF{h:Cm}(a:h.ok)(e:aC f h.enc):Cm.of f=h:=by
 obtain⟨c,d⟩:=mK (g:=cat 4 (leB h.cA) (leB h.sm)) (M:=8) (kind:=2) (ep:=h.ep) (sq:=h.sq) (f:=f) e (by have:=a.c.1;omega) (by have:=a.c.2.2;omega);have b:∀k,k<8->f (24+k)=cat 4 (leB h.cA) (leB h.sm) k:=λk a=>by rw[e (24+k) J];exact mJ a J
 have q:=a.cA;have i:dp (λk=>f (24+k)) 4=h.cA:=e_ (λk a=>by rw[b k J,cW a]) J;have j:dp (λk=>f (28+k)) 4=h.sm:=e_ (λk a=>by rw[show 28+k=24+(4+k)by omega,b (4+k) J,jq]) a.sm;unfold Cm.of;rw[c,d,i,j]
structure Ck where
 ep:Nat
 sq:Nat
 tail:Nat
structure Ck.ok(h:Ck):Prop where
 c:cI h.ep h.sq
 tail:h.tail<2048
abbrev Ck.enc(h:Ck):Nat->Nat:=aW h.ep h.sq h.tail
def Ck.of(f:aO):Ck:=⟨dp (λk=>f (8+k)) 8,dp (λk=>f (16+k)) 8,dp (λk=>f (24+k)) 4⟩
theorem Ck.cF{h:Ck}(a:h.ok)(e:aC f h.enc):Ck.of f=h:=by obtain⟨b,c⟩:=mK (g:=leB h.tail) (M:=4) (kind:=3) (ep:=h.ep) (sq:=h.sq) (f:=f) e (by have:=a.c.1;omega) (by have:=a.c.2.2;omega);have q:=a.tail;have d:dp (λk=>f (24+k)) 4=h.tail:=e_ (λk a=>by rw[e (24+k) J];exact mJ a J) J;unfold Ck.of;rw[b,c,d]
def Dk.eG(d:Dk):Prop:=(∀a k,k<128->d.f_ a k<256)/\∀i,i<d.cn->∀k,k<128->d.bQ i k<256
theorem Dk.lG(h:D.eG)(a k:Nat)(b:k<128):D.view a k<256:=by
 unfold Dk.view;cases c:dM D.cat D.cn a with
 |some i=>exact h.2 i (hD c).1 k b
 |none=>exact h.1 a k b
theorem nv{c:dj}{cat:aO}{b:dj}{kept:Nat->Bool}(e:∀a k,k<128->c a k<256):∀n,(∀i,i<n->∀k,k<128->b i k<256)->∀a k,k<128->bH c cat b kept n a k<256
 |0,_,a,k,d=>e a k d
 |n+1,f,a,k,d=>by
  have g:=nv (cat:=cat) (kept:=kept) e n (λi h=>f i J);unfold bH;split
  .show (if a=cat n then b n else bH c cat b kept n a) k<256;split
   .exact f n J k d
   .exact g a k d
  .exact g a k d
theorem Dk.fH(h:D.eG)(b:Nat->Bool):(D.settled b).eG:=
 ⟨λa k c=>nv h.1 D.cn h.2 a k c,λi d=>absurd d (SD i)⟩
theorem Dk.uZ(h:D.eG):D.dead.eG:=Dk.fH h _
theorem Dk.JK(h:D.eG)(a:Nat)(c:∀k,k<128->f k<256):(D.wr a f).eG:=by
 refine⟨h.1,λi d k b=>?_⟩;show(if i=D.cn then f else D.bQ i) k<256;split
 .exact c k b
 .rename_i e;have:i<D.cn+1:=d;exact h.2 i J k b
theorem Dk.eD(d:Dk)(a:Nat)(f:aO)(x:Nat):(d.wr a f).view x=if x=a then f else d.view x:=by
 have b:dM (d.wr a f).cat (d.wr a f).cn x=if a=x then some d.cn else dM d.cat d.cn x:=by
  show(if(if d.cn=d.cn then a else d.cat d.cn)=x then some d.cn else dM (λi=>if i=d.cn then a else d.cat i) d.cn x)=_;rw[ak rfl];by_cases e:a=x
  .rw [ak e,ak e]
  .rw [al e,al e];exact i' λi g=>al J
 unfold Dk.view;rw[b];by_cases e:a=x
 .rw [ak e,ak e.symm];show(if d.cn=d.cn then f else d.bQ d.cn)=f;rw[ak rfl]
 .rw [al e,al (λh=>e h.symm)];cases c:dM d.cat d.cn x with
  |none=>rfl
  |some k=>show(if k=d.cn then f else d.bQ k)=d.bQ k;rw[al (by have:=(hD c).1;omega)]
theorem Dk.jr(h:D.cn=0)(a:Nat):D.view a=D.f_ a:=by unfold Dk.view;rw[h];rfl
structure MN(aw:Option Nat)(Q:Nat->Dk->Prop)(k:Nat)(v:Dv):Prop where
 eG:v.d.eG
 mL:aw≠some k->v.fO=false/\v.d.failed=false
 holds:v.d.failed=false->Q k v.d
def qs(aw:Option Nat)(Q:Nat->Dk->Prop)(b:By):Prop:=∀k,k<b.N->(b.dv k=none->aw=some k)/\∀v,b.dv k=some v->MN aw Q k v
structure Lit(aw:Option Nat)(Q:Nat->Dk->Prop)(b:By):Prop where
 bq:b.bq=false
 dev:qs aw Q b
structure qt(aw:Option Nat)(Q:Nat->Dk->Prop)(b:By):Prop where
 bq:b.bq=true
 dev:qs aw Q b
def u_(b:By)(k:Nat):Prop:=∀v,b.dv k=some v->v.d.failed=true
def nN(a:Nat):Prop:=a=2\/a=51
theorem By.cX{a:Dv->Dv × Nat}(h:b.aY=none):(b.op k a).1.aY=none:=by
 unfold By.op;split
 .unfold By.off;rw[h];exact h
 .split
  .unfold By.tick;rw[h];rfl
  .show b.tick.aY=none;unfold By.tick;rw[h];rfl
theorem By.ec(h:b.aY=none):∀l:List fL,(b.run l).1.aY=none:=by
 intro l;induction l generalizing b with
 |nil=>exact h
 |cons a d c=>
  simp only[By.run];split
  .exact c (By.cX h)
  .exact By.cX h
theorem Dv.GL(h:U.d.eG):U.use.d.eG:=by
 unfold Dv.use;split
 .split
  .exact Dk.uZ h
  .exact h
 .exact h
theorem Dv.hM(h:U.fO=false):U.use=U:=by unfold Dv.use;rw[h];rfl
structure eT(Q Q':Nat->Dk->Prop)(a:fL):Prop where
 fZ:∀v:Dv,v.d.eG->v.d.failed=false->Q a.1 v.d->(a.2 v).2=0/\(a.2 v).1.fO=v.fO/\(a.2 v).1.d.failed=false/\(a.2 v).1.d.eG/\Q' a.1 (a.2 v).1.d
 fail:∀v:Dv,v.d.failed=true->a.2 v=(v,2)
 rest:∀j d,j≠a.1->Q j d->Q' j d
theorem Lit.op{c:Option Nat}{Q k:Nat->Dk->Prop}(h:Lit c Q b){a:fL}(z:a.1<b.N)(r:eT Q k a):
  ((b.op a.1 a.2).2=0/\Lit c k (b.op a.1 a.2).1)\/(nN (b.op a.1 a.2).2/\c=some a.1/\u_ (b.op a.1 a.2).1 a.1/\Lit c k (b.op a.1 a.2).1)\/((b.op a.1 a.2).2=50/\b.aY=some 0/\qt c Q (b.op a.1 a.2).1):=by
 by_cases l:b.out=true
 .have A:b.aY=some 0:=by
   unfold By.out at l;rw[h.bq,Bool.false_or,beq_iff_eq]at l;exact l
  refine .inr (.inr ?_);unfold By.op;rw[ak l];unfold By.off;rw[ak A];exact⟨rfl,A,rfl,h.dev⟩
 .have B:b.tick.bq=false:=h.bq;have C:qs c Q b.tick:=h.dev;unfold By.op;rw[al l];cases s:b.dv a.1 with
  |none=>
   have f:=(h.dev a.1 z).1 s;refine .inr (.inl ⟨.inr rfl,f,λv g=>?_,B,λj m=>⟨(C j m).1,λv g=>?_⟩⟩)
   .have:b.dv a.1=some v:=g;rw[s]at this;cases this
   .have x:j≠a.1:=by
     intro e;subst e;have:b.dv a.1=some v:=g;rw[s]at this;cases this
    have i:=(C j m).2 v g;exact⟨i.eG,i.mL,λd=>r.rest j _ x (i.holds d)⟩
  |some v=>
   have t:=(h.dev a.1 z).2 v s;have n:=Dv.GL t.eG;have o:MN c k a.1 (a.2 v.use).1/\((a.2 v.use).2=0\/((a.2 v.use).2=2/\c=some a.1/\(a.2 v.use).1.d.failed=true)):=by
    cases d:v.use.d.failed with
    |true=>
     rw[r.fail _ d];have f:c=some a.1:=by
      by_cases e:c=some a.1
      .exact e
      .obtain ⟨h1,w⟩:=t.mL e;rw[Dv.hM h1,w]at d;cases d
     exact⟨⟨n,λe=>absurd f e,λe=>by rw[d]at e;cases e⟩,.inr ⟨rfl,f,d⟩⟩
    |false=>
     have p:=Dv.If v d;have y:v.d.failed=false:=by rw[<-p];exact d
     obtain⟨F,D,G,K,L⟩:=r.fZ v.use n d (by rw[p];exact t.holds y);refine⟨⟨K,λe=>?_,λ_=>L⟩,.inl F⟩;obtain⟨h1,w⟩:=t.mL e;rw[Dv.hM h1]at D;exact⟨by rw[Dv.hM h1];exact D.trans h1,G⟩
   have E:Lit c k (b.tick.put a.1 (a.2 v.use).1):=by
    refine⟨B,λj m=>?_⟩;show((if j=a.1 then some (a.2 v.use).1 else b.dv j)=none->c=some j)/\∀u,(if j=a.1 then some (a.2 v.use).1 else b.dv j)=some u->MN c k j u;by_cases e:j=a.1
    .subst e;rw[ak rfl];exact⟨λe=>(by cases e),λu q=>by cases q;exact o.1⟩
    .rw [al e];refine⟨(h.dev j m).1,λu q=>?_⟩;have i:=(h.dev j m).2 u q;exact⟨i.eG,i.mL,λd=>r.rest j _ e (i.holds d)⟩
   rcases o.2 with O|⟨h1,w,P⟩
   .exact .inl ⟨O,E⟩
   .refine .inr (.inl ⟨.inl h1,w,λu q=>?_,E⟩);have:(if a.1=a.1 then some (a.2 v.use).1 else b.dv a.1)=some u:=q;rw[ak rfl]at this;cases this;exact P
theorem Lit.run{aw:Option Nat}:∀(l:List fL) (Q:Nat->Nat->Dk->Prop) (b:By),Lit aw (Q 0) b->(∀i a,l[i]?=some a->a.1<b.N/\eT (Q i) (Q (i+1)) a)->
  ((b.run l).2.2=0/\Lit aw (Q l.length) (b.run l).1)\/(nN (b.run l).2.2/\aw=some (b.run l).2.1/\u_ (b.run l).1 (b.run l).2.1/\∃i,i<=l.length/\Lit aw (Q i) (b.run l).1)\/
  ((b.run l).2.2=50/\b.aY≠none/\∃i,i<=l.length/\qt aw (Q i) (b.run l).1)
 | [],_,_,h,_=>.inl ⟨rfl,h⟩
 |a::n,Q,b,h,k=>by
  obtain⟨o,p⟩:=k 0 a rfl;have m:=h.op o p;simp only[By.run];by_cases e:(b.op a.1 a.2).2=0
  .rw [ak e];have q:Lit aw (Q 1) (b.op a.1 a.2).1:=by
    rcases m with⟨_,x⟩|⟨x,_⟩|⟨x,_⟩
    .exact x
    .rcases x with x|x<;>omega
    .omega
   have r:=Lit.run n (λi=>Q (i+1)) (b.op a.1 a.2).1 q (λi x s=>by rw[By.fp];exact k (i+1) x (by simpa using s));rcases r with⟨c,d⟩|⟨c,d,t,i,u,f⟩|⟨c,d,i,u,f⟩
   .exact .inl ⟨c,by simpa using d⟩
   .exact .inr (.inl ⟨c,d,t,i+1,by simp only[SQ];omega,f⟩)
   .exact .inr (.inr ⟨c,λe=>d (By.cX e),i+1,by simp only[SQ];omega,f⟩)
  .rw [al e];rcases m with⟨v,_⟩|⟨g1,g,j,w⟩|⟨g1,g,j⟩
   .exact absurd v e
   .exact .inr (.inl ⟨g1,g,j,1,by simp only[SQ];omega,w⟩)
   .exact .inr (.inr ⟨g1,by rw[g];exactλe=>(by cases e),0,QX _,j⟩)
theorem qs.mono{e:Option Nat}{Q f:Nat->Dk->Prop}(h:qs e Q b)(g:∀j d,j<b.N->Q j d->f j d):qs e f b:=
 λk a=>⟨(h k a).1,λv c=>⟨((h k a).2 v c).eG,((h k a).2 v c).mL,λi=>g k _ a (((h k a).2 v c).holds i)⟩⟩
theorem Lit.mono{a:Option Nat}{Q c:Nat->Dk->Prop}(h:Lit a Q b)(e:∀j d,j<b.N->Q j d->c j d):Lit a c b:=⟨h.bq,h.dev.mono e⟩
theorem pw(Q:Nat->Dk->Prop)(k:Nat):eT Q Q (KK k) where
 fZ:=λv b a c=>by show(if v.d.failed=true then 2 else 0)=0/\_;rw[a];exact⟨rfl,rfl,a,b,c⟩
 fail:=λv a=>by show(v,if v.d.failed=true then 2 else 0)=(v,2);rw[ak a]
 rest:=λ_ _ _ h=>h
theorem kF(b:U.d.failed=false)(a:Nat)(f:aO):aN a f U=({U with d:=U.d.wr a f},0):=by unfold aN;rw[b];rfl
theorem kG(a:U.d.failed=false):ba U=({U with d:=U.d.settled λ_=>true},0):=by unfold ba;rw[a];rfl
theorem dO{Q a:Nat->Dk->Prop}(c:∀j,j<128->f j<256)(e:∀d,Q k d->a k (d.wr n f))(g:∀j d,j≠k->Q j d->a j d):eT Q a (k,aN n f) where
 fZ:=λv h b i=>by show(aN n f v).2=0/\(aN n f v).1.fO=_/\(aN n f v).1.d.failed=_/\(aN n f v).1.d.eG/\a k (aN n f v).1.d;rw[kF b];exact⟨rfl,rfl,b,Dk.JK h n c,e _ i⟩
 fail:=λv b=>by show aN n f v=_;unfold aN;rw[ak b]
 rest:=g
theorem e'{Q a:Nat->Dk->Prop}(c:∀d,Q k d->a k (d.settled λ_=>true))(e:∀j d,j≠k->Q j d->a j d):eT Q a (di k) where
 fZ:=λv f b g=>by show(ba v).2=0/\(ba v).1.fO=_/\(ba v).1.d.failed=_/\(ba v).1.d.eG/\a k (ba v).1.d;rw[kG b];exact⟨rfl,rfl,b,Dk.fH f _,c _ g⟩
 fail:=λv b=>by show ba v=_;unfold ba;rw[ak b]
 rest:=e
structure js(g:au)(ro:Ro)(kT eU:Nat->Nat->Prop)(V:bW)(m:Nat)(d:Dk):Prop where
 view:∀r,r<g.R->ro.down m r=false->¬eU m r->aC (d.view (1+r)) (V m r)
 last:∀r,r<g.R->ro.down m r=false->¬kT m r->aC (d.f_ (1+r)) (V m r)/\∀i,i<d.cn->d.cat i=1+r->aC (d.bQ i) (V m r)
theorem js.mono{k d:Ro}{e b c a:Nat->Nat->Prop}{V:bW}(h:js g k e c V m D)(l:∀r,d.down m r=false->k.down m r=false)(n:∀r,¬b m r->¬e m r)(o:∀r,d.down m r=false->¬a m r->¬c m r):js g d b a V m D:=
 ⟨λr i f j=>h.view r i (l r f) (o r f j),λr i f j=>h.last r i (l r f) (n r j)⟩
theorem Dk.px(d:Dk)(a:Nat):d.view a=d.f_ a\/∃i,i<d.cn/\d.cat i=a/\d.view a=d.bQ i:=by
 unfold Dk.view;cases b:dM d.cat d.cn a with
 |none=>exact .inl rfl
 |some k=>exact .inr ⟨k,(hD b).1,(hD b).2,rfl⟩
theorem js.wr{d c b:Nat->Nat->Prop}{V:bW}(h:js g o d c V m D)(q:d m r)(s:aC f (V m r))(t:∀j,¬b m j->j=r\/¬c m j):js g o d b V m (D.wr (1+r) f):=by
 refine⟨λj n p l=>?_,λj n p l=>?_⟩
 .rw [Dk.eD];by_cases e:j=r
  .subst e;rw[ak rfl];exact s
  .rw [al J];exact h.view j n p ((t j l).resolve_left e)
 .have u:j≠r:=λe=>l (by rw[e];exact q);obtain⟨v,w⟩:=h.last j n p l;refine⟨v,λi x k=>?_⟩;have y:i<D.cn+1:=x;have a:(if i=D.cn then 1+r else D.cat i)=1+j:=k;show aC (if i=D.cn then f else D.bQ i) _;by_cases e:i=D.cn
  .rw [ak e]at a;omega
  .rw [al e]at a|-;exact w i J a
theorem Dk.jt(d:Dk)(a:Nat):(d.settled λ_=>true).f_ a=d.view a:=by rw[<-Dk.hY d a];exact(Dk.jr rfl a).symm
theorem js.fl{b a:Nat->Nat->Prop}{V:bW}(h:js g o b a V m D):js g o b a V m (D.settled λ_=>true):=by
 refine⟨λr c d f=>by rw[Dk.hY];exact h.view r c d f,λr c d f=>⟨?_,λi j=>absurd j (SD i)⟩⟩;rw[Dk.jt];obtain⟨k,l⟩:=h.last r c d f;rcases D.px (1+r)with e|⟨i,n,p,e⟩
 .rw [e];exact k
 .rw [e];exact l i n p
def el(g:au)(c:Ro)(b a:Nat->Nat->Prop)(V:bW)(e:Dk->Prop)(k:Nat)(d:Dk):Prop:=(k<g.M->js g c b a V k d)/\(k=g.M->e d)
def Ro.eU(a:Ro)(m r:Nat):Prop:=∃p,p∈a.wt/\p.1=m/\p.2.1=r
theorem Ro.va:o.eU m r↔o.iB m r≠none:=by
 unfold Ro.iB Ro.eU;constructor
 .rintro ⟨p,a,c,d⟩ e;rw[Option.map_eq_none_iff,List.find?_eq_none]at e;exact e p a (by simp[Bz,c,d])
 .intro h;cases b:o.wt.find? (Bz m r)with
  |none=>rw[b]at h;exact absurd rfl h
  |some p=>have a:=List.find?_some b;simp only[Bz,decide_eq_true_eq]at a;exact⟨p,YE b,a.1,a.2⟩
theorem Ro.vb(h:¬o.eU m r):o.iB m r=none:=by
 cases a:o.iB m r with
 |none=>rfl
 |some f=>exact absurd (Ro.va.2 (by rw[a];exactλe=>by cases e)) h
theorem Ro.vc(h:o.iB m r=some f):∃p,p∈o.wt/\p.1=m/\p.2.1=r/\p.2.2=f:=by
 unfold Ro.iB at h;cases a:o.wt.find? (Bz m r)with
 |none=>rw[a]at h;cases h
 |some p=>rw[a]at h;have b:=List.find?_some a;simp only[Bz,decide_eq_true_eq]at b;simp only[RJ,SZ]at h;exact⟨p,YE a,b.1,b.2,h⟩
structure Gd(g:au)(aw:Option Nat)(V:bW)(kT:Nat->Nat->Prop)(QJ:Dk->Prop)(s:Rs):Prop where
 dev:qs aw (el g s.ro kT s.ro.eU V QJ) s.b
 N:s.b.N=g.M+1
 wt:∀p,p∈s.ro.wt->p.1<g.M/\p.2.1<g.R/\aC p.2.2 (V p.1 p.2.1)/\kT p.1 p.2.1
 dn:∀m r,s.ro.down m r=true->aw=some m
 nw:∀m,aw=some m->m<g.M
 par:BN g V
theorem el.imp{f d:Ro}{e b c a:Nat->Nat->Prop}{V:bW}{i:Dk->Prop}(h:el g f e c V i k D)(j:∀m r,d.down m r=false->f.down m r=false)(l:∀m r,¬b m r->¬e m r)(n:∀m r,d.down m r=false->¬a m r->¬c m r):el g d b a V i k D:=
 ⟨λo=>(h.1 o).mono (j k) (l k) (n k),h.2⟩
def PT(a:Option Nat)(b:By)(k c:Nat):Prop:=nN c/\a=some k/\u_ b k/\b.bq=false
def PU(a b:By)(c:Nat):Prop:=c=50/\a.aY≠none/\b.bq=true
theorem nN.ne(h:nN n):n≠0:=by rcases h with h|h<;>omega
theorem jM{p:Pt}:p∈fM o l↔p∈l/\o.down p.1 p.2.1=false:=by unfold fM;rw[List.mem_filter];simp
theorem vd{aw:Option Nat}{V:bW}{u:Nat->Nat->Prop}{F:Dk->Prop}{s q:Rs}(t:Gd g aw V u F s)(Q:s.b.bq=false)(c:dt s q k n):
  Gd g aw V u F q/\q.x=s.x/\((n=0/\q.b.bq=false/\q.ro={s.ro with wt:= []})\/(PT aw q.b k n/\q.ro=s.ro)\/(PU s.b q.b n/\q.ro=s.ro)):=by
 obtain⟨l,M,v,S,b⟩:=c;obtain⟨L,T⟩:=ah (fM s.ro l);rw[T]at v;have z:∀p,p∈L->p∈s.ro.wt/\s.ro.down p.1 p.2.1=false:=λp c=>by rw[<-T,jM]at c;exact⟨M.mem_iff.1 c.1,c.2⟩
 have R:=Lit.run (aw:=aw) (L.map ha) (λi=>el g s.ro u (λm r=>∃p,p∈L.drop i/\p.1=m/\p.2.1=r) V F) s.b
  ((Lit.mk Q t.dev).mono λj d _ x=>x.imp (λ_ _ h=>h) (λ_ _ h=>h) λm r U f ⟨p,A,G,O⟩=>f ⟨p,by rw[List.drop_zero,<-T,jM];exact⟨M.mem_iff.2 A,by rw[G,O];exact U⟩,G,O⟩)
  (λi a E=>by
   rw[RU]at E;cases c:L[i]? with
   |none=>rw[c]at E;cases E
   |some p=>
    rw[c]at E;simp only[RJ,SZ]at E;subst E;obtain⟨A,G⟩:=z p (RF c);obtain⟨J,q2,I,q4⟩:=t.wt p A;have w:L.drop i=p::L.drop (i+1):=by obtain⟨W,e⟩:=RC.1 c;rw[List.drop_eq_getElem_cons W,e]
    refine⟨by show p.1<s.b.N;rw[t.N];omega,dO (λj P=>?_) (λd x=>⟨λX=>?_,λe=>?_⟩) λj d Z x=>?_⟩
    .rw [I j P];exact t.par.lt p.1 p.2.1 j J q2 P
    .refine (x.1 X).wr q4 I λj P=>?_;by_cases e:j=p.2.1
     .exact .inl e
     .refine .inr λ⟨H,f,C,o⟩=>P ⟨H,?_,C,o⟩;rw[w]at f;rcases UR.1 f with D|D
      .exact absurd (o.symm.trans (by rw[D])) e
      .exact D
    .have:p.1=g.M:=e;omega
    .refine ⟨λX=>(x.1 X).mono (λ_ h=>h) (λ_ h=>h) λr _ f ⟨H,C,o,D⟩=>f ⟨H,?_,o,D⟩,x.2⟩;rw[w]at C;rcases UR.1 C with N|N
     .exact absurd (o.symm.trans (by rw[N])) Z
     .exact N)
 rw[v]at R;have Y:q.b.N=g.M+1:=by have:=By.fU s.b (L.map ha);rw[v]at this;exact this.trans t.N
 have B:∀i,qs aw (el g s.ro u (λm r=>∃p,p∈L.drop i/\p.1=m/\p.2.1=r) V F) q.b->q.ro=s.ro->Gd g aw V u F q:=λi o b=>by
  refine⟨?_,Y,λp c=>?_,λm r K=>?_,t.nw,t.par⟩
  .rw [b];exact o.mono λj d _ x=>x.imp (λ_ _ h=>h) (λ_ _ h=>h) λm r _ D ⟨p,A,G,O⟩=>D ⟨p,(z p (List.mem_of_mem_drop A)).1,G,O⟩
  .rw [b]at c;exact t.wt p c
  .rw [b]at K;exact t.dn m r K
 rcases R with⟨y,f⟩|⟨y,f,C,i,W,o⟩|⟨y,f,i,W,o⟩
 .simp only at y f;rw[ak y]at b;refine⟨⟨?_,Y,λp c=>?_,λm r K=>?_,t.nw,t.par⟩,S,.inl ⟨y,f.bq,b⟩⟩
  .refine f.dev.mono λj d _ x=>x.imp (λm r h=>?_) (λ_ _ h=>h) λm r _ _ ⟨p,A,_⟩=>?_
   .rw [b]at h;exact h
   .rw [RL,List.drop_length]at A;cases A
  .rw [b]at c;cases c
  .rw [b]at K;exact t.dn m r K
 .simp only at y f C o;rw[al y.ne]at b;exact⟨B i o.dev b,S,.inr (.inl ⟨⟨y,f,C,o.bq⟩,b⟩)⟩
 .simp only at y f o;rw[al aa]at b;exact⟨B i o.dev b,S,.inr (.inr ⟨⟨y,f,o.bq⟩,b⟩)⟩
section
def ve(b:By)(k:Nat):Prop:=∃v,b.dv k=some v/\v.d.failed=false
theorem By.lH{b:By}:∀{l:List Nat},(b.bK l).2.2=0->∀k,k∈l->ve b k:=by
 intro l;induction l generalizing b with
 |nil=>exactλ_ k h=>by cases h
 |cons a t i=>
  intro h k m;simp only[By.bK]at h;by_cases c:(b.op a bS).2=0
  .rw [ak c]at h;rcases UR.1 m with e|e
   .subst e;obtain⟨-,⟨v,d,-,n⟩,-⟩:=By.Ie c;exact⟨v,d,n⟩
   .obtain ⟨v,d,o⟩:=i h k e;have f:b.bK [a] =((b.op a bS).1,0,0):=by simp only[By.bK];rw[ak c]
    obtain⟨p,q,r⟩:=By.uB (b:=b) (l:= [a]) (by rw[f]) (j:=k) (v:=v) (by rw[f];exact d);exact⟨p,q,by rw[<-r];exact o⟩
  .rw [al c]at h;exact absurd h c
theorem JL{V:aO}{m M:Nat}(d:m<M)(h:xs (λ_=>true) V M=0):xs (λj=>decide (j≠m)) V M=V m:=by
 have b:=qC (p:=λj=>decide (j≠m)) (q:=λj=>decide (j=m)) (f:=V) (n:=M) λj _=>by by_cases e:j=m<;>simp[e]
 have i:xs (λj=>decide (j≠m)||decide (j=m)) V M=xs (λ_=>true) V M:=dA λj _=>⟨by by_cases e:j=m<;>simp[e],λ_=>rfl⟩;rw[i,h,rT d λ_ _=>rfl]at b;obtain⟨a,k⟩:=ah (xs (λj=>decide (j≠m)) V M);rw[k]at b|-;have c:(a^^^V m)^^^V m=a:=by rw[XV,Nat.xor_self,Nat.xor_zero]
 rw[<-b,Nat.zero_xor]at c;exact c.symm
section
variable {g:au} {aw:Option Nat} {V:bW} {kT:Nat->Nat->Prop} {QJ:Dk->Prop} {s:Rs}
theorem Gd.view(a:Gd g aw V kT QJ s){m r:Nat}{v:Dv}(b:m<g.M)(c:r<g.R)(d:s.b.dv m=some v)(e:v.d.failed=false)(f:s.ro.down m r=false)(h:¬s.ro.eU m r):aC (v.d.view (1+r)) (V m r):=by exact((((a.dev m (by rw[a.N];omega)).2 v d).holds e).1 b).view r c f h
theorem Gd.eS(a:Gd g aw V kT QJ s){m r:Nat}(h:m<g.M)(i:r<g.R)(j:¬s.ro.eU m r->s.ro.down m r=false/\ve s.b m):aC (eS s.b s.ro m r) (V m r):=by
 unfold Proofs.YtbimjlmclegaeaaGreat.eS;cases b:s.ro.iB m r with
 |some f=>obtain⟨p,k,l,n,o⟩:=Ro.vc b;have:=(a.wt p k).2.2.1;rw[l,n,o]at this;exact this
 |none=>have c:¬s.ro.eU m r:=λe=>Ro.va.1 e b;obtain⟨q,v,d,t⟩:=j c;simp only[d];exact a.view h i d t q c
theorem Gd.eG(a:Gd g aw V kT QJ s){r:Nat}(c:r<g.R):nM g s.b s.ro r:=by
 intro m k d b;unfold Proofs.YtbimjlmclegaeaaGreat.eS;cases e:s.ro.iB m r with
 |some f=>obtain⟨p,h,i,j,l⟩:=Ro.vc e;have:=(a.wt p h).2.2.1 k b;rw[i,j,l]at this;simp only;rw[this];exact a.par.lt m r k d c b
 |none=>
  cases n:s.b.dv m with
  |none=>exact Nat.zero_lt_succ _
  |some v=>exact Dk.lG ((a.dev m (by rw[a.N];omega)).2 v n).eG _ k b
theorem Gd.dS(c:Gd g aw V kT QJ s){m r:Nat}(l:m<g.M)(e:r<g.R)(a:∀k,k∈dK g.M s.ro m r->ve s.b k):aC (dS g.M s.b s.ro m r) (V m r):=by
 unfold Proofs.YtbimjlmclegaeaaGreat.dS;unfold dK at a;by_cases d:(s.ro.iB m r).isNone=true/\s.ro.down m r=true
 .rw [ak d]at a|-;intro k n;show xs (λj=>decide (j≠m)) (λj=>Proofs.YtbimjlmclegaeaaGreat.eS s.b s.ro j r k) g.M=V m r k;rw[dA (q:=λj=>decide (j≠m)) (g:=λj=>V j r k) λj o=>⟨rfl,λf=>?_⟩]
  .exact JL l (c.par.even r k e n)
  .have b:j≠m:=by simpa using f
   refine c.eS o e (λh=>?_) k n;refine⟨?_,a j (WS.2 ⟨j,UJ.2 o,?_⟩)⟩
   .cases i:s.ro.down j r with
    |false=>rfl
    |true=>have u:=c.dn j r i;have p:=c.dn m r d.2;rw[u]at p;cases p;exact absurd rfl b
   .rw [al b];unfold uC;rw[Ro.vb h];exact TC.2 rfl
 .rw [al d]at a|-;refine c.eS l e λh=>?_;have t:=Ro.vb h;refine⟨?_,a m ?_⟩
  .cases i:s.ro.down m r with
   |false=>rfl
   |true=>exact absurd ⟨by rw[t];rfl,i⟩ d
  .unfold uC;rw[t];exact TC.2 rfl
end
theorem AA(a:aO)(g:au)(B:bp)(r k:Nat):fE a (B.bT g r) k=a k^^^xs (λm=>B.gd g m r) (λm=>B.iQ g m r k) g.M:=by unfold fE bp.bT bp.nJ;rw[List.foldl_map,oo]
theorem py(p:Nat->Bool)(a:dj)(M k:Nat):ez (bP M p) a k=xs p (λm=>a m k) M:=by unfold ez;rw[oo p (λm=>a m k),Nat.zero_xor]
theorem yQ(g:au)(B:bp)(r m:Nat)(b:m<g.M):zR (B.bT g r) m=B.gd g m r:=by
 rw[Bool.eq_iff_iff];unfold zR bp.bT bp.nJ;rw[List.any_map,XN];constructor
 .rintro ⟨x,c,a⟩;simp only[Function.comp,decide_eq_true_eq]at a;rw[<-a];exact(bz.1 c).2
 .intro h;exact⟨m,bz.2 ⟨b,h⟩,aJ⟩
theorem ry(n:Nat)(p:Nat->Bool):(bP n p).length+(bP n λm=> !p m).length=n:=by
 induction n with
 |zero=>rfl
 |succ n a=>rw[dG,dG,RE,RE];cases p n<;>simp<;>omega
theorem xw{l:List Nat}{a b:Nat}(c:a∈l)(d:b∈l)(e:a≠b):2<=l.length:=by
 match l,c,d with
 | [x],c,d=>rw[TC]at c d;exact absurd (c.trans d.symm) e
 |_::_::_,_,_=>simp
theorem DE{g:au}(h:g.ok){B:bp}{r:Nat}(f:g.M-1-(B.bT g r).length=0){m:Nat}(d:m<g.M)(c:m≠g.par r):B.gd g m r=true:=by
 cases e:B.gd g m r with
 |true=>rfl
 |false=>
  exfalso;have i:=ry g.M λm=>B.gd g m r;have j:(B.bT g r).length=(bP g.M λm=>B.gd g m r).length:=by unfold bp.bT bp.nJ;rw[RL]
  have k:=xw (l:=bP g.M λm=> !B.gd g m r) (a:=m) (b:=g.par r) (bz.2 ⟨d,by rw[e];rfl⟩) (bz.2 ⟨au.iO h r,by rw[bp.iR h];rfl⟩) c;omega
theorem vf{g:au}(h:g.ok){B:bp}{V:bW}(hV:BN g V){n:Nat->Bool}{o:dj}{r:Nat}(t:aX g B B.n r=true)(u:r<g.R)(a:∀m,m∈cV g.M n (B.bT g r) (g.par r)->aC (o m) (V m r))(x:n (g.par r)=false):
  aC (fE (ez (cV g.M n (B.bT g r) (g.par r)) o) (B.bT g r)) (B.dR g V (g.par r) r):=by
 intro k v;rw[AA];unfold cV at a|-;by_cases b:dV g.M n (B.bT g r) (g.par r)=3
 .rw [ak b]at a|-;rw[py,dA (q:=λm=>decide (m≠g.par r)&& !B.gd g m r) (g:=λm=>V m r k) λm f=>⟨?_,λd=>a m (bz.2 ⟨f,d⟩) k v⟩]
  .exact bp.ot h t
  .unfold qM;rw[yQ g B r m f]
 .rw [al b]at a|-;by_cases c:dV g.M n (B.bT g r) (g.par r)=2
  .rw [ak c]at a|-;rw[py,dA (q:=λm=>decide (m=g.par r)||B.gd g m r) (g:=λm=>V m r k) λm f=>⟨?_,λd=>a m (bz.2 ⟨f,d⟩) k v⟩]
   .exact bp.FA h hV t u v
   .unfold zT;rw[yQ g B r m f]
  .rw [al c];have y:ez [] o k=0:=rfl;rw[y,Nat.zero_xor];have i:g.M-1-(B.bT g r).length=0:=by
    by_cases e:g.M-1-(B.bT g r).length=0
    .exact e
    .exfalso;unfold dV at b c;rw[al e]at b c;cases l:gone n g.M with
     |none=>rw[l]at b c;simp only at b c;split at b<;>simp_all
     |some j=>
      rw[l]at b c;simp only at b c;by_cases w:j=g.par r
      .have:=(eQ l).2;rw[w,x]at this;cases this
      .rw [al w]at b c;split at b<;>simp_all
   rw[<-bp.ot (V:=V) h t,rS (p:=λm=>decide (m≠g.par r)&& !B.gd g m r) λm f d=>?_,Nat.zero_xor];exfalso;simp only[VX,decide_eq_true_eq,Bool.not_eq_true']at d;rw[DE h i f d.1]at d;cases d.2
end
section
theorem By.hN{b:By}:∀{l:List fL},(b.run l).2.2≠0->∃a,a∈l/\a.1=(b.run l).2.1:=by
 intro l;induction l generalizing b with
 |nil=>exactλh=>absurd rfl h
 |cons a i c=>
  intro h;simp only[By.run]at h|-;by_cases e:(b.op a.1 a.2).2=0
  .rw [ak e]at h|-;obtain⟨x,d,f⟩:=c h;exact⟨x,SY _ d,f⟩
  .rw [al e];exact⟨a,SO,rfl⟩
structure Gt(g:au)(aw:Option Nat)(V:bW)(s:Rs):Prop where
 gd:Gd g aw V (fun _ _=>True) (fun _=>True) s
 bq:s.b.bq=false
 aY:s.b.aY=none
structure tC(g:au)(aw:Option Nat)(ro:Ro)(s:Rs)(k er:Nat):Prop where
 gone:nN er
 slot:aw=some k
 dead:u_ s.b k
 hit:∃r,ro.down k r=false
section
variable {g:au} {aw:Option Nat} {V:bW} {s s':Rs} {k er:Nat}
theorem Gd.set{a:Nat->Nat->Prop}{c:Dk->Prop}(h:Gd g aw V a c s){b:By}(d:qs aw (el g s.ro a s.ro.eU V c) b)(e:b.N=s.b.N):Gd g aw V a c {s with b:=b}:=
 ⟨d,e.trans h.N,h.wt,h.dn,h.nw,h.par⟩
theorem Gt.lit(h:Gt g aw V s):Lit aw (el g s.ro (λ_ _=>True) s.ro.eU V λ_=>True) s.b:=⟨h.bq,h.gd.dev⟩
theorem Gt.bK(h:Gt g aw V s){l:List Nat}(n:∀k,k∈l->k<g.M+1/\∃r,s.ro.down k r=false):
  Gt g aw V {s with b:=(s.b.bK l).1}/\((s.b.bK l).2.2=0\/tC g aw s.ro {s with b:=(s.b.bK l).1} (s.b.bK l).2.1 (s.b.bK l).2.2):=by
 have o:(s.b.bK l).1.N=s.b.N:=By.oR _ _;have p:(s.b.bK l).1.aY=none:=by rw[By.ek];exact By.ec h.aY _
 have t:(s.b.bK l).2.2≠0->∃r,s.ro.down (s.b.bK l).2.1 r=false:=λe=>by rw[By.ek]at e|-;obtain⟨a,h1,f⟩:=By.hN e;obtain⟨j,c,m⟩:=SA.1 h1;rw[<-f,<-m];exact(n j c).2
 have q:=Lit.run (aw:=aw) (l.map KK) (λ_=>el g s.ro (λ_ _=>True) s.ro.eU V λ_=>True) s.b h.lit λi a u=>by obtain⟨j,c,m⟩:=SA.1 (RF u);subst m;exact⟨by show j<s.b.N;rw[h.gd.N];exact(n j c).1,pw _ j⟩
 rw[<-By.ek]at q;rcases q with⟨d,h1⟩|⟨d,h1,f,i,v,c⟩|⟨-,h1,-⟩
 .exact ⟨⟨h.gd.set h1.dev o,h1.bq,p⟩,.inl d⟩
 .exact ⟨⟨h.gd.set c.dev o,c.bq,p⟩,.inr ⟨d,h1,f,t d.ne⟩⟩
 .exact absurd h.aY h1
theorem Gt.gJ(h:Gt g aw V s)(i:dt s s' k er):
  Gt g aw V s'/\s'.x=s.x/\((er=0/\s'.ro={s.ro with wt:= []})\/(tC g aw s.ro s' k er/\s'.ro=s.ro)):=by
 obtain⟨j,m,q⟩:=vd h.gd h.bq i;obtain⟨l,x,c,-,-⟩:=i;have n:s'.b.aY=none:=by have:=By.ec h.aY ((fM s.ro l).map ha);rw[c]at this;exact this
 rcases q with⟨r,t,d⟩|⟨⟨t1,t2,t3,t4⟩,d⟩|⟨⟨-,t2,-⟩,-⟩
 .exact ⟨⟨j,t,n⟩,m,.inl ⟨r,d⟩⟩
 .refine ⟨⟨j,t4,n⟩,m,.inr ⟨⟨t1,t2,t3,?_⟩,d⟩⟩;have e:=By.hN (b:=s.b) (l:=(fM s.ro l).map ha) (by rw[c];exact t1.ne);rw[c]at e;obtain⟨a,u,o⟩:=e;obtain⟨p,v,f⟩:=SA.1 u;refine⟨p.2.1,?_⟩;have w:p.1=k:=by rw[<-f]at o;exact o
  rw[<-w];exact(jM.1 v).2
 .exact absurd h.aY t2
theorem Gt.KN(h:Gt g aw V s){act:Dv->Dv × Nat}(f:∀Q:Nat->Dk->Prop,(∀d c,Q g.M d->Q g.M c)->eT Q Q (g.M,act)):(s.b.op g.M act).2=0/\∀x,Gt g aw V {s with b:=(s.b.op g.M act).1,x:=x}:=by
 have i:(s.b.op g.M act).1.aY=none:=By.cX h.aY;have j:=By.fp s.b g.M act;have l:=h.lit.op (a:=(g.M,act)) (by show g.M<s.b.N;rw[h.gd.N];omega) (f _ λd c n=>⟨λe=>absurd e (UA _),λ_=>trivial⟩);rcases l with⟨m,h1⟩|⟨-,h1,-,-⟩|⟨-,h1,-⟩
 .exact ⟨m,λx=>⟨⟨h1.dev,j.trans h.gd.N,h.gd.wt,h.gd.dn,h.gd.nw,h.gd.par⟩,h1.bq,i⟩⟩
 .exact absurd (h.gd.nw _ h1) (UA _)
 .rw [h.aY]at h1;cases h1
theorem sL{k a:Nat}{f:aO}(b:∀j,j<128->f j<256){Q:Nat->Dk->Prop}(c:∀d e,Q k d->Q k e):eT Q Q (k,aN a f):=dO b (λ_ h=>c _ _ h) λ_ _ _ h=>h
theorem sM{k:Nat}{Q:Nat->Dk->Prop}(a:∀d b,Q k d->Q k b):eT Q Q (k,ba):=e' (λ_ h=>a _ _ h) λ_ _ _ h=>h
theorem Gt.sync(h:Gt g aw V s):(s.synced g).2=0/\Gt g aw V (s.synced g).1/\(s.synced g).1.x={s.x with sure:=true,bad:=if s.x.sure=true then s.x.bad else 0}/\(s.synced g).1.ro=s.ro:=by
 unfold Rs.synced;by_cases a:s.x.sure=true
 .rw [ak a];refine⟨rfl,h,?_,rfl⟩;rw[ak a];obtain⟨b,x,i⟩:=s;obtain⟨j,l,c,m,bad,N,t,u⟩:=x;simp only at a;subst a;rfl
 .rw [al a];obtain⟨d,e⟩:=h.KN (act:=ba) λQ f=>sM f;refine⟨d,e _,?_,rfl⟩;rw[al a];simp only[d];rfl
theorem Gt.settle(h:Gt g aw V s)(a:bV g s s' k er):Gt g aw V s'/\s'.x=(s.synced g).1.x/\s'.x.sure=true/\((er=0/\s'.ro={s.ro with wt:= []})\/(tC g aw s.ro s' k er/\s'.ro=s.ro)):=by
 obtain⟨e,f,i,j⟩:=h.sync;unfold bV at a;rw[ak e]at a;unfold cz at a;have b:(s.synced g).1.x.sure=true:=by rw[i]
 rw[ak b]at a;obtain⟨l,c,d⟩:=f.gJ a;rw[j]at d;exact⟨l,c,by rw[c];exact b,d⟩
theorem Gt.finish(h:Gt g aw V s)(b:s.x.sure=true)(a:cz s s' k er):Gt g aw V s'/\s'.x=s.x/\((er=0/\s'.ro={s.ro with wt:= []})\/(tC g aw s.ro s' k er/\s'.ro=s.ro)):=by unfold cz at a;rw[ak b]at a;exact h.gJ a
theorem Gt.gg(h:Gt g aw V s)(x:eA g s s' k er):Gt g aw V s'/\s'.x=s.x/\s'.ro=s.ro/\(er=0\/tC g aw s.ro s' k er):=by
 obtain⟨c,u,f⟩:=x;have n:∀m,m∈oX g s.ro->m<g.M/\s.ro.down m 0=false:=λm y=>by have:=bz.1 y;simpa using this
 have z:s'.b.aY=none:=by have:=By.ec h.aY ((oX g s.ro).map di);rw[c]at this;exact this
 have A:s'.b.N=s.b.N:=by have:=By.fU s.b ((oX g s.ro).map di);rw[c]at this;exact this
 have v:=Lit.run (aw:=aw) ((oX g s.ro).map di) (λ_=>el g s.ro (λ_ _=>True) s.ro.eU V λ_=>True) s.b h.lit λi a B=>by obtain⟨j,o,t⟩:=SA.1 (RF B);subst t;have F:=(n j o).1;exact⟨by show j<s.b.N;rw[h.gd.N];omega,e' (λd C=>⟨λe=>(C.1 e).fl,λe=>trivial⟩) λ_ _ _ h=>h⟩
 have D:er≠0->∃r,s.ro.down k r=false:=λe=>by
  have e:=By.hN (b:=s.b) (l:=(oX g s.ro).map di) (by rw[c];exact e);rw[c]at e;obtain⟨a,h1,p⟩:=e;obtain⟨j,o,t⟩:=SA.1 h1;have E:j=k:=by rw[<-t]at p;exact p
  exact⟨0,by rw[<-E];exact(n j o).2⟩
 rw[c]at v;have w:∀d,qs aw (el g s.ro (λ_ _=>True) s.ro.eU V λ_=>True) s'.b->s'.b.bq=d->d=false->Gt g aw V s':=λd h1 p o=>by refine⟨⟨by rw[f];exact h1,A.trans h.gd.N,by rw[f];exact h.gd.wt,by rw[f];exact h.gd.dn,h.gd.nw,h.gd.par⟩,p.trans o,z⟩
 rcases v with⟨q,h1⟩|⟨q,h1,p,i,G,o⟩|⟨-,h1,-⟩
 .exact ⟨w _ h1.dev h1.bq rfl,u,f,.inl q⟩
 .exact ⟨w _ o.dev o.bq rfl,u,f,.inr ⟨q,h1,p,D q.ne⟩⟩
 .exact absurd h.aY h1
theorem Gt.ck(h:Gt g aw V s){f:aO}(c:∀j,j<128->f j<256):(s.b.ck g.M f).2=0/\∀x,Gt g aw V {s with b:=(s.b.ck g.M f).1,x:=x}:=by obtain⟨d,e⟩:=h.KN (act:=aN 1 f) λQ a=>sL c a;unfold By.ck;rw[ak d];exact(e s.x).KN (act:=ba) λQ a=>sM a
theorem Gt.ie(h:Gt g aw V s)(b:gy g s s' k er):Gt g aw V s'/\er=0/\s'.ro=s.ro/\s'.x=s.x.cy s.x.ep:=by obtain⟨c,-,d⟩:=b;obtain⟨e,i⟩:=h.ck (f:=aW s.x.ep s.x.nx ((s.x.t+s.x.u)%s.x.N)) (hI _ _ _);have a:(s.nk g s.x.ep).2=0:=e;subst c;refine⟨i _,d.trans a,rfl,?_⟩;show s.x.qm s.x.ep (s.nk g s.x.ep).2=_;rw[a];rfl
theorem tC.of{b a:Ro}(h:tC g aw b s k er)(e:a.fr=b.fr):tC g aw a s k er:=
 ⟨h.gone,h.slot,h.dead,by obtain⟨r,c⟩:=h.hit;exact⟨r,by unfold Ro.down at c|-;rw[e];exact c⟩⟩
theorem Gt.empty(h:Gt g aw V s)(n:gz g s s' k er):Gt g aw V s'/\((er=0/\s'.ro={s.ro with wt:= []}/\s'.x={s.x with sure:=true,bad:=if s.x.sure=true then s.x.bad else 0}.cy s.x.ep)\/(tC g aw s.ro s' k er/\(s'.ro=s.ro\/s'.ro={s.ro with wt:= []})/\s'.x=(s.synced g).1.x)):=by
 have o:=h.sync.2.2.1;rcases n with⟨p,u,h1,d⟩|⟨h1,d⟩
 .obtain ⟨b,c,q,a4⟩:=h.settle h1;have e:p.ro={s.ro with wt:= []}:=by
   rcases a4 with a4|a4
   .exact a4.2
   .exact absurd rfl a4.1.gone.ne
  rcases d with⟨v,w,f,i⟩|⟨f,i⟩
  .obtain ⟨j,l,m,a⟩:=b.gg f;obtain⟨r,t,c3,c4⟩:=j.ie i;refine⟨r,.inl ⟨t,by rw[c3,m,e],?_⟩⟩;rw[c4,l,c,o]
  .obtain ⟨j,l,m,a⟩:=b.gg f;rcases a with a|a
   .exact absurd a i
   .exact ⟨j,.inr ⟨a.of (by rw[e]),.inr (by rw[m,e]),by rw[l,c]⟩⟩
 .obtain ⟨b,c,q,a4⟩:=h.settle h1;rcases a4 with a4|a4
  .exact absurd a4.1 d
  .exact ⟨b,.inr ⟨a4.1,.inl a4.2,c⟩⟩
end
end
theorem bp.GM(h:g.ok)(c:K.ok g)(e:1<=K.n):1<=(K.fD g).length:=by
 have b:g.row (K.aL 0)∈K.eR g:=bz.2 ⟨au.iN h (c.aL 0 J),dg.2 ⟨0,J,rfl⟩⟩;unfold bp.fD;rw[RL];cases d:K.eR g with
 |nil=>rw[d]at b;cases b
 |cons a l=>simp
theorem DF[Lo](R B W r:Nat)(g:au)(a1:Nat)(s:Rs)(C:Nat)(z:bp)(pv:QN)(w:QL)(h:cq w R B W r g a1 s)(hF:Fit g C s)(e5:100000<=C)(b8:z.ok g)(d8:z.n<=256)(fX:1<=z.n)(a2:2*z.dJ g+1<=s.x.N)(a3:gQ w pv z)(e6:Jz g z s):
  aD 105 #[aq R,pv] w (gW R B W r g a1 (gD g z s) w):=by
 obtain⟨d9,D,e7,U,V,b9⟩:=dQ w (ao #[ae 0,aG 0] 172);have X:w.heap.size<=D:=RY U;have u:Lo.lo<=D:=by rw[<-U];exact h.cg.low
 have Z:=h.below V;obtain⟨e8,f4,x1,x2⟩:=Z.row.aL;obtain⟨k0,f0,z0⟩:=cr x1;obtain⟨b7,H⟩:=ah (d9.setCell (ag R 8) iD);have a4:cq b7 R B W r g a1 s.fG:=by rw[<-H];exact Z.qp false
 have N:Fr [164] aF d9 b7:=by rw[<-H];exact jK Z 8 _
 have rJ:=N.hp b9 rfl;have a5:gQ b7 pv z:=(a3.below V).fr N rfl rfl;obtain⟨e0,e9,x3,x4⟩:=a4.row.aL;obtain⟨k1,f1,z1⟩:=cr x3;obtain⟨d1,d2,d3⟩:=cr rJ;have a6:=ad (um g z pv b7 hF.bZ b8 d8 a5);have A:=jY hF e5 b8 d8 a2 e6 (bp.GM hF.bZ b8 fX);have a7:=aS a4 rJ a5 ((Fr.af (T:=iH) (S:=aF) V).tr (N.wide iH rfl));obtain⟨a8,a9,rfl,-⟩:=id a3;obtain⟨n,c0⟩:=ah z.n;rw[c0]at a6 a7|-;go_enter func105,ntmps105;go_wp2_with fail
 try simp only[e7,U,H]
 go_wp2_with fail;refine a6.mono ?_;rintro e w2 ⟨v,rfl,M,Q⟩;obtain⟨b0,b1,rfl,-⟩:=id M;obtain⟨m,f2⟩:=ah ((z.fD g).length);have c1:=A.2.2.2.2.2.2;rw[f2]at c1 M|-;have I:=a7.1.below Q;have c2:=(Q.block D d3).trans a7.2.1;have c3:=a7.2.2.1.below Q;have c4:=a7.2.2.2.then Q;have b2:=I.cg.low;obtain⟨T,c5⟩:=ah w2.heap.size;obtain⟨w3,Y⟩:=ah (w2.alloc (ao #[aq R,.slice a8 n a9,.slice b0 m b1,aU] 258));have c6:ar w2 w3:=by rw[<-Y];exact aI aj _
 have b3:aZ w3 T (ao #[aq R,.slice a8 n a9,.slice b0 m b1,aU] 258):=by rw[<-Y,<-c5];exact QM _ _
 obtain⟨S,e1⟩:=ah w3.heap.size;obtain⟨w4,J⟩:=ah (w3.alloc (ao #[.func (.func 169) #[aq T] #[],.func (.func 170) #[aq T] #[],.func (.func 171) #[aq T] #[],.func (.func 172) #[aq T] #[],.func (.func 173) #[aq T] #[],.func (.func 174) #[aq T] #[]] 175));have b4:ar w3 w4:=by rw[<-J];exact aI aj _
 have c7:aZ w4 S (ao #[.func (.func 169) #[aq T] #[],.func (.func 170) #[aq T] #[],.func (.func 171) #[aq T] #[],.func (.func 172) #[aq T] #[],.func (.func 173) #[aq T] #[],.func (.func 174) #[aq T] #[]] 175):=by rw[<-J,<-e1];exact QM _ _
 have K:=via c6 b4;have c8:sD w2 w4 T R (.slice a8 n a9) (.slice b0 m b1) []:=⟨RY c5,aU,(b4.block T (Z_ b3)).trans b3,fe.nil _ _⟩;have c9:RH (BA R B W r g a1 s z C w2 T (.slice a8 n a9) (.slice b0 m b1) 0 w4):=⟨I.below K,c8,K⟩;have x:=HP I c2 c3 c4 M b2 K c7;have e2:¬m=0:=aa;have d0:((m:Int)==0)=false:=aQ;go_wp2
 try simp only[c5,e1,Y,J,d0]
 go_loopw [51] (λi wr=>∃k:Nat,i= ae k/\k<=6/\RH (Fr LP aF w4 wr/\BA R B W r g a1 s z C w2 T (.slice a8 n a9) (.slice b0 m b1) k wr)) (λi _=>6-(intOf i).toNat)
 case atStart=>exact⟨0,rfl,QX _,Fr.refl _ _ _,c9⟩
 case round=>
  obtain⟨k,rfl,f5,y⟩:=hrel;have e3:=y.1.hp x.2.2.2.2.2.2.2 rfl;obtain⟨s1,s2,s3⟩:=cr e3;have e4:=y.1.hp ((x.2.2.2.2.2.2.1.block D (Z_ x.2.1)).trans x.2.1) rfl;obtain⟨d1,d2,d3⟩:=cr e4;have a0:=aA e4 e3;have d7:k=0\/k=1\/k=2\/k=3\/k=4\/k=5\/k=6:=aa;rcases d7 with e|e|e|e|e|e|e
  .subst e;have L:=ad (PL A.2.1 A.1 A.2.2.1 A.2.2.2.1 A.2.2.2.2.1 x.2.2.1 x.1 y.2);go_wp2_with fail;refine L.mono ?_;rintro e p ⟨q,f,rfl,t,O,P⟩;have a:=t.hp a0.1 rfl;obtain⟨d4,d5,d6⟩:=cr a;have b:=aS t O P a;by_cases c:f=0
   .subst c;rw[de];have j:=ad (b.2.1 rfl);go_wp2;have l:∀o,ar p (p.alloc o):=λo=>aI aj o;exact⟨⟨1,aJ,aa,(y.1.tr b.1).alloc _,j.below (l _)⟩,by simp[intOf]⟩
   .rw [be q c];have b5:¬(f:Int)=0:=aa;obtain⟨b6,E,F,G⟩:=b.2.2.1 c;have d:=aM E F G;go_wp2;refine RB (v:=.agg #[ae q,aG f]) (by simp[RV,results105,go_sem];go_simp) rfl ?_;exact(gW.done d.1 d.2.1 (x.2.2.2.1.tr d.2.2) b.2.2.2 X u (be q c)).alloc _
  .subst e;have L:=ad (PN A.2.1 A.1 A.2.2.2.2.2.1 x.2.2.2.2.1 x.2.2.2.2.2.1 y.2);go_wp2_with fail;refine L.mono ?_;rintro e p ⟨q,f,rfl,t,O,P⟩;have a:=t.hp a0.1 rfl;obtain⟨d4,d5,d6⟩:=cr a;have b:=aS t O P a;by_cases c:f=0
   .subst c;rw[de];have j:=ad (b.2.1 rfl);go_wp2;have l:∀o,ar p (p.alloc o):=λo=>aI aj o;exact⟨⟨2,aJ,aa,(y.1.tr b.1).alloc _,j.below (l _)⟩,by simp[intOf]⟩
   .rw [be q c];have b5:¬(f:Int)=0:=aa;obtain⟨b6,E,F,G⟩:=b.2.2.1 c;have d:=aM E F G;go_wp2;refine RB (v:=.agg #[ae q,aG f]) (by simp[RV,results105,go_sem];go_simp) rfl ?_;exact(gW.done d.1 d.2.1 (x.2.2.2.1.tr d.2.2) b.2.2.2 X u (be q c)).alloc _
  .subst e;have L:=ad (PO A.2.1 y.2);go_wp2_with fail;refine L.mono ?_;rintro e p ⟨q,f,rfl,t,O,P⟩;have a:=t.hp a0.1 rfl;obtain⟨d4,d5,d6⟩:=cr a;have b:=aS t O P a;by_cases c:f=0
   .subst c;rw[de];have j:=ad (b.2.1 rfl);go_wp2;have l:∀o,ar p (p.alloc o):=λo=>aI aj o;exact⟨⟨3,aJ,aa,(y.1.tr b.1).alloc _,j.below (l _)⟩,by simp[intOf]⟩
   .rw [be q c];have b5:¬(f:Int)=0:=aa;obtain⟨b6,E,F,G⟩:=b.2.2.1 c;have d:=aM E F G;go_wp2;refine RB (v:=.agg #[ae q,aG f]) (by simp[RV,results105,go_sem];go_simp) rfl ?_;exact(gW.done d.1 d.2.1 (x.2.2.2.1.tr d.2.2) b.2.2.2 X u (be q c)).alloc _
  .subst e;have L:=ad (PQ A.2.1 y.2);go_wp2_with fail;refine L.mono ?_;rintro e p ⟨q,f,rfl,t,O,P⟩;have a:=t.hp a0.1 rfl;obtain⟨d4,d5,d6⟩:=cr a;have b:=aS t O P a;by_cases c:f=0
   .subst c;rw[de];have j:=ad (b.2.1 rfl);go_wp2;have l:∀o,ar p (p.alloc o):=λo=>aI aj o;exact⟨⟨4,aJ,aa,(y.1.tr b.1).alloc _,j.below (l _)⟩,by simp[intOf]⟩
   .rw [be q c];have b5:¬(f:Int)=0:=aa;obtain⟨b6,E,F,G⟩:=b.2.2.1 c;have d:=aM E F G;go_wp2;refine RB (v:=.agg #[ae q,aG f]) (by simp[RV,results105,go_sem];go_simp) rfl ?_;exact(gW.done d.1 d.2.1 (x.2.2.2.1.tr d.2.2) b.2.2.2 X u (be q c)).alloc _
  .subst e;have L:=ad (PR A.2.1 y.2);go_wp2_with fail;refine L.mono ?_;rintro e p ⟨q,f,rfl,t,O,P⟩;have a:=t.hp a0.1 rfl;obtain⟨d4,d5,d6⟩:=cr a;have b:=aS t O P a;by_cases c:f=0
   .subst c;rw[de];have j:=ad (b.2.1 rfl);go_wp2;have l:∀o,ar p (p.alloc o):=λo=>aI aj o;exact⟨⟨5,aJ,aa,(y.1.tr b.1).alloc _,j.below (l _)⟩,by simp[intOf]⟩
   .rw [be q c];have b5:¬(f:Int)=0:=aa;obtain⟨b6,E,F,G⟩:=b.2.2.1 c;have d:=aM E F G;go_wp2;refine RB (v:=.agg #[ae q,aG f]) (by simp[RV,results105,go_sem];go_simp) rfl ?_;exact(gW.done d.1 d.2.1 (x.2.2.2.1.tr d.2.2) b.2.2.2 X u (be q c)).alloc _
  .subst e;have L:=ad (PS A.2.1 y.2);go_wp2_with fail;refine L.mono ?_;rintro e p ⟨q,f,rfl,t,O,P⟩;have a:=t.hp a0.1 rfl;obtain⟨d4,d5,d6⟩:=cr a;have b:=aS t O P a;by_cases c:f=0
   .subst c;rw[de];have j:=ad (b.2.1 rfl);go_wp2;have l:∀o,ar p (p.alloc o):=λo=>aI aj o;exact⟨⟨6,aJ,aa,(y.1.tr b.1).alloc _,j.below (l _)⟩,by simp[intOf]⟩
   .rw [be q c];have b5:¬(f:Int)=0:=aa;obtain⟨b6,E,F,G⟩:=b.2.2.1 c;have d:=aM E F G;go_wp2;refine RB (v:=.agg #[ae q,aG f]) (by simp[RV,results105,go_sem];go_simp) rfl ?_;exact(gW.done d.1 d.2.1 (x.2.2.2.1.tr d.2.2) b.2.2.2 X u (be q c)).alloc _
  .subst e;obtain⟨f3,k2,E,F,G⟩:=y.2;have d:=aM E F G;go_wp2;refine RB (v:=.agg #[ae 0,aG 0]) (by simp[RV,results105,go_sem];go_simp) rfl ?_;exact gW.done d.2.1 d.1 (x.2.2.2.1.tr d.2.2) a0.1 X u rfl
section
theorem n_{a b:Nat}{P:bY}(c:P.ok){j:Nat}(e:j<=2*P.N):Lt 128 (bo a b P j):=by
 intro k d;unfold bo;split
 .exact jF (cU (cH _) (cH _)) k
 .split
  .exact oE _ _ _ _ _ _ _ _ k
  .exact nW (c.da (j/2) J) k d
theorem dX.mem{α β:Type}{P:α->β->Prop}{a:List α}{K:List β}(h:dX P a K){x:α}(d:x∈a):∃y,y∈K/\P x y:=by
 obtain⟨i,b⟩:=UH.1 d;have c:i<K.length:=by have:=(RC.1 b).1;rw[<-h.1];exact this
 exact⟨K[i],YT c,h.2 i x K[i] b (RA c)⟩
theorem dX.LW{α β:Type}{P:α->β->Prop}{a:List α}{K:List β}(h:dX P a K){y:β}(d:y∈K):∃x,x∈a/\P x y:=by
 obtain⟨i,b⟩:=UH.1 d;have c:i<a.length:=by have:=(RC.1 b).1;rw[h.1];exact this
 exact⟨a[i],YT c,h.2 i a[i] y (RA c) b⟩
theorem dX.tail{α β:Type}{P:α->β->Prop}{x:α}{c:List α}{y:β}{K:List β}(h:dX P (x::c) (y::K)):P x y/\dX P c K:=by refine⟨h.2 0 x y rfl rfl,by simpa using h.1,λi a b d e=>h.2 (i+1) a b (by simpa using d) (by simpa using e)⟩
theorem sN{M:Nat}{aw:Option Nat}{a:Ro}(d:∀m r,a.down m r=true->aw=some m){m r:Nat}(p:m<M):∀k,k∈dK M a m r->k<M/\a.down k r=false:=by
 have n:∀j k,k∈uC a j r->k=j/\(a.iB j r).isNone=true:=λj k b=>by
  unfold uC at b;split at b
  .cases b
  .rename_i h;refine⟨TC.1 b,?_⟩;cases q:a.iB j r with
   |none=>rfl
   |some f=>rw[q]at h;exact absurd rfl h
 intro k b;unfold dK at b;by_cases i:(a.iB m r).isNone=true/\a.down m r=true
 .rw [ak i]at b;obtain⟨j,t,c⟩:=WS.1 b;by_cases e:j=m
  .rw [ak e]at c;cases c
  .rw [al e]at c;obtain⟨rfl,-⟩:=n j k c;refine⟨UJ.1 t,?_⟩;cases l:a.down k r with
   |false=>rfl
   |true=>have u:=d k r l;have o:=d m r i.2;rw[u]at o;cases o;exact absurd rfl e
 .rw [al i]at b;obtain⟨rfl,c⟩:=n m k b;refine⟨p,?_⟩;cases l:a.down k r with
  |false=>rfl
  |true=>exact absurd ⟨c,l⟩ i
theorem vg{g:au}{aw:Option Nat}{a:Ro}(b:∀m r,a.down m r=true->aw=some m){e:Nat->List Pt}{K:List Nat}:∀k,k∈dE g a e K->k<g.M/\∃r,a.down k r=false:=by intro k c;unfold dE at c;obtain⟨r,-,d⟩:=WS.1 c;unfold jh nj at d;obtain⟨j,f,h⟩:=WS.1 d;obtain⟨i,l⟩:=sN b (lx f) k h;exact⟨i,r,l⟩
theorem gn{g:au}{B:bp}{r:Nat}{p:Pt}:p∈B.bT g r↔∃m,m<g.M/\B.gd g m r=true/\p=(m,r,B.iQ g m r):=by
 unfold bp.bT bp.nJ;constructor
 .intro h;obtain⟨m,a,b⟩:=SA.1 h;obtain⟨c,d⟩:=bz.1 a;exact⟨m,c,d,b.symm⟩
 .rintro ⟨m,a,b,rfl⟩;exact SA.2 ⟨m,bz.2 ⟨a,b⟩,rfl⟩
section
variable {g:au} {aw:Option Nat} {V:bW} {kT:Nat->Nat->Prop} {QJ:Dk->Prop} {s:Rs} {Bt:bp}
theorem JM(b:g.ok){m r:Nat}(h:Bt.gd g m r=true):Bt.dR g V m r=Bt.iQ g m r:=by
 have a:m≠g.par r:=λe=>by rw[e,bp.iR b]at h;cases h
 unfold bp.dR;rw[al λe=>a e.1];unfold bp.base;rw[ak h]
theorem sO{m r:Nat}(h:Bt.gd g m r=false)(a:m=g.par r->aX g Bt Bt.n r=false):Bt.dR g V m r=V m r:=by unfold bp.dR;rw[al λe=>by rw[a e.1]at e;cases e.2];unfold bp.base;rw[al (by rw[h];decide)]
theorem sP(n:g.ok)(t:Gd g aw V kT QJ s){r:Nat}(u:r∈Bt.eR g)(o:∀k,k∈jh g.M s.ro (Bt.bT g r) r (g.par r)->ve s.b k){l:List Pt}(v:oU g s.b s.ro (Bt.bT g) l r):
  (∀p,p∈l->p.1<g.M/\p.2.1=r/\s.ro.down p.1 r=false/\aC p.2.2 (Bt.dR g V p.1 r))/\∀m,m<g.M->s.ro.down m r=false->(∃p,p∈l/\p.1=m)\/Bt.dR g V m r=V m r:=by
 obtain⟨w,-⟩:=v;obtain⟨b,q⟩:=bz.1 u;have a:∀p,p∈l↔(p∈Bt.bT g r/\s.ro.down p.1 r=false)\/(s.ro.down (g.par r) r=false/\p=(g.par r,r,fE (ez (nj g.M s.ro (Bt.bT g r) r (g.par r)) λj=>dS g.M s.b s.ro j r) (Bt.bT g r))):=λp=>by rw[w.mem_iff];unfold ke je;rw[TV,List.mem_filter];cases d:s.ro.down (g.par r) r<;>simp[d]
 constructor
 .intro p x;rcases(a p).1 x with⟨f,y⟩|⟨f,rfl⟩
  .obtain ⟨m,z,A,rfl⟩:=gn.1 f;exact⟨z,rfl,y,by rw[JM n A];exact aC.refl _⟩
  .refine ⟨au.iO n r,rfl,f,?_⟩;refine vf n t.par q b (λm i=>t.dS (lx i) b λk B=>o k ?_) f;exact WS.2 ⟨m,i,B⟩
 .intro m i d;by_cases e:m=g.par r
  .exact .inl ⟨_,(a _).2 (.inr ⟨by rw[<-e];exact d,rfl⟩),e.symm⟩
  .cases c:Bt.gd g m r with
   |true=>exact .inl ⟨(m,r,Bt.iQ g m r),(a _).2 (.inl ⟨gn.2 ⟨m,i,c,rfl⟩,d⟩),rfl⟩
   |false=>exact .inr (sO c λh=>absurd h e)
structure Iw(g:au)(ro:Ro)(V V':bW)(l:List Pt):Prop where
 val:∀p,p∈l->p.1<g.M/\p.2.1<g.R/\ro.down p.1 p.2.1=false/\aC p.2.2 (V' p.1 p.2.1)
 all:∀m r,m<g.M->r<g.R->ro.down m r=false->(∃p,p∈l/\p.1=m/\p.2.1=r)\/V' m r=V m r
theorem mM(j:g.ok)(n:Gd g aw V kT QJ s){o:List (List Pt)}(q:dX (oU g s.b s.ro (Bt.bT g)) o (Bt.eR g))(u:(s.jm g Bt).2.2=0):Iw g s.ro V (Bt.dR g V) o.flatten:=by
 have b:∀r,r∈Bt.eR g->∀k,k∈jh g.M s.ro (Bt.bT g r) r (g.par r)->ve s.b k:=λr d k v=>By.lH u k (WS.2 ⟨r,d,v⟩);constructor
 .intro p w;obtain⟨l,e,x⟩:=YS.1 w;obtain⟨r,a,f⟩:=q.mem e;obtain⟨y,z,A,B⟩:=(sP j n a (b r a) f).1 p x;rw[z];exact⟨y,(bz.1 a).1,A,B⟩
 .intro m r C d D;cases c:aX g Bt Bt.n r with
  |false=>
   refine .inr (sO ?_ λ_=>c);cases i:Bt.gd g m r with
   |false=>rfl
   |true=>rw[bp.BL i]at c;cases c
  |true=>
   have a:r∈Bt.eR g:=bz.2 ⟨d,c⟩;obtain⟨l,e,f⟩:=q.LW a;obtain⟨E,F⟩:=sP j n a (b r a) f;rcases F m C D with⟨p,t,G⟩|h
   .exact .inl ⟨p,YS.2 ⟨l,e,t⟩,G,(E p t).2.1⟩
   .exact .inr h
theorem vh:∀{c:List (List Pt)} {K:List Nat},K.Pairwise (· <·)->dX (λl r=>(∀p,p∈l->p.2.1=r)/\l.Pairwise λp q:Pt=>p.1<q.1) c K->(c.flatten.map λp=>(p.1,p.2.1)).Nodup
 | [],_,_,_=>aJ
 |l::c,[],_,h=>by have:=h.1;simp at this
 |l::c,r::K,d,h=>by
  obtain⟨⟨i,j⟩,f⟩:=h.tail;have k:=vh (List.pairwise_cons.1 d).2 f;rw[List.flatten_cons,SR,YK];refine⟨?_,k,?_⟩
  .refine YJ.2 (j.imp λ{p q} m e=>?_);have:=congrArg Prod.fst e;simp only at this;omega
  .intro a n b o e;obtain⟨p,t,u⟩:=SA.1 n;obtain⟨q,v,w⟩:=SA.1 o;obtain⟨C,x,y⟩:=YS.1 v;obtain⟨z,A,B⟩:=f.mem x;have D:=i p t;have E:=B.1 q y;have:=(List.pairwise_cons.1 d).1 z A;rw[<-u,<-w]at e;have:=congrArg Prod.snd e;simp only at this;omega
theorem yR:∀{a:List (List Pt)} {K:List Nat} {f:Nat->List Pt},dX (λl r=>l.length<=(f r).length+1) a K->a.flatten.length<=(K.map f).length+((K.map f).map WD).sum
 | [],_,_,_=>aJ
 |l::a,[],_,h=>by have:=h.1;simp at this
 |l::a,r::K,f,h=>by obtain⟨d,b⟩:=h.tail;have c:=yR b;simp only[List.flatten_cons,RE,UC,SQ,List.sum_cons]at c|-;omega
theorem dX.imp{α β:Type}{P Q:α->β->Prop}{a:List α}{K:List β}(h:dX P a K)(c:∀x y,y∈K->P x y->Q x y):dX Q a K:=
 ⟨h.1,λi x y d b=>c x y (RF b) (h.2 i x y d b)⟩
theorem GN(i:g.ok){r:Nat}{l:List Pt}(a:∀m r,s.ro.down m r=true->aw=some m)(b:oU g s.b s.ro (Bt.bT g) l r)(j:Bt.bT g r≠[]):l≠[]/\l.length<=(Bt.bT g r).length+1:=by
 constructor
 .intro e;have c:=b.1;rw[e]at c;refine uH j ?_ ?_ c.nil_eq.symm
  .intro p d;obtain⟨m,-,f,rfl⟩:=gn.1 d;intro e;simp only at e;rw[e,bp.iR i]at f;cases f
  .intro p d k n;have o:=a _ _ k;have h:=a _ _ n;rw[o]at h;exact RT h
 .rw [b.1.length_eq];exact mA _ _ _ _ _
theorem vi{r:Nat}(b:g.ok)(f:Bt.ok g)(c:r∈Bt.eR g):Bt.bT g r≠[]:=by obtain⟨i,d,e⟩:=dg.1 (bz.1 c).2;have a:=bp.K' (g:=g) d;rw[e]at a;exact List.ne_nil_of_mem (gn.2 ⟨_,au.ks b _,a,rfl⟩)
theorem AB(a:g.ok)(r:Nat):(Bt.bT g r).length<=g.M-1:=by unfold bp.bT;rw[RL];have c:=ry g.M λm=>Bt.gd g m r;have b:(g.par r)∈bP g.M λm=> !Bt.gd g m r:=bz.2 ⟨au.iO a r,by rw[bp.iR a];rfl⟩;have d:=List.length_pos_of_mem b;unfold bp.nJ;omega
end
end
def dw(g:au)(u:Su)(k:Nat):fL:=(k,aN 0 (fQ g (u.at k)))
def qu(g:au)(u:Su)(n:Nat):List Nat:=bP n λm=>decide (u.st m≠2)
def eC(g:au)(u:Su):List fL:= [dw g u g.M,di g.M] ++((qu g u g.M).map (dw g u)++(qu g u g.M).map di)
def KO:List Nat:= [100,106,108,142,217,219,1000000,120]
def LX(a:fL):Prop:=∀v:Dv,(a.2 v).1.d.n=v.d.n/\(a.2 v).1.d.cn<=v.d.cn+1
theorem sQ(g:au)(u:Su)(k:Nat):LX (dw g u k):=ey _ _
theorem yS(k:Nat):LX (di k):=sF k
structure lZ[Lo](Z:bg)(g:au)(s:Rs)(u:Su)(yg:Bool)(w:M)(L:List fL)(wr:M):Prop where
 arr:lY wr Z g u yg
 rs:cq wr Z.R Z.B Z.W Z.r g Z.fb {s with b:=(s.b.run L).1}
 ok:(s.b.run L).2.2=0
 bU:Fr KO aF w wr
 q:∀a,a∈L->LX a
 iG:L.length<=60
def KP(b:By):Prop:=∀k v,k<b.N->b.dv k=some v->0<v.d.n/\v.d.cn+100<1000000000000
theorem lZ.room[Lo]{Z:bg}{L:List fL}(h:lZ Z g s u d w L W)(b:KP s.b)(c:k<s.b.N)(e:(s.b.run L).1.dv k=some U):0<U.d.n/\U.d.cn<1000000000000:=by obtain⟨f,i,m,n⟩:=By.gw (l:=L) (λa j=>h.q a j) e;obtain⟨o,p⟩:=b k f c i;have:=h.iG;omega
theorem lZ.below[Lo]{Z:bg}{L:List fL}(h:lZ Z g s u d w L W)(a:ar W z):lZ Z g s u d w L z:=
 ⟨h.arr.fr (T:= []) (Fr.af a) rfl rfl,h.rs.below a,h.ok,h.bU.then a,h.q,h.iG⟩
theorem Fr.an[Lo](h:Fr TB aF w W):Fr KO aF w W:=h.wide KO rfl
theorem lZ.op[Lo]{Z:bg}{L:List fL}(h:lZ Z g s u d w L W){a:fL}{e:SG}(k:LX a)(o:L.length<60)(f:(s.b.run (L++ [a])).2.2=0)(l:zM Z.B (s.b.run L).1 a.1 a.2 W e z):
  aK e (aG 0)/\lZ Z g s u d w (L++ [a]) z:=by
 obtain⟨i,m,c⟩:=l;obtain⟨n,j,-⟩:=By.ji (a:=a) h.ok;rw[j]at f;rw[f]at i;refine⟨i,h.arr.fr c rfl rfl,⟨h.rs.row.fr c rfl rfl rfl rfl,by rw[n];exact m,h.rs.kc.fr c rfl rfl rfl rfl,h.rs.lo⟩,by rw[j,f],h.bU.tr c.an,λx b=>?_,by rw[RE];show L.length+1<=60;omega⟩;rcases TV.1 b with b|b
 .exact h.q x b
 .rw [TC.1 b];exact k
theorem GO[Lo](Z:bg)(g:au)(s:Rs)(u:Su)(b:Bool)(w:M)(L:List fL)(k:Nat)(wr:M)(h:lZ Z g s u b w L wr)(f:KP s.b)(i:(u.at k).ok g)(c:k<s.b.N)(j:L.length<60)(l:(s.b.run (L++ [dw g u k])).2.2=0):
  aD 55 #[H Z.A,Y k] wr λe d=>aK e (aG 0)/\lZ Z g s u b w (L++ [dw g u k]) d:=
 (sK Z g u b (s.b.run L).1 k wr h.arr h.rs.cg i (by rw[By.fU];exact c) λv m=>h.room f c m).mono λe d n=>h.op (a:=dw g u k) (sQ g u k) j l n
theorem LY[Lo](Z:bg)(g:au)(s:Rs)(u:Su)(b:Bool)(w:M)(L:List fL)(k:Nat)(wr:M)(h:lZ Z g s u b w L wr)(d:k<s.b.N)(f:L.length<60)(i:(s.b.run (L++ [di k])).2.2=0):
  aD 56 #[H Z.B,Y k] wr λe c=>aK e (aG 0)/\lZ Z g s u b w (L++ [di k]) c:=
 (gu Z.B k (s.b.run L).1 wr h.rs.cg (by rw[By.fU];exact d)).mono λe c j=>h.op (a:=di k) (yS k) f i j
theorem By.n'{l l':List fL}(h:(b.run (l++l')).2.2=0):(b.run l).2.2=0:=by
 by_cases e:(b.run l).2.2=0
 .exact e
 .rw [By.oW e]at h;exact h
theorem DG(g:au)(u:Su)(k:Nat):qu g u (k+1)=qu g u k++(if u.st k≠2 then[k]else[]):=by unfold qu;rw[dG];by_cases h:u.st k=2<;>simp[h]
theorem lI(a:g.ok)(u:Su)(k:Nat)(h:k<=g.M):(qu g u k).length<=16:=by have:=fv k λm=>decide (u.st m≠2);have:=a.m16;unfold qu;omega
theorem DH(h:k<g.M):∃l,qu g u g.M=qu g u (k+1)++l:=rj _ h
structure JN[Lo](Z:bg)(g:au)(s:Rs)(u:Su)(yg:Bool)(w:QL)(cn:Nat)(x:QN)(act:Nat->fL):Prop where
 enters:∀args w,(UY cn args).run prog w= .ok (.enter cn args) w
 call:∀(L:List fL) (k:Nat) (wr:QL),lZ Z g s u yg w L wr->k<g.M+1->L.length<60->(s.b.run (L++ [act k])).2.2=0->aD cn #[x,Y k] wr fun e w'=>aK e (aG 0)/\lZ Z g s u yg w (L++ [act k]) w'
theorem DI[Lo](Z:bg)(g:au)(s:Rs)(u:Su)(a:Bool)(w:QL)(b:KP s.b)(c:∀k,k<g.M+1->(u.at k).ok g)(i:s.b.N=g.M+1):JN Z g s u a w 55 (H Z.A) (dw g u):=
 ⟨RP func55 aE rfl,λL k wr h d e f=>GO Z g s u a w L k wr h b (c k d) J e f⟩
theorem JO[Lo](Z:bg)(g:au)(s:Rs)(u:Su)(a:Bool)(w:QL)(d:s.b.N=g.M+1):JN Z g s u a w 56 (H Z.B) di:=
 ⟨RP func56 aE rfl,λL k wr h e b c=>LY Z g s u a w L k wr h J b c⟩
theorem lY.ne[Lo]{Z:bg}(h:lY w Z g u d):Z.A≠Z.sb:=by obtain⟨b,-,a⟩:=h.aL;obtain⟨f,c,-⟩:=h.uY;intro e;rw[e,c]at a;exact absurd (VF (RT a)).2.1 ai
theorem cY.set[Lo]{Z:bg}{u u':Su}{a yg':Bool}(h:cY w Z g s u a)(f:g.M<=n)(d:aZ w Z.A (N (BB Z g u n a) 120))(o:Nat)(v:QN)(i:(BB Z g u n a).setIfInBounds o v=BB Z g u' n yg')(b:u'.st=u.st):
  cY (w.setCell (R Z.A o) v) Z g s u' yg'/\Fr [120] aF w (w.setCell (R Z.A o) v)/\(w.setCell (R Z.A o) v).heap[Z.A]?=some (N (BB Z g u' n yg') 120):=by
 have c:Fr [120] aF w (w.setCell (R Z.A o) v):=(Fr.refl _ _ _).set (p:=R Z.A o) d rfl h.arr.lo.1 v;have e:(w.setCell (R Z.A o) v).heap[Z.A]?=some (N (BB Z g u' n yg') 120):=by rw[<-i];exact heap_setCell_same _ _ _ _ _ _ d
 exact⟨⟨⟨⟨n,f,e⟩,by rw[b];obtain⟨j,k,l⟩:=h.arr.uY;exact⟨j,c.hp k rfl,l⟩,h.arr.lo⟩,h.rs.fr c rfl⟩,c,e⟩
theorem Fr.DJ[Lo]{Z:bg}(h:Fr [120] aF w W):iI Z w W:=(h.any).wide JC rfl
theorem Fr.NK[Lo]{Z:bg}(h:Fr KO aF w W):iI Z w W:=(h.any).wide JC rfl
def Su.told(u:Su):Su:={u with ev:=u.ev+1,sf:=u.ev+1}
def Su.tell(u:Su):Su:={u with ev:=u.ev+1}
theorem Su.sK(h:u.ok g)(a:u.ev<4611686018427387904)(b:k<g.M+1):(u.tell.at k).ok g:=
 ⟨h.bZ,h.id,⟨h.ev.1,QO h.ev.2.1 (VC _),a⟩,Nat.lt_succ_iff.1 b,h.ring,h.st,h.one,h.cur⟩
theorem Su.oa(h:u.ok g)(a:u.ev<4611686018427387904):u.told.ok g:=
 ⟨h.bZ,h.id,⟨Nat.succ_pos _,QP _,a⟩,h.rl,h.ring,h.st,h.one,h.cur⟩
def Pa[Lo](Z:bg)(g:au)(s:Rs)(u:Su)(c:Bool)(w:QL)(e:SG)(a:QL):Prop:=
 aK e (.tuple #[])/\cY a Z g {s with b:=(s.b.run (eC g u.tell)).1,ro:=s.ro.marks g u.told g.M} u.told c/\iI Z w a
abbrev Ix(n a:Nat):QN:=.func (.func n) #[H a] #[]
theorem lZ.base[Lo]{Z:bg}{L:List fL}(h:lZ Z g s u d w L z)(a:Fr KO aF W z):lZ Z g s u d W L z:=⟨h.arr,h.rs,h.ok,a,h.q,h.iG⟩
theorem ju[Lo](Z:bg)(g:au)(s:Rs)(u:Su)(a:Bool)(w:QL)(h:cY w Z g s u a)(c9:u.ok g)(Q:u.ev<4611686018427387904)(y:u.lost=false)(e3:KP s.b)(d0:s.b.N=g.M+1)(t:(s.b.run (eC g u.tell)).2.2=0):
  aD 121 #[aq Z.A] w (Pa Z g s u a w):=by
 obtain⟨e4,S,d1⟩:=h.arr.aL;obtain⟨k0,f0,z0⟩:=cr d1;obtain⟨s1,s2,s3⟩:=h.set S d1 2 (.int .u64 ((u.ev+1:Nat):Int)) (u':=u.tell) (yg':=a) rfl rfl;obtain⟨e5,U⟩:=ah (w.setCell (ag Z.A 2) (.int .u64 ((u.ev+1:Nat):Int)));rw[U]at s1 s2 s3;rw[show((u.ev+1:Nat):Int)=(u.ev:Int)+1 by omega]at U;obtain⟨z,D,V,a9,A,b0⟩:=dQ e5 (ao #[Ix 55 Z.A,Ix 56 Z.B] 123);have W:w.heap.size=D:=by rw[<-a9,<-U];simp
 have e1:VY.wrap ((u.ev:Int)+1)=((u.ev+1:Nat):Int):=bf;have B:¬(4611686018427387904:Int)<=(u.ev:Nat):=aa;have b1:RH (lZ Z g s u.tell a z [] z):=⟨s1.arr.fr (T:= []) (Fr.af A) rfl rfl,s1.rs.below A,rfl,Fr.refl _ _ _,λ_ e=>(by cases e),QX _⟩;have b2:=aA (Fr.NK (Z:=Z) ((s2.wide KO rfl).then A)) b0;have O:=aA c9 Q;have b3:=ad (λw=>DI Z g s u.tell a w e3 (λk P=>Su.sK c9 Q P) d0);have C:=ad (λw=>JO Z g s u.tell a w d0);have H0:=ad t;have E:=aS U W a9 V;clear U W a9 V;go_enter func121,ntmps121;go_wp2;rw[E.1,E.2.1,E.2.2.2];go_loopw [53] (λi wr=>∃k:Nat,i= ae k/\k<=2/\RH (lZ Z g s u.tell a z ([dw g u.tell g.M,di g.M].take k) wr)) (λi _=>2-(intOf i).toNat)
 case atStart=>exact⟨0,rfl,aa,b1⟩
 case round=>
  obtain⟨k,rfl,P,d⟩:=hrel;by_cases b:k<2
  .match k,b,P,d with
   |0,b,P,d=>obtain⟨X,c2,c3⟩:=cr (d.bU.hp b2.2 rfl);obtain⟨H,-,b4⟩:=d.arr.aL;have b5:=ad (eb Z g u.tell a wr d.arr);have d2:=(b3.out z).enters;have N:=ad ((b3 z).call _ g.M wr d aa (by show 0<60;omega) (by have:=H0.out;unfold eC at this;exact By.n' (l:= [dw g u.tell g.M]) (l':= [di g.M] ++_) (by rw[<-TK];exact this)));go_wp2_with(first|(go_at_call 107;refine b5.mono ?_;rintro e w3 ⟨rfl,rfl⟩)|(refine N.mono ?_;rintro e w4 ⟨rfl,M⟩;have p:=ad M));exact⟨⟨1,by go_num,aa,p⟩,by simp[intOf]⟩
   |1,b,P,d=>obtain⟨X,c2,c3⟩:=cr (d.bU.hp b2.2 rfl);obtain⟨H,-,b4⟩:=d.arr.aL;have b5:=ad (eb Z g u.tell a wr d.arr);have d2:=(C.out z).enters;have N:=ad ((C z).call _ g.M wr d aa (by show 1<60;omega) (by have:=H0.out;unfold eC at this;exact By.n' this));go_wp2_with(first|(go_at_call 107;refine b5.mono ?_;rintro e w3 ⟨rfl,rfl⟩)|(refine N.mono ?_;rintro e w4 ⟨rfl,M⟩;have p:=ad M));exact⟨⟨2,by go_num,aa,p⟩,by simp[intOf]⟩
  .have F:(k:Int)=2:=aa;rw[F];clear F;obtain rfl:k=2:=aa;obtain⟨d3,b6,b7⟩:=d.arr.aL;obtain⟨k0,f0,z0⟩:=cr b7;obtain⟨f,D2,R,I,Y,b8⟩:=dQ wr (ao #[Ix 55 Z.A,Ix 56 Z.B] 123);have b9:=ad b8;have c0:=ad (b2.1.trans ((Fr.NK d.bU).then Y));have J:RH (lZ Z g s u.tell a f ([dw g u.tell g.M,di g.M] ++ []) f):=(d.below Y).base (Fr.refl _ _ _);have v:=aA R I;clear R I;go_wp2;rw[v.1,v.2];go_loopw [79] (λi wr=>∃k:Nat,i= ae k/\k<=2/\RH (lZ Z g s u.tell a f ([dw g u.tell g.M,di g.M] ++(if k=0 then[]else if k=1 then(qu g u.tell g.M).map (dw g u.tell)else(qu g u.tell g.M).map (dw g u.tell)++(qu g u.tell g.M).map di)) wr)) (λi _=>2-(intOf i).toNat)
   case atStart=>exact⟨0,rfl,aa,J⟩
   case round=>
    clear J;obtain⟨k,rfl,P,G⟩:=hrel;by_cases b:k<2
    .have K:∃c4 x j c,wr.cell? (ag D2 k)=some (.func (.func c4) #[x] #[])/\JN Z g s u.tell a f c4 x j/\c.length<=18/\lZ Z g s u.tell a f c wr/\(s.b.run (c++(qu g u.tell g.M).map j)).2.2=0/\(∀a5,lZ Z g s u.tell a f (c++(qu g u.tell g.M).map j) a5->lZ Z g s u.tell a f ([dw g u.tell g.M,di g.M] ++(if k+1=0 then[]else if k+1=1 then(qu g u.tell g.M).map (dw g u.tell)else(qu g u.tell g.M).map (dw g u.tell)++(qu g u.tell g.M).map di)) a5):=by
      obtain⟨X,-,-⟩:=cr (G.bU.hp b9 rfl);have t:=H0.out;unfold eC at t;have d4:=lI O.1.bZ u.tell g.M (QP _)
      match k,b,G with
      |0,_,G=>exact⟨55,_,_,_,X 0,b3 f,aJ,G,by refine By.n' (l':=(qu g u.tell g.M).map di) ?_;rw[ak rfl,UK,TK];exact t,λa5 a0=>by rw[ak rfl,UK]at a0;exact a0⟩
      |1,_,G=>exact⟨56,_,_,_,X 1,C f,aQ,G,by rw[al aa,ak rfl,TK];exact t,λa5 a0=>by rw[al aa,ak rfl,TK]at a0;rw[al aa,al aa];exact a0⟩
     obtain⟨c4,x,j,c,X,p1,p2,p3,p4,p5⟩:=K;have n:=aS p1 p4 p5 b;have a1:RH (lZ Z g s u.tell a f (c++(qu g u.tell 0).map j) wr):=by show lZ Z g s u.tell a f (c++ []) wr;rw[UK];exact p3
     obtain⟨d5,-,c5⟩:=p3.arr.aL;obtain⟨k0,f0,z0⟩:=cr c5;obtain⟨d6,rfl⟩:∃d6:QL,d6=wr:=⟨_,rfl⟩;have F:(k:Int)<2:=aa;have c6:=ad p2;go_wp2_with fail;go_loopw [89] (λi wr=>∃m:Nat,i= ae m/\m<=g.M/\RH (lZ Z g s u.tell a f (c++(qu g u.tell m).map j) wr)) (λi _=>g.M-(intOf i).toNat)
     case atStart=>exact⟨0,rfl,QX _,a1⟩
     case round=>
      clear a1;obtain⟨m,rfl,f1,a6⟩:=hrel;have d7:=O.1.bZ.m16;by_cases b:m<g.M
      .have q:=ad (ic Z g u.tell a m wr a6.arr b O.1.bZ.m16);have a2:=DG g u.tell m;have r:=ad b;by_cases B:u.tell.st m=2
       .rw [show decide (u.tell.st m≠2)=false by simp[B]]at q;rw[al (λh=>h B),UK]at a2;have c7:=ad a2;clear B;go_wp2_with(go_at_call 120;refine q.mono ?_;rintro e w3 ⟨rfl,rfl⟩);go_roundw
        case rel=>exact⟨m+1,by go_num,r,by rw[c7.out];exact a6⟩
        case measure=>have:=r.out;simp[intOf];omega
       .rw [show decide (u.tell.st m≠2)=true by simp[B]]at q;rw[ak B]at a2;have c7:=ad a2;have d2:=n.1.enters;have d8:=lI O.1.bZ u.tell m aa;have d9:=c6.out;have N:=ad (n.1.call _ m wr a6 aa (by rw[RE,RL];omega) (by obtain⟨l,e6⟩:=DH (u:=u.tell) b;have t:=n.2.1;rw[e6,a2,SR,SR,<-TK,<-TK]at t;exact By.n' t));clear B;go_wp2_with(first|(go_at_call 120;refine q.mono ?_;rintro e w3 ⟨rfl,rfl⟩)|(refine N.mono ?_;rintro e w4 ⟨rfl,M⟩;have p:=ad M));go_roundw
        case rel=>exact⟨m+1,by go_num,r,by rw[c7.out,SR,<-TK];exact p⟩
        case measure=>have:=r.out;simp[intOf];omega
      .obtain rfl:g.M=m:=aa;go_wp2;exact⟨⟨k+1,by go_num,n.2.2.2,n.2.2.1 _ a6⟩,by have:=n.2.2.2;simp[intOf];omega⟩
    .obtain rfl:k=2:=aa;have a7:RH (lZ Z g s u.tell a f (eC g u.tell) wr):=G.out;obtain⟨e0,L,a3⟩:=a7.arr.aL;obtain⟨k0,f0,z0⟩:=cr a3;obtain⟨t1,t2,t3⟩:=(cY.mk a7.arr a7.rs).set L a3 3 (.int .u64 ((u.ev+1:Nat):Int)) (u':=u.told) (yg':=a) rfl rfl;obtain⟨e7,a8⟩:=ah (wr.setCell (ag Z.A 3) (.int .u64 ((u.ev+1:Nat):Int)));rw[a8]at t1 t2 t3;rw[show((u.ev+1:Nat):Int)=(u.ev:Int)+1 by omega]at a8;have c8:=ad (nY Z g _ u.told a e7 t1 (Su.oa O.1 O.2));have o:=aA t1 t2;have a4:=ad a8;have e8:u.tell.ev=u.ev+1:=rfl;have e9:u.tell.lost=false:=y;clear a8;go_wp2_with fail;rw[a4.out];refine c8.mono ?_;rintro e f2 ⟨rfl,q1,q2⟩;have p:=aA q1 q2;go_wp2;go_end0;exact⟨rfl,⟨o.1.arr.out p.2 o.1.rs.row.fy o.1.rs.lo.2,o.1.rs.mark p.1 p.2⟩,(c0.trans (Fr.NK a7.bU)).trans ((Fr.DJ o.2).trans (Fr.wi (p.2.mono λk _ e=>e)))⟩
section
section
variable {g:au} {aw:Option Nat} {V:bW} {s s':Rs} {k er C:Nat} {Bt:bp}
theorem Gt.DK(h:Gt g aw V s)(hF:Fit g C s)(l:20000<=C)(e:gz g s s' k er):Fit g (C-20000) s':=by
 have c:=h.sync.1;rcases e with⟨m,n,h1,d⟩|⟨h1,d⟩
 .have f1:=d_ hF J c h1;obtain⟨f,-,-,-⟩:=h.settle h1;rcases d with⟨o,p,a,b⟩|⟨a,b⟩
  .have f2:=fF f1 J a;obtain⟨i,-,-,-⟩:=f.gg a;obtain⟨-,j,-,-⟩:=i.ie b;subst j;exact(np f2 J b).less J
  .exact (fF f1 J a).less J
 .exact (d_ hF J c h1).less J
theorem Gt.fG(h:Gt g aw V s):Gt g aw V s.fG:=⟨⟨h.gd.dev.mono λj d _ a=>a.imp (λ_ _ e=>e) (λ_ _ e=>e) λ_ _ _ e=>e,h.gd.N,h.gd.wt,h.gd.dn,h.gd.nw,h.gd.par⟩,h.bq,h.aY⟩
theorem Gt.sR(h:Gt g aw V s):(s.synced g).1.x.N=s.x.N:=by rw[h.sync.2.2.1]
theorem Gt.room(h:Gt g aw V s)(b:2*Bt.dJ g+1<=s.x.N)(c:ea g Bt s s' k er):
  Gt g aw V s'/\(s'.ro=s.ro\/s'.ro={s.ro with wt:= []})/\s'.x.N=s.x.N/\((er=0/\2*Bt.dJ g+1<=s'.x.N-s'.x.u)\/tC g aw s.ro s' k er):=by
 unfold ea at c;by_cases d:2*Bt.dJ g+1<=s.x.N-s.x.u
 .rw [ak d]at c;obtain⟨rfl,-,a⟩:=c;exact⟨h,.inl rfl,rfl,.inl ⟨a,d⟩⟩
 .rw [al d]at c;obtain⟨e,a|a⟩:=h.empty c
  .refine ⟨e,.inr a.2.1,by rw[a.2.2];rfl,.inl ⟨a.1,?_⟩⟩;rw[a.2.2];exact b
  .exact ⟨e,a.2.1,by rw[a.2.2,h.sR],.inr a.1⟩
theorem Gt.vj(h:Gt g aw V s)(hF:Fit g C s)(b:20000<=C)(a:ea g Bt s s' k er):Fit g (C-20000) s':=by
 unfold ea at a;split at a
 .obtain ⟨rfl,-,-⟩:=a;exact hF.less J
 .exact h.DK hF b a
theorem Gt.NL(h:Gt g aw V s)(hF:Fit g C s)(d:Bt.ok g){r:Nat}(f:r∈Bt.eR g):sE g s.b s.ro r (Bt.bT g r):=by
 have a:=(bz.1 f).1;refine⟨⟨hF.bZ,a,hF.N,QO hF.iG J,λm v o q=>?_⟩,⟨a,vi hF.bZ d f,λp b=>?_,?_⟩,λi j _ _ t u=>?_,AB hF.bZ r,h.gd.eG a,λp b k w=>?_⟩
 .have:=(hF.mem m v o q).1;omega
 .obtain ⟨m,l,c,rfl⟩:=gn.1 b;refine⟨l,rfl,λe=>?_⟩;simp only at e;rw[e,bp.iR hF.bZ]at c;cases c
 .exact YJ.2 ((iP _ _).imp λh=>h)
 .have n:=h.gd.dn i r t;rw[h.gd.dn j r u]at n;cases n;rfl
 .obtain ⟨m,l,c,rfl⟩:=gn.1 b;exact bp.BM d w
theorem Gt.xx(h:Gt g aw V s)(hF:Fit g C s)(v:Bt.ok g)(fX:1<=Bt.n)(B:s.x.N<=2048)(x:2*Bt.dJ g+1<=s.x.N-s.x.u){i:List (List Pt)}(n:dX (oU g s.b s.ro (Bt.bT g)) i (Bt.eR g))(y:(s.jm g Bt).2.2=0):
  rk g i.flatten/\1<=i.flatten.length/\2*i.flatten.length+1<=s.x.N-s.x.u/\(aR i.flatten).ok:=by
 have c:=hF.bZ;have o:=mM c h.gd n y;have m:=bp.yj c v h.gd.par;have d:∀l r,r∈Bt.eR g->oU g s.b s.ro (Bt.bT g) l r->l≠[]/\l.length<=(Bt.bT g r).length+1:=λl r b j=>GN c h.gd.dn j (vi c v b);have w:i.flatten.length<=Bt.dJ g:=yR (f:=Bt.bT g) (n.imp λl r b j=>(d l r b j).2);have e:∀p,p∈i.flatten->∀k,k<128->p.2.2 k<256:=λp a k q=>by obtain⟨t,u,A,z⟩:=o.val p a;rw[z k q];exact m.lt _ _ _ t u q
 refine⟨⟨J,λp a=>⟨(o.val p a).1,(o.val p a).2.1,e p a⟩,?_⟩,?_,J,?_⟩
 .refine vh (iP _ _) (n.imp λl r b j=>⟨λp a=>?_,j.2⟩);exact((sP c h.gd b (λk q=>By.lH y k (WS.2 ⟨r,b,q⟩)) j).1 p a).2.1
 .have b:g.row (Bt.aL 0)∈Bt.eR g:=bz.2 ⟨au.iN c (v.aL 0 J),dg.2 ⟨0,J,rfl⟩⟩;obtain⟨l,t,u⟩:=n.LW b;obtain⟨p,a⟩:=WR l (d l _ b u).1;exact List.length_pos_of_mem (YS.2 ⟨l,t,a⟩)
 .refine CV λp a=>?_;obtain⟨t,u,-,-⟩:=o.val p a;have A:=c.m16;have z:=au.g_ c;exact⟨J,J,e p a⟩
theorem Gt.NM(h:Gt g aw V s)(hF:Fit g C s)(p:100000<=C)(d:Bt.ok g)(fX:1<=Bt.n)(e:s.x.N<=2048)(a:2*Bt.dJ g+1<=s.x.N):Jz g Bt s:=by
 constructor
 .intro c f b r i;have f1:=h.fG.vj (hF.sl false) J b;exact(h.fG.room a b).1.NL f1 d i
 .intro c f q b j l;have f1:=h.fG.vj (hF.sl false) J b;obtain⟨m,-,n,a4⟩:=h.fG.room a b;have o:2*Bt.dJ g+1<=c.x.N-c.x.u:=by
   rcases a4 with a4|a4
   .exact a4.2
   .exact absurd rfl a4.gone.ne
  exact m.xx f1 d fX (by rw[n];exact e) o j l
theorem Gt.dq(h:Gt g aw V s){pl:aO}{sf:dj}:∀n,(∀j,j<n->Lt 128 (sf j))->(s.b.dq g.M pl sf n).2=0/\∀x,Gt g aw V {s with b:=(s.b.dq g.M pl sf n).1,x:=x}
 |0,_=>⟨rfl,λx=>⟨⟨h.gd.dev,h.gd.N,h.gd.wt,h.gd.dn,h.gd.nw,h.gd.par⟩,h.bq,h.aY⟩⟩
 |n+1,a=>by obtain⟨c,d⟩:=Gt.dq h n λj f=>a j J;unfold By.dq;rw[ak c];exact(d s.x).KN λQ e=>sL (a n J) e
theorem Gt.log(h:Gt g aw V s){l:List Pt}(c:(aR l).ok)(d:xk g l s s' k er):Gt g aw V s'/\er=0/\s'.ro=s.ro/\s'.x=s.x.cK (2*l.length+1) (bo s.x.ep s.x.nx (aR l) (2*l.length)) 0:=by
 obtain⟨e,-,f⟩:=d;obtain⟨i,m⟩:=h.dq (pl:=s.x.pl) (sf:=bo s.x.ep s.x.nx (aR l)) (2*l.length) λj n=>n_ c (TY n);obtain⟨o,p⟩:=(m s.x).KN (act:=ba) λQ q=>sM q;have a:(s.hf g l).2=0/\∀x,Gt g aw V {s with b:=(s.hf g l).1,x:=x}:=by unfold Rs.hf By.iF;rw[ak i];exact⟨o,p⟩
 subst e;exact⟨a.2 _,f.trans a.1,rfl,by show s.x.cK _ _ (s.hf g l).2=_;rw[a.1]⟩
theorem Gt.qp(h:Gt g aw V s)(w:s.ro.wt= [])(x:g.ok)(y:Bt.ok g){l:List Pt}(n:Iw g s.ro V (Bt.dR g V) l)(z:(aR l).ok)(c:po g l s s' k er):
  Gt g aw (Bt.dR g V) s'/\er=0/\s'.ro={s.ro with sl:=true,wt:=l}/\s'.x=s.x.eJ (2*l.length+1) 0:=by
 obtain⟨A,-,B⟩:=c;obtain⟨D,E⟩:=h.KN (act:=aN (s.x.pl (2*l.length+1-1)) (bo s.x.ep s.x.nx (aR l) (2*l.length))) λQ F=>sL (n_ z (j:=2*l.length) (QP _)) F;have o:(s.dF g (2*l.length+1) (bo s.x.ep s.x.nx (aR l) (2*l.length))).2=0:=D;have b:=E s.x;subst A;rw[o,ak rfl];refine⟨⟨⟨λj G=>?_,b.gd.N,λp c=>?_,h.gd.dn,h.gd.nw,bp.yj x y h.gd.par⟩,b.bq,b.aY⟩,B.trans o,rfl,rfl⟩
 .obtain ⟨K,d⟩:=b.gd.dev j G;refine⟨K,λv f=>⟨(d v f).eG,(d v f).mL,λL=>⟨λq=>⟨λr t u i=>?_,λr _ _ O=>absurd trivial O⟩,λ_=>trivial⟩⟩⟩;have:=(((d v f).holds L).1 q).view r t u (λ⟨p,a,_⟩=>by have:p∈s.ro.wt:=a;rw[w]at this;cases this);rcases n.all j r q t u with⟨p,a,m,P⟩|e
  .exact absurd ⟨p,a,m,P⟩ i
  .rw [e];exact this
 .obtain ⟨a,m,-,S⟩:=n.val p c;exact⟨a,m,S,trivial⟩
structure NN(g:au)(aw:Option Nat)(V:bW)(Bt:bp)(C:Nat)(s s':Rs)(k er:Nat):Prop where
 fit:Fit g (C-60000) s'
 N:s'.x.N=s.x.N
 fr:s'.ro.fr=s.ro.fr
 lz:s'.ro.lz=s.ro.lz
 res:(er=0/\Gt g aw (Bt.dR g V) s')\/(tC g aw s.ro s' k er/\s'.ro.sl=false/\Gt g aw V s')\/(tC g aw s.ro s' k er/\s'.ro.sl=true/\s'.x.sure=true/\Gt g aw (Bt.dR g V) s')
theorem Gt.write(h:Gt g aw V s)(hF:Fit g C s)(b7:100000<=C)(Q:Bt.ok g)(fX:1<=Bt.n)(b0:s.x.N<=2048)(n:2*Bt.dJ g+1<=s.x.N)(y:gD g Bt s s' k er):NN g aw V Bt C s s' k er:=by
 have S:=hF.bZ;have K:=h.fG;rcases y with⟨d,k1,h1,T⟩|⟨h1,T⟩
 .obtain ⟨v,a2,o,a4⟩:=K.room n h1;have o:d.x.N=s.x.N:=o;have f1:=K.vj (hF.sl false) aa h1;have a5:2*Bt.dJ g+1<=d.x.N-d.x.u:=by
   rcases a4 with a4|a4
   .exact a4.2
   .exact absurd rfl a4.gone.ne
  have a:d.ro.fr=s.ro.fr/\d.ro.lz=s.ro.lz/\d.ro.sl=false:=by rcases a2 with a2|a2<;>rw[a2] <;>exact⟨rfl,rfl,rfl⟩
  obtain⟨w1,w2⟩:=v.bK (l:=dE g d.ro (Bt.bT g) (Bt.eR g)) λk b2=>by obtain⟨e1,u⟩:=vg v.gd.dn k b2;exact⟨aa,u⟩
  have a7:=f1.bK (dE g d.ro (Bt.bT g) (Bt.eR g));rcases T with⟨L,O,z,w⟩|⟨L,b5,O,z⟩
  .have w3:=w2.resolve_left L;subst O z w;exact⟨a7.less aa,o,a.1,a.2.1,.inr (.inl ⟨w3.of a.1.symm,a.2.2,w1⟩)⟩
  .obtain ⟨p1,p2,p3,A⟩:=v.xx f1 Q fX (by rw[o];exact b0) a5 O L;have e:=mM S v.gd O L;obtain⟨l,b6⟩:=ah b5.flatten;rw[b6]at z p1 p2 p3 A e;obtain⟨q,i⟩:∃q:Rs,{d with b:=(d.jm g Bt).1}=q:=⟨_,rfl⟩;have u:q.ro=d.ro/\q.x=d.x:=by rw[<-i];exact⟨rfl,rfl⟩
   have B:Gt g aw V q:=by rw[<-i];exact w1
   have U:Fit g (C-20000) q:=by rw[<-i];exact a7
   rw[i]at z;rcases z with⟨s3,k3,w,W⟩|⟨w,W⟩
   .obtain ⟨b1,-,X,b4⟩:=B.log A w;have f3:=sJ U aa aa w;rcases W with⟨Z,k4,D,H⟩|⟨D,H⟩
    .obtain ⟨P,N,c3⟩:=b1.gJ D;have f4:=gC f3 aa D;have c4:Z.ro={s3.ro with wt:= []}:=by
      rcases c3 with c3|c3
      .exact c3.2
      .exact absurd rfl c3.1.gone.ne
     have f:Z.ro={d.ro with wt:= []}:=by rw[c4,X,u.1]
     rcases H with⟨E,k5,j,c⟩|⟨j,c⟩
     .obtain ⟨d1,-,d3,d4⟩:=P.qp (Bt:=Bt) (by rw[f]) S Q (l:=l) (by
       refine⟨λp y=>?_,λm r M R F=>?_⟩
       .obtain ⟨I,Y,J,q4⟩:=e.val p y;exact⟨I,Y,by rw[f];exact J,q4⟩
       .rw [f]at F;exact e.all m r M R F) A j
      have f5:=pq f4 aa p1 j;have a8:E.x.N=s.x.N:=by rw[d4];show Z.x.N=_;rw[N,b4];show q.x.N=_;rw[u.2,o]
      have t:E.ro.fr=s.ro.fr/\E.ro.lz=s.ro.lz/\E.ro.sl=true:=by rw[d3,f];exact⟨a.1,a.2.1,rfl⟩
      unfold lC at c;by_cases a9:E.ro.lz=true
      .rw [ak a9]at c;obtain⟨rfl,-,a0⟩:=c;exact⟨f5.less aa,a8,t.1,t.2.1,.inl ⟨a0,d1⟩⟩
      .rw [al a9]at c;have f6:=d_ f5 aa d1.sync.1 c;obtain⟨i1,i2,i3,i4⟩:=d1.settle c;have G:s'.x.N=s.x.N:=by rw[i2,d1.sR,a8]
       rcases i4 with⟨i5,x⟩|⟨i5,x⟩
       .exact ⟨f6.less aa,G,by rw[x];exact t.1,by rw[x];exact t.2.1,.inl ⟨i5,i1⟩⟩
       .exact ⟨f6.less aa,G,by rw[x];exact t.1,by rw[x];exact t.2.1,.inr (.inr ⟨i5.of t.1.symm,by rw[x];exact t.2.2,i3,i1⟩)⟩
     .have a6:=P.qp (Bt:=Bt) (by rw[f]) S Q (l:=l) (by
       refine⟨λp y=>?_,λm r M R F=>?_⟩
       .obtain ⟨I,Y,J,q4⟩:=e.val p y;exact⟨I,Y,by rw[f];exact J,q4⟩
       .rw [f]at F;exact e.all m r M R F) A j
      exact absurd a6.2.1 c
    .obtain ⟨P,N,c3⟩:=b1.gJ D;have f4:=gC f3 aa D;rcases c3 with c3|⟨c3,c4⟩
     .exact absurd c3.1 H
     .have f:s'.ro=d.ro:=by rw[c4,X,u.1]
      refine⟨f4.less aa,?_,by rw[f];exact a.1,by rw[f];exact a.2.1,.inr (.inl ⟨c3.of ?_,by rw[f];exact a.2.2,P⟩)⟩
      .rw [N,b4];show q.x.N=_;rw[u.2,o]
      .rw [X,u.1,a.1]
   .exact absurd (B.log A w).2.1 W
 .obtain ⟨v,a2,o,a4⟩:=K.room n h1;have f1:=K.vj (hF.sl false) aa h1;rcases a4 with a4|a4
  .exact absurd a4.1 T
  .have a:s'.ro.fr=s.ro.fr/\s'.ro.lz=s.ro.lz/\s'.ro.sl=false:=by rcases a2 with a2|a2<;>rw[a2] <;>exact⟨rfl,rfl,rfl⟩
   exact⟨f1.less aa,o,a.1,a.2.1,.inr (.inl ⟨a4.of rfl,a.2.2,v⟩)⟩
end
end
section
section
variable {g:au} {aw aw':Option Nat} {V:bW} {s:Rs}
theorem qs.nO{Q:Nat->Dk->Prop}{b:By}(h:qs aw Q b)(f:aw=none\/aw=aw'):qs aw' Q b:=by
 intro k i;obtain⟨d,a⟩:=h k i;rcases f with rfl|rfl
 .refine ⟨λe=>absurd (d e) (by intro e;cases e),λv c=>⟨(a v c).eG,λ_=>(a v c).mL (by intro e;cases e),(a v c).holds⟩⟩
 .exact ⟨d,a⟩
theorem Gt.nO(h:Gt g none V s){m:Nat}(a:m<g.M):Gt g (some m) V s:=
 ⟨⟨h.gd.dev.nO (.inl rfl),h.gd.N,h.gd.wt,λj r b=>(by have:=h.gd.dn j r b;cases this),λj e=>(by cases e;exact a),h.gd.par⟩,h.bq,h.aY⟩
def bh(b:By):Prop:=∀k,k<b.N->∃v,b.dv k=some v/\v.fO=false/\v.d.failed=false
theorem Gt.JP(h:Gt g aw V s)(f:bh s.b):qs none (el g s.ro (λ_ _=>True) s.ro.eU V λ_=>True) s.b:=by intro k b;obtain⟨l,c⟩:=h.gd.dev k b;obtain⟨v,d,i,j⟩:=f k b;exact⟨λe=>(by rw[d]at e;cases e),λu a=>⟨(c u a).eG,λ_=>(by rw[d]at a;cases a;exact⟨i,j⟩),(c u a).holds⟩⟩
theorem Gt.whole(h:Gt g aw V s)(a:bh s.b)(b:∀m r,s.ro.down m r=false):Gt g none V s:=
 ⟨⟨h.JP a,h.gd.N,h.gd.wt,λm r e=>(by rw[b m r]at e;cases e),λm e=>(by cases e),h.gd.par⟩,h.bq,h.aY⟩
theorem qs.fR{Q:Nat->Dk->Prop}{b:By}(h:qs none Q b):bh b:=λk c=>by
 obtain⟨d,f⟩:=h k c;cases a:b.dv k with
 |none=>have:=d a;cases this
 |some v=>exact⟨v,rfl,(f v a).mL (by intro e;cases e)⟩
theorem Gt.mark(h:Gt g aw V s){a:Ro}(c:a.wt=s.ro.wt)(f:∀m r,a.down m r=false->s.ro.down m r=false)(i:∀m r,a.down m r=true->aw=some m):Gt g aw V {s with ro:=a}:=by
 refine⟨⟨h.gd.dev.mono λj d _ k=>k.imp f (λ_ _ e=>e) λm r _ b=>?_,h.gd.N,λp b=>?_,i,h.gd.nw,h.gd.par⟩,h.bq,h.aY⟩
 .intro ⟨p,l,n,o⟩;exact b ⟨p,by rw[c];exact l,n,o⟩
 .have:p∈s.ro.wt:=by rw[<-c];exact b
  exact h.gd.wt p this
theorem Gt.put(h:Gt g aw V s){k:Nat}(a:aw=some k){v:Dv}(c:v.d.eG)(d:v.d.failed=false->js g s.ro (λ_ _=>True) s.ro.eU V k v.d):Gt g aw V {s with b:=s.b.put k v}:=by
 have m:=h.gd.nw k a;refine⟨⟨λj f=>?_,h.gd.N,h.gd.wt,h.gd.dn,h.gd.nw,h.gd.par⟩,h.bq,h.aY⟩;show((if j=k then some v else s.b.dv j)=none->aw=some j)/\∀u,(if j=k then some v else s.b.dv j)=some u->MN aw _ j u;by_cases e:j=k
 .rw [ak e];subst e;refine⟨λe=>(by cases e),λu i=>?_⟩;cases i;exact⟨c,λe=>absurd a e,λl=>⟨λ_=>d l,λ_=>trivial⟩⟩
 .rw [al e];exact h.gd.dev j f
theorem Gt.dead(h:Gt g aw V s){k:Nat}(a:aw=some k){v:Dv}(c:s.b.dv k=some v):Gt g aw V {s with b:=s.b.put k {v with d:=v.d.dead}}:=by refine h.put a (Dk.uZ ((h.gd.dev k (by rw[h.gd.N];have:=h.gd.nw k a;omega)).2 v c).eG) λe=>?_;have:true=false:=e;cases this
theorem Gt.fO(h:Gt g aw V s){k n:Nat}(a:aw=some k){v:Dv}(d:s.b.dv k=some v):Gt g aw V {s with b:=s.b.put k {v with fO:=true,left:=n}}:=by have e:=h.gd.nw k a;have c:=(h.gd.dev k (by rw[h.gd.N];omega)).2 v d;exact h.put a c.eG λf=>(c.holds f).1 e
theorem Dk.rz(n:Nat):(Dk.fresh n).eG:=⟨λ_ _ _=>by show 0<256;omega,λi a=>absurd a (SD i)⟩
theorem Gt.swap(h:Gt g aw V s){k n:Nat}(c:aw=some k)(i:∀r,s.ro.down k r=true):Gt g aw V {s with b:=s.b.put k ⟨Dk.fresh n,false,0⟩}/\bh (s.b.put k ⟨Dk.fresh n,false,0⟩):=by
 refine⟨h.put c (Dk.rz n) λ_=>⟨λr _ e=>(by rw[i r]at e;cases e),λr _ _ e=>absurd trivial e⟩,λj l=>?_⟩;show∃v,(if j=k then some _ else s.b.dv j)=some v/\_;by_cases e:j=k
 .rw [ak e];exact⟨_,rfl,rfl,rfl⟩
 .rw [al e];obtain⟨m,o⟩:=h.gd.dev j l;have a:aw≠some j:=λd=>e (by rw[c]at d;cases d;rfl);cases f:s.b.dv j with
  |none=>exact absurd (m f) a
  |some v=>exact⟨v,rfl,(o v f).mL a⟩
def GP(g:au)(a:Ro)(V:bW)(m p k j:Nat)(d:Dk):Prop:=
 el g a (λ_ _=>True) a.eU V (λ_=>True) j d/\(j=m->∀r,p<=r->r<p+k->aC (d.view (1+r)) (V m r))
theorem DL{h:Ro}{m p k:Nat}{f:aO}(o:m<g.M)(l:∀j,j<128->f j<256)(i:aC f (V m (p+k))):eT (GP g h V m p k) (GP g h V m p (k+1)) (m,aN (1+(p+k)) f):=by
 refine dO l (λd a=>⟨⟨λb=>(a.1.1 b).wr trivial i λj n=>.inr n,a.1.2⟩,λ_ r b q=>?_⟩) λj d c a=>⟨a.1,λe=>absurd e c⟩;rw[Dk.eD];by_cases e:r=p+k
 .rw [ak J,e];exact i
 .rw [al J];exact a.2 rfl r b J
theorem Lit.NO{Q:Nat->Dk->Prop}{b:By}(h:Lit none Q b)(d:b.aY=none){l:List Nat}(e:∀k,k∈l->k<b.N):(b.bK l).2.2=0/\Lit none Q (b.bK l).1:=by
 have c:=Lit.run (aw:=none) (l.map KK) (λ_=>Q) b h λi a f=>by obtain⟨j,m,n⟩:=SA.1 (RF f);subst n;exact⟨e j m,pw _ j⟩
 rw[<-By.ek]at c;rcases c with⟨o,h1⟩|⟨-,h1,-⟩|⟨-,h1,-⟩
 .exact ⟨o,h1⟩
 .cases h1
 .exact absurd d h1
theorem Lit.Pb{Q Q':Nat->Dk->Prop}{b:By}(h:Lit none Q b)(c:b.aY=none){a:fL}(d:a.1<b.N)(e:eT Q Q' a):(b.op a.1 a.2).2=0/\Lit none Q' (b.op a.1 a.2).1:=by
 rcases h.op d e with h1|⟨-,h1,-⟩|⟨-,h1,-⟩
 .exact h1
 .cases h1
 .rw [c]at h1;cases h1
theorem Gt.NP(h:Gt g aw V s){b:By}(a:qs none (el g s.ro (λ_ _=>True) s.ro.eU V λ_=>True) b)(c:b.N=s.b.N):Gd g aw V (λ_ _=>True) (λ_=>True) {s with b:=b}:=
 h.gd.set (a.nO (.inl rfl)) c
theorem Gt.lay(h:Gt g aw V s)(v:bh s.b){m p:Nat}(f:m<g.M):∀k,(∀i,i<k->p+i<g.R)->(cG g s.ro m p s.b k).2.2=0/\(cG g s.ro m p s.b k).1.aY=none/\Lit none (GP g s.ro V m p k) (cG g s.ro m p s.b k).1
 |0,_=>⟨rfl,h.aY,h.bq,(h.JP v).mono λj d _ o=>⟨o,λ_ r K L=>J⟩⟩
 |k+1,w=>by
  obtain⟨D,q,t⟩:=Gt.lay h v f k λi O=>w i J;have x:=ib (g:=g) (ro:=s.ro) (m:=m) (p:=p) (b:=s.b) k;have y:=w k J;obtain⟨b,z⟩:=ah ((cG g s.ro m p s.b k).1);have n:b.N=g.M+1:=by rw[<-z,x,h.gd.N]
  obtain⟨u,A⟩:=Lit.NO t q (l:=dK g.M s.ro m (p+k)) λj c=>by rw[x,h.gd.N];have:=(sN h.gd.dn f j c).1;omega
  rw[cG,al (by rw[D];exactλe=>e rfl),al (by rw[u];exactλe=>e rfl)];rw[z]at q t u A|-;have E:=h.NP (t.dev.mono λj d _ o=>o.1) (by rw[n,h.gd.N]);have B:aC (dS g.M b s.ro m (p+k)) (V m (p+k)):=E.dS f y λj c=>By.lH u j c;have C:(b.bK (dK g.M s.ro m (p+k))).1.aY=none:=by rw[By.ek];exact By.ec q _
  obtain⟨F,G⟩:=Lit.Pb A C (a:=(m,aN (1+(p+k)) (dS g.M b s.ro m (p+k)))) (by show m<_;rw[By.oR,n];omega) (DL f (λj c=>by rw[B j c];exact h.gd.par.lt _ _ _ f y c) B);exact⟨F,By.cX C,G⟩
theorem js.JQ{i c:Ro}{b a:Nat->Nat->Prop}{m:Nat}{d:Dk}(h:js g i (λ_ _=>True) b V m d)(k:∀r,¬a m r->¬b m r)(l:∀r,r<g.R->c.down m r=false->i.down m r=false\/aC (d.view (1+r)) (V m r)):js g c (λ_ _=>True) a V m d:=by
 refine⟨λr j n o=>?_,λr _ _ e=>absurd trivial e⟩;rcases l r j n with f|f
 .exact h.view r j f (k r o)
 .exact f
theorem Gt.JQ(h:Gt g aw V s)(C:bh s.b){m p:Nat}(D:m<g.M)(E:∀i,i<g.c->p+i<g.R){f:By}{k v:Nat}(n:gE g s.ro m p s.b=(f,k,v)):
  v=0/\Gt g aw V {s with b:=f}/\bh f/\∀ro:Ro,ro.wt=s.ro.wt->(∀j r,r<g.R->ro.down j r=false->s.ro.down j r=false\/(j=m/\p<=r/\r<p+g.c))->(∀j r,ro.down j r=true->aw=some j)->Gt g aw V {s with b:=f,ro:=ro}:=by
 obtain⟨F,A,G⟩:=h.lay C D g.c E;unfold gE at n;rw[al (by rw[F];exactλe=>e rfl)]at n;have B:=ib (g:=g) (ro:=s.ro) (m:=m) (p:=p) (b:=s.b) g.c;obtain⟨w,l⟩:=Lit.Pb G A (a:=(m,ba)) (Q':=GP g s.ro V m p g.c) (by show m<_;rw[B,h.gd.N];omega) (e' (λd c=>⟨⟨λe=>(c.1.1 e).fl,λ_=>trivial⟩,λe r u x=>by rw[Dk.hY];exact c.2 e r u x⟩) λ_ _ _ e=>e);have y:((cG g s.ro m p s.b g.c).1.op m ba).1=f:=congrArg Prod.fst n;have K:((cG g s.ro m p s.b g.c).1.op m ba).2=v:=congrArg (λz=>z.2.2) n;simp only at w l;rw[K]at w;rw[y]at l;have o:f.N=s.b.N:=by rw[<-y,By.fp,B]
 have t:f.aY=none:=by rw[<-y];exact By.cX A
 refine⟨w,⟨h.NP (l.dev.mono λj d _ c=>c.1) o,l.bq,t⟩,l.dev.fR,λro u x L=>⟨⟨?_,o.trans h.gd.N,λq c=>h.gd.wt q (by rw[<-u];exact c),L,h.gd.nw,h.gd.par⟩,l.bq,t⟩⟩;refine qs.nO (aw:=none) (l.dev.mono λj d _ c=>⟨λO=>(c.1.1 O).JQ (λr n=>?_) λr P Q=>?_,λ_=>trivial⟩) (.inl rfl)
 .intro ⟨q,S,T,U⟩;exact n ⟨q,by rw[u];exact S,T,U⟩
 .rcases x j r P Q with e|⟨W,X,Z⟩
  .exact .inl e
  .subst W;exact .inr (c.2 rfl r X Z)
end
end
section
theorem js.L_{g:au}{o:Ro}{c b:Nat->Nat->Prop}{V:bW}{m:Nat}{d:Dk}{f:aO}(h:js g o c b V m d):js g o c b V m (d.wr 0 f):=by
 refine⟨λr k l n=>?_,λr k l n=>?_⟩
 .rw [Dk.eD,al J];exact h.view r k l n
 .obtain ⟨p,q⟩:=h.last r k l n;refine⟨p,λi t j=>?_⟩;have u:i<d.cn+1:=t;have a:(if i=d.cn then 0 else d.cat i)=1+r:=j;show aC (if i=d.cn then f else d.bQ i) _;by_cases e:i=d.cn
  .rw [ak e]at a;omega
  .rw [al e]at a|-;exact q i J a
theorem gK{g:au}{u:Su}{a:fL}(h:a∈eC g u):∃k,(k=g.M\/(k<g.M/\u.st k≠2))/\(a=dw g u k\/a=di k):=by
 unfold eC at h;simp only[TV,UR,List.not_mem_nil,or_false,SA]at h;have c:∀k,k∈qu g u g.M->k<g.M/\u.st k≠2:=λk b=>by have:=bz.1 b;simpa using this
 rcases h with(rfl|rfl)|⟨k,b,rfl⟩|⟨k,b,rfl⟩
 .exact ⟨g.M,.inl rfl,.inl rfl⟩
 .exact ⟨g.M,.inl rfl,.inr rfl⟩
 .exact ⟨k,.inr (c k b),.inl rfl⟩
 .exact ⟨k,.inr (c k b),.inr rfl⟩
theorem sS{g:au}{aw:Option Nat}{Q:Nat->Dk->Prop}{b:By}{u:Su}(y:Lit aw Q b)(m:b.aY=none)(z:b.N=g.M+1)(v:aw≠some g.M)(w:∀k,k<g.M->u.st k≠2->aw≠some k)(A:∀j d f,Q j d->Q j (d.wr 0 f))(n:∀j d,Q j d->Q j (d.settled λ_=>true)):
  (b.run (eC g u)).2.2=0/\Lit aw Q (b.run (eC g u)).1/\(b.run (eC g u)).1.aY=none/\(b.run (eC g u)).1.N=g.M+1:=by
 have x:=Lit.run (aw:=aw) (eC g u) (λ_=>Q) b y λi a B=>by
  obtain⟨k,l,e⟩:=gK (RF B);rcases e with rfl|rfl
  .exact ⟨by show k<b.N;omega,dO (λj _=>nZ _ _ j) (λd h=>A _ _ _ h) λ_ _ _ h=>h⟩
  .exact ⟨by show k<b.N;omega,e' (λd h=>n _ _ h) λ_ _ _ h=>h⟩
 refine⟨?_,?_,By.ec m _,by rw[By.fU,z]⟩
 .rcases x with⟨c,-⟩|⟨c,h1,-⟩|⟨-,h1,-⟩
  .exact c
  .exfalso;obtain⟨a,o,p⟩:=By.hN c.ne;obtain⟨k,l,e⟩:=gK o;have q:a.1=k:=by rcases e with rfl|rfl<;>rfl
   rw[<-p,q]at h1;rcases l with rfl|⟨r,t⟩
   .exact v h1
   .exact w k r t h1
  .exact absurd m h1
 .rcases x with⟨-,c⟩|⟨c,h1,-⟩|⟨-,h1,-⟩
  .exact c
  .exfalso;obtain⟨a,o,p⟩:=By.hN c.ne;obtain⟨k,l,e⟩:=gK o;have q:a.1=k:=by rcases e with rfl|rfl<;>rfl
   rw[<-p,q]at h1;rcases l with rfl|⟨r,t⟩
   .exact v h1
   .exact w k r t h1
  .exact absurd m h1
section
variable {g:au} {aw:Option Nat} {V:bW} {s:Rs}
theorem el.L_{c:Ro}{b a:Nat->Nat->Prop}{j:Nat}{d:Dk}(f:aO)(h:el g c b a V (λ_=>True) j d):el g c b a V (λ_=>True) j (d.wr 0 f):=⟨λe=>(h.1 e).L_,λ_=>trivial⟩
theorem el.fl{c:Ro}{b a:Nat->Nat->Prop}{j:Nat}{d:Dk}(h:el g c b a V (λ_=>True) j d):el g c b a V (λ_=>True) j (d.settled λ_=>true):=⟨λe=>(h.1 e).fl,λ_=>trivial⟩
theorem Gt.NQ(h:Gt g aw V s){u:Su}(i:∀k,k<g.M->u.st k≠2->aw≠some k):(s.b.run (eC g u)).2.2=0/\Gt g aw V {s with b:=(s.b.run (eC g u)).1}:=by obtain⟨l,c,m,n⟩:=sS h.lit h.aY h.gd.N (λe=>absurd (h.gd.nw _ e) (UA _)) i (λj d f a=>a.L_ f) λj d a=>a.fl;exact⟨l,h.gd.set c.dev (by rw[n,h.gd.N]),c.bq,m⟩
theorem Gt.NR(h:Gt g aw V s)(i:bh s.b)(u:Su):(s.b.run (eC g u)).2.2=0/\Gt g aw V {s with b:=(s.b.run (eC g u)).1}/\bh (s.b.run (eC g u)).1:=by obtain⟨k,a,l,m⟩:=sS (aw:=none) (u:=u) ⟨h.bq,h.JP i⟩ h.aY h.gd.N (by intro e;cases e) (λ_ _ _ e=>by cases e) (λj d f c=>c.L_ f) λj d c=>c.fl;exact⟨k,⟨h.gd.set (a.dev.nO (.inl rfl)) (by rw[m,h.gd.N]),a.bq,l⟩,a.dev.fR⟩
end
structure Inv[Lo](w:QL)(Z:bg)(g:au)(aw:Option Nat)(V:bW)(C:Nat)(s:Rs)(u:Su):Prop where
 ay:cY w Z g s u false
 gt:Gt g aw V s
 eK:u.ok g
 ob:∀m,s.ro.fr m=if m<g.M then dL g u m else none
 only:∀m,m<g.M->u.st m≠1->aw=some m
 fR:(∃m,m<g.M/\u.st m=3)->bh s.b
 fit:Fit g C s
 ev:u.ev+C<=4611686018427387904
 same:u.N=s.x.N/\u.lz=s.ro.lz/\u.lost=false
 qv:u.N=Z.N/\u.lz=Z.lz
structure kH[Lo](w:QL)(Z:bg)(g:au)(aw:Option Nat)(V:bW)(C:Nat)(s:Rs)(u:Su):Prop where
 ay:cY w Z g s u false
 gt:Gt g aw V s
 eK:u.ok g
 ob:∀m,s.ro.fr m=if m<g.M then dL g u m else none
 only:∀m,m<g.M->u.st m≠1->aw=some m
 fit:Fit g C s
 ev:u.ev+C<=4611686018427387904
 same:u.N=s.x.N/\u.lz=s.ro.lz/\u.lost=false
 qv:u.N=Z.N/\u.lz=Z.lz
theorem Inv.DM[Lo]{w:M}{Z:bg}{g:au}{aw:Option Nat}{V:bW}{C:Nat}{s:Rs}{u:Su}(h:Inv w Z g aw V C s u):kH w Z g aw V C s u:=⟨h.ay,h.gt,h.eK,h.ob,h.only,h.fit,h.ev,h.same,h.qv⟩
theorem jv{g:au}{u:Su}{ro:Ro}(h:∀m,g.M<=m->ro.fr m=none)(m:Nat):(ro.marks g u g.M).fr m=if m<g.M then dL g u m else none:=by
 show(if m<g.M then dL g u m else ro.fr m)=_;by_cases e:m<g.M
 .rw [ak e,ak e]
 .rw [al e,al e];exact h m J
theorem yT{b a:Ro}{m r:Nat}(h:b.fr m=a.fr m):b.down m r=a.down m r:=by unfold Ro.down;rw[h]
def Su.drop(u:Su)(m:Nat):Su:={u with st:=λk=>if k=m then 2 else u.st k,cur:=0}
theorem Su.jN{g:au}{u:Su}(h:u.ok g)(m:Nat):(u.drop m).ok g:=by
 have j:=h.bZ.s1;refine⟨h.bZ,h.id,h.ev,h.rl,h.ring,λk l=>?_,λa b n o p q=>?_,⟨j,λe=>absurd rfl e⟩⟩
 .show (if k=m then 2 else u.st k)=1\/(if k=m then 2 else u.st k)=2\/(if k=m then 2 else u.st k)=3;by_cases e:k=m
  .rw [ak e];exact .inr (.inl rfl)
  .rw [al e];exact h.st k l
 .have c:(if a=m then 2 else u.st a)=3:=p;have d:(if b=m then 2 else u.st b)=3:=q;by_cases f:a=m
  .rw [ak f]at c;omega
  .by_cases i:b=m
   .rw [ak i]at d;omega
   .rw [al f]at c;rw[al i]at d;exact h.one a b n o c d
end
theorem cY.state[Lo]{Z:bg}(h:cY w Z g s u d)(m x:Nat):
  cY (w.setCell (R Z.sb m) (bs x)) Z g s {u with st:=λk=>if k=m then x else u.st k} d/\Fr [122] aF w (w.setCell (R Z.sb m) (bs x)):=by
 obtain⟨q,c,i⟩:=h.arr.uY;have a:Fr [122] aF w (w.setCell (R Z.sb m) (bs x)):=(Fr.refl _ _ _).set (p:=R Z.sb m) c rfl h.arr.lo.2 _;obtain⟨b,j,l⟩:=h.arr.aL;refine⟨⟨⟨⟨b,j,a.hp l rfl⟩,⟨_,heap_setCell_same w Z.sb m _ _ (bs x) c,λk n=>?_⟩,h.arr.lo⟩,h.rs.fr a rfl⟩,a⟩;have f:=i k n;have o:=(RM.1 f).1;by_cases e:k=m
 .subst e;simp[o]
 .rw [Array.getElem?_setIfInBounds_ne (Ne.symm e),f];simp[e]
theorem Fr.JR[Lo]{Z:bg}(h:Fr [122] aF w W):iI Z w W:=(h.any).wide JC rfl
structure Ma[Lo](Z:bg)(g:au)(m:Nat)(V:bW)(C:Nat)(s:Rs)(u:Su)(w:M)(w':M)(s':Rs)(u':Su):Prop where
 inv:Inv w' Z g (some m) V C s' u'
 down:u'.st m=2
 x:s'.x=s.x
 wt:s'.ro.wt=s.ro.wt
 sl:s'.ro.sl=s.ro.sl
 lz:s'.ro.lz=s.ro.lz
 id:u'.id=u.id
 bU:iI Z w w'
 dv:s'.b.dv m=s.b.dv m
def DN[Lo](Z:bg)(g:au)(m:Nat)(V:bW)(C:Nat)(s:Rs)(u:Su)(w:M)(e:SG)(a:M):Prop:=
 aK e (.tuple #[])/\∃b c,Ma Z g m V C s u w a b c
theorem vk(h:Fit g C s)(i:1000<=C)(u:Su)(c:g.ok):Fit g (C-1000) {s with b:=(s.b.run (eC g u)).1}:=by
 have d:(eC g u).length<=60:=by have j:=lI c u g.M (QP _);unfold eC;simp only[RE,RL,SQ,WG];omega
 exact(h.run (n:=60) d J (λa f v=>by
  obtain⟨k,-,e⟩:=gK f;rcases e with rfl|rfl
  .exact ey _ _ v
  .exact sF k v) (b':=(s.b.run (eC g u)).1) (k:=(s.b.run (eC g u)).2.1) (er:=(s.b.run (eC g u)).2.2) rfl).less J
theorem Fit.ro(h:Fit g C s)(a:o.wt=s.ro.wt):Fit g C {s with ro:=o}:=
 ⟨h.bZ,h.N,h.mem,h.gB,h.bad,h.cA,by show o.wt.length<=5000;rw[a];exact h.iG,λp b=>h.wt p (by rw[<-a];exact b),by show(o.wt.map _).Nodup;rw[a];exact h.mB⟩
theorem Fit.Pc(h:Fit g C s)(f:1000<=C):KP s.b:=by
 intro k v b a;rw[h.N]at b;by_cases e:k=g.M
 .subst e;obtain⟨c,d⟩:=h.gB v a;omega
 .obtain ⟨c,d⟩:=h.mem k v J a;omega
theorem xy(a:Ro)(g:au)(u:Su):(a.marks g u g.M).marks g u.told g.M=a.marks g u g.M:=by
 unfold Ro.marks;congr 1;funext j;show(if j<g.M then dL g u.told j else if j<g.M then dL g u j else a.fr j)=_;by_cases e:j<g.M
 .rw [ak e,ak e];rfl
 .rw [al e,al e]
theorem By.vl{b:By}{j:Nat}:∀{l:List fL},(∀a,a∈l->a.1≠j)->(b.run l).1.dv j=b.dv j
 | [],_=>rfl
 |a::e,h=>by
  have c:=By.dN (b:=b) (k:=a.1) a.2 (Ne.symm (h a SO));simp only[By.run];split
  .exact (By.vl λx d=>h x (SY _ d)).trans c
  .exact c
theorem DO{V:bW}(i:Gt g (some m) V s)(l:m<g.M)(c:∀m,s.ro.fr m=if m<g.M then dL g u m else none)(only:∀k,k<g.M->u.st k≠1->some m=some k):
  Gt g (some m) V {s with ro:=s.ro.marks g (u.drop m) g.M}/\(s.b.run (eC g (u.drop m).tell)).2.2=0/\Gt g (some m) V {s with b:=(s.b.run (eC g (u.drop m).tell)).1,ro:=s.ro.marks g (u.drop m) g.M}:=by
 have d:∀j,(s.ro.marks g (u.drop m) g.M).fr j=if j=m then some 0 else s.ro.fr j:=λj=>by
  rw[jv (λk n=>by rw[c k,al J])];by_cases e:j=m
  .subst e;rw[ak l,ak rfl];unfold dL Su.drop;simp
  .rw [al e,c j];by_cases f:j<g.M
   .rw [ak f,ak f];have h:u.st j=1:=by
     by_cases q:u.st j=1
     .exact q
     .exact absurd (RT (only j f q)).symm e
    unfold dL Su.drop;simp[e,h]
   .rw [al f,al f]
 have h:Gt g (some m) V {s with ro:=s.ro.marks g (u.drop m) g.M}:=by
  refine i.mark rfl (λj r a=>?_) λj r a=>?_
  .unfold Ro.down at a|-;rw[d j]at a;by_cases e:j=m
   .rw [ak e]at a;simp at a
   .rw [al e]at a;exact a
  .unfold Ro.down at a;rw[d j]at a;by_cases e:j=m
   .rw [e]
   .rw [al e]at a;exact i.gd.dn j r a
 obtain⟨o,p⟩:=h.NQ (u:=(u.drop m).tell) (λk n t e=>by cases e;exact t (ak rfl));exact⟨h,o,p⟩
theorem jN[Lo](Z:bg)(g:au)(m:Nat)(V:bW)(C:Nat)(s:Rs)(u:Su)(w:QL)(h:kH w Z g (some m) V C s u)(P:m<g.M)(A:u.st m≠2)(Q:1000<=C):
  aD 117 #[aq Z.A,ae m] w (DN Z g m V (C-1000) s u w):=by
 have a7:=h.eK.bZ.m16;have J:=h.ay.arr.st P;obtain⟨a0,S,T⟩:=h.ay.arr.aL;obtain⟨k0,f0,z0⟩:=cr T;obtain⟨a1,o,-⟩:=h.ay.arr.uY;obtain⟨b0,b1,b2⟩:=cr o;obtain⟨x,U⟩:=ah (u.st m);rw[U]at J A;have a2:¬(x:Int)=2:=aa;obtain⟨B,W⟩:=h.ay.state m 2;obtain⟨X,f,p⟩:=B.arr.aL;obtain⟨t1,t2,t3⟩:=B.set f p 12 (ae ((0:Nat):Int)) (u':=u.drop m) (yg':=false) rfl rfl;obtain⟨H,c⟩:=ah ((w.setCell (ag Z.sb m) (.int .u8 ((2:Nat):Int))).setCell (ag Z.A 12) (ae ((0:Nat):Int)));rw[c]at t1 t2 t3;have c:(w.setCell (ag Z.sb m) (.int .u8 2)).setCell (ag Z.A 12) (ae 0)=H:=c;have D:=ad c;have b:=ad h;have l:=aM t1 W t2;have a3:=h.ay.arr.ne;clear T p B W t1 t2 c U b0 h;go_enter func117,ntmps117;go_wp2;go_loop [23] (λi=>∃k:Nat,i= ae k/\k<=g.M) (λi=>g.M-(intOf i).toNat)
 case atStart=>exact⟨0,rfl,QX _⟩
 case round=>
  obtain⟨k,rfl,a4⟩:=hrel;by_cases r:k<g.M
  .have N:=b.ay.arr.st r;by_cases e:k=m
   .subst e;clear N;go_wp2;go_round
    case rel=>exact⟨k+1,by go_num,aa⟩
    case measure=>simp[intOf];omega
   .have e2:¬(k:Int)=(m:Int):=aa;have M:u.st k=1:=by
     by_cases q:u.st k=1
     .exact q
     .exact absurd (RT (b.only k r q)) (Ne.symm e)
    rw[M]at N;clear e M;go_wp2;exact⟨⟨_,_,_,⟨k+1,by go_num,aa⟩,rfl,rfl,rfl⟩,by simp[intOf];omega⟩
  .obtain rfl:k=g.M:=aa;obtain⟨d1,d2,d3⟩:=DO b.gt P b.ob b.only;have R:=aM d1 d2 d3;have E:=ad (nY Z g s (u.drop m) false H l.1 (Su.jN b.eK m));clear d1 d2 d3;go_wp2_with fail;rw[D.out];refine E.mono ?_;rintro e F ⟨rfl,t,n⟩;have I:RH (cY F Z g {s with ro:=s.ro.marks g (u.drop m) g.M} (u.drop m) false/\iI Z w F):=⟨⟨l.1.arr.out n l.1.rs.row.fy l.1.rs.lo.2,l.1.rs.mark t n⟩,((Fr.JR l.2.1).trans (Fr.DJ l.2.2)).trans (Fr.wi (n.mono λk _ e=>e))⟩;have d:=b.ev;have G:=ad (ju Z g {s with ro:=s.ro.marks g (u.drop m) g.M} (u.drop m) false F I.1 (Su.jN b.eK m) (show u.ev<_ by omega) b.same.2.2 (b.fit.Pc Q) b.fit.N R.2.1);clear t n d;go_wp2_with(go_at_call 121;refine G.mono ?_;rintro e w3 ⟨rfl,t,n⟩;have a5:=aA t n;clear t n);go_end0;obtain⟨Y,r2⟩:=a5.out;have K:((s.ro.marks g (u.drop m) g.M).marks g (u.drop m).told g.M)=s.ro.marks g (u.drop m) g.M:=xy s.ro g (u.drop m);simp only[K]at Y;have d:=b.ev;refine⟨rfl,_,_,⟨⟨Y,R.2.2,Su.oa (Su.jN b.eK m) (show u.ev<_ by omega),λj=>?_,λj L O=>?_,λ⟨j,L,O⟩=>?_,?_,by show u.ev+1+(C-1000)<=_;omega,b.same,b.qv⟩,ak rfl,rfl,rfl,rfl,rfl,rfl,I.2.trans r2,By.vl λa a6=>?_⟩⟩
   .exact jv (λk a4=>by rw[b.ob k,al aa]) j
   .by_cases e:j=m
    .rw [e]
    .exact b.only j L (by have:(if j=m then 2 else u.st j)≠1:=O;rw[al e]at this;exact this)
   .exfalso;have v:(if j=m then 2 else u.st j)=3:=O;by_cases e:j=m
    .rw [ak e]at v;omega
    .rw [al e]at v;have:=b.only j L aa;exact e (RT this).symm
   .exact (vk b.fit Q (u.drop m).tell b.eK.bZ).ro rfl
   .obtain ⟨k,y,z⟩:=gK a6;have e:a.1=k:=by rcases z with z|z<;>rw[z] <;>rfl
    rw[e];rcases y with y|⟨-,y⟩
    .omega
    .exact λq=>y (ak q)
theorem Inv.below[Lo]{Z:bg}{a:Option Nat}{V:bW}(h:Inv w Z g a V C s u)(b:ar w W):Inv W Z g a V C s u:=
 ⟨h.ay.below b,h.gt,h.eK,h.ob,h.only,h.fR,h.fit,h.ev,h.same,h.qv⟩
theorem Inv.less[Lo]{Z:bg}{a:Option Nat}{V:bW}(h:Inv w Z g a V C s u)(b:n<=C):Inv w Z g a V n s u:=
 ⟨h.ay,h.gt,h.eK,h.ob,h.only,h.fR,h.fit.less b,QO (Nat.add_le_add_left b _) h.ev,h.same,h.qv⟩
theorem ig[Lo](Z:bg)(g:au)(m:Nat)(V:bW)(C b:Nat)(s:Rs)(u:Su)(w:QL)(h:Inv w Z g (some m) V C s u)(B:m<g.M)(l:u.st m≠2)(E:1000<=C)(j:nN b):
  aD 111 #[aq Z.A,gV m b] w (DN Z g m V (C-1000) s u w):=by
 obtain⟨d,D,F,n,c,o⟩:=dQ w (N #[Y m,aG b] 172);obtain⟨d1,d2,d3⟩:=cr o;have p:¬(m:Int)=(g.M:Nat):=J;have G:((m:Int)==((g.M:Nat):Int))=false:=by rw[beq_eq_false_iff_ne];exact p
 have T:¬(b:Int)=50:=by rcases j with e|e<;>omega
 have y:=I (λW=>GB b W (by rcases j with e|e<;>omega));rw[show decide (b=2\/b=51)=true from decide_eq_true j]at y;have z:=I (λW (k:ar d W)=>eb Z g u false W ((h.below c).below k).ay.arr);have K:RH (∀W,ar d W->aD 117 #[aq Z.A,Y m] W (DN Z g m V (C-1000) s u w)):=λW k=>(jN Z g m V C s u W ((h.below c).below k).DM B l E).mono λe A ⟨L,O,P,q⟩=>⟨L,O,P,q.inv,q.down,q.x,q.wt,q.sl,q.lz,q.id,((iI.af c).then k).trans q.bU,q.dv⟩;rw[be _ j.ne];have f:=aA F n;go_enter func111,ntmps111;go_wp2_with fail
 try rw[f.1]
 try rw[f.2]
 refine(y _).mono ?_;rintro e U ⟨rfl,rfl⟩;go_wp2;go_quiet((go_at_call 107;exact Calls.quiet_of_same ((z _ (ct aj _)).mono λe A h=>⟨h.1,h.2.symm⟩)));have a:RH (ar d (d.drewN nq)):=ct aj _;obtain⟨r,t,v⟩:=kp a D d3;obtain⟨X,x⟩:=ah (d.drewN nq);rw[x]at a r t v|-;have i:=I a;go_wp2;go_quiet((go_at_call 107;exact Calls.quiet_of_same ((z _ (ct i _)).mono λe A h=>⟨h.1,h.2.symm⟩)));go_wp2_with(go_at_call 117;refine(K _ (ct i _)).mono ?_;rintro e H ⟨rfl,Q⟩;have S:=I Q);go_end0;exact⟨rfl,S⟩
structure KQ[Lo](Z:bg)(g:au)(cn:Nat)(fst cap:Array QN)(Sf:Bool->QL->Prop)(Qf:QL->Prop)(Tf:Nat->Nat->QL->Prop):Prop where
 enters:∀args w,(UY cn args).run prog w= .ok (.enter cn args) w
 call:∀q W,Sf q W->aD cn (fst++cap) W fun e w'=>∃k er,aK e (gV k er)/\((er=0/\Qf w')\/(q=false/\nN er/\k<g.M/\Tf k er w'))
 gV:∀k er W,nN er->Tf k er W->aD 111 #[H Z.A,gV k er] W fun e w'=>aK e (.tuple #[])/\Sf true w'
 arr:∀k er W,Tf k er W->∃u yg,lY W Z g u yg
 sb:∀q W W',Sf q W->ar W W'->Sf q W'
 qb:∀W W',Qf W->ar W W'->Qf W'
 tb:∀k er W W',Tf k er W->ar W W'->Tf k er W'
open Classical in
noncomputable def Pd (a:Bool->M->Prop)(w:M):Nat:=if a true w then 0 else 1
theorem pz[Lo](Z:bg)(g:au)(a0:g.M<=16)(B:Nat)(j l:Array QN)(a:Bool->QL->Prop)(C:QL->Prop)(L:Nat->Nat->QL->Prop)(H:KQ Z g B j l a C L)(E:Bool)(w:QL)(O:a E w):
  aD 101 #[aq Z.A,.func (.func B) j l] w λe o=>aK e dU/\C o:=by
 have a1:=H.enters;have i:=ad H;have r:RH (∃q,a q w):=⟨E,O⟩;go_enter func101,ntmps101;go_wp2;go_loopw [5] (λ_ wr=>RH (∃q,a q wr)) (λ_ wr=>Pd a wr)
 case atStart=>exact r
 case round=>
  have P:=hrel;obtain⟨q,F⟩:∃q,RH (a q wr/\(q=false->¬a true wr)):=by
   by_cases e:a true wr
   .exact ⟨true,e,λh=>by cases h⟩
   .obtain ⟨q,m⟩:=P.out;exact⟨q,m,λ_=>e⟩
  have Q:=ad (i.call q wr F.1);go_wp2_with fail;refine Q.mono ?_;rintro e s ⟨k,b,rfl,m⟩;rcases m with⟨rfl,S⟩|⟨rfl,G,a2,U⟩
  .have p:=ad (i.qb s _ S (aI aj (ao #[ae 0,aG 0] 172)));rw[de];go_wp2;go_ret;exact⟨rfl,p⟩
  .have c:b≠0:=G.ne;have a3:¬(b:Int)=0:=aa;have V:((k:Int)==((g.M:Nat):Int))=false:=by rw[beq_eq_false_iff_ne];omega
   obtain⟨f,D,X,t,v,x⟩:=dQ s (ao #[ae k,aG b] 172);have K:=ad (i.tb k b s f U v);obtain⟨u,N,y⟩:=i.arr k b f K;have M:=ad (λW (z:ar f W)=>eb Z g u N W (y.fr (T:= []) (Fr.af z) rfl rfl));have A:RH (∀W,ar f W->aD 111 #[aq Z.A,.agg #[ae k,aG b]] W λe o=>aK e (.tuple #[])/\a true o):=λW z=>by rw[<-be k c];exact i.gV k b W G (i.tb k b f W K z)
   obtain⟨d1,d2,d3⟩:=cr x;have n:=aA X t;rw[be k c];go_wp2
   try rw[n.1,n.2]
   go_quiet((go_at_call 107;exact Calls.quiet_of_same ((M _ (ct aj _)).mono λe o h=>⟨h.1,h.2.symm⟩)));have d:RH (ar f (f.drewN nq)):=ct aj _;obtain⟨R,I,Y⟩:=kp d D d3;go_wp2_with(go_at_call 111;refine(A _ d).mono ?_;rintro e w4 ⟨rfl,m⟩;have p:=ad m);refine⟨⟨true,p⟩,?_⟩;have J:=F.2 (by trivial);have h2:=p.out;unfold Pd;rw[ak h2,al J];omega
theorem sT[Lo](Z:bg)(g:au)(p:g.M<=16)(i:Nat)(a b:Array QN)(d:Bool->QL->Prop)(f:QL->Prop)(m:Nat->Nat->QL->Prop)(H:KQ Z g i a b d f m)(r:∀q W,d q W->∃u h,lY W Z g u h)(s:∀W,f W->∃u h,lY W Z g u h)(j:Bool)(w:QL)(n:d j w):
  aD 113 #[aq Z.A,.func (.func i) a b] w λe t=>aK e (.tuple #[])/\f t:=by
 have v:=I (pz Z g p i a b d f m H j w n);obtain⟨u,h,k⟩:=r j w n;obtain⟨C,-,x⟩:=k.aL;obtain⟨D,f0,E⟩:=cr x;go_enter func113,ntmps113;go_wp2_with(go_at_call 101;refine v.mono ?_;rintro e y ⟨rfl,o⟩;obtain⟨F,z,c⟩:=s y o;obtain⟨A,-,l⟩:=c.aL;obtain⟨G,K,L⟩:=cr l;have B:=I o);go_end0;exact⟨rfl,B⟩
section
def rA(a:Dv->Dv × Nat):Prop:=∀v:Dv,v.fO=false->v.d.failed=false->(a v).1.fO=false/\(a v).1.d.failed=false
theorem JS:rA bS:=λ_ a b=>⟨a,b⟩
theorem mN(a:Nat)(f:aO):rA (aN a f):=λv c b=>by rw[kF b];exact⟨c,b⟩
theorem pA:rA ba:=λv b a=>by rw[kG a];exact⟨b,a⟩
theorem bh.op{b:By}(h:bh b){k:Nat}{a:Dv->Dv × Nat}(l:rA a):bh (b.op k a).1:=by
 intro j i;rw[By.fp]at i;obtain⟨v,d,c,f⟩:=h j i;by_cases e:j=k
 .subst e;unfold By.op;split
  .refine ⟨v,?_,c,f⟩;unfold By.off;split<;>exact d
  .rw [d];simp only;rw[Dv.hM c];exact⟨_,ak rfl,l v c f⟩
 .exact ⟨v,by rw[By.dN a e];exact d,c,f⟩
theorem bh.run:∀(l:List fL) {b:By},bh b->(∀a,a∈l->rA a.2)->bh (b.run l).1
 | [],_,h,_=>h
 |a::d,b,h,c=>by
  simp only[By.run];split
  .exact bh.run d (h.op (c a SO)) λx e=>c x (SY _ e)
  .exact h.op (c a SO)
theorem bh.bK{b:By}(h:bh b)(l:List Nat):bh (b.bK l).1:=by rw[By.ek];exact h.run _ λa c=>by obtain⟨j,-,rfl⟩:=SA.1 c;exact JS
theorem bh.dq{b:By}(h:bh b){J:Nat}{pl:aO}{sf:dj}:∀n,bh (b.dq J pl sf n).1
 |0=>h
 |n+1=>by
  unfold By.dq;split
  .exact (bh.dq h n).op (mN _ _)
  .exact bh.dq h n
theorem bh.iF{b:By}(h:bh b){J:Nat}{a:aO}{c:dj}(n:Nat):bh (b.iF J a c n).1:=by
 unfold By.iF;split
 .exact (h.dq n).op pA
 .exact h.dq n
theorem bh.ck{b:By}(h:bh b){J:Nat}{f:aO}:bh (b.ck J f).1:=by
 unfold By.ck;split
 .exact (h.op (mN _ _)).op pA
 .exact h.op (mN _ _)
section
variable {g:au} {s s':Rs} {k er:Nat}
theorem bh.gJ(h:bh s.b)(b:dt s s' k er):bh s'.b:=by
 obtain⟨l,-,c,-⟩:=b;have:=h.run ((fM s.ro l).map ha) λa d=>by obtain⟨j,-,rfl⟩:=SA.1 d;exact mN _ _
 rw[c]at this;exact this
theorem bh.finish(h:bh s.b)(a:cz s s' k er):bh s'.b:=by
 unfold cz at a;split at a
 .exact h.gJ a
 .rw [a.1];exact h
theorem bh.synced(h:bh s.b):bh (s.synced g).1.b:=by
 unfold Rs.synced;split
 .exact h
 .exact h.op pA
theorem bh.settle(h:bh s.b)(a:bV g s s' k er):bh s'.b:=by
 unfold bV at a;split at a
 .exact (h.synced (g:=g)).finish a
 .rw [a.1];exact h.synced
theorem bh.gg(h:bh s.b)(b:eA g s s' k er):bh s'.b:=by
 have:=h.run ((oX g s.ro).map di) λa c=>by obtain⟨j,-,rfl⟩:=SA.1 c;exact pA
 rw[b.1]at this;exact this
theorem bh.ie(h:bh s.b)(a:gy g s s' k er):bh s'.b:=by rw[a.1];exact h.ck
theorem bh.then'{p q:Rs->Rs->Nat->Nat->Prop}(c:∀{a b:Rs} {k er:Nat},bh a.b->p a b k er->bh b.b)(d:∀{a b:Rs} {k er:Nat},bh a.b->q a b k er->bh b.b)(h:bh s.b)(e:ly p q s s' k er):bh s'.b:=by
 rcases e with⟨i,j,h1,f⟩|⟨h1,-⟩
 .exact d (c h h1) f
 .exact c h h1
theorem bh.empty(h:bh s.b)(c:gz g s s' k er):bh s'.b:=
 bh.then' (λa b=>a.settle b) (λa b=>bh.then' (λa b=>a.gg b) (λa b=>a.ie b) a b) h c
theorem bh.room{B:bp}(h:bh s.b)(a:ea g B s s' k er):bh s'.b:=by
 unfold ea at a;split at a
 .rw [a.1];exact h
 .exact h.empty a
theorem bh.lC(h:bh s.b)(a:Proofs.YtbimjlmclegaeaaGreat.lC g s s' k er):bh s'.b:=by
 unfold Proofs.YtbimjlmclegaeaaGreat.lC at a;split at a
 .rw [a.1];exact h
 .exact h.settle a
theorem bh.write{B:bp}(h:bh s.b)(d:gD g B s s' k er):bh s'.b:=by
 refine bh.then' (s:=s.fG) (λa b=>a.room b) (λ{a b k er} c e=>?_) h d;rcases e with⟨-,f,-⟩|⟨-,j,-,i⟩
 .rw [f];exact c.bK _
 .refine bh.then' (s:={a with b:=(a.jm g B).1}) (λa b=>?_) (λa b=>bh.then' (λa b=>a.gJ b) (λa b=>bh.then' (λa b=>?_) (λa b=>a.lC b) a b) a b) (c.bK _) i
  .rw [b.1];exact a.iF _
  .rw [b.1];exact a.op (mN _ _)
end
end
section
def ny(aw:Option Nat)(s:Rs):Prop:=∀m,aw=some m->∀r,s.ro.down m r=true
theorem ny.no{g:au}{aw:Option Nat}{s s':Rs}{k c:Nat}(h:ny aw s)(a:tC g aw s.ro s' k c):False:=by obtain⟨r,b⟩:=a.hit;rw[h k a.slot r]at b;cases b
section
variable [Lo] {w w':QL} {Z:bg} {g:au} {aw:Option Nat} {V V':bW} {C C':Nat} {s s':Rs} {u:Su}
theorem Inv.rows(h:Inv w Z g aw V C s u)(b:cq w' Z.R Z.B Z.W Z.r g Z.fb s')(f:Fr iH aF w w')(i:Gt g aw V' s')(a:Fit g C' s')(c:s'.ro.fr=s.ro.fr)(d:s'.ro.lz=s.ro.lz)(j:s'.x.N=s.x.N)(k:bh s.b->bh s'.b)(l:C'<=C):Inv w' Z g aw V' C' s' u:=
 ⟨⟨h.ay.arr.fr f rfl rfl,b⟩,i,h.eK,λm=>by rw[c];exact h.ob m,h.only,λe=>k (h.fR e),a,QO (Nat.add_le_add_left l _) h.ev,⟨h.same.1.trans j.symm,h.same.2.1.trans d.symm,h.same.2.2⟩,h.qv⟩
theorem Inv.down(h:Inv w Z g aw V C s u){m:Nat}(a:m<g.M)(b:u.st m=2)(r:Nat):s.ro.down m r=true:=by unfold Ro.down;rw[h.ob m,ak a];unfold dL;simp[b]
theorem Inv.hit(h:Inv w Z g aw V C s u){k d:Nat}{f:Rs}(a:tC g aw s.ro f k d):k<g.M/\u.st k≠2:=by have b:=h.gt.gd.nw k a.slot;refine⟨b,λe=>?_⟩;obtain⟨r,c⟩:=a.hit;rw[h.down b e r]at c;cases c
theorem Inv.quiet{m:Nat}(h:Inv w Z g (some m) V C s u)(a:u.st m=2):ny (some m) s:=λk e r=>by cases e;exact h.down (h.gt.gd.nw _ rfl) a r
end
structure rB[Lo](Z:bg)(g:au)(aw:Option Nat)(V:bW)(C:Nat)(P Qr:Rs->Prop)(cn:Nat)(step:Rs->Rs->Nat->Nat->Prop):Prop where
 enters:∀args w,(UY cn args).run prog w= .ok (.enter cn args) w
 call:∀C' W s,C-30000<=C'->cq W Z.R Z.B Z.W Z.r g Z.fb s->Fit g C' s->aD cn #[H Z.R] W (gW Z.R Z.B Z.W Z.r g Z.fb (step s) W)
 step:∀C' s s' k er,C-30000<=C'->Gt g aw V s->Fit g C' s->P s->step s s' k er->Gt g aw V s'/\Fit g (C'-20000) s'/\s'.ro.fr=s.ro.fr/\s'.ro.lz=s.ro.lz/\s'.x.N=s.x.N/\(bh s.b->bh s'.b)/\((er=0/\Qr s')\/(tC g aw s.ro s' k er/\P s'))
 cS:∀s s':Rs,s'.x=s.x->s'.ro.wt=s.ro.wt->s'.ro.sl=s.ro.sl->P s->P s'
def PV[Lo](Z:bg)(g:au)(aw:Option Nat)(V:bW)(C:Nat)(P:Rs->Prop)(w:M)(q:Bool)(W:M):Prop:=
 ∃s u,Inv W Z g aw V (if q=true then C-21000 else C) s u/\P s/\(q=true->ny aw s)/\eB Z w W
def NS[Lo](Z:bg)(g:au)(aw:Option Nat)(V:bW)(C:Nat)(a:Rs->Prop)(w W:M):Prop:=
 ∃s u,Inv W Z g aw V (C-50000) s u/\a s/\eB Z w W
def PW[Lo](Z:bg)(g:au)(aw:Option Nat)(V:bW)(C:Nat)(P:Rs->Prop)(w:QL)(k a:Nat)(W:QL):Prop:=
 ∃s u,Inv W Z g aw V (C-20000) s u/\P s/\aw=some k/\k<g.M/\u.st k≠2/\eB Z w W
theorem yU[Lo](Z:bg)(g:au)(aw:Option Nat)(V:bW)(C:Nat)(P y:Rs->Prop)(z:Nat)(step:Rs->Rs->Nat->Nat->Prop)(H:rB Z g aw V C P y z step)(T:100000<=C)(w:M):
  KQ Z g z #[aq Z.R] #[] (PV Z g aw V C P w) (NS Z g aw V C y w) (PW Z g aw V C P w) where
 enters:=H.enters
 call:=by
  rintro q W ⟨s,u,a,c,o,hF⟩;obtain⟨C',f⟩:=ah (if q=true then C-21000 else C);rw[f]at a;have j:C-30000<=C'/\C'<=C:=by rw[<-f];split<;>omega
  refine(H.call C' W s j.1 a.ay.rs a.fit).mono ?_;rintro e w' ⟨s',k,i,l,rfl,r,t⟩;obtain⟨B,D,E,F,G,K,L⟩:=H.step C' s s' k i j.1 a.gt a.fit c l;have m:=a.rows r t B D E F G K J;refine⟨k,i,rfl,?_⟩;rcases L with⟨rfl,v⟩|⟨n,x⟩
  .exact .inl ⟨rfl,s',u,m.less J,v,hF.trans (Fr.ra t)⟩
  .obtain ⟨p,h⟩:=a.hit n;refine .inr ⟨?_,n.gone,p,s',u,m.less ?_,x,n.slot,p,h,hF.trans (Fr.ra t)⟩
   .cases q with
    |false=>rfl
    |true=>exact((o rfl).no n).elim
   .cases q with
    |false=>rw[<-f];exact QP _
    |true=>exact((o rfl).no n).elim
 gV:=by rintro k i W O ⟨s,u,a,c,rfl,p,h,hF⟩;refine(ig Z g k V (C-20000) i s u W a p h J O).mono ?_;rintro e w' ⟨l,s',Q,d⟩;exact⟨l,s',Q,d.inv.less (by rw[ak rfl];omega),H.cS s s' d.x d.wt d.sl c,λ_=>d.inv.quiet d.down,hF.trans d.bU.a⟩
 arr:=by rintro k i W ⟨s,u,a,-⟩;exact⟨u,false,a.ay.arr⟩
 sb:=by rintro q W A ⟨s,u,a,c,o,hF⟩ b;exact⟨s,u,a.below b,c,o,hF.then b⟩
 qb:=by rintro W A ⟨s,u,a,v,hF⟩ b;exact⟨s,u,a.below b,v,hF.then b⟩
 tb:=by rintro k i W A ⟨s,u,a,c,l,S,r,hF⟩ b;exact⟨s,u,a.below b,c,l,S,r,hF.then b⟩
theorem ZW[Lo](Z:bg)(g:au)(aw:Option Nat)(V:bW)(C:Nat)(j:100000<=C):rB Z g aw V C (λ_=>True) (λs=>s.ro.wt= []) 114 (gz g) where
 enters:=RP func114 aE rfl
 call:=λC' W s b h hF=>uU Z.R Z.B Z.W Z.r g Z.fb s C' W h hF J
 step:=λC' s s' k l b c hF _ d=>by
  obtain⟨e,a⟩:=c.empty d;have f:=c.sR;refine⟨e,c.DK hF J d,?_,?_,?_,λi=>i.empty d,?_⟩
  .rcases a with a|⟨-,a|a,-⟩
   .rw [a.2.1]
   .rw [a]
   .rw [a]
  .rcases a with a|⟨-,a|a,-⟩
   .rw [a.2.1]
   .rw [a]
   .rw [a]
  .rcases a with a|a
   .rw [a.2.2];rfl
   .rw [a.2.2,f]
  .rcases a with a|a
   .exact .inl ⟨a.1,by rw[a.2.1]⟩
   .exact .inr ⟨a.1,trivial⟩
 cS:=λ_ _ _ _ _ _=>trivial
end
def NT[Lo](Q:M->Prop)(e:SG)(a:M):Prop:=aK e (aG 0)/\Q a
theorem Inv.cell[Lo]{Z:bg}{a:Option Nat}{V:bW}(h:Inv W Z g a V C s u)(b:aZ W n O)(c:Lo.lo<=n)(d:(120::122::TA).all (λt=> ![ty O].contains t)=true)(v:QN):Inv (W.setCell (R n m) v) Z g a V C s u:=
 ⟨h.ay.fr ((Fr.refl [ty O] aF W).set (p:=R n m) b aJ c v) d,h.gt,h.eK,h.ob,h.only,h.fR,h.fit,h.ev,h.same,h.qv⟩
theorem Inv.low[Lo]{Z:bg}{a:Option Nat}{V:bW}(h:Inv W Z g a V C s u):Lo.lo<=W.heap.size:=h.ay.rs.cg.low
theorem eB.new[Lo]{Z:bg}(h:eB Z W w)(a:W.heap.size<=p.block)(u:QN):eB Z W (w.setCell p u):=Fr.new h a u
theorem DP[Lo](Z:bg)(g:au)(c:Option Nat)(V:bW)(C:Nat)(s:Rs)(u:Su)(w:M)(h:Inv w Z g c V C s u)(v:100000<=C):
  aD 61 #[aq Z.A] w (NT (NS Z g c V C (λs=>s.ro.wt= []) w)):=by
 obtain⟨m,D,y,n,d,o⟩:=dQ w (ao #[aG 0] 35);have a:=h.below d;obtain⟨z,-,A⟩:=a.ay.arr.aL;obtain⟨Q,f0,S⟩:=cr A;have p:=I (gF Z g u false m a.ay.arr);have B:=I (sT Z g h.eK.bZ.m16 114 _ _ _ _ _ (yU Z g c V C _ _ 114 _ (ZW Z g c V C v) v m) (λq W ⟨s,u,r,_⟩=>⟨u,false,r.ay.arr⟩) (λW ⟨s,u,r,_⟩=>⟨u,false,r.ay.arr⟩) false m ⟨s,u,a,trivial,λe=>(by cases e),eB.af aj⟩);have l:=aS a o d h.low;have b:=aA y n
 go_enter_defers func61,ntmps61
 go_wp2_with fail
 try rw[b.1,b.2]
 go_wp2_with(first|(go_at_call 99;refine p.mono ?_;rintro e T ⟨rfl,rfl⟩)|(go_at_call 113;refine B.mono ?_;rintro e x ⟨rfl,E,F,G,K,f2⟩;have i:=(l.1.ay.wide f2).hp l.2.1 rfl;obtain⟨U,X,H⟩:=cr i;have j:=aS G K f2 i));refine XI (f:=98) (args:= #[aq D]) aJ (by simp[go_sem]) ?_;refine(cM (R D 0) _).mono ?_;rintro e N L ⟨rfl,rfl,rfl⟩;have k:w.heap.size<=D:=RY b.2;have t:=QO l.2.2.2 k;have O:RH (NS Z g c V C (λs=>s.ro.wt= []) w (x.setCell (R D 0) (aG 0))):=⟨E,F,j.1.cell j.2.2.2 t rfl _,j.2.1,((eB.af l.2.2.1).trans j.2.2.1).new k _⟩;have P:=(cr (heap_setCell_same x D 0 _ _ (aG 0) j.2.2.2)).1 0;simp[Leaves,settle,RV,results61,go_sem,P];exact⟨rfl,O⟩
section
theorem Fit.put{g:au}{C k:Nat}{s:Rs}{v c:Dv}(h:Fit g C s)(l:s.b.dv k=some v)(n:c.d.n=v.d.n/\c.d.cn<=v.d.cn):Fit g C {s with b:=s.b.put k c}:=by
 have i:∀j x,(s.b.put k c).dv j=some x->∃y,s.b.dv j=some y/\x.d.n=y.d.n/\x.d.cn<=y.d.cn:=λj x a=>by
  have a:(if j=k then some c else s.b.dv j)=some x:=a;by_cases e:j=k
  .subst e;rw[ak rfl]at a;cases a;exact⟨v,l,n⟩
  .rw [al e]at a;exact⟨x,a,rfl,QP _⟩
 refine⟨h.bZ,h.N,λm x o a=>?_,λx a=>?_,h.bad,h.cA,h.iG,h.wt,h.mB⟩
 .obtain ⟨y,d,f,p⟩:=i m x a;have:=h.mem m y o d;rw[f];exact⟨this.1,J⟩
 .obtain ⟨y,d,f,p⟩:=i _ x a;have:=h.gB y d;rw[f];exact⟨this.1,J⟩
variable [Lo] {w w':QL} {Z:bg} {g:au} {aw:Option Nat} {V:bW} {C:Nat} {s:Rs} {u:Su}
theorem kH.cg(h:kH w Z g aw V C s u){b:By}(c:aB w' Z.B b)(a:Fr TB aF w w')(d:Gt g aw V {s with b:=b})(hF:Fit g C {s with b:=b}):kH w' Z g aw V C {s with b:=b} u:=
 ⟨⟨h.ay.arr.fr a rfl rfl,h.ay.rs.row.fr a rfl rfl rfl rfl,c,h.ay.rs.kc.fr a rfl rfl rfl rfl,h.ay.rs.lo⟩,d,h.eK,h.ob,h.only,hF,h.ev,h.same,h.qv⟩
theorem kH.below(h:kH w Z g aw V C s u)(a:ar w w'):kH w' Z g aw V C s u:=
 ⟨h.ay.below a,h.gt,h.eK,h.ob,h.only,h.fit,h.ev,h.same,h.qv⟩
theorem kH.up(h:kH w Z g aw V C s u)(a:(∃m,m<g.M/\u.st m=3)->bh s.b):Inv w Z g aw V C s u:=
 ⟨h.ay,h.gt,h.eK,h.ob,h.only,a,h.fit,h.ev,h.same,h.qv⟩
theorem AD(m:Nat)(h:kH w Z g (some m) V C s u)(i:m<g.M):aD 62 #[H Z.B,Y m] w λe w'=>(∃f:Nat,aK e (.int .u16 f))/\Fr TB aF w w'/\∃b,kH w' Z g (some m) V C {s with b:=b} u/\u_ b m:=by
 have j:=h.gt.gd.N;cases a:s.b.dv m with
 |none=>refine(wO Z.B m s.b w h.ay.rs.cg J a).mono ?_;rintro e w' ⟨rfl,d,c⟩;exact⟨⟨51,rfl⟩,c,s.b,h.cg d c h.gt h.fit,λv e=>(by rw[a]at e;cases e)⟩
 |some v=>refine(Ct Z.B m s.b v w h.ay.rs.cg J a).mono ?_;rintro e w' ⟨rfl,d,c⟩;exact⟨⟨0,rfl⟩,c,_,h.cg d c (h.gt.dead rfl a) (h.fit.put a ⟨rfl,QX _⟩),λx e=>(by have e:(if m=m then some _ else s.b.dv m)=some x:=e;rw[ak rfl]at e;cases e;rfl)⟩
theorem AE(m:Nat)(h:lY w Z g u false)(b:m<g.M)(j:g.M<=16)(c:u.st m=2):aD 117 #[H Z.A,Y m] w λe w'=>aK e (.tuple #[])/\w=w':=by have d:=h.st b;obtain⟨f,a,i⟩:=h.aL;obtain⟨k,f0,l⟩:=cr i;rw[c]at d;go_enter func117,ntmps117;go_wp2;exact RB (results_none rfl _ _ _) rfl ⟨rfl,rfl⟩
omit [Lo] in
theorem GQ{m:Nat}(h:∀k,k<g.M->u.st k≠1->some m=some k)(b:u.st m=2):¬∃k,k<g.M/\u.st k=3:=λ⟨k,a,c⟩=>by have:=RT (h k a J);subst this;omega
def DQ(Z:bg)(g:au)(m:Nat)(V:bW)(C:Nat)(w w':M):Prop:=∃s u,Inv w' Z g (some m) V C s u/\u.st m=2/\u_ s.b m/\eB Z w w'
theorem DR(m:Nat)(h:kH w Z g (some m) V C s u)(b:m<g.M)(d:1000<=C)(c:u_ s.b m):aD 117 #[H Z.A,Y m] w λe w'=>aK e (.tuple #[])/\DQ Z g m V (C-1000) w w':=by
 by_cases a:u.st m=2
 .refine (AE m h.ay.arr b h.eK.bZ.m16 a).mono ?_;rintro e w' ⟨rfl,rfl⟩;exact⟨rfl,s,u,(h.up λe=>absurd e (GQ h.only a)).less J,a,c,eB.af aj⟩
 .refine (jN Z g m V C s u w h b a d).mono ?_;rintro e w' ⟨rfl,f,i,q⟩;exact⟨rfl,f,i,q.inv,q.down,λv e=>c v (by rw[<-q.dv];exact e),q.bU.a⟩
theorem yV(m:Nat)(h:kH w Z g (some m) V C s u)(K:m<g.M)(Q:1000<=C):aD 63 #[aq Z.A,ae m] w (NT (DQ Z g m V (C-1000) w)):=by
 obtain⟨q,D,S,r,i,t⟩:=dQ w (ao #[aG 0] 35);have a:=h.below i;obtain⟨T,-,j⟩:=a.ay.arr.aL;obtain⟨Y,f0,J⟩:=cr j;have v:=ad (gF Z g u false q a.ay.arr);have U:=ad (λW (j:ar q W)=>eb Z g u false W (a.below j).ay.arr);have x:=ad (λW (j:ar q W)=>AD m (a.below j) K);have y:=aS a t i h.ay.rs.cg.low;have c:=aA S r
 go_enter_defers func63,ntmps63
 go_wp2_with fail
 try rw[c.1,c.2]
 go_wp2_with(first|(go_at_call 99;refine v.mono ?_;rintro e L ⟨rfl,rfl⟩)|(go_at_call 107;refine(U _ aj).mono ?_;rintro e L ⟨rfl,rfl⟩)|(go_at_call 62;refine(x _ aj).mono ?_;rintro e O ⟨⟨a0,rfl⟩,p,b,z,A⟩;have B:=ad (eb Z g u false O z.ay.arr);have E:=ad (DR m z K Q A);have k:=aA p (p.hp y.2.1 rfl);have l:RH (∀W,eB Z O W->aZ W D (ao #[aG 0] 35)):=λW p=>(z.ay.wide p).hp k.2 rfl));go_wp2_with(first|(go_at_call 107;refine B.mono ?_;rintro e L ⟨rfl,rfl⟩)|(go_at_call 117;refine E.mono ?_;rintro e P ⟨rfl,X,u3,H,N,F,f3⟩;have n:=l.out _ f3;obtain⟨e1,e2,e3⟩:=cr n;have d:=aS H (And.intro N F) f3 n));refine XI (f:=98) (args:= #[aq D]) aJ (by simp[go_sem]) ?_;refine(cM (ag D 0) _).mono ?_;rintro e a1 M ⟨rfl,rfl,rfl⟩;have o:w.heap.size<=D:=RY c.2;have G:=QO y.2.2.2 o;have R:RH (DQ Z g m V (C-1000) w (P.setCell (ag D 0) (aG 0))):=⟨X,u3,d.1.cell d.2.2.2 G rfl _,d.2.1.1,d.2.1.2,(((eB.af y.2.2.1).trans (Fr.ra k.1.rb)).trans d.2.2.1).new o _⟩;have I:=(cr (heap_setCell_same P D 0 _ _ (aG 0) d.2.2.2)).1 0;simp[Leaves,settle,RV,results63,go_sem,I];exact⟨rfl,R⟩
end
section
theorem tC.fR{g:au}{aw:Option Nat}{b:Ro}{s:Rs}{k c:Nat}(h:tC g aw b s k c)(d:bh s.b)(e:k<s.b.N):False:=by obtain⟨v,f,-,a⟩:=d k e;rw[h.dead v f]at a;cases a
section
variable [Lo] {w w':QL} {Z:bg} {g:au} {aw:Option Nat} {V:bW} {C:Nat} {s:Rs} {u:Su}
def Pe(Z:bg)(g:au)(aw:Option Nat)(V:bW)(C:Nat)(b:Rs->Prop)(s:Rs)(u:Su)(w W:M):Prop:=
 ∃a,Inv W Z g aw V (C-20000) a u/\b a/\a.ro.fr=s.ro.fr/\(bh s.b->bh a.b)/\eB Z w W
theorem DS(P n:Rs->Prop)(o:Nat)(step:Rs->Rs->Nat->Nat->Prop)(H:rB Z g aw V C P n o step)(v:P s)(b:ny aw s\/bh s.b)(w:M):
  KQ Z g o #[aq Z.R] #[] (λ_ W=>Inv W Z g aw V C s u/\eB Z w W) (Pe Z g aw V C n s u w) (λ_ _ _=>False) where
 enters:=H.enters
 call:=by
  rintro q W ⟨a,hF⟩;refine(H.call C W s J a.ay.rs a.fit).mono ?_;rintro e w' ⟨d,k,p,i,rfl,j,f⟩;obtain⟨r,x,t,y,z,l,A⟩:=H.step C s d k p J a.gt a.fit v i;refine⟨k,p,rfl,.inl ?_⟩;rcases A with⟨rfl,B⟩|⟨m,-⟩
  .exact ⟨rfl,d,(a.rows j f r x t y z l J),B,t,l,hF.trans (Fr.ra f)⟩
  .rcases b with b|b
   .exact (b.no m).elim
   .exact (m.fR (l b) (by rw[r.gd.N];have:=a.gt.gd.nw k m.slot;omega)).elim
 gV:=λ_ _ _ _ h=>h.elim
 arr:=λ_ _ _ h=>h.elim
 sb:=λ_ _ _ h c=>⟨h.1.below c,h.2.then c⟩
 qb:=λ_ _ ⟨d,i,D,j,f,E⟩ c=>⟨d,i.below c,D,j,f,E.then c⟩
 tb:=λ_ _ _ _ h _=>h
theorem pB(c:Inv w Z g aw V C s u)(P b:Rs->Prop)(a:Nat)(step:Rs->Rs->Nat->Nat->Prop)(H:rB Z g aw V C P b a step)(d:P s)(f:ny aw s\/bh s.b):
  aD 113 #[aq Z.A,.func (.func a) #[aq Z.R] #[]] w λe w'=>aK e (.tuple #[])/\Pe Z g aw V C b s u w w':=
 sT Z g c.eK.bZ.m16 a _ _ _ _ _ (DS P b a step H d f w) (λ_ _ h=>⟨u,false,h.1.ay.arr⟩) (λ_ ⟨_,h,_⟩=>⟨u,false,h.ay.arr⟩) false w ⟨c,eB.af aj⟩
theorem sU(h:cY w Z g s u false)(k:Gt g aw V {s with ro:=s.ro.marks g u g.M})(a:u.ok g)(l:∀m,m<g.M->u.st m≠1->aw=some m)(n:bh s.b)(hF:Fit g C s)(d:1000<=C)(o:u.ev+C<=4611686018427387904)(f:u.N=s.x.N/\u.lz=s.ro.lz/\u.lost=false)(p:u.N=Z.N/\u.lz=Z.lz)(c:∀m,g.M<=m->s.ro.fr m=none):
  aD 121 #[H Z.A] w λe w'=>aK e (.tuple #[])/\∃b,Inv w' Z g aw V (C-1000) {s with b:=b,ro:=s.ro.marks g u g.M} u.told/\bh b/\eB Z w w':=by
 obtain⟨q,r,i⟩:=k.NR n u.tell;refine(ju Z g s u false w h a J f.2.2 (hF.Pc d) hF.N q).mono ?_;rintro e w' ⟨rfl,t,v⟩;exact⟨rfl,_,⟨t,r,Su.oa a J,λj=>jv c j,l,λ_=>i,(vk hF d u.tell a.bZ).ro rfl,(by show u.ev+1+(C-1000)<=_;omega),f,p⟩,i,v.a⟩
end
def GR[Lo](Z:bg)(g:au)(m:Nat)(V:bW)(C:Nat)(w w':M):Prop:=∃s u,Inv w' Z g (some m) V C s u/\u.st m=3/\u.cur=0/\eB Z w w'
def Su.DT(u:Su)(m:Nat):Su:={u with st:=λk=>if k=m then 3 else u.st k,cur:=0}
theorem Su.JT{g:au}{u:Su}(h:u.ok g){m:Nat}(t:m<g.M)(n:∀k,k<g.M->u.st k≠1->some m=some k):(u.DT m).ok g:=by
 have o:=h.bZ.s1;have l:∀k,k<g.M->k≠m->u.st k=1:=λk c e=>by
  by_cases q:u.st k=1
  .exact q
  .exact absurd (RT (n k c q)).symm e
 refine⟨h.bZ,h.id,h.ev,h.rl,h.ring,λk c=>?_,λa b p r d f=>?_,⟨o,λe=>absurd rfl e⟩⟩
 .show (if k=m then 3 else u.st k)=1\/(if k=m then 3 else u.st k)=2\/(if k=m then 3 else u.st k)=3;by_cases e:k=m
  .rw [ak e];exact .inr (.inr rfl)
  .rw [al e];exact h.st k c
 .have d:(if a=m then 3 else u.st a)=3:=d;have f:(if b=m then 3 else u.st b)=3:=f;by_cases i:a=m
  .by_cases j:b=m
   .rw [i,j]
   .rw [al j,l b r j]at f;omega
  .rw [al i,l a p i]at d;omega
theorem JU{g:au}{m:Nat}{V:bW}{s:Rs}{u:Su}(i:Gt g (some m) V s)(n:m<g.M)(l:u.st m=2)(a:∀m,s.ro.fr m=if m<g.M then dL g u m else none):Gt g (some m) V {s with ro:=s.ro.marks g (u.DT m) g.M}:=by
 have b:∀j r,(s.ro.marks g (u.DT m) g.M).down j r=s.ro.down j r:=λj r=>by
  apply yT;rw[jv (λk o=>by rw[a k,al J]),a j];by_cases c:j<g.M
  .rw [ak c,ak c];by_cases e:j=m
   .subst e;unfold dL Su.DT;simp[l]
   .unfold dL Su.DT;simp only[al e];by_cases d:u.st j=1
    .rw [ak d,ak d]
    .rw [al d,al d];by_cases f:u.st j=2
     .rw [ak f,ak f]
     .rw [al f,al f];exfalso;exact e (by have:=i.gd.dn j (u.cur*g.c) (by unfold Ro.down;rw[a j,ak c];unfold dL;rw[al d,al f];simp);exact(RT this).symm)
  .rw [al c,al c]
 exact i.mark rfl (λj r h=>by rw[b]at h;exact h) λj r h=>i.gd.dn j r (by rw[b]at h;exact h)
theorem GS{b:By}{k:Nat}(a:bh b)(c:k<b.N):∃v,b.dv k=some v:=⟨_,(a k c).choose_spec.1⟩
theorem xz[Lo](Z:bg)(g:au)(m:Nat)(V:bW)(C:Nat)(s:Rs)(u:Su)(w:QL)(h:Inv w Z g (some m) V C s u)(a4:m<g.M)(j:u.st m=2)(J:bh s.b)(b7:100000<=C):
  aD 67 #[aq Z.A,ae m] w (NT (GR Z g m V (C-30000) w)):=by
 have c7:∀(b8:Fn) (first b:Array QN) (w:QL),(Instr.makeFunc b8 first b).run prog w=.ok (.func b8 first b) w:=λ_ _ _ _=>rfl;obtain⟨G,D,b9,L,o,p⟩:=dQ w (ao #[aG 0] 35);have a:=h.below o;obtain⟨b,-,d⟩:=a.ay.arr.aL;obtain⟨k0,f0,z0⟩:=cr d;obtain⟨d1,d2,d3⟩:=cr p;have c2:=h.eK.bZ.m16;have d9:=h.gt.gd.N;have c8:(m:Int)<(g.M:Nat):=aa;have a5:=ad (gF Z g u false G a.ay.arr);have O:=ad (λW (d:ar G W)=>ic Z g u false m W (a.below d).ay.arr a4 c2);rw[show decide (u.st m≠2)=false by simp[j]]at O;obtain⟨v,a0,-,a6⟩:=J m aa;have t:=(h.fit.mem m v a4 a0).1;have a7:=ad (λW (d:ar G W)=>show aD 50 #[aq Z.B,ae m] W λe w'=>aK e dU/\∃q,w'=W.drewN q by obtain⟨S,b,c9,d0,r,wc,f,a8⟩:=(a.below d).ay.rs.cg;have:=Cq a8 m aa v a0;rw[a6]at this;exact this);have a9:=ad (λW (d:ar G W)=>show aD 51 #[aq Z.B,ae m] W λe w'=>aK e (ae v.d.n)/\W=w' by obtain⟨S,b,c9,d0,r,wc,f,a8⟩:=(a.below d).ay.rs.cg;exact sA a8 m aa v a0);have P:=ad (jn h.eK.bZ);have d4:=au.g_ h.eK.bZ;have b0:=ad (λW (d:ar G W)=>pB (a.below d) _ _ 114 _ (ZW Z g (some m) V C b7) trivial (.inr J));have K:=aS a p o h.ay.rs.cg.low;have x:=aA b9 L;have y:=aS j J a4 b7;obtain⟨R,Q⟩:=ah g.R;rw[Q]at P d4 t;have e1:QQ.wrap (1+(R:Int))=((1+R:Nat):Int):=bf;have e2:decide ((v.d.n:Int)<1+(R:Int))=false:=aQ;have e3:decide ((m:Int)<0)=false:=aJ;have e4:decide ((g.M:Int)<=(m:Nat))=false:=aQ;clear h o p a d b9 L j J Q a0;obtain⟨a1,a2,a3⟩:=g
 go_enter_defers func67,ntmps67
 go_wp2_with fail;rw[x.1,x.2];go_wp2_with(first|(go_at_call 99;refine a5.mono ?_;rintro e w1 ⟨rfl,rfl⟩)|(go_at_call 120;refine(O _ aj).mono ?_;rintro e w1 ⟨rfl,rfl⟩)|(go_at_call 50;refine(a7 _ aj).mono ?_;rintro e w1 ⟨rfl,q,rfl⟩));go_region_held3(λw'=>w'.cell? (ag Z.A 0)=some (aq Z.B)/\w'.cell? (ag Z.A 5)=some (ae a1)/\w'.cell? (ag Z.A 6)=some (ae a2)/\w'.cell? (ag Z.A 7)=some (ae a3)) ((simp[*,go_sem];done)) (first|(go_at_call 51;refine(a9 _ (by first|exact ct aj _|go_grown)).mono ?_;rintro e w2 ⟨rfl,rfl⟩)|(go_at_call 27;refine(P _).mono ?_;rintro e w2 ⟨rfl,T⟩;have z:RH (ar G w2):=via (by first|exact ct aj _|go_grown) T;obtain⟨p1,p2,p3⟩:=kp z Z.A z0;clear T));go_wp2_with(go_at_call 113;refine(b0 _ z).mono ?_;rintro e w3 ⟨rfl,s3,A,q3,r3,t3,f3⟩;have i:=(eB.af z).trans f3;have U:=(K.1.ay.wide i).hp K.2.1 rfl;have b1:=ad i;have H3:=bX A r3 (t3 y.2.1) ((eB.af K.2.2.1).trans i) U;obtain⟨c3,b2,X⟩:=A.ay.arr.aL;obtain⟨k3,l3,z3⟩:=cr X;obtain⟨d5,l,-⟩:=A.ay.arr.uY;obtain⟨y1,y2,y3⟩:=cr l;clear l;have c1:=A.ay.arr.st y.2.2.1;obtain⟨g1,g2⟩:=A.ay.state m 3;obtain⟨c4,B,H⟩:=g1.arr.aL;obtain⟨t1,t2,t4⟩:=g1.set B H 12 (ae ((0:Nat):Int)) (u':=u.DT m) (yg':=false) rfl rfl;have c5:=aM t1 g2 t2;have d6:=A.ay.arr.ne;clear A q3 r3 t3 f3 i U X y1 g1 g2 H t1 t2 t4 p1 p2 p3 k0 f0 z0);obtain⟨w4,E⟩:=ah ((w3.setCell (ag Z.sb m) (.int .u8 3)).setCell (ag Z.A 12) (ae 0));obtain⟨T1,T2,T3⟩:=c5.out;have H4:RH (cY w4 Z ⟨a1,a2,a3⟩ s3 (u.DT m) false/\eB Z w3 w4):=by rw[<-E];exact⟨T1,((Fr.JR T2).trans (Fr.DJ T3)).a⟩
 rw[E];clear E T1 T2 T3 c5;have c:=H3.1;have b3:=y.2.2.2;have N:=c.ev;have n:(u.DT m).st m=3:=ak rfl;have b4:=ad (sU (C:=C-20000) H4.1 (JU c.gt y.2.2.1 y.1 c.ob) (Su.JT c.eK y.2.2.1 c.only) (λk c6 j=>by
  have j:(if k=m then 3 else u.st k)≠1:=j;by_cases e:k=m
  .rw [e]
  .rw [al e]at j;exact c.only k c6 j) H3.2.2.1 c.fit aa N c.same c.qv (λk c6=>by rw[c.ob k,al aa]))
 clear c b3 N;go_wp2_with(first|(go_at_call 121;refine b4.mono ?_;rintro e w5 ⟨rfl,b5,i5,h5,f5⟩;have M:=(H3.2.2.2.1.trans H4.2).trans f5;have F:=(K.1.ay.wide ((b1.trans H4.2).trans f5)).hp K.2.1 rfl;have H5:=aM i5 M F;obtain⟨x1,x2,x3⟩:=cr F;have I:=ad (ic Z ⟨a1,a2,a3⟩ (u.DT m).told false m w5 i5.ay.arr y.2.2.1 c2);rw[show decide ((u.DT m).told.st m≠2)=true from decide_eq_true (by show(u.DT m).st m≠2;rw[n];decide)]at I;clear i5 h5 f5 M F)|(go_at_call 120;refine I.mono ?_;rintro e w6 ⟨rfl,rfl⟩));refine XI (f:=98) (args:= #[aq D]) aJ (by simp[go_sem]) ?_;refine(cM (ag D 0) _).mono ?_;rintro e u' d7 ⟨rfl,rfl,rfl⟩;have Y:w.heap.size<=D:=RY x.2;have b6:=QO K.2.2.2 Y;have d8:RH (GR Z ⟨a1,a2,a3⟩ m V (C-30000) w (w5.setCell (ag D 0) (aG 0))):=⟨_,_,(H5.1.cell H5.2.2 b6 rfl _).less aa,n,rfl,H5.2.1.new Y _⟩;have c0:=(cr (heap_setCell_same w5 D 0 _ _ (aG 0) H5.2.2)).1 0;simp[Leaves,settle,RV,results67,go_sem,c0];exact⟨rfl,d8⟩
end
def gL(B:bp):Nat->Nat->Bool
 |0,_=>false
 |n+1,b=>B.aL n==b||gL B n b
def fW(g:au)(B:bp):Nat->Nat
 |0=>0
 |n+1=>fW g B n+(if gL B n (B.aL n)=true then 0 else 1)+if aX g B n (g.row (B.aL n))=true then 0 else 1
theorem pC{p q:Nat->Bool}{a:Nat}:∀{n:Nat},a<n->(∀m,q m=(decide (m=a)||p m))->(bP n q).length=(bP n p).length+if p a=true then 0 else 1
 |0,h,_=>J
 |n+1,h,b=>by
  rw[dG,dG,RE,RE,b n];by_cases e:n=a
  .subst e;have:bP n q=bP n p:=List.filter_congr λm c=>by rw[b m];have:=UJ.1 c;simp[show¬m=n by omega]
   rw[this];cases p n<;>simp
  .rw [pC J b];cases p n<;>simp[e] <;>omega
def mO(f:aO):Nat->Nat
 |0=>0
 |n+1=>mO f n+f n
theorem pD{f h:aO}:∀{n:Nat},(∀m,m<n->f m=h m)->mO f n=mO h n
 |0,_=>rfl
 |n+1,e=>by unfold mO;rw[pD λm a=>e m J,e n J]
theorem vm{f h:aO}{a d:Nat}:∀{n:Nat},a<n->(∀m,h m=if m=a then f m+d else f m)->mO h n=mO f n+d
 |0,h,_=>J
 |n+1,h,e=>by
  unfold mO;rw[e n];by_cases b:n=a
  .subst b;rw[ak rfl,pD λm c=>(e m).trans (al J)];omega
  .rw [al b,vm J e];omega
theorem vn(p:Nat->Bool)(f:aO)(a:∀m,p m=false->f m=0):∀n,((bP n p).map f).sum=mO f n
 |0=>rfl
 |n+1=>by
  rw[show mO f (n+1)=mO f n+f n from rfl,dG,SR,List.sum_append,vn p f a n];cases h:p n with
  |false=>simp[a n h]
  |true=>simp
def kj(g:au)(B:bp)(n m r:Nat):Bool:=(cO g B n m r).isSome
theorem ih(g:au)(B:bp)(n m r:Nat):kj g B (n+1) m r=(decide (g.mem (B.aL n)=m/\g.row (B.aL n)=r)||kj g B n m r):=by unfold kj;rw[cO];by_cases h:g.mem (B.aL n)=m/\g.row (B.aL n)=r<;>simp[h]
theorem AF(a:g.ok)(B:bp)(n b:Nat):kj g B n (g.mem b) (g.row b)=gL B n b:=by
 induction n with
 |zero=>rfl
 |succ n c=>
  rw[ih,c,gL];congr 1;by_cases e:B.aL n=b
  .rw [e];simp
  .rw [decide_eq_false (λh=>e (au.inj a h.2 h.1))];exact(beq_eq_false_iff_ne.2 e).symm
theorem AG(h:aX g K n r=false):kj g K n m r=false:=by
 induction n with
 |zero=>rfl
 |succ n a=>rw[aX,Bool.or_eq_false_iff]at h;rw[ih,a h.2,decide_eq_false (λe=>by rw[e.2]at h;simp at h)];rfl
def vo(g:au)(B:bp)(n:Nat):Nat:=(bP g.R (aX g B n)).length+mO (λr=>(bP g.M λm=>kj g B n m r).length) g.R
theorem kI{p:Nat->Bool}(h:∀m,p m=false):bP n p= []:=by unfold bP;rw[List.filter_eq_nil_iff];intro m _;rw[h m];decide
theorem DU(g:au)(B:bp):vo g B B.n=B.dJ g:=by
 unfold bp.dJ bp.fD vo;rw[RL,List.map_map];congr 1;rw[<-vn (aX g B B.n)]
 .unfold bp.eR;congr 1;apply VH;intro r _;simp only[Function.comp,bp.bT,RL,bp.nJ];rfl
 .intro r h;rw[kI λm=>AG h];rfl
theorem pE{g:au}(a:g.ok){B:bp}(b:B.ok g):∀n,n<=B.n->fW g B n=vo g B n
 |0,_=>by
  unfold fW vo;rw[show bP g.R (aX g B 0)= []from kI λ_=>rfl];have:∀n,mO (λr=>(bP g.M λm=>kj g B 0 m r).length) n=0:=λn=>by
   induction n with
   |zero=>rfl
   |succ n i=>unfold mO;rw[i,show(bP g.M λm=>kj g B 0 m n)= []from kI λ_=>rfl];rfl
  rw[this];rfl
 |n+1,h=>by
  have c:=b.aL n J;unfold fW;rw[pE a b n J];unfold vo;rw[pC (au.iN a c) (p:=aX g B n) (q:=aX g B (n+1)) (λr=>by rw[aX];congr 1;rw[Bool.beq_eq_decide_eq];exact decide_eq_decide.2 ⟨Eq.symm,Eq.symm⟩)];rw[vm (au.iN a c) (f:=λr=>(bP g.M λm=>kj g B n m r).length) (h:=λr=>(bP g.M λm=>kj g B (n+1) m r).length) (d:=if gL B n (B.aL n)=true then 0 else 1) (λr=>?_)]
  .omega
  .by_cases e:r=g.row (B.aL n)
   .subst e;rw[ak rfl,<-AF a];exact pC (au.ks a _) λm=>by rw[ih];congr 1;exact decide_eq_decide.2 ⟨λh=>h.1.symm,λh=>⟨h.symm,rfl⟩⟩
   .rw [al e];congr 2;funext m;rw[ih,decide_eq_false (λh=>e h.2.symm),Bool.false_or]
theorem AH(a:g.ok)(b:K.ok g):fW g K K.n=K.dJ g:=(pE a b _ (QP _)).trans (DU g K)
def ij(B:bp)(f:dj):Nat->Nat->Nat->Nat
 |0,b=>f b
 |n+1,b=>if B.aL n=b then B.da n else ij B f n b
def eL(g:au)(V:bW)(b:Nat):Nat->Nat:=V (g.mem b) (g.row b)
theorem yW(a:g.ok)(B:bp)(V:bW)(b:Nat):eL g (B.dR g V) b=ij B (eL g V) B.n b:=by
 have h:∀n,(match cO g B n (g.mem b) (g.row b)with|some i=>B.da i|none=>eL g V b)=ij B (eL g V) n b:=λn=>by
  induction n with
  |zero=>rfl
  |succ n c=>
   rw[cO,ij];by_cases e:B.aL n=b
   .rw [e,ak ⟨rfl,rfl⟩,ak rfl]
   .rw [al e,al (λh=>e (au.inj a h.2 h.1))];exact c
 rw[<-h];unfold eL bp.dR;rw[al (λh=>au.BJ a b h.1)];unfold bp.base bp.gd bp.iQ;cases cO g B B.n (g.mem b) (g.row b)<;>rfl
theorem fu(h:w.ownsRow m t i v n L)(a:v.ownBlock=some k):m<=k/\∃e f,w.heap[k]?=some (.cells e t f):=by
 rcases h.2 with⟨b,-⟩|⟨g,j,l,b,c,d,-⟩
 .rw [b]at a;cases a
 .rw [b]at a;cases a;exact⟨c,_,_,d⟩
section
section
variable {g:au} {aw:Option Nat} {V:bW} {s:Rs} {C:Nat}
theorem Gt.Iy(h:Gt g aw V s)(m r:Nat):uG g s.ro m r:=λ_ c j _ a _=>by
 cases d:s.ro.down j r with
 |false=>rfl
 |true=>have b:=h.gd.dn m r c;rw[h.gd.dn j r d]at b;exact absurd (RT b) a
theorem Gt.Mb(h:Gt g aw V s)(hF:Fit g C s){r:Nat}(a:r<g.R):mz g s.b s.ro r:=
 ⟨hF.bZ,a,hF.N,QO hF.iG J,λm v b c=>by have:=(hF.mem m v b c).1;omega⟩
end
structure DV(Z:bg)(bA bB bI bD k i:Nat)(W:M):Prop where
 a:W.heap[bA]? =some (N #[H Z.A] 71)
 b:W.heap[bB]? =some (N #[Y k] 3)
 i:W.heap[bI]? =some (N #[Y i] 3)
 d:∃v,W.heap[bD]? =some (N #[v] 41)
theorem DV.below{Z:bg}{bA b c d k i:Nat}{W W':M}(h:DV Z bA b c d k i W)(a:ar W W'):DV Z bA b c d k i W':=
 ⟨(a.block _ (Z_ h.a)).trans h.a,(a.block _ (Z_ h.b)).trans h.b,(a.block _ (Z_ h.i)).trans h.i,h.d.imp λ_ h=>(a.block _ (Z_ h)).trans h⟩
theorem DV.PX[Lo]{Z:bg}{bA b c d k i:Nat}{W W':M}(h:DV Z bA b c d k i W)(a:iI Z W W')(e:b≠Z.fb)(f:c≠Z.fb)(j:bA≠Z.fb)(l:d≠Z.fb):DV Z bA b c d k i W':=
 ⟨Fr.heap a h.a rfl j,Fr.heap a h.b rfl e,Fr.heap a h.i rfl f,h.d.imp λ_ h=>Fr.heap a h rfl l⟩
def Sm(s0 s:Rs):Prop:=s.x=s0.x/\s.ro.wt=s0.ro.wt/\s.ro.sl=s0.ro.sl/\s.ro.lz=s0.ro.lz
theorem Sm.trans{a b c:Rs}(h:Sm a b)(k:Sm b c):Sm a c:=⟨k.1.trans h.1,k.2.1.trans h.2.1,k.2.2.1.trans h.2.2.1,k.2.2.2.trans h.2.2.2⟩
def vp[Lo](Z:bg)(g:au)(aw:Option Nat)(V:bW)(C:Nat)(s0:Rs)(w:M)(q:Bool)(W:M):Prop:=
 ∃s u,Inv W Z g aw V (if q=true then C-1000 else C) s u/\(q=true->ny aw s)/\iI Z w W/\Sm s0 s
section
variable [Lo] {Z:bg} {g:au} {aw:Option Nat} {V:bW} {C C0:Nat} {s s0:Rs} {u u0:Su} {w W W':QL} {q:Bool}
theorem vp.below(h:vp Z g aw V C s0 w q W)(a:ar W W'):vp Z g aw V C s0 w q W':=by obtain⟨s,u,b,c,d,e⟩:=h;exact⟨s,u,b.below a,c,d.then a,e⟩
theorem iI.wide(h:iI Z w W){c:Array QN}{d:Nat × Nat}(f:w.heap[Z.fb]?=some (.cells c 3 d))(i:Lo.lo<=Z.fb):Fr (3::JC) aF w W:=by
 refine⟨h.os,h.tape,h.output,h.size,λk o a b _=>h.block k o a (b.imp (λe=>?_) id) λe=>?_⟩
 .simp only[List.contains_cons,Bool.or_eq_false_iff]at e;exact e.2
 .subst e;rw[f]at a;cases a;rcases b with e|e
  .exact absurd e (show¬(3::JC).contains 3=false by decide)
  .omega
theorem vp.own(c:Inv w Z g aw V C0 s0 u0)(h:vp Z g aw V C s0 w q W){S:Nat->Prop}(b:Out S W W')(l:∀k,S k->w.heap.size<=k/\∃m n,W.heap[k]?=some (.cells m 5 n)):vp Z g aw V C s0 w q W':=by
 obtain⟨s,u,a,y,z,p,r,t,v⟩:=h;have A:=c.ay.rs.cg.low;have f5:Fr [5] aF W W':=⟨b.os,b.tape,b.output,b.size,λk o d f _=>b.heap d λe=>by
  obtain⟨G,m,n,B⟩:=l k e;rw[B]at d;cases d;rcases f with f|f
  .exact absurd f (by show¬[5].contains 5=false;decide)
  .omega⟩
 have x:iI Z w W':=Fr.out z b λk d e=>absurd (l k e).1 J;have i:=x.wide c.ay.rs.row.fy c.ay.rs.lo.2;refine⟨s,u,⟨⟨a.ay.arr.fr f5 rfl rfl,⟨?_,?_⟩,a.ay.rs.cg.fn f5 rfl,?_,a.ay.rs.lo⟩,a.gt,a.eK,a.ob,a.only,a.fR,a.fit,a.ev,a.same,a.qv⟩,y,x,p,r,t,v⟩
 .obtain ⟨j,D,E,F⟩:=c.ay.rs.row.aL;refine⟨j,D,?_,?_⟩
  .rw [v,t];exact i.hp E rfl
  .rw [r];exact F.fr i rfl rfl
 .exact f5.hp a.ay.rs.row.fy rfl
 .rw [p];exact c.ay.rs.kc.fr i rfl rfl rfl rfl
end
def PY[Lo](Z:bg)(g:au)(aw:Option Nat)(V:bW)(C:Nat)(s0:Rs)(w:QL)(k:Nat)(q:Bool)(W:QL)(e:SG)(b:QL):Prop:=
 ∃a n c t d,aK e (.tuple #[.slice a n c,gV t d])/\Fr TB aF W b/\((d=0/\vp Z g aw V C s0 w q b/\cN b (.slice a n c) 128 (eL g V k))\/(q=false/\nN d/\aw=some t/\t<g.M/\∃s u,Inv b Z g aw V C s u/\u.st t≠2/\iI Z w b/\Sm s0 s))
theorem GU[Lo](Z:bg)(g:au)(aw:Option Nat)(V:bW)(C:Nat)(s0:Rs)(w:QL)(k:Nat)(y:k<g.B)(q:Bool)(W:QL)(h:vp Z g aw V C s0 w q W):
  aD 103 #[H Z.R,Y k] W (PY Z g aw V C s0 w k q W):=by
 obtain⟨s,u,d,z,hF,A⟩:=h;have p:=d.eK.bZ;have r:=au.iN p y;refine(Gp Z.R Z.B _ g Z.fb s.ro k s.b W d.ay.rs.row d.ay.rs.cg (d.gt.Mb d.fit r) y (d.gt.Iy _ _) (d.gt.gd.eG r)).mono ?_;rintro e E ⟨v,rfl,⟨a,n,c,rfl⟩,F,f,G⟩;obtain⟨K,i⟩:=d.gt.bK (l:=dK g.M s.ro (g.mem k) (g.row k)) (λj L=>by obtain⟨B,t⟩:=sN d.gt.gd.dn (au.ks p k) j L;exact⟨J,_,t⟩);have D:iI Z W E:=(f.any).wide JC rfl;have m:=d.rows (s':={s with b:=(s.b.bK (dK g.M s.ro (g.mem k) (g.row k))).1}) ⟨d.ay.rs.row.fr f rfl rfl rfl rfl,F,d.ay.rs.kc.fr f rfl rfl rfl rfl,d.ay.rs.lo⟩ (f.wide iH rfl) K (d.fit.bK _) rfl rfl rfl (λO=>O.bK _) (QP _);refine⟨a,n,c,_,_,rfl,f,?_⟩;rcases i with i|o
 .exact .inl ⟨i,⟨_,u,m,z,hF.trans D,A⟩,(G i).congr (d.gt.gd.dS (au.ks p k) r (By.lH i))⟩
 .have x:q=false:=by
   cases q with
   |false=>rfl
   |true=>exact((z rfl).no o).elim
  subst x;obtain⟨B,t⟩:=d.hit o;exact .inr ⟨rfl,o.gone,o.slot,B,_,u,m,t,hF.trans D,A⟩
end
section
theorem mP{g:au}{d:Ro}{m p:Nat}{b:By}:∀(n:Nat) {j:Nat} {v:Dv},(cG g d m p b n).1.dv j=some v->∃c,b.dv j=some c/\v.d.n=c.d.n/\v.d.cn<=c.d.cn+n
 |0,_,v,h=>⟨v,h,rfl,QP _⟩
 |n+1,j,v,h=>by
  have q:∀{x:Dv},(∃a,(cG g d m p b n).1.dv j=some a/\x.d.n=a.d.n/\x.d.cn<=a.d.cn+1)->∃c,b.dv j=some c/\x.d.n=c.d.n/\x.d.cn<=c.d.cn+(n+1):=λ⟨a,f,i,r⟩=>by obtain⟨c,k,o,t⟩:=mP n f;exact⟨c,k,i.trans o,J⟩
  have rd:∀{x:Dv} {l:List Nat},((cG g d m p b n).1.bK l).1.dv j=some x->∃a,(cG g d m p b n).1.dv j=some a/\x.d.n=a.d.n/\x.d.cn<=a.d.cn:=λu=>By.sI u;unfold cG at h;split at h
  .exact q ⟨v,h,rfl,VC _⟩
  .split at h
   .obtain ⟨a,f,i,r⟩:=rd h;exact q ⟨a,f,i,J⟩
   .have h:((((cG g d m p b n).1.bK (dK g.M d m (p+n))).1.op m (aN (1+(p+n)) (dS g.M (cG g d m p b n).1 d m (p+n))))).1.dv j=some v:=h;by_cases e:j=m
    .subst e;obtain⟨w,f,i,r⟩:=By.iA (ey _ _) h;obtain⟨a,k,o,t⟩:=rd f;exact q ⟨a,k,i.trans o,J⟩
    .rw [By.dN _ e]at h;obtain⟨a,k,o,t⟩:=rd h;exact q ⟨a,k,o,J⟩
section
variable {g:au} {aw:Option Nat} {V:bW} {s:Rs} {C m p:Nat}
theorem Fit.grow(hF:Fit g C s){b:By}{n:Nat}(h:b.N=s.b.N)(f:∀{j:Nat} {v:Dv},b.dv j=some v->∃a,s.b.dv j=some a/\v.d.n=a.d.n/\v.d.cn<=a.d.cn+n)(o:n<=C):Fit g (C-n) {s with b:=b}:=by
 refine⟨hF.bZ,h.trans hF.N,λk v i c=>?_,λv c=>?_,hF.bad,⟨by have:=hF.cA.1;show s.x.ep+(C-n)<=_;omega,hF.cA.2.1,by have:=hF.cA.2.2;show s.x.nx+(C-n)<=_;omega⟩,hF.iG,hF.wt,hF.mB⟩
 .obtain ⟨a,d,e,l⟩:=f c;have:=hF.mem k a i d;rw[e];exact⟨this.1,J⟩
 .obtain ⟨a,d,e,l⟩:=f c;have:=hF.gB a d;rw[e];exact⟨this.1,J⟩
theorem Gt.NU(h:Gt g aw V s)(n:bh s.b)(hF:Fit g C s)(y:100<=C)(f:m<g.M)(a:∀i,i<g.c->p+i<g.R):JA g s.ro m p s.b where
 fit:=λk c _=>by obtain⟨-,o,l⟩:=h.lay n f k λi z=>a i J;have e:Gt g aw V {s with b:=(cG g s.ro m p s.b k).1}:=⟨h.NP (l.dev.mono λj d _ q=>q.1) (ib k),l.bq,o⟩;have r:=hF.bZ.qd;exact⟨e.Mb (hF.grow (ib k) (mP k) J) (a k c),e.Iy _ _,e.gd.eG (a k c)⟩
 room:=λk v c t=>by have r:=hF.bZ.qd;obtain⟨u,w,x,A⟩:=mP k t;have:=hF.mem m u f w;rw[x];exact⟨this.1,J⟩
theorem DW(hF:Fit g C s)(w:100<=C){f:Ro}{d:By}{k q:Nat}(r:gE g f m p s.b=(d,k,q)):Fit g (C-100) {s with b:=d}:=by
 have x:=hF.bZ.qd;have e:d=(gE g f m p s.b).1:=by rw[r]
 refine(hF.grow (n:=17) (b:=d) ?_ ?_ J).less J
 .rw [e];unfold gE;split
  .exact ib _
  .exact (By.fp ..).trans (ib _)
 .intro j v a;rw[e]at a;unfold gE at a;split at a
  .obtain ⟨c,h,i,t⟩:=mP _ a;exact⟨c,h,i,J⟩
  .have a:((cG g f m p s.b g.c).1.op m ba).1.dv j=some v:=a;by_cases e:j=m
   .subst e;obtain⟨y,h,i,t⟩:=By.iA (m:=0) (λv=>⟨(dW v).1,(dW v).2⟩) a;obtain⟨c,l,o,u⟩:=mP _ h;exact⟨c,l,i.trans o,J⟩
   .rw [By.dN _ e]at a;obtain⟨c,l,o,u⟩:=mP _ a;exact⟨c,l,o,J⟩
end
theorem vq[Lo](Z:bg)(g:au)(aw:Option Nat)(V:bW)(C:Nat)(l:100000<=C):rB Z g aw V C (λ_=>True) (λs=>s.ro.wt= []) 123 (bV g) where
 enters:=RP func123 aE rfl
 call:=λe W s b h hF=>mG Z.R Z.B Z.W Z.r g Z.fb s e W h hF J
 step:=λe s n k o b c hF _ d=>by
  obtain⟨f,i,-,a⟩:=c.settle d;refine⟨f,(d_ hF J c.sync.1 d).less J,?_,?_,by rw[i];exact c.sR,λj=>j.settle d,?_⟩
  .rcases a with a|a<;>rw[a.2]
  .rcases a with a|a<;>rw[a.2]
  .rcases a with a|a
   .exact .inl ⟨a.1,by rw[a.2]⟩
   .exact .inr ⟨a.1,trivial⟩
 cS:=λ_ _ _ _ _ _=>trivial
end
theorem fI{c a:Array QN}{f d:Nat × Nat}(b:w.heap[n]?=some (.cells c k f))(g:w.heap[m]?=some (.cells a i d))(h:k≠i):¬n=m:=λe=>by rw[e,g]at b;exact h (VF (RT b)).2.1.symm
theorem iI.new[Lo]{Z:bg}(h:iI Z W w)(a:W.heap.size<=p.block)(u:QN):iI Z W (w.setCell p u):=Fr.new h a u
theorem Inv.fr[Lo]{Z:bg}{a:Option Nat}{V:bW}(h:Inv w Z g a V C s u)(b:Fr T aF w W)(c:(120::122::TA).all (λt=> !T.contains t)=true):Inv W Z g a V C s u:=
 ⟨h.ay.fr b c,h.gt,h.eK,h.ob,h.only,h.fR,h.fit,h.ev,h.same,h.qv⟩
theorem NV[Lo]{g i:Array QN}(x:aZ W m (N g 172))(y:aZ W k (N i 41))(n:¬m=k)(f:w.heap.size<=m)(o:w.heap.size<=k)(q:Lo.lo<=w.heap.size)(v:QN)(c d:Int)(u:g.size=2:=by rfl)(z:i.size=1:=by rfl):
  Fr [41,172] aF W (((((W.setCell (R k 0) v).setCell (R m 0) (Y c)).setCell (R m 1) (.int .u16 d)).setCell (R m 0) (Y c)).setCell (R m 1) (.int .u16 d))/\
  (∀{Z:bg},iI Z w W->iI Z w (((((W.setCell (R k 0) v).setCell (R m 0) (Y c)).setCell (R m 1) (.int .u16 d)).setCell (R m 0) (Y c)).setCell (R m 1) (.int .u16 d)))/\
  (((((W.setCell (R k 0) v).setCell (R m 0) (Y c)).setCell (R m 1) (.int .u16 d)).setCell (R m 0) (Y c)).setCell (R m 1) (.int .u16 d)).heap[k]?=some (N #[v] 41)/\
  (((((W.setCell (R k 0) v).setCell (R m 0) (Y c)).setCell (R m 1) (.int .u16 d)).setCell (R m 0) (Y c)).setCell (R m 1) (.int .u16 d)).heap[m]?=some (N #[Y c,.int .u16 d] 172):=by
 obtain⟨_,_,rfl⟩:∃a b,g= #[a,b]:=by
  match g,u with
  |⟨[a,b]⟩,_=>exact⟨a,b,rfl⟩
 obtain⟨_,rfl⟩:∃a,i= #[a]:=by
  match i,z with
  |⟨[a]⟩,_=>exact⟨a,rfl⟩
 have A:=heap_setCell_same W k 0 _ 41 v y;have r:=(RW W (R k 0) m v n).trans x;have s:=heap_setCell_same _ m 0 _ 172 (Y c) r;have t:=heap_setCell_same _ m 1 _ 172 (.int .u16 d) s;have x4:=heap_setCell_same _ m 0 _ 172 (Y c) t;have B:=heap_setCell_same _ m 1 _ 172 (.int .u16 d) x4;have j:=QO q f;have C:=QO q o;have l:k≠m:=λe=>n e.symm;refine⟨(((((Fr.refl [41,172] aF W).set (p:=R k 0) y rfl C _).set (p:=R m 0) r rfl j _).set (p:=R m 1) s rfl j _).set (p:=R m 0) t rfl j _).set (p:=R m 1) x4 rfl j _,λh=>((((iI.new h o _).new f _).new f _).new f _).new f _,?_,B⟩;exact(RW _ (R m 1) k _ l).trans ((RW _ (R m 0) k _ l).trans ((RW _ (R m 1) k _ l).trans ((RW _ (R m 0) k _ l).trans A)))
def Pf[Lo](Z:bg)(g:au)(d:Option Nat)(V:bW)(C:Nat)(e:Rs)(w:M)(bA f h b k i:Nat)(q:Bool)(W:M):Prop:=
 vp Z g d V C e w q W/\DV Z bA f h b k i W/\∃a n c,W.heap[b]?=some (N #[.slice a n c] 41)/\cN W (.slice a n c) 128 (eL g V (k+i))
def Pg[Lo](Z:bg)(g:au)(a:Option Nat)(V:bW)(C:Nat)(b:Rs)(w:QL)(bA c d e k i t:Nat)(W:QL):Prop:=
 a=some t/\t<g.M/\DV Z bA c d e k i W/\∃s u,Inv W Z g a V C s u/\u.st t≠2/\iI Z w W/\Sm b s
theorem DX[Lo](Z:bg)(g:au)(O:Option Nat)(V:bW)(C:Nat)(P:Rs)(w:QL)(bA z A m k i:Nat)(b6:k+i<g.B)(q:Bool)(W:QL)(h:vp Z g O V C P w q W)(a0:DV Z bA z A m k i W)(b0:w.heap.size<=m)(b1:Lo.lo<=w.heap.size):
  aD 102 #[aq bA,aq z,aq A,aq m] W λe j=>∃t B,aK e (gV t B)/\((B=0/\Pf Z g O V C P w bA z A m k i q j)\/(q=false/\nN B/\Pg Z g O V C P w bA z A m k i t j)):=by
 obtain⟨b2,D,b3,F,n,b⟩:=dQ W (ao #[ae 0,aG 0] 172);have o:=h.below n;have b4:w.heap.size<=W.heap.size:=by obtain⟨_,_,_,_,hF,_⟩:=h;exact hF.size
 have a:=a0.below n;obtain⟨s,u,T,-,hF,-⟩:=id o;have b7:g.B<=1048576:=by have:=T.eK.bZ;unfold au.B au.E;have h1:=this.m16;have h2:=this.qd;have h3:=this.gP;exact QO (TJ h3 (TJ (show g.M-1<=16 by omega) h2)) ai
 obtain⟨b8,-,E⟩:=T.ay.arr.aL;obtain⟨k0,f0,z0⟩:=cr E;obtain⟨a1,a2,a3⟩:=cr a.a;obtain⟨a4,a5,a6⟩:=cr a.b;obtain⟨a7,a8,a9⟩:=cr a.i;have U:=ad (λb5 (E:ar b2 b5)=>(GU Z g O V C P w (k+i) b6 q b5 (o.below E)).mono λe j h=>And.intro h (show Fr TB aF b2 j from by obtain⟨_,_,_,_,_,_,f,_⟩:=h;exact(Fr.af E).tr f));have p:=ad E;obtain⟨c1,c⟩:=a.d;have n1:=fI a.a c ai;have n2:=fI a.b c ai;have n3:=fI a.i c ai;have n4:=fI a.a b ai;have n5:=fI a.b b ai;have n6:=fI a.i b ai;have n7:=fI c b ai;have X:=Ne.symm n7;have n8:=fI p b ai;have n9:=fI p c ai;have l:=aS a b b0 b1;have r:=aA b3 F;have H:=ad c;clear c;have b9:QQ.wrap ((k:Int)+(i:Nat))=((k+i:Nat):Int):=bf;clear h a0 n b o a E b3 F T hF b0 b1;go_enter func102,ntmps102;go_wp2_with fail
 try simp only[r.out.1,r.out.2]
 go_region_held3(λj=>j.cell? ⟨bA,0,none⟩=some (aq Z.A)/\j.cell? ⟨Z.A,13,none⟩=some (aq Z.R)/\j.cell? ⟨z,0,none⟩=some (ae k)/\j.cell? ⟨A,0,none⟩=some (ae i)) ((simp[*,go_sem];done)) (first|(go_at_call 103;refine(U _ bC).mono ?_;rintro e w2 ⟨⟨N,M,R,t,B,rfl,-,d⟩,f⟩;obtain⟨Q,S,x⟩:=cj t B;rw[x];have G:=aM d f x;have v1:=(cr (f.hp l.1.a rfl)).1 0;have v2:=(cr (f.hp p rfl)).1 13;have v3:=(cr (f.hp l.1.b rfl)).1 0;have v4:=(cr (f.hp l.1.i rfl)).1 0;have I:=f.hp l.2.1 rfl;obtain⟨x1,x2,x3⟩:=cr I;have Y:=f.hp H rfl;obtain⟨y1,y2,y3⟩:=cr Y;have K:=aA I Y;clear d f x I Y));go_wp2;obtain⟨W5,J⟩:=ah (((((w2.setCell ⟨m,0,none⟩ (.slice N M R)).setCell ⟨D,0,none⟩ (ae Q)).setCell ⟨D,1,none⟩ (.int .u16 S)).setCell ⟨D,0,none⟩ (ae Q)).setCell ⟨D,1,none⟩ (.int .u16 S));have c0:W.heap.size=D:=r.2;obtain⟨y,q2,q3,q4⟩:=NV (w:=w) K.1 K.2 X aa l.2.2.1 l.2.2.2 (.slice N M R) Q S;rw[J]at y q2 q3 q4|-;obtain⟨e1,-,-⟩:=cr q4;have e2:=e1 0;have e3:=e1 1;refine RB (v:=.agg #[ae Q,.int .u16 S]) (by simp[RV,results102,go_sem,e2,e3]) rfl ⟨t,B,by rw[G.2.2],?_⟩;have L:DV Z bA z A m k i W5:=⟨y.hp (G.2.1.hp l.1.a rfl) rfl,y.hp (G.2.1.hp l.1.b rfl) rfl,y.hp (G.2.1.hp l.1.i rfl) rfl,_,q3⟩;rcases G.1 with⟨r1,⟨s2,u2,i2,j2,k2,l2⟩,r3⟩|⟨r1,r2,r3,r4,s2,u2,i2,j2,k2,l2⟩
 .exact .inl ⟨r1,⟨s2,u2,i2.fr y rfl,j2,q2 k2,l2⟩,L,N,M,R,q3,r3.fr y rfl⟩
 .exact .inr ⟨r1,r2,r3,r4,L,s2,u2,i2.fr y rfl,j2,q2 k2,l2⟩
end Go.Proofs.YtbimjlmclegaeaaGreat
