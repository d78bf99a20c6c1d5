/- TopOne: without crashes, and with at most one member away, every call answers what one disk would; part 4 of 6. Conditions: none. -/
import Derived.Test.YtbimjlmclegaeaaGreatP2
namespace Go.Proofs.YtbimjlmclegaeaaGreat
set_option maxRecDepth 100000
set_option maxHeartbeats 8000000
open Go.RowKit Go.Proofs.Tryz
open Go renaming World->QA,World->M,heap_alloc_new->QB,Value->QC,bodyPost_ret->QR,cell_of_row->QT,results->RM,heap_setCell_other->RN,Ending->RW,info_parts->SD,TypeId->SV,Addr->SZ,madeCells->TQ,results_cell_tmp->UE,maxLen->UI,callFunc->UN,leaves_cons->WY,heap_alloc_old->YE,splice->YG
open Nat renaming le_trans->QE,le_refl->QH,zero_le->QN,zero_add->RH,lt_of_lt_of_le->RJ,le_of_eq->RO,not_lt_zero->RR,mod_lt->RT,mod_eq_of_lt->SA,mul_le_mul->SX,lt_succ_self->TK,le_of_lt->TL,lt_irrefl->TO,mul_one->TZ,add_assoc->UO,le_succ->US,add_sub_cancel_left->UW,mul_comm->VB,add_zero->VJ,zero_mul->VV,mul_le_mul_right->WC,min_eq_left->WK,ne_of_lt->XG,succ_mul->XZ,mod_one->YF,sub_le->YW,lt_or_ge->YY,add_comm->YZ,min_le_left->ZH
open List renaming getElem_cons_zero->QF,getElem_cons_succ->QG,getElem_toArray->QI,length_append->QU,mem_of_getElem?->QV,getElem?_append_right->QZ,length_map->RA,getElem?_append_left->RD,getElem?_eq_none->RE,getElem?_map->RL,mem_map->RQ,mem_cons_self->SE,getElem?_range->SF,map_append->SH,mem_cons_of_mem->SN,mem_singleton->SP,append_assoc->SY,getElem?_take->TH,mem_append->TJ,ext_getElem?->TN,range->TT,mem_range->UA,append_nil->UB,take_add_one->UF,mem_cons->UG,range_succ->UK,nil_append->UT,flatMap_append->UY,length_take->VD,size_toArray->VW,all_eq_true->WD,mem_flatMap->WH,take_of_length_le->YH,nodup_nil->ZK,mem_of_mem_take->ZL
open Go.IntKind renaming i64->QK,u64->VN,u8->ZC
open Go.World renaming block_lt_of_cell?->QO,cell?_of_block->QQ,size_setCell->RS,news_of_block->RY,ownsRow_nil->SJ,size_alloc->SS
open Go.RowKit.Below renaming heap_alloc->QW,heap_setCell->RP,refl->SL
open Go.RowKit renaming Hid->QX,Below->SC,wrap64->WV
open Go.Lib renaming hid->RB
open Go.Proofs renaming enters_of->RF
open Go.Act renaming put->RG,eval->VU
open Option.some renaming inj->RK,injEq->SO
open Go.Value renaming slice->RU,int->SK
open _root_.Array renaming getElem?_eq_getElem->SB
open Int renaming ofNat_tmod->SI,natCast_mul->TG
open Go.Instr renaming makeSlice->TC
open List.cons renaming injEq->UD
open BitVec renaming ofInt->UJ,ofInt_natCast->WW,toNat_ofNat->XL
open Go.Proofs.Tryz renaming underlying41->UL,underlying5->UR,underlying68->VS,prog->VY,underlying82->YD
open Go.Obj.cells renaming inj->UU
open Bool renaming and_eq_true->VM
open UInt8 renaming ofNat->VX
open Go.DataW renaming trod->YL
open Go.Result renaming ok->YT
open Go.Calls renaming quiet_of_same->ZQ
variable {w W z:World}{n m k i j r C:Nat}{c:Int}{v x y:Value}{T:List Nat}{p:Addr}{P:Option Addr}{A:Array Value}{d:Bool}{S Q X:Nat->Prop}{t:TypeId}{L:List Value}{O:Obj}{f:aQ}{F:dp}{g:az}{K:bq}{l:List Pt}{D:Dk}{U:Dv}{b:By}{o:Ro}{s:Rs}{u:Su}
def Pd[Lo](Z:bm)(g:az)(m:Nat)(V:bY)(C:Nat)(s:Rs)(u:Su)(bA a:Nat)(w W:M):Prop:=
 ∃b,Inv W Z g (some m) V (C-100) {s with b:=b} u/\bh b/\eB Z w W/\W.heap[bA]?=some (N #[H Z.A] 71)/\W.heap[a]?=some (N #[Y m] 3)/\
  ∀ro:Ro,ro.wt=s.ro.wt->(∀j r,r<g.R->ro.down j r=false->s.ro.down j r=false\/(j=m/\u.cur*g.c<=r/\r<u.cur*g.c+g.c))->(∀j r,ro.down j r=true->some m=some j)->Gt g (some m) V {s with b:=b,ro:=ro}
theorem JO(h:u.ok g)(b:i<g.c):u.cur*g.c+i<g.R:=by have a:=h.cur.1;unfold az.R;have:(u.cur+1)*g.c<=g.s*g.c:=WC _ a;rw[XZ]at this;omega
theorem DR[Lo](Z:bm)(g:az)(m:Nat)(V:bY)(C:Nat)(s:Rs)(u:Su)(bA T:Nat)(w W:QA)(h:Inv W Z g (some m) V C s u)(t:eB Z w W)(U:u.st m=3)(F:m<g.M)(c3:1000<=C)(X:W.heap[bA]?=some (al #[ar Z.A] 71))(H:W.heap[T]?=some (al #[ae m] 3))(b0:Lo.lo<=w.heap.size):
  aE 124 #[ar bA,ar T] W λe c=>aK e (gT 0 0)/\Pd Z g m V C s u bA T w c:=by
 obtain⟨I,D,a8,K,f,j⟩:=dU W (al #[ae 0,aG 0] 172);have a:=h.below f;have l:=(f.block _ (Z_ X)).trans X;have n:=(f.block _ (Z_ H)).trans H;obtain⟨b4,-,z⟩:=a.ay.arr.aL;obtain⟨k0,f0,z0⟩:=cr z;obtain⟨y1,y2,y3⟩:=cr X;obtain⟨y4,y5,y6⟩:=cr H;obtain⟨a1,a2,a3⟩:=cr l;obtain⟨b1,b2,b3⟩:=cr n;have Y:=h.eK.b_;have J:=h.gI ⟨m,F,U⟩;have a0:∀i,i<g.c->u.cur*g.c+i<g.R:=λi L=>JO h.eK L;have O:∀r,s.ro.down m r=decide (u.cur*g.c<=r):=λr=>by unfold Ro.down;rw[h.n_ m,ao F];unfold dM;rw[U];rfl
 have P:=ad (ia Z g u false m I a.ay.arr F Y.m16);rw[show decide (u.st m≠2)=true by simp[U]]at P;obtain⟨⟨a4,c4,c5⟩,N⟩:∃x,gC g s.ro m (u.cur*g.c) s.b=x:=⟨_,rfl⟩;obtain⟨e0,a9,A,Q⟩:=h.gt.JJ J F a0 N;subst e0;have y:=DP h.fit aa N;have a5:=ad (λa6 (d:au I a6)=>(Dj Z.R Z.B _ g Z.fb s.ro s.b m u.cur a6 (a.below d).ay.rs.row (a.below d).ay.rs.cj Y h.gt.gd.N F h.eK.cur.1 (λk _=>by rw[O];simp) (h.gt.NR J h.fit aa F a0)).mono λe c (b5:np Z.B (gC g s.ro m (u.cur*g.c) s.b) a6 e c)=>show aK e (.agg #[ae 0,aG 0])/\Inv c Z g (some m) V (C-100) {s with b:=a4} u/\Fr TB aF I c from by obtain⟨q1,q2,M⟩:=b5;rw[N]at q1 q2;refine⟨q1,?_,(Fr.af d).tr M⟩;exact(a.below d).rows (s':={s with b:=a4}) ⟨(a.below d).ay.rs.row.fr M rfl rfl rfl rfl,q2,(a.below d).ay.rs.kf.fr M rfl rfl rfl rfl,h.ay.rs.lo⟩ (M.wide iH rfl) a9 y rfl rfl rfl (λ_=>A) aa);have n1:=fI l j aj;have n2:=fI n j aj;have n3:=fI z j aj;have o:=aM a8 K j;have q:=eM t f b0 A l n;have a7:=ad Q;have c6:=Y.m16;clear h t U X H f j a8 K a l n z a0 O a9 J A Q y N;obtain⟨b6,b7,b8⟩:=g;go_enter func124,ntmps124;go_wp2_with fail;simp only[o.out.1,o.out.2.1];go_wp2_with(go_at_call 120;refine P.mono ?_;rintro e w1 ⟨rfl,rfl⟩);go_region_held3(λc=>c.cell? ⟨bA,0,none⟩=some (ar Z.A)/\c.cell? ⟨T,0,none⟩=some (ae m)/\c.cell? ⟨Z.A,0,none⟩=some (ar Z.B)/\c.cell? ⟨Z.A,5,none⟩=some (ae b6)/\c.cell? ⟨Z.A,6,none⟩=some (ae b7)/\c.cell? ⟨Z.A,7,none⟩=some (ae b8)/\c.cell? ⟨Z.A,13,none⟩=some (ar Z.R)/\c.cell? ⟨Z.A,12,none⟩=some (ae u.cur)) ((simp[*,go_sem];done)) (first|(go_at_call 125;refine(a5 _ (by first|exact ak|exact cE ak _)).mono ?_;rintro e w2 ⟨rfl,L,t⟩;have v1:=(cr (t.hp q.2.2.2.2.1 rfl)).1 0;have v2:=(cr (t.hp q.2.2.2.2.2 rfl)).1 0;obtain⟨c2,-,B⟩:=L.ay.arr.aL;obtain⟨k1,f1,z1⟩:=cr B;have R:=t.hp o.2.2 rfl;obtain⟨x1,x2,x3⟩:=cr R;have G:=aM L t R;have c7:=fI B R aj;clear L t B R));go_wp2;have b9:=q.1.size;have E:w.heap.size<=D:=by have:=o.2.1;omega
 have S:=QE q.2.2.1 E;have x4:=heap_setCell_same w2 D 0 _ 172 (ae 0) G.2.2;have x5:=heap_setCell_same _ D 1 _ 172 (aG 0) x4;have f5:=((Fr.refl [172] aF w2).set (p:=⟨D,0,none⟩) G.2.2 rfl S (ae 0)).set (p:=⟨D,1,none⟩) x4 rfl S (aG 0);have g5:eB Z w ((w2.setCell ⟨D,0,none⟩ (ae 0)).setCell ⟨D,1,none⟩ (aG 0)):=(((q.1.trans (eB.af q.2.1)).trans (Fr.ra G.2.1.rb)).new (p:=⟨D,0,none⟩) E _).new (p:=⟨D,1,none⟩) E _;have c0:=(cr x5).1 0;have c1:=(cr x5).1 1;refine QR (v:=.agg #[ae 0,aG 0]) (by simp[RM,results124,go_sem,c0,c1]) rfl ⟨rfl,a4,G.1.fr f5 rfl,q.2.2.2.1,g5,f5.hp (G.2.1.hp q.2.2.2.2.1 rfl) rfl,f5.hp (G.2.1.hp q.2.2.2.2.2 rfl) rfl,a7⟩
def JP[Lo](Z:bm)(g:az)(m:Nat)(V:bY)(C:Nat)(u:Su)(w b:QA):Prop:=
 ∃s a,Inv b Z g (some m) V C s a/\bh s.b/\eB Z w b/\if u.cur+1=g.s then∀k,k<g.M->a.st k=1 else a.st m=3/\a.cur=u.cur+1
def Su.dR(g:az)(u:Su)(m:Nat):Su:=if u.cur+1=g.s then{u with st:=λk=>if k=m then 1 else u.st k,cur:=0}else{u with cur:=u.cur+1}
theorem Su.one(a:∀k,k<g.M->u.st k≠1->some m=some k)(b:k<g.M)(e:k≠m):u.st k=1:=by
 by_cases q:u.st k=1
 .exact q
 .exact absurd (RK (a k b q)).symm e
theorem Su.DS(h:u.ok g)(f:m<g.M)(i:u.st m=3)(j:∀k,k<g.M->u.st k≠1->some m=some k):(u.dR g m).ok g:=by
 unfold Su.dR;by_cases e:u.cur+1=g.s
 .rw [ao e];have c:∀k,k<g.M->(if k=m then 1 else u.st k)=1:=λk d=>by
   by_cases q:k=m
   .rw [ao q]
   .rw [aq q];exact Su.one j d q
  exact⟨h.b_,h.id,h.ev,h.rl,h.ring,λk d=>.inl (c k d),λa b l _ n _=>absurd ((c a l).symm.trans n) aj,⟨h.b_.s1,λe=>absurd rfl e⟩⟩
 .rw [aq e];have:=h.cur.1;exact⟨h.b_,h.id,h.ev,h.rl,h.ring,h.st,h.one,⟨by show u.cur+1<g.s;omega,λ_=>⟨m,f,i⟩⟩⟩
theorem DT{V:bY}(p:m<g.M)(i:u.st m=3)(d:∀m,s.ro.fr m=if m<g.M then dM g u m else none)(l:∀k,k<g.M->u.st k≠1->some m=some k)(o:∀ro:Ro,ro.wt=s.ro.wt->(∀j r,r<g.R->ro.down j r=false->s.ro.down j r=false\/(j=m/\u.cur*g.c<=r/\r<u.cur*g.c+g.c))->(∀j r,ro.down j r=true->some m=some j)->Gt g (some m) V {s with b:=b,ro:=ro}):Gt g (some m) V {s with b:=b,ro:=s.ro.marks g (u.dR g m) g.M}:=by
 have f:=λj=>jv (g:=g) (u:=u.dR g m) (ro:=s.ro) (λk t=>by rw[d k,aq J]) j;have h:∀j,j<g.M->j≠m->(u.dR g m).st j=1:=λj c e=>by
  have:=Su.one l c e;unfold Su.dR;split
  .show (if j=m then 1 else u.st j)=1;rw[aq e];exact this
  .exact this
 refine o _ rfl (λj r v a=>?_) λj r a=>?_
 .unfold Ro.down at a|-;rw[f j]at a;rw[d j];by_cases c:j<g.M
  .rw [ao c]at a|-;by_cases e:j=m
   .subst e;unfold dM at a|-;rw[i];simp only[show¬(3:Nat)=1 by decide,show¬(3:Nat)=2 by decide,if_false,decide_eq_false_iff_not,Nat.not_le];by_cases q:u.cur*g.c<=r
    .refine .inr ⟨trivial,q,?_⟩;unfold Su.dR at a;by_cases n:u.cur+1=g.s
     .have:g.R=u.cur*g.c+g.c:=by unfold az.R;rw[<-n,XZ]
      omega
     .rw [aq n]at a;simp only[i,show¬(3:Nat)=1 by decide,show¬(3:Nat)=2 by decide,if_false,decide_eq_false_iff_not,Nat.not_le,XZ]at a;exact a
    .exact .inl J
   .unfold dM;rw[Su.one l c e];exact .inl rfl
  .rw [aq c];exact .inl rfl
 .unfold Ro.down at a;rw[f j]at a;by_cases c:j<g.M
  .by_cases e:j=m
   .rw [e]
   .rw [ao c]at a;unfold dM at a;rw[h j c e]at a;simp at a
  .rw [aq c]at a;simp at a
theorem JQ(w:M)(A B C D:Obj):((((w.alloc A).alloc B).alloc C).alloc D).heap[w.heap.size]?=some A/\((((w.alloc A).alloc B).alloc C).alloc D).heap[w.heap.size+1]?=some B/\((((w.alloc A).alloc B).alloc C).alloc D).heap[w.heap.size+1+1]?=some C/\((((w.alloc A).alloc B).alloc C).alloc D).heap[w.heap.size+1+1+1]?=some D/\((((w.alloc A).alloc B).alloc C).alloc D).heap.size=w.heap.size+4/\au w ((((w.alloc A).alloc B).alloc C).alloc D):=by have a:∀(w:M) (o:Obj),(w.alloc o).heap.size=w.heap.size+1:=λw o=>aJ;have b:=a w A;have c:=a (w.alloc A) B;have g:=a ((w.alloc A).alloc B) C;have i:=a (((w.alloc A).alloc B).alloc C) D;have h:=QB w A;have d:=QB (w.alloc A) B;have e:=QB ((w.alloc A).alloc B) C;have f:=QB (((w.alloc A).alloc B).alloc C) D;rw[b]at d;rw[c,b]at e;rw[g,c,b]at f;exact⟨(YE _ _ J).trans ((YE _ _ J).trans ((YE _ _ J).trans h)),(YE _ _ J).trans ((YE _ _ J).trans d),(YE _ _ J).trans e,f,J,aI (aI (aI (aI ak _) _) _) _⟩
theorem DU[Lo](Z:bm)(g:az)(p:Option Nat)(V:bY)(C:Nat)(r:Rs)(w:QA)(bA j l m k i:Nat)(B:k+i<g.B)(D:1000<=C)(E:bA≠Z.fb)(F:j≠Z.fb)(G:l≠Z.fb)(K:w.heap.size<=m)(L:Lo.lo<=w.heap.size)(R:Z.fb<w.heap.size):
  KP Z g 102 #[] #[ar bA,ar j,ar l,ar m] (λq W=>vh Z g p V C r w q W/\DO Z bA j l m k i W) (λW=>∃q,Pb Z g p V C r w bA j l m k i q W) (λt _ W=>Pc Z g p V C r w bA j l m k i t W) where
 enters:=RF func102 ai rfl
 call:=λq W h=>(DQ Z g p V C r w bA j l m k i B q W h.1 h.2 K L).mono λe O ⟨t,x,f,o⟩=>⟨t,x,f,o.imp (λh=>⟨h.1,q,h.2⟩) λh=>⟨h.1,h.2.1,h.2.2.2.1,h.2.2⟩⟩
 gT:=by rintro t x W P ⟨rfl,Q,S,s,u,y,T,U,X⟩;refine(ic Z g t V C x s u W y Q T D P).mono ?_;rintro e O ⟨f,H,N,d⟩;exact⟨f,⟨H,N,d.inv.less (by rw[ao rfl];omega),λ_=>d.inv.quiet d.down,U.trans d.bV,X.trans ⟨d.x,d.wt,d.sl,d.lz⟩⟩,S.PR d.bV F G E J⟩
 arr:=λ_ _ _ ⟨_,_,_,s,u,y,_⟩=>⟨u,false,y.ay.arr⟩
 sb:=λ_ _ _ h b=>⟨h.1.below b,h.2.below b⟩
 qb:=λ_ _ ⟨q,f,o,a,n,c,v,z⟩ b=>⟨q,f.below b,o.below b,a,n,c,(b.block _ (Z_ v)).trans v,z.below b⟩
 tb:=λ_ _ _ _ ⟨f,o,v,s,u,z,M,A⟩ b=>⟨f,o,v.below b,s,u,z.below b,M,A.1.then b,A.2⟩
theorem DV(e o:Nat)(w:M)(b:a_ w e (N #[aG 0] 35)):CallsD prog 97 #[H e,H o] .returning w λe c a=>c=.returning/\aK e (.tuple #[])/\a=w:=by obtain⟨d1,d2,d3⟩:=cr b;refine callsD_of_wp (R:=λe a=>aK e (.tuple #[])/\a=w) func97 rfl ?_;simp only[ntmps97,Array.size];go_wp2;go_end0;exact⟨rfl,rfl⟩
def Pe[Lo](Z:bm)(g:az)(d:Option Nat)(V:bY)(C:Nat)(f:Rs)(k n:Nat)(w:M)(e:RW)(b:M):Prop:=
 ∃a c,aK e (.tuple #[.slice a (n*128) c,aG 0])/\cR b (.slice a (n*128) c) (n*128) (λj=>eL g V (k+j/128) (j%128))/\∃q,vh Z g d V C f w q b
structure GO[Lo](Z:bm)(g:az)(aw:Option Nat)(V:bY)(C:Nat)(s0:Rs)(bA bB bO bE k i:Nat)(w W:M):Prop where
 st:∃q,vh Z g aw V C s0 w q W
 a:W.heap[bA]? =some (N #[H Z.A] 71)
 b:W.heap[bB]? =some (N #[Y k] 3)
 e:W.heap[bE]? =some (N #[aG 0] 35)
 o:∃v,W.heap[bO]? =some (N #[v] 41)/\W.ownsRow w.heap.size 5 1 v (i*128) (aA (i*128) fun j=>eL g V (k+j/128) (j%128))
theorem GO.below[Lo]{Z:bm}{b:Option Nat}{V:bY}(h:GO Z g b V C s n m j r k i w W)(a:au W z):GO Z g b V C s n m j r k i w z:=
 ⟨h.st.imp λ_ h=>h.below a,(a.block _ (Z_ h.a)).trans h.a,(a.block _ (Z_ h.b)).trans h.b,(a.block _ (Z_ h.e)).trans h.e,h.o.imp λ_ h=>⟨(a.block _ (Z_ h.1)).trans h.1,aP a h.2⟩⟩
theorem GO.step[Lo]{Z:bm}{B:Option Nat}{V:bY}{D:Rs}{H:Su}{bA Q b S k i N M:Nat}(U:Inv w Z g B V n D H)(R:vh Z g B V C D w d W)(o:W.heap[b]?=some (al #[.slice P N m] 41))(q:W.heap[S]?=some (al #[aG 0] 35))(r:W.heap[bA]?=some (al #[ar Z.A] 71))(t:W.heap[Q]?=some (al #[ae k] 3))(y:W.ownsRow w.heap.size 5 1 (.slice P N m) N (aA N λj=>eL g V (k+j/128) (j%128)))(F:eL g V (k+i)=f)(a1:i*128=N)(l:z.ownsRow w.heap.size 5 1 v (N+128) ((aA N λj=>eL g V (k+j/128) (j%128))++aA 128 f))(a:nF M W (.slice P N m) N 128 v z)(X:w.heap.size<=b):
  GO Z g B V C D bA Q b S k (i+1) w (z.setCell (ag b 0) v)/\z.heap[b]?=some (al #[.slice P N m] 41):=by
 have c:∀{x T:Nat} {I:Array QC} {Y:Nat × Nat},W.heap[x]?=some (.cells I T Y)->T≠5->(RU P N m).ownBlock≠some x:=λJ h2 e=>by obtain⟨-,G,K,A⟩:=fu y e;rw[J]at A;exact h2 (UU (RK A)).2.1
 have E:=a.heap o (c o aj);have q4:vh Z g B V C D w d z:=R.own U (a.out (Out.refl (λx=>(RU P N m).ownBlock=some x) W) λ_ h _=>h) λx L=>fu y L;obtain⟨s,u,i1,i2,i3,i4⟩:=q4;have O:=QE U.low X;have f5:Fr [41] aF z (z.setCell (ag b 0) v):=(Fr.refl _ _ _).set (p:=ag b 0) E rfl O _;refine⟨⟨⟨d,s,u,i1.fr f5 rfl,i2,i3.new X _,i4⟩,f5.hp (a.heap r (c r aj)) rfl,f5.hp (a.heap t (c t aj)) rfl,f5.hp (a.heap q (c q aj)) rfl,v,heap_setCell_same z b 0 _ 41 v E,?_⟩,E⟩;have a0:Out (λx=>x=b) z (z.setCell (ag b 0) v):=(Out.refl (λx=>x=b) z).setCell (p:=ag b 0) (λ_=>rfl) v;have:=a0.own l λx L e=>by obtain⟨-,G,K,A⟩:=fu l L;rw[e,E]at A;exact absurd (UU (RK A)).2.1 aj
 rw[jF]at this;rw[show(i+1)*128=N+128 by omega];rw[ee (g:=cat N (λj=>eL g V (k+j/128) (j%128)) f) λj a2=>?_]
 .exact this
 .unfold cat;by_cases e:j<N
  .rw [ao e]
  .rw [aq e,<-F,show j/128=i by omega,show j%128=j-N by omega]
theorem GP[Lo](Z:bm)(g:az)(F:Option Nat)(V:bY)(C:Nat)(s:Rs)(u:Su)(k n:Nat)(w:QA)(h:Inv w Z g F V C s u)(j4:1000<=C)(j8:k+n<=g.B):
  aE 59 #[ar Z.A,ae k,ae n] w (Pe Z g F V C s k n w):=by
 obtain⟨j9,g5,g7,g8,g9⟩:=SD kb;obtain⟨g0,h0⟩:=ah ((((w.alloc (al #[ar Z.A] 71)).alloc (al #[ae k] 3)).alloc (al #[aW] 41)).alloc (al #[aG 0] 35));obtain⟨b6,R,g1,b7,I,y⟩:=JQ w (al #[ar Z.A] 71) (al #[ae k] 3) (al #[aW] 41) (al #[aG 0] 35);rw[h0]at b6 R g1 b7 I y;obtain⟨bA,z⟩:=ah w.heap.size;obtain⟨Y,b⟩:=ah (w.heap.size+1);obtain⟨o,G⟩:=ah (w.heap.size+1+1);obtain⟨c,J⟩:=ah (w.heap.size+1+1+1);rw[z]at b6;rw[b]at R;rw[G]at g1;rw[J]at b7;have h6:=ad h;have a0:QX (w.heap.size<=o):=by rw[<-G];exact QE (US _) (US _)
 have A:=h.below y;have b8:=h.eK.b_;have h7:g.B<=1048576:=by have h1:=b8.m16;have h2:=b8.pZ;have h3:=b8.hj;unfold az.B az.E;exact QE (SX h3 (SX (show g.M-1<=16 by omega) h2)) aj
 have K:=Z_ h.ay.rs.row.fy;obtain⟨k1,-,r⟩:=A.ay.arr.aL;obtain⟨k0,f0,z0⟩:=cr r;obtain⟨a1,a2,a3⟩:=cr b6;obtain⟨b1,b2,b3⟩:=cr R;obtain⟨x1,x2,x3⟩:=cr b7;have b9:=ad (gD Z g u false g0 A.ay.arr);have a4:=ad (λW (R:au g0 W)=>An Z g u false W (A.below R).ay.arr b8);have d0:QX (GO Z g F V C s bA Y o c k 0 w g0):=⟨⟨false,s,u,A,λe=>(by cases e),iI.af y,rfl,rfl,rfl,rfl⟩,b6,R,b7,_,g1,by rw[VV];exact SJ _ _ _ _⟩;have d:=eM h0 z b G J I;have b0:=aT j4 y h.low K;obtain⟨B,a5⟩:=ah g.B;rw[a5]at a4 j8 h7;have h8:=ad a5;have e1:decide ((n:Int)<0)=false:=aJ;have e2:decide ((k:Int)<0)=false:=aJ;have e3:decide (B<k)=false:=aR;have k2:decide ((B:Int)<(k:Nat))=false:=aR;have e4:QK.wrap ((B:Int)-(k:Nat))=((B-k:Nat):Int):=by rw[show(B:Int)-(k:Nat)=((B-k:Nat):Int)by omega];go_arith
 have e5:decide (B-k<n)=false:=aR;have k3:decide (((B-k:Nat):Int)<(n:Nat))=false:=aR;clear h y A r b6 R g1 b7 h0 z b G J I b8 a5 j4 K;obtain⟨U,X,H⟩:=g
 go_enter_defers func59,ntmps59
 go_wp2_with fail;rw[d.1,d.2.2.2.2.1,d.2.2.2.1,d.2.2.1,d.2.1];go_wp2_with(go_at_call 99;refine b9.mono ?_;rintro e w1 ⟨rfl,rfl⟩);go_region_held3(λj5=>j5.cell? (ag bA 0)=some (ar Z.A)/\j5.cell? (ag Y 0)=some (ae k)) ((simp[*,go_sem];done)) (first|(go_at_call 100;refine(a4 _ (by first|exact l|exact cE l _|exact cE ak _)).mono ?_;rintro e w2 ⟨rfl,d1⟩;have l:QX (au g0 w2):=via (by first|exact l|exact cE l _|exact cE ak _) d1;obtain⟨p1,p2,p3⟩:=kp l bA a3;obtain⟨p4,p5,p6⟩:=kp l Y b3;clear d1));have d2:QX (GO Z ⟨U,X,H⟩ F V C s bA Y o c k 0 w w2):=d0.below l;clear p1 p4 k0 a1 a3 b1 b3 x1 x2 x3 d0 a4 b9;go_wp2;go_loopw [34] (λj wr=>∃i:Nat,j= ae i/\i<=n/\QX (GO Z ⟨U,X,H⟩ F V C s bA Y o c k i w wr)) (λj _=>n-(intOf j).toNat)
 case atStart=>exact⟨0,rfl,QN _,d2⟩
 case round=>
  clear d2;obtain⟨i,rfl,h9,v⟩:=hrel;obtain⟨q,k4⟩:=v.st;obtain⟨s1,u1,b4,L,hF,O⟩:=k4;obtain⟨j6,-,r⟩:=b4.ay.arr.aL;obtain⟨k0,f0,z0⟩:=cr r;obtain⟨a1,a2,a3⟩:=cr v.a;obtain⟨b1,b2,b3⟩:=cr v.b;obtain⟨x1,x2,x3⟩:=cr v.e;by_cases a6:i<n
  .have k5:(i:Int)<(n:Int):=aa;obtain⟨g2,d3⟩:=ah ((wr.alloc (al #[ae i] 3)).alloc (al #[aW] 41));have b:au wr g2:=by rw[<-d3];exact aI (aI ak _) _
   have d4:a_ g2 wr.heap.size (al #[ae i] 3):=by rw[<-d3];exact gb _ _ _
   have d5:a_ g2 (wr.heap.size+1) (al #[aW] 41):=by rw[<-d3];exact fe _ _ _
   have d6:=ad d3;have a7:=hF.size;have K:=b0.2.2.2;have i0:=d.2;have a8:=v.below b;have i1:=ad (pt Z ⟨U,X,H⟩ b4.eK.b_.m16 102 _ _ _ _ _ (DU Z ⟨U,X,H⟩ F V C s1 wr bA Y wr.heap.size (wr.heap.size+1) k i (by rw[h8.out];omega) b0.1 aa aa aa (US _) (QE b0.2.2.1 a7) aa) q g2 ⟨⟨s1,u1,b4.below b,L,iI.af b,rfl,rfl,rfl,rfl⟩,a8.a,a8.b,d4,_,d5⟩);obtain⟨k6,m,t⟩:=v.o;have a:=eM (And.intro v.a (And.intro v.b v.e)) (And.intro hF O) h9 a6 m t;have P:QX (o≠Z.fb/\c≠Z.fb/\bA≠Z.fb/\Y≠Z.fb):=⟨aa,aa,aa,aa⟩;have i2:=ad a7;clear b4 L hF O r b d4 d5 d3 a7 i0 a8 m t K h9 a6;go_wp2_with fail;rw[d6.out];go_wp2_with(first
    |(go_at_call 101;refine i1.mono ?_;rintro e w3 ⟨rfl,q3,i4,k7,l4,l5,l6,d7,d8⟩
      obtain⟨s3,u3,i3,j3,f3,m3⟩:=i4;have Q:=Fr.heap f3 a.2.2.2.2.1 rfl P.1;have d9:=Fr.heap f3 a.1.2.2 rfl P.2.1;have e0:=Fr.heap f3 a.1.1 rfl P.2.2.1;have e9:=Fr.heap f3 a.1.2.1 rfl P.2.2.2;have D:=Fr.own f3 a.2.2.2.2.2 rfl λx k8 e=>by have h1:=(fu a.2.2.2.2.2 k8).1;have h2:=b0.2.2.2;omega
      obtain⟨N,I⟩:=ah (i*128);rw[I]at D;obtain⟨S,T,f1,-⟩:=av D;rw[f1]at Q D;obtain⟨gk,a9⟩:=ah (eL ⟨U,X,H⟩ V (k+i));rw[a9]at d8;obtain⟨l7,l8,e5,h5⟩:=d8;obtain⟨b5,o5,i5,i6,e6,f2,f4⟩:=h5.resolve_left aj;cases e5;subst e6;have i8:QX (∀j u,(aA 128 gk)[j]?=some u->w3.cell? (((ag b5 o5):SZ).add j)=some u):=λj u g3=>by
       by_cases f5:j<128
       .rw [ba _ _ _ f5]at g3;rw[iK,<-g3];exact(QT w3 b5 (o5+j) i5 5 i6 f2).trans (f4 j f5)
       .rw [RE (by rw[aH];omega)]at g3;cases g3
      have i9:QX (wr.heap.size<=w3.heap.size):=f3.size;have j0:QX (vh Z ⟨U,X,H⟩ F V C s w q3 w3):=⟨s3,u3,i3,j3,a.2.1.1.trans f3,a.2.1.2.trans m3⟩;have H3:=bZ Q d9 e0 e9 D;have f8:=aB a9 I;obtain⟨c1,c2,c3⟩:=cr Q;obtain⟨c4,c5,c6⟩:=cr d7;have k9:N<=200000000:=by have:=a.2.2.1;omega
      clear i3 j3 f3 m3 Q d9 e0 e9 D I f1 a9 h5 f2 f4 d7 a1 a3 b1 b3 x1 x2 x3 k0)
    |(at_builtin;refine aU _ rfl _ _ 41 rfl w.heap.size 5 j9 (.int .u8 0) 1 1 UL g5 g7 g8 g9 rfl aj (.slice S N T) N _ rfl H3.2.2.2.2 (ag b5 o5) 128 _ (aA 128 gk) rfl (by rw[aH]) i8 (dg _ _) aj (by unfold UI;omega) aa (QE i2 i9) ?_;intro l9 w4 E M;obtain⟨m0,l0,rfl,-⟩:=av E
      obtain⟨r1,r2⟩:=GO.step h6 j0 H3.1 H3.2.1 H3.2.2.1 H3.2.2.2.1 H3.2.2.2.2 f8.1 f8.2 E M a0;have j1:=ad r1;obtain⟨c7,c8,c9⟩:=cr r2;clear r1 r2 E M c1 c2))
   go_roundw
   case rel=>exact⟨i+1,by go_num,a.2.2.2.1,j1⟩
   case measure=>have:=a.2.2.2.1;simp[intOf];omega
  .obtain rfl:n=i:=aa;obtain⟨k6,m,t⟩:=v.o;obtain⟨S,T,rfl,-⟩:=av t;obtain⟨c1,c2,c3⟩:=cr m;have g4:=aM m t v.e;have l1:QX (vh Z ⟨U,X,H⟩ F V C s w q wr):=⟨s1,u1,b4,L,hF,O⟩;have n1:=fI v.e m aj;have n2:=Ne.symm n1;clear b4 L hF O r m t a6 h9 k0 a1 a3 b1 b3;go_wp2;have h1:=heap_setCell_same wr o 0 _ 41 (.slice S (n*128) T) g4.1;have h2:=(RN wr (ag o 0) c (.slice S (n*128) T) n1).trans g4.2.2;have h3:=heap_setCell_same _ c 0 _ 35 (aG 0) h2;have h4:=(RN _ (ag c 0) o (aG 0) n2).trans h1;have f9:w.heap.size<=c:=by have:=d.2.2.2.2.1;omega
   have f6:=((Fr.refl [41,35] aF wr).set (p:=ag o 0) g4.1 rfl (QE b0.2.2.1 a0) (.slice S (n*128) T)).set (p:=ag c 0) h2 rfl (QE b0.2.2.1 f9) (aG 0);have g6:iI Z w wr->iI Z w ((wr.setCell (ag o 0) (.slice S (n*128) T)).setCell (ag c 0) (aG 0)):=λh=>(h.new (p:=ag o 0) a0 _).new (p:=ag c 0) f9 _;obtain⟨W6,j2⟩:=ah ((wr.setCell (ag o 0) (.slice S (n*128) T)).setCell (ag c 0) (aG 0));rw[j2]at h3 h4 f6 g6|-;refine WY (f:=98) (args:= #[ar c]) aJ (by simp[go_sem]) ?_;refine(cN (ag c 0) _).mono ?_;rintro e l2 w7 ⟨rfl,rfl,e7⟩;rw[e7];refine WY (f:=97) (args:= #[ar c,ar o]) (by simp[settle]) (by simp[go_sem]) ?_;refine(DV c o _ h3).mono ?_;rintro e l2 w8 ⟨rfl,rfl,e8⟩;rw[e8];have l3:QX (Pe Z ⟨U,X,H⟩ F V C s k n w (.returned (.tuple #[.slice S (n*128) T,aG 0])) W6):=by obtain⟨s7,u7,i7,j7,f7,m7⟩:=l1.out;refine⟨S,T,rfl,?_,q,s7,u7,i7.fr f6 rfl,j7,g6 f7,m7⟩;have:=fX g4.2.1;exact this.fr f6 rfl
   have c0:=(cr h3).1 0;have c4:=(cr h4).1 0;simp[Leaves,settle,RM,results59,go_sem,c0,c4];exact l3
theorem DW[Lo](Z:bm)(g:az)(m:Nat)(V:bY)(C:Nat)(s:Rs)(u:Su)(bA c:Nat)(w:QA)(i:u.st m=3)(j:m<g.M)(k:1000<=C)(l:Lo.lo<=w.heap.size):
  KP Z g 124 #[] #[H bA,H c] (λ_ W=>Inv W Z g (some m) V C s u/\eB Z w W/\W.heap[bA]?=some (N #[H Z.A] 71)/\W.heap[c]?=some (N #[Y m] 3)) (λW=>Pd Z g m V C s u bA c w W) (λ_ _ _=>False) where
 enters:=RF func124 ai rfl
 call:=λq W h=>(DR Z g m V C s u bA c w W h.1 h.2.1 i j k h.2.2.1 h.2.2.2 l).mono λe t h=>⟨0,0,h.1,.inl ⟨rfl,h.2⟩⟩
 gT:=λ_ _ _ _ h=>h.elim
 arr:=λ_ _ _ h=>h.elim
 sb:=λ_ _ _ h a=>⟨h.1.below a,h.2.1.then a,(a.block _ (Z_ h.2.2.1)).trans h.2.2.1,(a.block _ (Z_ h.2.2.2)).trans h.2.2.2⟩
 qb:=λ_ _ ⟨b,n,o,p,d,f,r⟩ a=>⟨b,n.below a,o,p.then a,(a.block _ (Z_ d)).trans d,(a.block _ (Z_ f)).trans f,r⟩
 tb:=λ_ _ _ _ h _=>h
theorem sQ(e:u.cur+1=g.s):u.dR g m={u with st:=λk=>if k=m then 1 else u.st k,cur:=0}:=ao e
theorem xr(e:¬u.cur+1=g.s):u.dR g m={u with cur:=u.cur+1}:=aq e
theorem vj:(u.dR g m).ev=u.ev/\(u.dR g m).N=u.N/\(u.dR g m).lz=u.lz/\(u.dR g m).lost=u.lost:=by unfold Su.dR;split<;>exact⟨rfl,rfl,rfl,rfl⟩
theorem vk(a:∀k,k<g.M->u.st k≠1->some m=some k)(k:Nat)(b:k<g.M)(h:(u.dR g m).st k≠1):some m=some k:=by
 unfold Su.dR at h;split at h
 .have h:(if k=m then 1 else u.st k)≠1:=h;by_cases e:k=m
  .rw [e]
  .rw [aq e]at h;exact a k b h
 .exact a k b h
theorem kK(w:M)(A B:Obj):((w.alloc A).alloc B).heap[w.heap.size]?=some A/\((w.alloc A).alloc B).heap[w.heap.size+1]?=some B/\au w ((w.alloc A).alloc B):=⟨gb _ _ _,fe _ _ _,aI (aI ak _) _⟩
theorem AD[Lo](Z:bm)(g:az)(z:Option Nat)(V:bY)(C:Nat)(s:Rs)(u:Su)(w:QA)(h:Inv w Z g z V C s u)(E:∀k,k<g.M->u.st k≠3):
  aE 68 #[ar Z.A] w λe F=>aK e (.tuple #[.bool false,aG 160])/\Inv F Z g z V C s u/\eB Z w F:=by
 obtain⟨m,A⟩:=ah ((w.alloc (al #[ar Z.A] 71)).alloc (al #[aG 0] 35));obtain⟨y,n,c⟩:=kK w (al #[ar Z.A] 71) (al #[aG 0] 35);rw[A]at y n c;obtain⟨bA,a⟩:=ah w.heap.size;obtain⟨i,j⟩:=ah (w.heap.size+1);rw[a]at y;rw[j]at n;have b:=h.below c;have K:=h.eK.b_;obtain⟨L,o,p⟩:=b.ay.arr.aL;obtain⟨R,f0,I⟩:=cr p;obtain⟨Y,J,a3⟩:=cr y;obtain⟨x1,x2,x3⟩:=cr n;have B:=ad (gD Z g u false m b.ay.arr);have q:=ad (ph _ g.M u.st 3 m (b.ay.arr.NC o) (by have:=K.m16;omega) aj);have r:eP (λk=>decide (u.st k=3)) g.M= -1:=by
  unfold eP;cases O:gone (λk=>decide (u.st k=3)) g.M with
  |none=>rfl
  |some k=>obtain⟨P,Q⟩:=eQ O;exact absurd (of_decide_eq_true Q) (E k P)
 rw[r]at q;have d:=aM A a j;have t:=aT b c h.low n;clear h c b p y n A a j r E;obtain⟨S,T,U⟩:=g
 go_enter_defers func68,ntmps68
 go_wp2_with fail;rw[d.1,d.2.2,d.2.1];go_wp2_with(first|(go_at_call 99;refine B.mono ?_;rintro e W ⟨rfl,rfl⟩)|(go_at_call 122;refine q.mono ?_;rintro e W ⟨rfl,rfl⟩));have G:=heap_setCell_same m i 0 _ 35 (aG 160) t.2.2.2;have v:w.heap.size<=i:=by have:=d.2.2;omega
 obtain⟨D,x⟩:=ah ((m.setCell (ag i 0) (aG 160)).alloc (al #[ae (-1)] 3));have l:SC (m.setCell (ag i 0) (aG 160)).heap.size (m.setCell (ag i 0) (aG 160)) D:=by rw[<-x];exact aI ak _
 have X:QX (Inv D Z ⟨S,T,U⟩ z V C s u/\eB Z w D):=⟨(t.1.cell t.2.2.2 (QE t.2.2.1 v) rfl _).below l,((eB.af t.2.1).new v _).then l⟩;have H:=(l.block _ (Z_ G)).trans G
 try rw[x]
 refine WY (f:=98) (args:= #[ar i]) aJ (by simp[go_sem]) ?_;refine(cN (ag i 0) _).mono ?_;rintro e a0 w7 ⟨rfl,rfl,N⟩;rw[N];have M:=(cr H).1 0;simp[Leaves,settle,RM,results68,go_sem,M];exact X
theorem GQ[Lo](Z:bm)(g:az)(m:Nat)(V:bY)(C:Nat)(s:Rs)(u:Su)(w:QA)(h:Inv w Z g (some m) V C s u)(d1:m<g.M)(d2:u.st m=3)(i5:200000<=C):
  aE 68 #[ar Z.A] w λe b7=>aK e (.tuple #[.bool (decide (u.cur+1=g.s)),aG 0])/\JP Z g m V (C-30000) u w b7:=by
 have i7:∀(h6:Fn) (first b8:Array QC) (w:QA),(Instr.makeFunc h6 first b8).run prog w=.ok (.func h6 first b8) w:=λ_ _ _ _=>rfl;obtain⟨d5,g7⟩:=ah ((w.alloc (al #[ar Z.A] 71)).alloc (al #[aG 0] 35));obtain⟨d3,d4,P⟩:=kK w (al #[ar Z.A] 71) (al #[aG 0] 35);rw[g7]at d3 d4 P;obtain⟨bA,H⟩:=ah w.heap.size;obtain⟨o,b9⟩:=ah (w.heap.size+1);rw[H]at d3;rw[b9]at d4;have N:=h.below P;have i8:=h.eK.b_;obtain⟨b8,d6,d7⟩:=N.ay.arr.aL;obtain⟨k0,f0,z0⟩:=cr d7;obtain⟨a1,a2,a3⟩:=cr d3;obtain⟨x1,x2,x3⟩:=cr d4;have d8:=ad (gD Z g u false d5 N.ay.arr);have c4:=ad (ph _ g.M u.st 3 d5 (N.ay.arr.NC d6) (by have:=i8.m16;omega) aj);have d9:eP (λk=>decide (u.st k=3)) g.M=(m:Nat):=by unfold eP;rw[kz (dn:=λk=>decide (u.st k=3)) d1 (decide_eq_true d2) λj j5=>decide_eq_false λe=>by have:=h.eK.one j m aa d1 e d2;omega]
 rw[d9]at c4;obtain⟨g3,g4⟩:=ah (d5.alloc (al #[ae m] 3));have M:au d5 g3:=by rw[<-g4];exact aI ak _
 obtain⟨e0,c5⟩:=ah d5.heap.size;have c6:g3.heap[e0]?=some (al #[ae m] 3):=by rw[<-g4,<-c5];exact QB _ _
 have b1:=N.below M;have c7:=(M.block _ (Z_ d3)).trans d3;have e1:=(M.block _ (Z_ d4)).trans d4;obtain⟨h7,-,b2⟩:=b1.ay.arr.aL;obtain⟨k2,f2,z2⟩:=cr b2;obtain⟨a4,a5,a6⟩:=cr c7;obtain⟨m1,m2,m3⟩:=cr c6;have e2:=ad (λW (h8:au g3 W)=>px (b1.below h8) _ _ 123 _ (vi Z g (some m) V C aa) trivial (.inr (h.gI ⟨m,d1,d2⟩))|>.mono λe b7 i9=>show aK e (.tuple #[])/\∃g5,Inv b7 Z g (some m) V (C-20000) g5 u/\bh g5.b/\eB Z g3 b7 from by obtain⟨q1,g5,q2,-,-,q3,q4⟩:=i9;exact⟨q1,g5,q2,q3 (h.gI ⟨m,d1,d2⟩),(eB.af h8).trans q4⟩);have A:=bZ g7 H b9 g4 c5;have e3:=eM b1 (P.trans (M.mono P.size)) h.low c7 e1 c6;have i:=bZ d1 d2 i5 (h.gI ⟨m,d1,d2⟩) h.low;have g8:=Z_ h.ay.rs.row.fy;have p:QX (bA≠Z.fb/\o≠Z.fb/\e0≠Z.fb):=⟨aa,aa,by have:=P.size;omega⟩;clear h P N d7 d3 d4 g7 H b9 d9 M g4 c5 c6 b1 c7 e1 b2 g8;obtain⟨c,d,a⟩:=g
 go_enter_defers func68,ntmps68
 go_wp2_with fail;rw[A.1,A.2.2.1,A.2.1];go_wp2_with(first|(go_at_call 99;refine d8.mono ?_;rintro e w1 ⟨rfl,rfl⟩)|(go_at_call 122;refine c4.mono ?_;rintro e w1 ⟨rfl,rfl⟩));simp only[A.out.2.2.2.1,A.out.2.2.2.2];go_region_held3(λb7=>b7.cell? ⟨bA,0,none⟩=some (ar Z.A)/\b7.cell? ⟨Z.A,13,none⟩=some (ar Z.R)) ((simp[*,go_sem];done)) (first|(go_at_call 113;refine(e2 _ (by first|exact ak|exact cE ak _)).mono ?_;rintro e w3 ⟨rfl,s3,i3,l3,f3⟩;have v:=Fr.heap f3 e3.2.2.2.1 rfl p.1;have B:=Fr.heap f3 e3.2.2.2.2.2 rfl p.2.2;have z:=Fr.heap f3 e3.2.2.2.2.1 rfl p.2.1;have v1:=(cr v).1 0;obtain⟨c3,-,e4⟩:=i3.ay.arr.aL;obtain⟨k3,l4,z3⟩:=cr e4;obtain⟨r1,r2,r3⟩:=cr v;have D:=eM i3 l3 f3 v B z;clear i3 l3 f3 v B z e4));have g9:=ad (sO Z ⟨c,d,a⟩ D.1.eK.b_.m16 124 _ _ _ _ _ (DW Z ⟨c,d,a⟩ m V (C-20000) s3 u bA e0 w3 i.2.1 i.1 (by have:=i.2.2.1;omega) D.1.low) (λ_ _ h=>⟨u,false,h.1.ay.arr⟩) (λ_ ⟨_,h,_⟩=>⟨u,false,h.ay.arr⟩) false w3 ⟨D.1,eB.af ak,D.2.2.2.1,D.2.2.2.2.1⟩);have R:=D.1.eK.b_.m16;have e5:=D.1.eK.cur.1;have I:=D.1.eK.b_.hj;have j0:QK.wrap ((u.cur:Int)+1)=((u.cur+1:Nat):Int):=by have e5:u.cur<a:=e5;have I:a<=256:=I;go_arith
 clear k0 f0 z0 a1 a2 a3 x1 x2 x3 k2 f2 z2 a4 a5 a6 m1 m2 m3 d8 c4 e2 v1;go_wp2_with(first
  |(go_at_call 113;refine g9.mono ?_;rintro e w4 ⟨rfl,b4,i4,l4,f4,v,B,g6⟩
    have z:=Fr.heap f4 D.2.2.2.2.2 rfl p.2.1;obtain⟨r1,r2,r3⟩:=cr v;obtain⟨r4,r5,r6⟩:=cr B;obtain⟨b3,r,Q⟩:=i4.ay.arr.aL;obtain⟨k4,l5,z4⟩:=cr Q;have x:=ad (ia Z ⟨c,d,a⟩ u false m w4 i4.ay.arr i.1 R);rw[show decide (u.st m≠2)=true by simp[i.out.2.1]]at x;have H4:=HK i4 l4 f4 v B z g6 r Q;clear i4 l4 f4 v B z g6 Q)
  |(go_at_call 120;refine x.mono ?_;rintro e w5 ⟨rfl,rfl⟩))
 obtain⟨i4,l4,f4,v,B,z,g6,r,Q⟩:=H4.out;obtain⟨t1,t2,t4⟩:=i4.ay.set r Q 12 (ae ((u.cur+1:Nat):Int)) (u':={u with cur:=u.cur+1}) (yg':=false) rfl rfl;rw[show((u.cur+1:Nat):Int)=(u.cur:Int)+1 by omega]at t1 t2 t4;obtain⟨w5,e6⟩:=ah (w4.setCell ⟨Z.A,12,none⟩ (ae ((u.cur:Int)+1)));rw[e6]at t1 t2 t4|-;have E:=t2.hp v rfl;have F:=t2.hp B rfl;have S:=t2.hp z rfl;have f5:eB Z w3 w5:=f4.trans (Fr.DC t2).a;have i0:(Bu Z ⟨c,d,a⟩ {u with cur:=u.cur+1} b3 false)[12]?=some (ae ((u.cur:Int)+1)):=rfl;obtain⟨k5,l6,z5⟩:=cr t4;have h0:=(k5 12).trans i0;have h1:w5.cell? ⟨Z.A,7,none⟩=some (ae a):=k5 7;have h3:w5.cell? ⟨Z.A,11,none⟩=some (a' Z.sb c b3):=k5 11;obtain⟨r7,r8,r9⟩:=cr E;obtain⟨s7,s8,s9⟩:=cr F;have H5:=eM t1 f5 E F S t4;clear i4 l4 f4 v B z g6 r Q t1 t2 t4 e6 E F S f5;clear r1 r2 r3 r4 r5 r6;clear k4 l5 z4 k5 i0;go_quiet(fail);have T:QX (au w5 (w5.drewN nq)):=cE ak _;obtain⟨Y,e8⟩:=ah (w5.drewN nq);rw[e8]at T|-;clear e8;obtain⟨t1,f5,E,F,S,t4⟩:=H5.out;have U:=t1.below T;have J:=(T.block _ (Z_ E)).trans E;have a0:=(T.block _ (Z_ F)).trans F;have e9:=(T.block _ (Z_ S)).trans S;obtain⟨b5,t,n⟩:=U.arr.aL;clear h0 h1 h3 l6 z5 r7 r8 r9 s7 s8 s9 t1 E F S t4;obtain⟨k5,l6,z5⟩:=cr n;obtain⟨r7,r8,r9⟩:=cr J;obtain⟨s7,s8,s9⟩:=cr a0;obtain⟨j1,K,-⟩:=U.arr.uQ;obtain⟨y1,y2,y3⟩:=cr K;have c1:=U.arr.st i.1;have H6:=j_ U (f5.then T) J a0 e9 t n;have j2:=U.arr.ne;have n1:=fI J n aj;have n2:=fI a0 n aj;have n3:=fI J K aj;have n4:=fI a0 K aj;clear f5 U J a0 e9 t n y1 K;have j3:∀g:az,g=⟨c,d,a⟩->g.s=a:=λg e=>by rw[e]
 by_cases e:u.cur+1=a
 .have j4:(u.cur:Int)+1=(a:Int):=aa;have L:=ad e;clear e;go_wp2;go_region;obtain⟨x1,x2,x3,x4,x5,x6,x7⟩:=H6.out;obtain⟨g1,g2⟩:=x1.state m 1;obtain⟨i1,a7,f1⟩:=g1.arr.aL;obtain⟨q1,q2,q3⟩:=g1.set a7 f1 12 (ae ((0:Nat):Int)) (u':=u.dR ⟨c,d,a⟩ m) (yg':=false) (by rw[sQ (show u.cur+1=a from L.out)];rfl) (by rw[sQ (show u.cur+1=a from L.out)]);have O:QX (cZ ((Y.setCell ⟨Z.sb,m,none⟩ (.int .u8 1)).setCell ⟨Z.A,12,none⟩ (ae 0)).drew Z ⟨c,d,a⟩ {s3 with b:=b4} (u.dR ⟨c,d,a⟩ m) false/\eB Z w3 ((Y.setCell ⟨Z.sb,m,none⟩ (.int .u8 1)).setCell ⟨Z.A,12,none⟩ (ae 0)).drew/\((Y.setCell ⟨Z.sb,m,none⟩ (.int .u8 1)).setCell ⟨Z.A,12,none⟩ (ae 0)).drew.heap[bA]?=some (al #[ar Z.A] 71)/\((Y.setCell ⟨Z.sb,m,none⟩ (.int .u8 1)).setCell ⟨Z.A,12,none⟩ (ae 0)).drew.heap[e0]?=some (al #[ae m] 3)/\((Y.setCell ⟨Z.sb,m,none⟩ (.int .u8 1)).setCell ⟨Z.A,12,none⟩ (ae 0)).drew.heap[o]?=some (al #[aG 0] 35)):=
   ⟨q1.below (aV ak),((x2.trans ((Fr.JK g2).trans (Fr.DC q2)).a)).then (aV ak),q2.hp (g2.hp x3 rfl) rfl,q2.hp (g2.hp x4 rfl) rfl,q2.hp (g2.hp x5 rfl) rfl⟩
  obtain⟨j6,f7⟩:=ah (((Y.setCell ⟨Z.sb,m,none⟩ (.int .u8 1)).setCell ⟨Z.A,12,none⟩ (ae 0)).drew);rw[f7]at O|-;clear f7 x1 x2 x3 x4 x5 x6 x7 g1 g2 a7 f1 q1 q2 q3;have y0:=(O.1).arr.aL;obtain⟨i2,-,h4⟩:=y0;clear k5 l6 z5 r7 r8 r9 s7 s8 s9 y2 y3 c1;obtain⟨r7,r8,r9⟩:=cr O.2.2.1;clear h4;have l:=H4.1;obtain⟨v1,v2,v3,v4⟩:=vj (g:=⟨c,d,a⟩) (u:=u) (m:=m);have a8:=i.2.2.1;have c8:=ad (sP (C:=C-20000-100) O.1 (DT i.1 i.2.1 D.1.n_ D.1.only H4.2.2.2.2.2.2.1) (Su.DS l.eK i.1 i.2.1 l.only) (vk l.only) H4.2.1 l.fit aa (by rw[v1];exact l.ev) ⟨v2.trans l.same.1,v3.trans l.same.2.1,v4.trans l.same.2.2⟩ ⟨v2.trans l.qq.1,v3.trans l.qq.2⟩ (λk f8=>by rw[l.n_ k,aq (Nat.not_lt.2 f8)]));have a9:(u.dR ⟨c,d,a⟩ m).told.st m=1:=by show(u.dR ⟨c,d,a⟩ m).st m=1;rw[sQ L.out];exact ao rfl
  have X:=ad a9;clear l v1 v2 v3 v4 a8 a9;go_wp2_with(first
   |(go_at_call 121;refine c8.mono ?_;rintro e y ⟨rfl,b6,i6,l6,f6⟩
     have v:=Fr.heap f6 O.2.2.1 rfl p.1;have B:=Fr.heap f6 O.2.2.2.1 rfl p.2.2;have z:=Fr.heap f6 O.2.2.2.2 rfl p.2.1;obtain⟨r1,r2,r3⟩:=cr v;obtain⟨r4,r5,r6⟩:=cr B;obtain⟨r7,r8,r9⟩:=cr z;obtain⟨b5,t,n⟩:=i6.ay.arr.aL;obtain⟨k6,l7,z6⟩:=cr n;have c2:=i6.ay.arr.st i.1;rw[X.out]at c2;have x:=ad (ia Z ⟨c,d,a⟩ (u.dR ⟨c,d,a⟩ m).told false m y i6.ay.arr i.1 R);rw[show decide ((u.dR ⟨c,d,a⟩ m).told.st m≠2)=true by rw[X.out];decide]at x;have H7:=aT i6 l6 f6 z;clear i6 l6 f6 v B z n)
   |(go_at_call 120;refine x.mono ?_;rintro e w7 ⟨rfl,rfl⟩))
  go_region;have b0:w.heap.size<=o:=by have:=A.2.2.1;omega
  have c9:=QE i.2.2.2.2 b0;have f9:eB Z w y:=(((eB.af e3.2.1).trans D.2.2.1).trans O.2.1).trans H7.2.2.1;have h9:=heap_setCell_same y o 0 _ 35 (aG 0) H7.2.2.2;have G:SC (y.setCell ⟨o,0,none⟩ (aG 0)).heap.size (y.setCell ⟨o,0,none⟩ (aG 0)) (y.setCell ⟨o,0,none⟩ (aG 0)).drew:=aV ak;have a8:=i.2.2.1;have g0:QX (JP Z ⟨c,d,a⟩ m V (C-30000) u w (y.setCell ⟨o,0,none⟩ (aG 0)).drew):=by
   refine⟨_,_,((H7.1.cell H7.2.2.2 c9 rfl _).below G).less aa,H7.2.1,(f9.new b0 _).then G,?_⟩;rw[ao (show u.cur+1=a from L.out)];intro k f8;show(u.dR ⟨c,d,a⟩ m).st k=1;rw[sQ (show u.cur+1=a from L.out)];show(if k=m then 1 else u.st k)=1;by_cases q:k=m
   .rw [ao q]
   .rw [aq q];exact Su.one H4.1.only f8 q
  have h2:=(G.block _ (Z_ h9)).trans h9;have h5:decide (u.cur+1=a)=true:=by simp[L.out]
  obtain⟨W6,d0⟩:=ah ((y.setCell ⟨o,0,none⟩ (aG 0)).drew);rw[d0]at h2 g0|-;go_wp2;refine WY (f:=98) (args:= #[ar o]) aJ (by simp[go_sem]) ?_;refine(cN ⟨o,0,none⟩ _).mono ?_;rintro e u' w7 ⟨rfl,rfl,e7⟩;rw[e7];have c0:=(cr h2).1 0;simp[Leaves,settle,RM,results68,go_sem,c0];exact⟨L,g0⟩
 .have j4:¬(u.cur:Int)+1=(a:Int):=aa;have L:=ad e;clear e;have O:QX (cZ Y Z ⟨c,d,a⟩ {s3 with b:=b4} (u.dR ⟨c,d,a⟩ m) false/\eB Z w3 Y/\Y.heap[bA]?=some (al #[ar Z.A] 71)/\Y.heap[e0]?=some (al #[ae m] 3)/\Y.heap[o]?=some (al #[aG 0] 35)):=by obtain⟨x1,x2,x3,x4,x5,x6,x7⟩:=H6.out;rw[xr (show¬u.cur+1=a from L.out)];exact⟨x1,x2,x3,x4,x5⟩
  have l:=H4.1;obtain⟨v1,v2,v3,v4⟩:=vj (g:=⟨c,d,a⟩) (u:=u) (m:=m);have a8:=i.2.2.1;have c8:=ad (sP (C:=C-20000-100) O.1 (DT i.1 i.2.1 D.1.n_ D.1.only H4.2.2.2.2.2.2.1) (Su.DS l.eK i.1 i.2.1 l.only) (vk l.only) H4.2.1 l.fit aa (by rw[v1];exact l.ev) ⟨v2.trans l.same.1,v3.trans l.same.2.1,v4.trans l.same.2.2⟩ ⟨v2.trans l.qq.1,v3.trans l.qq.2⟩ (λk f8=>by rw[l.n_ k,aq (Nat.not_lt.2 f8)]));have a9:(u.dR ⟨c,d,a⟩ m).told.st m=3:=by show(u.dR ⟨c,d,a⟩ m).st m=3;rw[xr L.out];exact i.2.1
  have X:=ad a9;clear l v1 v2 v3 v4 a8 a9;go_wp2_with(first
   |(go_at_call 121;refine c8.mono ?_;rintro e y ⟨rfl,b6,i6,l6,f6⟩
     have v:=Fr.heap f6 O.2.2.1 rfl p.1;have B:=Fr.heap f6 O.2.2.2.1 rfl p.2.2;have z:=Fr.heap f6 O.2.2.2.2 rfl p.2.1;obtain⟨r1,r2,r3⟩:=cr v;obtain⟨r4,r5,r6⟩:=cr B;obtain⟨r7,r8,r9⟩:=cr z;obtain⟨b5,t,n⟩:=i6.ay.arr.aL;obtain⟨k6,l7,z6⟩:=cr n;have c2:=i6.ay.arr.st i.1;rw[X.out]at c2;have x:=ad (ia Z ⟨c,d,a⟩ (u.dR ⟨c,d,a⟩ m).told false m y i6.ay.arr i.1 R);rw[show decide ((u.dR ⟨c,d,a⟩ m).told.st m≠2)=true by rw[X.out];decide]at x;have H7:=aT i6 l6 f6 z;clear i6 l6 f6 v B z n)
   |(go_at_call 120;refine x.mono ?_;rintro e w7 ⟨rfl,rfl⟩))
  go_region;have b0:w.heap.size<=o:=by have:=A.2.2.1;omega
  have c9:=QE i.2.2.2.2 b0;have f9:eB Z w y:=(((eB.af e3.2.1).trans D.2.2.1).trans O.2.1).trans H7.2.2.1;have h9:=heap_setCell_same y o 0 _ 35 (aG 0) H7.2.2.2;have G:SC (y.setCell ⟨o,0,none⟩ (aG 0)).heap.size (y.setCell ⟨o,0,none⟩ (aG 0)) (y.setCell ⟨o,0,none⟩ (aG 0)).drew:=aV ak;have a8:=i.2.2.1;have g0:QX (JP Z ⟨c,d,a⟩ m V (C-30000) u w (y.setCell ⟨o,0,none⟩ (aG 0)).drew):=by refine⟨_,_,((H7.1.cell H7.2.2.2 c9 rfl _).below G).less aa,H7.2.1,(f9.new b0 _).then G,?_⟩;rw[aq (show¬u.cur+1=a from L.out)];refine⟨X,?_⟩;show(u.dR ⟨c,d,a⟩ m).cur=u.cur+1;rw[xr (show¬u.cur+1=a from L.out)]
  have h2:=(G.block _ (Z_ h9)).trans h9;have h5:decide (u.cur+1=a)=false:=by simp[L.out]
  obtain⟨W6,d0⟩:=ah ((y.setCell ⟨o,0,none⟩ (aG 0)).drew);rw[d0]at h2 g0|-;go_wp2;refine WY (f:=98) (args:= #[ar o]) aJ (by simp[go_sem]) ?_;refine(cN ⟨o,0,none⟩ _).mono ?_;rintro e u' w7 ⟨rfl,rfl,e7⟩;rw[e7];have c0:=(cr h2).1 0;simp[Leaves,settle,RM,results68,go_sem,c0];exact⟨L,g0⟩
structure lK(a:fL):Prop where
 gI:ru a.2
 ok:∀v:Dv,v.d.failed=false->(a.2 v).2=0
 dv:∀v:Dv,(a.2 v).1.d.n=v.d.n/\(a.2 v).1.d.cn<=v.d.cn+1
theorem hf(k a:Nat)(f:aQ):lK (k,aN a f):=⟨mM a f,λv h=>by show(aN a f v).2=0;rw[kG h],λv=>ey a f v⟩
theorem sR(k:Nat):lK (dj k):=⟨pw,λv h=>by show(bc v).2=0;rw[kH h],sA k⟩
structure Lv(b:By):Prop where
 gI:bh b
 br:b.br=false
 aZ:b.aZ=none
theorem Lv.op(h:Lv b){a:fL}(f:a.1<b.N)(c:lK a):(b.op a.1 a.2).2=0/\Lv (b.op a.1 a.2).1:=by
 obtain⟨v,d,g,i⟩:=h.gI a.1 f;have e:b.out=false:=by unfold By.out;rw[h.br,h.aZ];rfl
 have j:v.use=v:=by unfold Dv.use;rw[g];rfl
 refine⟨?_,h.gI.op c.gI,?_,By.cY h.aZ⟩
 .unfold By.op;rw[e,d];simp only[j];exact c.ok v i
 .unfold By.op;rw[e,d];exact h.br
theorem Lv.run:∀(l:List fL) {b:By},Lv b->(∀a,a∈l->a.1<b.N/\lK a)->(b.run l).2.2=0/\Lv (b.run l).1
 | [],_,h,_=>⟨rfl,h⟩
 |a::d,b,h,c=>by obtain⟨e,f⟩:=h.op (c a SE).1 (c a SE).2;simp only[By.run];rw[ao e];exact Lv.run d f λx g=>by rw[By.fp];exact c x (SN _ g)
theorem Lv.dr{b:By}(h:Lv b){J:Nat}(i:J<b.N){pl:aQ}{sf:dp}:∀n,(b.dr J pl sf n).2=0/\Lv (b.dr J pl sf n).1/\(b.dr J pl sf n).1.N=b.N/\∀j v,(b.dr J pl sf n).1.dv j=some v->∃c,b.dv j=some c/\v.d.n=c.d.n/\v.d.cn<=c.d.cn+n
 |0=>⟨rfl,h,rfl,λj v d=>⟨v,d,rfl,QH _⟩⟩
 |n+1=>by
  obtain⟨m,o,k,l⟩:=Lv.dr h i n;obtain⟨p,q⟩:=o.op (a:=(J,aN (pl n) (sf n))) (by rw[k];exact i) (hf _ _ _);unfold By.dr;rw[ao m];refine⟨p,q,(By.fp ..).trans k,λj v d=>?_⟩;by_cases e:j=J
  .subst e;obtain⟨r,s,t,w⟩:=By.iz (ey _ _) d;obtain⟨c,f,g,u⟩:=l _ r s;exact⟨c,f,t.trans g,aa⟩
  .rw [By.dO _ e]at d;obtain⟨c,f,g,u⟩:=l j v d;exact⟨c,f,g,aa⟩
theorem Lv.ck(h:Lv b){J:Nat}(k:J<b.N):(b.ck J f).2=0/\Lv (b.ck J f).1/\(b.ck J f).1.N=b.N/\∀j v,(b.ck J f).1.dv j=some v->∃g,b.dv j=some g/\v.d.n=g.d.n/\v.d.cn<=g.d.cn+2:=by
 obtain⟨c,n⟩:=h.op (a:=(J,aN 1 f)) k (hf _ _ _);obtain⟨d,o⟩:=n.op (a:=(J,bc)) (by rw[By.fp];exact k) (sR J);have e:b.ck J f=(b.op J (aN 1 f)).1.op J bc:=ao c;have p:((b.op J (aN 1 f)).1.op J bc).1=(b.run [(J,aN 1 f),dj J]).1:=by have c:(b.op J (aN 1 f)).2=0:=c;have d:((b.op J (aN 1 f)).1.op J bc).2=0:=d;simp only[By.run,c,dj,d,if_true]
 rw[e];refine⟨d,o,(By.fp ..).trans (By.fp ..),λj v m=>?_⟩;rw[p]at m;exact By.gu (l:= [(J,aN 1 f),dj J]) (λa i w=>by
  rcases UG.1 i with rfl|i
  .exact (hf _ _ _).dv w
  .rw [SP.1 i];exact(sR J).dv w) m
def ry(m n:Nat):List fL:=(TT n).map λr=>(m,aN (1+r) λ_=>0)
def eV(g:az)(n:Nat):List fL:=(TT n).flatMap λm=>ry m g.R
def jW(g:az):List Nat:=g.M::TT g.M
def qs(g:az)(b:By):By:=(b.run (eV g g.M)).1
def jX(g:az)(N:Nat)(b:By):By:=(((qs g b).dr g.M (λp=>2+p) (λ_ _=>0) N).1.ck g.M (aX 1 1 0)).1
def sS(g:az)(N:Nat)(u:Su)(b:By):By:=((jX g N b).run ((jW g).map (dx g u)++(jW g).map dj)).1
theorem lL{a:fL}(h:a∈eV g n):a.1<n/\∃r,r<g.R/\a=(a.1,aN (1+r) λ_=>0):=by obtain⟨m,b,h⟩:=WH.1 h;obtain⟨r,c,rfl⟩:=RQ.1 h;exact⟨UA.1 b,r,UA.1 c,rfl⟩
theorem rz(g:az)(n:Nat):eV g (n+1)=eV g n++ry n g.R:=by unfold eV;rw[UK,UY];simp
theorem DX(m n:Nat):ry m (n+1)=ry m n++ [(m,aN (1+n) λ_=>0)]:=by unfold ry;rw[UK,SH];rfl
theorem lM(g:az):∀n,(eV g n).length=n*g.R
 |0=>by simp[eV]
 |n+1=>by rw[rz,QU,lM g n,XZ];simp[ry]
theorem yR(h:k∈jW g):k<g.M+1:=by
 rcases UG.1 h with e|e
 .omega
 .have:=UA.1 e;omega
section
def Su.born(N:Nat)(lz:Bool):Su:=⟨1,1,1,0,N,lz,false,λ_=>1,0⟩
theorem Su.sT{g:az}(a:g.ok){N:Nat}(h:5<=N/\N<=2048)(lz:Bool):(Su.born N lz).ok g:=by have:=a.s1;exact⟨a,by show 1<_;decide,⟨QH _,QH _,by show 1<=_;decide⟩,QN _,h,λ_ _=>.inl rfl,λ_ _ _ _ h=>absurd (show(1:Nat)=3 from h) aj,⟨by show 0<g.s;omega,λh=>absurd rfl h⟩⟩
def Ro.born(lz:Bool):Ro:=⟨lz,λ_=>none,[],false⟩
def p'(g:az)(N:Nat)(lz:Bool)(b:By):Rs:=⟨b,Wl.fresh N 1,(Ro.born lz).marks g (Su.born N lz) g.M⟩
section
variable {g:az} {N:Nat} {lz:Bool}
theorem DY(b:By)(m:Nat):(p' g N lz b).ro.fr m=none:=by show(if m<g.M then dM g (Su.born N lz) m else none)=none;split<;>rfl
theorem D_(b:By)(m r:Nat):(p' g N lz b).ro.down m r=false:=by unfold Ro.down;rw[DY]
def rA:Nat->Nat->Nat->Nat:=λ_ _ _=>0
theorem It(p:Nat->Bool):∀n,xs p (λ_=>0) n=0
 |0=>rfl
 |n+1=>by unfold xs;rw[It p n];simp
theorem el.PT{f:Ro}{b:Nat->Nat->Prop}{j a:Nat}{d:Dk}(h:el g f (λ_ _=>True) b rA (λ_=>True) j d):el g f (λ_ _=>True) b rA (λ_=>True) j (d.wr a λ_=>0):=by
 refine⟨λe=>⟨λr i k c=>?_,λr i k c=>absurd trivial c⟩,λ_=>trivial⟩;rw[Dk.eD];split
 .exact λ_ _=>rfl
 .exact (h.1 e).view r i k c
theorem Gt.runs{V:bY}{s:Rs}(h:Gt g none V s)(l:List fL)(c:∀a,a∈l->a.1<g.M+1/\eT (el g s.ro (λ_ _=>True) s.ro.eU V λ_=>True) (el g s.ro (λ_ _=>True) s.ro.eU V λ_=>True) a):(s.b.run l).2.2=0/\Gt g none V {s with b:=(s.b.run l).1}:=by
 have d:=Lit.run (aw:=none) l (λ_=>el g s.ro (λ_ _=>True) s.ro.eU V λ_=>True) s.b ⟨h.br,h.gd.dev⟩ λi a e=>by rw[h.gd.N];exact c a (QV e)
 rcases d with⟨f,h1⟩|⟨-,h1,-⟩|⟨-,h1,-⟩
 .exact ⟨f,h.gd.set h1.dev (By.fU _ _),h1.br,By.ec h.aZ _⟩
 .cases h1
 .exact absurd h.aZ h1
structure qt(g:az)(N:Nat)(b:By):Prop where
 bN:b.N=g.M+1
 dv:∀k,k<g.M+1->b.dv k=some ⟨Dk.fresh (if k=g.M then 2+N else 1+g.R),false,0⟩
 br:b.br=false
 aZ:b.aZ=none
theorem qt.lv{b:By}(h:qt g N b):Lv b:=⟨λk a=>⟨_,h.dv k (by rw[h.bN]at a;exact a),rfl,rfl⟩,h.br,h.aZ⟩
theorem qt.gt{b:By}(_:g.ok)(h:qt g N b)(lz:Bool):Gt g none rA (p' g N lz b):=by
 refine⟨⟨λk d=>?_,h.bN,λp o=>(by cases o),λm r e=>?_,λm e=>(by cases e),?_⟩,h.br,h.aZ⟩
 .have c:k<b.N:=d;rw[h.bN]at c;have f:(p' g N lz b).b.dv k=_:=h.dv k c;refine⟨λe=>(by rw[f]at e;cases e),λv j=>?_⟩;rw[f]at j;obtain rfl:=RK j;refine⟨⟨λa k _=>by show 0<256;decide,λi q=>absurd q (RR i)⟩,λ_=>⟨rfl,rfl⟩,λ_=>⟨λe=>⟨λr l s n=>λk _=>rfl,λr l s n=>absurd trivial n⟩,λ_=>trivial⟩⟩
 .rw [D_]at e;cases e
 .exact ⟨λm r k _ _ _=>(by show 0<256;decide),λr k l d=>It _ _⟩
theorem vl{u:Su}{a:fL}(h:a∈(jW g).map (dx g u)++(jW g).map dj):∃k,k<g.M+1/\(a=dx g u k\/a=dj k):=by
 rcases TJ.1 h with h|h
 .obtain ⟨k,b,rfl⟩:=RQ.1 h;exact⟨k,yR b,.inl rfl⟩
 .obtain ⟨k,b,rfl⟩:=RQ.1 h;exact⟨k,yR b,.inr rfl⟩
theorem pB{b:By}(n:g.ok)(h:qt g N b)(S:N<=2048)(lz:Bool):Gt g none rA (p' g N lz (sS g N (Su.born N lz) b))/\Lv (sS g N (Su.born N lz) b)
  /\∀j v,(sS g N (Su.born N lz) b).dv j=some v->∃i,b.dv j=some i/\v.d.n=i.d.n/\v.d.cn<=i.d.cn+100000:=by
 have l:∀a,a∈eV g g.M->a.1<g.M+1/\lK a/\eT (el g (p' g N lz b).ro (λ_ _=>True) (p' g N lz b).ro.eU rA λ_=>True) (el g (p' g N lz b).ro (λ_ _=>True) (p' g N lz b).ro.eU rA λ_=>True) a:=λa c=>by obtain⟨o,r,T,u⟩:=lL c;rw[u];exact⟨by show a.1<_;omega,hf _ _ _,dP (λ_ _=>by show 0<256;decide) (λd e=>e.PT) λ_ _ _ e=>e⟩
 obtain⟨-,w⟩:=(h.gt n lz).runs (eV g g.M) λa c=>⟨(l a c).1,(l a c).2.2⟩;obtain⟨-,x⟩:=h.lv.run (eV g g.M) λa c=>⟨by rw[h.bN];exact(l a c).1,(l a c).2.1⟩;have q:(b.run (eV g g.M)).1.N=g.M+1:=(By.fU _ _).trans h.bN;obtain⟨-,y⟩:=w.dr (pl:=λp=>2+p) (sf:=λ_ _=>0) N λ_ _ _ _=>(by show 0<256;decide);obtain⟨-,z,t,d2⟩:=x.dr (J:=g.M) (by rw[q];omega) (pl:=λp=>2+p) (sf:=λ_ _=>0) N;obtain⟨-,A⟩:=(y (Wl.fresh N 1)).ck (f:=aX 1 1 0) (hE _ _ _);obtain⟨-,B,C,d3⟩:=z.ck (J:=g.M) (by rw[t,q];omega) (f:=aX 1 1 0);have m:∀a,a∈(jW g).map (dx g (Su.born N lz))++(jW g).map dj->a.1<g.M+1/\lK a/\eT (el g (p' g N lz b).ro (λ_ _=>True) (p' g N lz b).ro.eU rA λ_=>True) (el g (p' g N lz b).ro (λ_ _=>True) (p' g N lz b).ro.eU rA λ_=>True) a:=λa c=>by
  obtain⟨k,o,rfl|rfl⟩:=vl c
  .exact ⟨o,hf _ _ _,dP (λj _=>nW _ _ j) (λd s=>s.LW _) λ_ _ _ e=>e⟩
  .exact ⟨o,sR _,e' (λd s=>s.fl) λ_ _ _ e=>e⟩
 obtain⟨-,D⟩:=(A (Wl.fresh N 1)).runs _ λa c=>⟨(m a c).1,(m a c).2.2⟩;obtain⟨-,E⟩:=B.run _ λa c=>⟨by rw[C,t,q];exact(m a c).1,(m a c).2.1⟩;refine⟨D,E,λj v F=>?_⟩;obtain⟨G,K,U,c3⟩:=By.gu (λa c=>(m a c).2.1.dv) F;obtain⟨L,O,V,W⟩:=d3 j G K;obtain⟨X,P,Z,H⟩:=d2 j L O;obtain⟨i,Q,M,R⟩:=By.gu (λa c=>(l a c).2.1.dv) P;have I:((jW g).map (dx g (Su.born N lz))++(jW g).map dj).length<=34:=by have:=n.m16;simp[jW];omega
 have Y:=lM g g.M;have e3:g.M*g.R<=16*4096:=SX n.m16 (az.gY n);exact⟨i,Q,aa,aa⟩
theorem vm[Lo]{w:QA}{Z:bm}{b:By}(f:g.ok)(h:qt g N b)(j:5<=N/\N<=2048)(k:Z.N=N/\Z.lz=lz)(o:cZ w Z g (p' g N lz (sS g N (Su.born N lz) b)) (Su.born N lz) false):
  Inv w Z g none rA 100000000000 (p' g N lz (sS g N (Su.born N lz) b)) (Su.born N lz):=by
 obtain⟨l,q,n⟩:=pB f h j.2 lz;refine⟨o,l,Su.sT f j lz,λm=>?_,λm _ e=>absurd rfl e,λ_=>q.gI,⟨f,l.gd.N,λm v t i=>?_,λv i=>?_,rfl,⟨(by show 1+100000000000<=4611686018427387904;decide),QH _,(by show 1+100000000000<=4611686018427387904;decide)⟩,QN _,λp r=>(by cases r),ZK⟩,(by show 1+100000000000<=4611686018427387904;decide),⟨rfl,rfl,rfl⟩,k.1.symm,k.2.symm⟩
 .rw [DY];split<;>rfl
 .obtain ⟨s,c,d,a⟩:=n m v i;rw[h.dv m J]at c;obtain rfl:=RK c;rw[aq J]at d a;exact⟨by rw[d];exact QH _,by have:(Dk.fresh (1+g.R)).cn=0:=rfl;show v.d.cn+100000000000<_;have a:v.d.cn<=(Dk.fresh (1+g.R)).cn+100000:=a;omega⟩
 .obtain ⟨s,c,d,a⟩:=n g.M v i;rw[h.dv g.M J]at c;obtain rfl:=RK c;rw[ao rfl]at d a;exact⟨by rw[d];exact QH _,by have:(Dk.fresh (2+N)).cn=0:=rfl;show v.d.cn+100000000000<_;have a:v.d.cn<=(Dk.fresh (2+N)).cn+100000:=a;omega⟩
end
end
section
abbrev GR(Z:bm)(g:az)(u:Su)(a:Nat)(c d:QC):Array QC:= #[H Z.B,bg u.id,bg u.ev,bg u.sf,Y u.rl,Y g.M,Y g.c,Y g.s,Y u.N,.bool u.lz,.bool u.lost,a' Z.sb g.M a,Y u.cur,c,d,.bool false,aG 0,.bool true,.bool false]
theorem JR{w:M}{b n a:Nat}{f:aQ}(c:n<=a)(h:a_ w b (al (bs n λm=>.int .u8 (f m:Nat)) 122)):kj w (a' b n a) n f:=
 ⟨b,0,a,_,_,rfl,c,h,λk d=>by rw[RH,cg _ _ _ d]⟩
theorem D'[Lo](Z:bm)(g:az)(u:Su)(a:Nat)(t x:QC)(b:By)(k:Nat)(w:QA)(f:g.M<=a)(p:a_ w Z.A (al (GR Z g u a t x) 120))(q:a_ w Z.sb (al (bs g.M λm=>.int .u8 (u.st m:Nat)) 122))(y:aC w Z.B b)(z:(u.at k).ok g)(A:k<b.N)(B:∀v,b.dv k=some v->0<v.d.n/\v.d.cn<1000000000000):
  aE 55 #[ar Z.A,ae k] w (zH Z.B b k (aN 0 (fP g (u.at k))) w):=by
 have C:=JR f q;obtain⟨U,f0,V⟩:=cr p;obtain⟨o,d⟩:=ah (w.alloc (al (dt g (u.at k) (a' Z.sb g.M a)) 117));have c:au w o:=by rw[<-d];exact aI ak _
 have h:a_ o w.heap.size (al (dt g (u.at k) (a' Z.sb g.M a)) 117):=by rw[<-d];exact QB _ _
 obtain⟨D,i⟩:=ah w.heap.size;rw[i]at h;have j:=ad (kF g (u.at k) (a' Z.sb g.M a) o (C.below c) z);have r:QX (∀(v:QC) W,au o W->cR W v 128 (fP g (u.at k))->aE 52 #[ar Z.B,ae k,ae 0,v] W (zH Z.B b k (aN 0 (fP g (u.at k))) w)):=λv W l E=>(fo Z.B k 0 v (fP g (u.at k)) b W ((y.below c).below l) A E B).mono λe X ⟨F,G,K⟩=>⟨F,G,((Fr.af c).then l).tr K⟩;have L:=aB c ((c.block _ (Z_ p)).trans p);obtain⟨d1,d2,d3⟩:=cr h;obtain⟨H,M,O⟩:=cr L.2;go_enter func55,ntmps55;go_wp2_with fail
 try simp only[d,i]
 go_wp2_with(first|(go_at_call 88;refine j.mono ?_;rintro e R ⟨I,Y,rfl,P,n⟩;obtain⟨J,p2,p3⟩:=kp n Z.A O;have s:=aB (yH P) n)|(go_at_call 52;refine(r _ _ s.2 s.1).mono ?_;rintro e w4 ⟨rfl,Q,S⟩;have T:=aB Q S));go_ret;exact⟨rfl,T⟩
def xt(g:az)(u:Su):List fL:=(jW g).map (dx g u)++(jW g).map dj
theorem lN(g:az):(jW g).length=g.M+1:=by simp[jW]
theorem vn{g:az}{j:Nat}(h:j<g.M+1):(jW g)[j]?=some (if j=0 then g.M else j-1):=by
 unfold jW
 match j,h with
 |0,_=>rfl
 |j+1,h=>simp[SF (show j<g.M by omega)]
def en(g:az)(j:Nat):Nat:=if j=0 then g.M else j-1
theorem n'{g:az}{j:Nat}(a:g.ok)(h:j<g.M+1):en g j<g.M+1:=by unfold en;have:=a.m3;split<;>omega
theorem sU{g:az}{u:Su}{i j:Nat}(a:j<g.M+1)(c:i<2):(xt g u)[i*(g.M+1)+j]?=some (if i=0 then dx g u (en g j)else dj (en g j)):=by
 unfold xt
 match i,c with
 |0,_=>rw[VV,RH,RD (by rw[RA,lN];exact a),RL,vn a];rfl
 |1,_=>rw[Nat.one_mul,QZ (by rw[RA,lN];omega),RA,lN,UW,RL,vn a];rfl
theorem oa(g:az)(u:Su):(xt g u).length=2*(g.M+1):=by unfold xt;rw[QU,RA,RA,lN];omega
section
variable {g:az} {N:Nat} {lz:Bool} {b:By}
theorem qt.L_(h:qt g N b):∀a,a∈eV g g.M->a.1<b.N/\lK a:=λa c=>by obtain⟨e,r,f,d⟩:=lL c;rw[d,h.bN];exact⟨by show a.1<_;omega,hf _ _ _⟩
theorem qt.zr(j:g.ok)(h:qt g N b){m r:Nat}(u:m<g.M)(w:r<g.R):((b.run (eV g m++ry m r)).1.op m (aN (1+r) λ_=>0)).2=0/\((b.run (eV g m++ry m r)).1.op m (aN (1+r) λ_=>0)).1=(b.run (eV g m++ry m (r+1))).1/\m<(b.run (eV g m++ry m r)).1.N/\∀v,(b.run (eV g m++ry m r)).1.dv m=some v->1+r<v.d.n/\v.d.cn<1000000000000:=by
 have c:∀a,a∈eV g m++ry m r->a.1<b.N/\lK a:=λa d=>by
  rw[h.bN];rcases TJ.1 d with d|d
  .obtain ⟨i,n,e,f⟩:=lL d;rw[f];exact⟨by show a.1<_;omega,hf _ _ _⟩
  .obtain ⟨n,e,rfl⟩:=RQ.1 d;exact⟨by show m<_;omega,hf _ _ _⟩
 obtain⟨o,p⟩:=h.lv.run _ c;have k:(b.run (eV g m++ry m r)).1.N=b.N:=By.fU _ _;obtain⟨q,x⟩:=p.op (a:=(m,aN (1+r) λ_=>0)) (by show m<_;rw[k,h.bN];omega) (hf _ _ _);refine⟨q,?_,by rw[k,h.bN];omega,λv s=>?_⟩
 .rw [DX,<-SY];exact(By.ji (a:=(m,aN (1+r) λ_=>0)) o).1.symm
 .obtain ⟨y,i,e,f⟩:=By.gu (λa d=>(c a d).2.dv) s;rw[h.dv m J]at i;obtain rfl:=RK i;rw[aq J]at e f;have e:v.d.n=1+g.R:=e;have f:v.d.cn<=0+_:=f;have l:(eV g m++ry m r).length<=100000:=by
   rw[QU,lM];have z:(ry m r).length=r:=by simp[ry]
   have t:=az.gY j;have A:=j.m16;have B:m*g.R<=16*4096:=SX J t;omega
  exact⟨by rw[e];omega,J⟩
theorem qt.fmt(o:g.ok)(h:qt g N b)(F:N<=2048):(qs g b).N=g.M+1/\Lv (qs g b)/\(∀v,(qs g b).dv g.M=some v->2+N<=v.d.n/\v.d.cn+10000<1000000000000)/\(∀k,k<=N->((qs g b).dr g.M (λp=>2+p) (λ_ _=>0) k).2=0)/\(((qs g b).dr g.M (λp=>2+p) (λ_ _=>0) N).1.ck g.M (aX 1 1 0)).2=0
  /\(jX g N b).N=g.M+1/\Lv (jX g N b)/\∀j v,j<g.M+1->(jX g N b).dv j=some v->0<v.d.n/\v.d.cn<=90000:=by
 obtain⟨-,q⟩:=h.lv.run _ h.L_;have d:(qs g b).N=g.M+1:=(By.fU _ _).trans h.bN;have G:(eV g g.M).length<=65536:=by rw[lM];exact SX o.m16 (az.gY o)
 have d1:∀j v,(qs g b).dv j=some v->j<g.M+1->v.d.n=(if j=g.M then 2+N else 1+g.R)/\v.d.cn<=65536:=λj v c i=>by obtain⟨K,e,r,s⟩:=By.gu (λa w=>(h.L_ a w).2.dv) c;rw[h.dv j i]at e;obtain rfl:=RK e;have s:v.d.cn<=0+_:=s;exact⟨r,aa⟩
 have t:=λn=>q.dr (J:=g.M) (by rw[show(b.run (eV g g.M)).1.N=_ from d];omega) (pl:=λp=>2+p) (sf:=λ_ _=>0) n;obtain⟨-,x,u,d2⟩:=t N;obtain⟨y,z,A,d3⟩:=x.ck (J:=g.M) (by rw[u,show(b.run (eV g g.M)).1.N=_ from d];omega) (f:=aX 1 1 0);refine⟨d,q,λv c=>?_,λk _=>(t k).1,y,by show(jX g N b).N=_;exact A.trans (u.trans d),z,λj v i c=>?_⟩
 .obtain ⟨e,r⟩:=d1 _ v c aa;rw[ao rfl]at e;omega
 .obtain ⟨B,C,L,O⟩:=d3 j v c;obtain⟨l,D,P,Q⟩:=d2 j B C;have m:(qs g b).dv j=some l:=D;obtain⟨E,S⟩:=d1 j l m i;have:0<l.d.n:=by rw[E];split<;>omega
  exact⟨aa,aa⟩
theorem qt.step(o:g.ok)(h:qt g N b)(s:5<=N/\N<=2048){i j:Nat}(t:i<2)(p:j<g.M+1):
  (((jX g N b).run ((xt g (Su.born N lz)).take (i*(g.M+1)+j))).1.op (en g j) (if i=0 then dx g (Su.born N lz) (en g j)else dj (en g j)).2).2=0/\
  (((jX g N b).run ((xt g (Su.born N lz)).take (i*(g.M+1)+j))).1.op (en g j) (if i=0 then dx g (Su.born N lz) (en g j)else dj (en g j)).2).1=((jX g N b).run ((xt g (Su.born N lz)).take (i*(g.M+1)+(j+1)))).1/\
  en g j<((jX g N b).run ((xt g (Su.born N lz)).take (i*(g.M+1)+j))).1.N/\
  ∀v,((jX g N b).run ((xt g (Su.born N lz)).take (i*(g.M+1)+j))).1.dv (en g j)=some v->0<v.d.n/\v.d.cn<1000000000000:=by
 obtain⟨-,-,-,-,-,m,w,d2⟩:=h.fmt o s.2;have c:∀a,a∈xt g (Su.born N lz)->a.1<(jX g N b).N/\lK a:=λa e=>by
  obtain⟨k,n,rfl|rfl⟩:=vl e
  .exact ⟨by rw[m];exact n,hf _ _ _⟩
  .exact ⟨by rw[m];exact n,sR _⟩
 obtain⟨n,x⟩:=w.run ((xt g (Su.born N lz)).take (i*(g.M+1)+j)) λa e=>c a (ZL e);have q:=By.fU (jX g N b) ((xt g (Su.born N lz)).take (i*(g.M+1)+j));have f:=n' o p;have d:=sU (u:=Su.born N lz) p t;obtain⟨a,e⟩:=ah (if i=0 then dx g (Su.born N lz) (en g j)else dj (en g j));have l:a.1=en g j:=by rw[<-e];split<;>rfl
 rw[e]at d|-;obtain⟨r,B⟩:=x.op (a:=a) (by rw[q,m,l];exact f) (c a (QV d)).2;rw[l]at r;refine⟨r,?_,by rw[q,m];exact f,λv y=>?_⟩
 .rw [<-UO,UF,d];have:=(By.ji (a:=a) n).1.symm;rw[l]at this;exact this
 .obtain ⟨z,A,C,D⟩:=By.gu (λa e=>(c a (ZL e)).2.dv) y;obtain⟨E,F⟩:=d2 _ z f A;have G:((xt g (Su.born N lz)).take (i*(g.M+1)+j)).length<=34:=by rw[VD,oa];have:=o.m16;omega
  exact⟨J,J⟩
end
end
def GS(b:Int):Option QC:=if b=12 then some (.agg #[.func (.func 41) #[] #[],.bool true])else if b=11 then some (.agg #[.func (.func 40) #[] #[],.bool false])else if b=10 then some (.agg #[.func (.func 39) #[] #[],.bool false])else if b=9 then some (.agg #[.func (.func 38) #[] #[],.bool false])else if b=8 then some (.agg #[.func (.func 37) #[] #[],.bool false])else if b=7 then some (.agg #[.func (.func 36) #[] #[],.bool false])else if b=6 then some (.agg #[.func (.func 35) #[] #[],.bool true])else if b=5 then some (.agg #[.func (.func 34) #[] #[],.bool true])else if b=4 then some (.agg #[.func (.func 33) #[] #[],.bool false])else if b=3 then some (.agg #[.func (.func 32) #[] #[],.bool true])else if b=2 then some (.agg #[.func (.func 31) #[] #[],.bool true])else if b=1 then some (.agg #[.func (.func 30) #[] #[],.bool true])else none
theorem GU(w:QA):aE 20 #[] w λe q=>aK e (.map (some w.heap.size))/\UM q w.heap.size GS/\au w q:=by
 obtain⟨w1,S,r,_,_,s⟩:=bd (UM.made w) 68 5 66 VS UR 1 (.agg #[.func (.func 30) #[] #[],.bool true]);obtain⟨w2,T,t,_,_,u⟩:=bd r 68 5 66 VS UR 2 (.agg #[.func (.func 31) #[] #[],.bool true]);obtain⟨w3,U,u3,_,_,v⟩:=bd t 68 5 66 VS UR 3 (.agg #[.func (.func 32) #[] #[],.bool true]);obtain⟨w4,V,x,_,_,y⟩:=bd u3 68 5 66 VS UR 4 (.agg #[.func (.func 33) #[] #[],.bool false]);obtain⟨w5,W,z,_,_,A⟩:=bd x 68 5 66 VS UR 5 (.agg #[.func (.func 34) #[] #[],.bool true]);obtain⟨w6,X,B,_,_,C⟩:=bd z 68 5 66 VS UR 6 (.agg #[.func (.func 35) #[] #[],.bool true]);obtain⟨w7,Z,D,_,_,E⟩:=bd B 68 5 66 VS UR 7 (.agg #[.func (.func 36) #[] #[],.bool false]);obtain⟨w8,H,F,_,_,G⟩:=bd D 68 5 66 VS UR 8 (.agg #[.func (.func 37) #[] #[],.bool false]);obtain⟨w9,N,K,_,_,L⟩:=bd F 68 5 66 VS UR 9 (.agg #[.func (.func 38) #[] #[],.bool false]);obtain⟨M,m,d,_,_,f⟩:=bd K 68 5 66 VS UR 10 (.agg #[.func (.func 39) #[] #[],.bool false]);obtain⟨R,n,g,_,_,h⟩:=bd d 68 5 66 VS UR 11 (.agg #[.func (.func 40) #[] #[],.bool false]);obtain⟨I,p,i,_,_,j⟩:=bd g 68 5 66 VS UR 12 (.agg #[.func (.func 41) #[] #[],.bool true]);have O:au w (w.alloc (.map #[] 0)):=aI ak _;have c:∀{a b:QA} {o:Obj},au w a->b=a.putObj w.heap.size o->au w b:=λ{a b o} P Y=>by rw[Y];exact P.grown (grownBy_putObj' _ _ _) P.size (λk e=>by cases e;exact QH _)
 have Q:=aB i (c (c (c (c (c (c (c (c (c (c (c (c O s) u) v) y) A) C) E) G) L) f) h) j);have J:=λw=>eN 68 w;obtain⟨a0,l⟩:=ah w.heap.size;rw[l]at Q S T U V W X Z H N m n p|-;clear r t u3 x z B D F K d g i s u v y A C E G L f h j O c;go_enter func20,ntmps20;go_wp2
 try simp only[l]
 go_ret;exact⟨rfl,Q⟩
abbrev cX(a:Nat)(b:QC)(n:Int):QC:=.agg #[aG a,b,Y n]
theorem ih(a:Nat)(w:M):aE 21 #[aG a] w λe c=>aK e (cX a aW 0)/\au w c:=by
 obtain⟨g,d,f,b⟩:=qc w (N #[aG 0,aW,Y 0] 46);clear d b;go_enter func21,ntmps21;go_wp2_with fail
 try simp only[HB.out.1]
 go_wp2;refine QR (v:=cX a aW 0) (by simp[RM,results21,go_sem]) rfl ⟨rfl,aI ak _⟩
def cw(w:QA)(G:Nat)(Z:bm)(g:az):Prop:=w.heap[G]?=some (N #[H Z.B,H Z.A,Y g.R,Y g.M,Y g.c,Y g.s] 73)
abbrev fQ(a:Nat)(b n c:Int)(pv d:QC):QC:=.agg #[bx a,Y b,Y n,Y c,pv,d]
theorem Ea[Lo](c G:Nat)(Z:bm)(g:az)(b:By)(w:M)(d:a_ w c (N #[H G] 40))(f:cw w G Z g)(a:aC w Z.B b):aE 42 #[H c] w λe h=>∃n:Int,aK e (Y n)/\au w h:=by obtain⟨k,l,c3⟩:=cr d;obtain⟨d1,d2,d3⟩:=cr f;have i:=I (ub Z.B b w a);go_enter func42,ntmps42;go_wp2_with(go_at_call 43;refine i.mono ?_;rintro e m ⟨o,p,q,rfl,a⟩;have j:=I a);go_ret;exact⟨_,rfl,aI j _⟩
def TM:List Nat:=73::et
structure Pf[Lo](w:M)(G fn:Nat)(act:QC)(Z0:bm)(g:az)(Q:Nat->QC->M->Prop):Prop where
 enters:∀args w,(UN fn args).run prog w= .ok (.enter fn args) w
 jw:cw w G Z0 g
 cj:∃b,aC w Z0.B b
 call:∀W,au w W->aE fn #[H G,act] W fun e w'=>∃er a n c,aK e (cX er (.slice a n c) 0)/\(∃Z,cw w' G Z g/\∃b,aC w' Z.B b)/\Fr TM aF W w'/\Q er (.slice a n c) w'
 below:∀er v W W',Q er v W->au W W'->Q er v W'
 cell:∀er v W p o cs x,Q er v W->W.heap[p]? =some (N cs 46)->w.heap.size<=p->Q er v (W.setCell (R p o) x)
abbrev z46:Obj:= N #[aG 0,aW,Y 0] 46
theorem vo[Lo](w0 w:QA)(G d5 d6 b7 W b1:Nat)(b3 n b4:Int)(pv b5:QC)(Z0:bm)(g:az)(Q:Nat->QC->QA->Prop)(H:Pf w0 G d5 (fQ b1 b3 n b4 pv b5) Z0 g Q)(b6:au w0 w)(hF:a_ w d6 (al #[.func (.func 42) #[] #[ar W]] 55))(b8:a_ w b7 (al #[.func (.func d5) #[] #[]] 64))(b9:a_ w W (al #[ar G] 40)):
  aE 44 #[fQ b1 b3 n b4 pv b5,ar d6,ar b7,ar W] w λe d7=>∃s a n c c3,aK e (cX s (.slice a n c) c3)/\Q s (.slice a n c) d7/\∀(k:Nat) (o:Obj),w.heap[k]?=some o->TM.contains (ty o)=false->d7.heap[k]?=some o:=by
 have e7:=H.enters;have d8:∀A w,(UN 42 A).run prog w=.ok (.enter 42 A) w:=RF func42 ai rfl;obtain⟨e0,c4⟩:=ah ((w.alloc (al #[bx b1,ae b3,ae n,ae b4,pv,b5] 50)).alloc z46);obtain⟨X,N,b⟩:=kK w (al #[bx b1,ae b3,ae n,ae b4,pv,b5] 50) z46;rw[c4]at X N b;obtain⟨bA,l⟩:=ah w.heap.size;obtain⟨m,D⟩:=ah (w.heap.size+1);rw[l]at X;rw[D]at N;have M:=(b.block _ (Z_ hF)).trans hF;have E:=(b.block _ (Z_ b8)).trans b8;have u:=(b.block _ (Z_ b9)).trans b9;obtain⟨y1,y2,y3⟩:=cr hF;obtain⟨d1,d2,d3⟩:=cr E;obtain⟨r1,r2,r3⟩:=cr u;obtain⟨a1,a2,a3⟩:=cr X;obtain⟨e1,e2,e3⟩:=cr N;obtain⟨b0,R⟩:=H.cj;have x:=b6.trans (b.mono b6.size);have c5:=ad (Ea W G Z0 g b0 e0 u ((x.block _ (Z_ H.jw)).trans H.jw) (R.below x));have y:=eM M E u X N x;have d:=aT c4 l D b6;have F:=ad H;have c6:=ad b;clear b6 hF b8 b9 c4 X N b l D M E u R x H;go_enter func44,ntmps44;go_wp2_with fail;rw[d.1,d.2.2.1,d.2.1];go_wp2_with(first
  |(go_at_call 42;refine c5.mono ?_;rintro e w1 ⟨B,rfl,f⟩
    have p:=ad f;obtain⟨p1,p2,p3⟩:=kp f b7 d3;obtain⟨p4,p5,p6⟩:=kp f W r3;obtain⟨p7,p8,p9⟩:=kp f bA a3;have e4:=ad (F.call w1 (y.2.2.2.2.2.trans (f.mono y.2.2.2.2.2.size)));clear f)
  |(refine e4.mono ?_;rintro e t ⟨s,a,K,c,rfl,⟨Z,L,b2,I⟩,i,Y⟩
    have J:=i.hp ((p.block _ (Z_ y.1)).trans y.1) rfl;have O:=i.hp ((p.block _ (Z_ y.2.2.1)).trans y.2.2.1) rfl;have P:=i.hp ((p.block _ (Z_ y.2.2.2.2.1)).trans y.2.2.2.2.1) rfl;have a0:=i.size;have c7:QX (∀(k:Nat) (o:Obj),a_ w1 k o->TM.contains (ty o)=false->a_ t k o):=λk o h c8=>i.hp h c8;have a4:¬m=t.heap.size:=XG (Z_ P);have e5:¬t.heap.size=m:=Ne.symm a4;have q:au t (t.alloc (al #[aG s,.slice a K c,ae 0] 46)):=aI ak _;have a5:=QB t (al #[aG s,.slice a K c,ae 0] 46);have a6:=ad (Ea W G Z g b2 _ ((q.block _ (Z_ O)).trans O) ((q.block _ (Z_ L)).trans L) (I.below q));obtain⟨q1,q2,q3⟩:=cr J;have j:=bZ Y q a5 P a0;clear L I i Y J O P a0 q a5)
  |(go_at_call 42;refine a6.mono ?_;rintro e w4 ⟨C,rfl,z⟩
    have S:=(z.block _ (Z_ j.2.2.1)).trans j.2.2.1;have T:=(z.block _ (Z_ ((j.2.1.block _ (Z_ j.2.2.2.1)).trans j.2.2.2.1))).trans ((j.2.1.block _ (Z_ j.2.2.2.1)).trans j.2.2.2.1);obtain⟨t1,t2,t3⟩:=cr S;obtain⟨u1,u2,u3⟩:=cr T;have H4:=aM z S T;clear z S T))
 go_wp2;have U:w0.heap.size<=m:=by have h1:=d.2.2.1;have h2:=d.2.2.2.size;omega
 have c9:w0.heap.size<=t.heap.size:=by have h1:=y.2.2.2.2.2.size;have h2:=p.size;have h3:=j.2.2.2.2;omega
 have x2:=(RN w4 (ag t.heap.size 2) m (ae (WV (C-B))) a4).trans H4.2.2;have x3:=heap_setCell_same _ m 0 _ 46 (aG s) x2;have x4:=heap_setCell_same _ m 1 _ 46 (.slice a K c) x3;have x5:=heap_setCell_same _ m 2 _ 46 (ae (WV (C-B))) x4;have q4:=F.below _ _ _ _ (F.below _ _ _ _ j.1 j.2.1) H4.1;have q5:=F.cell _ _ _ _ 2 _ (ae (WV (C-B))) q4 H4.2.1 c9;have q6:=F.cell _ _ _ _ 0 _ (aG s) q5 x2 U;have q7:=F.cell _ _ _ _ 1 _ (.slice a K c) q6 x3 U;have q8:=F.cell _ _ _ _ 2 _ (ae (WV (C-B))) q7 x4 U;have c0:=(cr x5).1 0;have c1:=(cr x5).1 1;have c2:=(cr x5).1 2;refine QR (v:=cX s (.slice a K c) (WV (C-B))) (by simp[RM,results44,go_sem,c0,c1,c2]) rfl ⟨s,a,K,c,WV (C-B),rfl,q8,λk o d9 c8=>?_⟩;have d0:=Z_ d9;have e6:w.heap.size=bA:=d.2.1;have r:k≠m:=by have h1:=d.2.2.1;omega
 have a7:=(c6.block k d0).trans d9;have V:=c7.out k o ((p.block k (Z_ a7)).trans a7) c8;have a8:k≠t.heap.size:=XG (Z_ V);have a9:=(j.2.1.block k (Z_ V)).trans V;have d4:=(H4.1.block k (Z_ a9)).trans a9;exact(RN _ (ag m 2) k (ae (WV (C-B))) r).trans ((RN _ (ag m 1) k (.slice a K c) r).trans ((RN _ (ag m 0) k (aG s) r).trans ((RN _ (ag t.heap.size 2) k (ae (WV (C-B))) a8).trans d4)))
theorem xu(G c:Nat)(w:M):aE 22 #[H G,.func (.func c) #[] #[]] w λe d=>∃k l h,aK e (.func (.func 44) #[] #[H k,H l,H h])/\d.heap[k]?=some (N #[.func (.func 42) #[] #[H h]] 55)/\d.heap[l]?=some (N #[.func (.func c) #[] #[]] 64)/\d.heap[h]?=some (N #[H G] 40)/\au w d:=by
 obtain⟨f,g⟩:=ah ((w.alloc (N #[H G] 40)).alloc (N #[.func (.func c) #[] #[]] 64));obtain⟨i,j,b⟩:=kK w (N #[H G] 40) (N #[.func (.func c) #[] #[]] 64);rw[g]at i j b;have m:∀o,au f (f.alloc o):=λo=>aI ak o;have a:=aT i j b m;have n:=I g;have p:QX (w.heap.size+1+1=f.heap.size):=by show w.heap.size+1+1=f.heap.size;rw[<-g];simp
 clear g i j b m;go_enter func22,ntmps22;go_wp2;rw[n.out];go_ret;rw[p.out];exact⟨_,_,_,rfl,QB _ _,((a.2.2.2 _).block _ (Z_ a.2.1)).trans a.2.1,((a.2.2.2 _).block _ (Z_ a.1)).trans a.1,a.2.2.1.trans ((a.2.2.2 _).mono a.2.2.1.size)⟩
theorem Iu[Lo](w:QA)(G Z:Nat)(a4:Bool)(i:Nat)(A n B:Int)(pv C:QC)(Z0:bm)(g:az)(Q:Nat->QC->QA->Prop)(H:Pf w G Z (fQ i A n B pv C) Z0 g Q)(a9:GS (i:Nat)=some (.agg #[.func (.func Z) #[] #[],.bool a4])):
  aE 11 #[ar G,fQ i A n B pv C] w λe d=>∃D a m c f,aK e (cX D (.slice a m c) f)/\Q D (.slice a m c) d:=by
 have b0:∀y w,(UN 44 y).run prog w=.ok (.enter 44 y) w:=RF func44 ai rfl;obtain⟨E,a5⟩:=ah ((w.alloc (al #[bx i,ae A,ae n,ae B,pv,C] 50)).alloc z46);obtain⟨M,J,s⟩:=kK w (al #[bx i,ae A,ae n,ae B,pv,C] 50) z46;rw[a5]at M J s;obtain⟨bA,j⟩:=ah w.heap.size;obtain⟨F,K⟩:=ah (w.heap.size+1);rw[j]at M;rw[K]at J;obtain⟨a1,a2,a3⟩:=cr M;have L:=(s.block _ (Z_ H.jw)).trans H.jw;obtain⟨r1,r2,r3⟩:=cr L;have a6:=ad (λW=>(GU W).mono λe d h=>And.intro h (show∀k o,W.heap[k]?=some o->d.heap[k]?=some o fromλk o q=>(h.2.2.block k (Z_ q)).trans q));have N:=aT M J s L;have t:=aM a5 j K;have a0:=ad H;have b1:=ad a9;clear H a9 a5 M J s j K L;go_enter func11,ntmps11;go_wp2_with fail;rw[t.1,t.2.2,t.2.1];go_cut [5,6] (λs5 s6 b2=>∃T:Nat,s5= ar T/\s6=.bool true/\QX (E.heap.size<=T/\b2.heap[T]?=some (al #[.func (.func Z) #[] #[],.bool a4] 66)/\au E b2))
 case first=>
  go_region_held3(λd=>d.cell? ⟨bA,0,none⟩=some (bx i)) ((simp[*,go_sem];done)) (first
   |(go_at_call 20;refine(a6 _).mono ?_;rintro e w1 ⟨⟨rfl,O,r⟩,q⟩
     (try(have h7:=q _ _ (QB E (al #[.nilFunc,.bool false] 66));obtain⟨c7,f7,z7⟩:=cr h7;have H7:=ad h7;clear h7))
     obtain⟨p1,p2,p3⟩:=kp r bA dJ;have P:QX (au E w1):=via bF r;have R:=dI O 68 5 66 (.agg #[.nilFunc,.bool false]) true VS UR (zeroValue66 _) (i:Nat);rw[b1.out]at R;have I:=dI (O.out ((Out.af (S:=λ_=>False) (aI ak (al #[.nilFunc,.bool false] 66)))) id) 68 5 66 (.agg #[.nilFunc,.bool false]) true VS UR (zeroValue66 _) (i:Nat);rw[b1.out]at I;simp at R I;clear O r q))
  all_goals go_wp2
  all_goals go_meet
  all_goals first
   |exact⟨_,rfl,rfl,QH _,heap_setCell_same _ _ 1 _ 66 _ (heap_setCell_same w1 E.heap.size 0 _ 66 _ H7),(P.setCell (p:=⟨E.heap.size,0,none⟩) (QH _) _).setCell (p:=⟨E.heap.size,1,none⟩) (QH _) _⟩
   |exact⟨_,rfl,rfl,P.size,QB _ _,aI P _⟩
 case rest=>
  rename_i b4;refine b4 _ _ ?_;obtain⟨T,rfl,rfl,z⟩:=hcut;have U:=z.2.2;obtain⟨t1,t2,t3⟩:=cr z.2.1;obtain⟨p1,p2,p3⟩:=kp U bA a3;obtain⟨p4,p5,p6⟩:=kp U G r3;have a7:=ad (λW=>xu G Z W);clear U;have l:=aM z.2.1 z.2.2 (N.2.2.1.trans (z.2.2.mono N.2.2.1.size));have b:QX (wc.heap[bA]?=some (al #[bx i,ae A,ae n,ae B,pv,C] 50)/\wc.heap[F]?=some z46):=⟨(z.2.2.block _ (Z_ N.1)).trans N.1,(z.2.2.block _ (Z_ N.2.1)).trans N.2.1⟩;have V:w.heap.size<=F:=by have:=t.2.2;omega
  have b5:¬T=F:=fI z.2.1 b.2 aj;have b6:¬bA=F:=fI b.1 b.2 aj;cases a4
  all_goals
   go_wp2;go_region_held3(λd=>d.cell? ⟨T,0,none⟩=some (.func (.func Z) #[] #[])/\d.cell? ⟨bA,0,none⟩=some (bx i)/\d.cell? ⟨bA,1,none⟩=some (ae A)/\d.cell? ⟨bA,2,none⟩=some (ae n)/\d.cell? ⟨bA,3,none⟩=some (ae B)/\d.cell? ⟨bA,4,none⟩=some pv/\d.cell? ⟨bA,5,none⟩=some C) ((simp[*,go_sem];done)) (first
    |(go_at_call 22;refine(a7 _).mono ?_;rintro e w3 ⟨b7,b8,b9,rfl,h1,h2,h3,X⟩
      have r:au wc w3:=by first|exact X|exact via (cE ak _) X
      clear X;obtain⟨v1,v2,v3⟩:=kp r T t3;obtain⟨v4,v5,v6⟩:=kp r bA (Z_ b.1);have H3:=aT r h1 h2 h3;have Y:=ad (λW (u:au w3 W)=>vo w W G Z b7 b8 b9 i A n B pv C Z0 g Q a0 ((l.2.2.trans (r.mono l.2.2.size)).trans (u.mono (QE l.2.2.size r.size))) ((u.block _ (Z_ h1)).trans h1) ((u.block _ (Z_ h2)).trans h2) ((u.block _ (Z_ h3)).trans h3));clear h1 h2 h3 r)
    |(go_at_call 44;refine(Y _ (by first|exact ak|exact cE ak _)).mono ?_;rintro e w4 ⟨D,a,m,c,f,rfl,b3,q⟩
      have x:=H3.1;have g1:=q _ _ ((x.block _ (Z_ l.1)).trans l.1) rfl;have g2:=q _ _ ((x.block _ (Z_ b.1)).trans b.1) rfl;have g3:=q _ _ ((x.block _ (Z_ b.2)).trans b.2) rfl;obtain⟨x1,x2,x3⟩:=cr g1;obtain⟨x4,x5,x6⟩:=cr g2;obtain⟨x7,x8,x9⟩:=cr g3;have a8:=aB b3 g3;clear b3 q g1 g2 g3 x))
   go_wp2;have y1:=heap_setCell_same w4 F 0 _ 46 (aG D) a8.2;have y2:=heap_setCell_same _ F 1 _ 46 (.slice a m c) y1;have y3:=heap_setCell_same _ F 2 _ 46 (ae f) y2;have q5:=a0.cell _ _ _ _ 0 _ (aG D) a8.1 a8.2 V;have q6:=a0.cell _ _ _ _ 1 _ (.slice a m c) q5 y1 V;have q7:=a0.cell _ _ _ _ 2 _ (ae f) q6 y2 V;have c0:=(cr y3).1 0;have c1:=(cr y3).1 1;have c2:=(cr y3).1 2;refine QR (v:=cX D (.slice a m c) f) (by simp[RM,results11,go_sem,c0,c1,c2]) rfl ⟨D,a,m,c,f,rfl,q7⟩
theorem rB(R B:Nat)(b:Option SZ)(g:az)(c:Nat)(a:Ro)(w:M)(h:fh w R B b g c a):aE 106 #[H R] w λe d=>aK e (.bool a.sl)/\w=d:=by obtain⟨i,l,j,-⟩:=h.aL;obtain⟨k,f,z⟩:=cr j;go_enter func106,ntmps106;go_wp2;go_ret;exact⟨rfl,rfl⟩
theorem vp[Lo](Z:bm)(g:az)(j:Option Nat)(V:bY)(C:Nat)(o:100000<=C):rv Z g j V C (λs=>s.x.sure=true) (λ_=>True) 112 cz where
 enters:=RF func112 ai rfl
 call:=λe W s b h hF=>q' Z.R Z.B Z.W Z.r g Z.fb s e W h hF J
 step:=λe s l k p b m hF f c=>by
  obtain⟨d,i,a⟩:=m.finish f c;refine⟨d,(pd hF J c).less J,?_,?_,by rw[i],λn=>n.finish c,?_⟩
  .rcases a with a|a<;>rw[a.2]
  .rcases a with a|a<;>rw[a.2]
  .rcases a with a|a
   .exact .inl ⟨a.1,trivial⟩
   .exact .inr ⟨a.1,by rw[i];exact f⟩
 cS:=λs l d _ _ h=>by rw[d];exact h
structure XH(g:az)(aw:Option Nat)(Bt:bq)(X0 X1:Rs->Su->Prop):Prop where
 go:∀s u s' k,X0 s u->gB g Bt s s' k 0->X1 s' u
 gT:∀s u s' k er,X0 s u->tt g aw s.ro s' k er->(bh s.b->bh s'.b)->s'.b.N=g.M+1->k<g.M->∀s u,X1 s u
 none:∀s u,Bt.n=0->X0 s u->X1 s u
def NT[Lo](Z:bm)(g:az)(a:Option Nat)(V:bY)(C b:Nat)(c d:Rs->Su->Prop)(w:M)(q:Bool)(W:M):Prop:=
 ∃s u,Inv W Z g a V (if q=true then C-70000 else C) s u/\s.x.N=b/\(q=true->nv a s/\∀s u,d s u)/\(q=false->c s u)/\eB Z w W
def Ma[Lo](Z:bm)(g:az)(a:Option Nat)(V:bY)(C:Nat)(b:Rs->Su->Prop)(w W:M):Prop:=∃s u,Inv W Z g a V (C-250000) s u/\b s u/\eB Z w W
theorem GV[Lo](Z:bm)(g:az)(L:Option Nat)(V:bY)(C Q:Nat)(m:bq)(pv:QC)(w:QA)(a7:1000000<=C)(S:m.ok g)(a3:m.n<=256)(gb:1<=m.n)(T O:Rs->Su->Prop)(H:XH g L m T O)(q:Bool)(W:QA)(a4:NT Z g L V C Q T O w q W)(U:gN W pv m)(j:2*m.dK g+1<=Q):
  aE 105 #[ar Z.R,pv] W λe p=>∃k n,aK e (gT k n)/\Fr et aF W p/\((n=0/\Ma Z g L (m.dR g V) C O w p)\/
   (q=false/\nK n/\k<g.M/\(∀s u,O s u)/\∃X P,(∃a2,p.heap[Z.R]?=some (al a2 164)/\a2[8]?=some (.bool X))/\(∃u,p.heap[Z.A]?=some (al (Bu Z g u P false) 120))/\(∃u,lX p Z g u false)/\
    (∀c,au p c->aE 106 #[ar Z.R] c λe v=>aK e (.bool X)/\c=v)/\
    ∀c,au p c->aE 111 #[ar Z.A,gT k n] c λe v=>aK e (.tuple #[])/\Fr et aF p v/\if X=true then∃s u,Inv v Z g L (m.dR g V) (C-61000) s u/\s.x.sure=true/\eB Z w v else NT Z g L V C Q T O w true v)):=by
 obtain⟨s,u,f,N,M,R,hF⟩:=a4;subst N;obtain⟨x,r⟩:=ah (if q=true then C-70000 else C);rw[r]at f;have a5:C-70000<=x/\x<=C:=by rw[<-r];split<;>omega
 obtain⟨r1,r2,-,-⟩:=f.ay.rs.ring;refine(Dx Z.R Z.B Z.W Z.r g Z.fb s x m pv W f.ay.rs f.fit aa S a3 gb j U (f.gt.NJ f.fit aa S gb r2 j)).mono ?_;rintro e p ⟨K,k,n,y,rfl,I,z⟩;have o:=f.gt.write f.fit aa S gb r2 j y;refine⟨k,n,rfl,f.ay.wide (Fr.ra z),?_⟩;rcases o.res with⟨rfl,A⟩|⟨i,l,A⟩|⟨i,l,Y,A⟩
 .exact .inl ⟨rfl,K,u,(f.rows I z A o.fit o.fr o.lz o.N (λt=>t.write y) aa).less aa,(by cases q with|true=>exact(M rfl).2 _ _|false=>exact H.go s u K k (R rfl) y),hF.trans (Fr.ra z)⟩
 .have a:=f.rows I z A o.fit o.fr o.lz o.N (λt=>t.write y) aa;obtain⟨B,D⟩:=f.hit i;have E:q=false:=by
   cases q with
   |false=>rfl
   |true=>exact((M rfl).1.no i).elim
  subst E;have F:x=C:=by rw[<-r];rfl
  subst F;obtain⟨J,a6,a0,-⟩:=a.ay.rs.row.aL;obtain⟨P,-,a1⟩:=a.ay.arr.aL;have h:=H.gT s u K k n (R rfl) i (λt=>t.write y) A.gd.N B;have G:=i.slot;subst G;refine .inr ⟨rfl,i.gone,B,h,false,P,⟨_,a0,by rw[<-l];rfl⟩,⟨u,a1⟩,⟨u,a.ay.arr⟩,λc b=>by rw[<-l];exact rB _ _ _ _ _ _ c (a.ay.rs.row.below b),λc b=>?_⟩;refine(ic Z g k V (x-60000) n K u c (a.below b) B D aa i.gone).mono ?_;rintro e v ⟨rfl,s2,u2,d⟩;refine⟨rfl,a.ay.wide ((eB.af b).trans d.bV.a),?_⟩;rw[aq aj];exact⟨s2,u2,d.inv.less (by rw[ao rfl];omega),by rw[d.x];exact o.N,λ_=>⟨d.inv.quiet d.down,h⟩,λe=>(by cases e),(hF.trans (Fr.ra z)).trans ((eB.af b).trans d.bV.a)⟩
 .have a:=f.rows I z A o.fit o.fr o.lz o.N (λt=>t.write y) aa;obtain⟨B,D⟩:=f.hit i;have E:q=false:=by
   cases q with
   |false=>rfl
   |true=>exact((M rfl).1.no i).elim
  subst E;have F:x=C:=by rw[<-r];rfl
  subst F;obtain⟨J,a6,a0,-⟩:=a.ay.rs.row.aL;obtain⟨P,-,a1⟩:=a.ay.arr.aL;have h:=H.gT s u K k n (R rfl) i (λt=>t.write y) A.gd.N B;have G:=i.slot;subst G;refine .inr ⟨rfl,i.gone,B,h,true,P,⟨_,a0,by rw[<-l];rfl⟩,⟨u,a1⟩,⟨u,a.ay.arr⟩,λc b=>by rw[<-l];exact rB _ _ _ _ _ _ c (a.ay.rs.row.below b),λc b=>?_⟩;refine(ic Z g k (m.dR g V) (x-60000) n K u c (a.below b) B D aa i.gone).mono ?_;rintro e v ⟨rfl,s2,u2,d⟩;refine⟨rfl,a.ay.wide ((eB.af b).trans d.bV.a),?_⟩;rw[ao rfl];exact⟨s2,u2,d.inv.less aa,by rw[d.x];exact Y,(hF.trans (Fr.ra z)).trans ((eB.af b).trans d.bV.a)⟩
open Classical in
noncomputable def NU (S:Bool->M->Prop)(w:M):Nat:=if S true w then 0 else 1
theorem vq(h:K.n=0)(V:bY):K.dR g V=V:=by
 funext m r;have a:K.gd g m r=false:=by unfold bq.gd;rw[h];rfl
 have b:aY g K K.n r=false:=by rw[h];rfl
 exact sJ a λ_=>b
def NV[Lo](Z:bm)(g:az)(c:Option Nat)(V:bY)(C d:Nat)(f:Rs->Su->Prop)(a:bq)(w:M)(e:RW)(b:M):Prop:=
 if 2*a.dK g+1>d then aK e (aG 122)/\au w b else aK e (aG 0)/\Ma Z g c (a.dR g V) C f w b
structure Fp[Lo](Z:bm)(g:az)(aw:Option Nat)(V:bY)(C N0:Nat)(X0 X1:Rs->Su->Prop)(Bt:bq)(pv:QC)(D:Nat)(w:M)(q:Bool)(W:M):Prop where
 st:NT Z g aw V C N0 X0 X1 w q W
 pv:gN W pv Bt
 cell:∃v,W.heap[D]? =some (N #[.int .u16 v] 35)
theorem Eb[Lo](Z:bm)(g:az)(m:Option Nat)(V:bY)(C:Nat)(s:Rs)(u:Su)(a:bq)(pv:QC)(w:QA)(h:Inv w Z g m V C s u)(i0:1000000<=C)(h3:a.ok g)(h4:a.n<=256)(S:gN w pv a)(x r:Rs->Su->Prop)(H:XH g m a x r)(i2:x s u):
  aE 60 #[ar Z.A,pv] w (NV Z g m V C u.N r a w):=by
 have i3:∀(h5:Fn) (first U:Array QC) (w:QA),(Instr.makeFunc h5 first U).run prog w=.ok (.func h5 first U) w:=λ_ _ _ _=>rfl;obtain⟨h6,D,i4,d6,B,a9⟩:=dU w (al #[aG 0] 35);have X:=h.below B;obtain⟨U,-,b0⟩:=X.ay.arr.aL;obtain⟨k0,f0,z0⟩:=cr b0;obtain⟨d1,d2,d3⟩:=cr a9;have i5:=h.eK.ring.2;have N:=ad (gD Z g u false h6 X.ay.arr);have y:=ad (ys g a pv h6 h.eK.b_ h3 h4 (S.below B));have d4:=aB H i2;have t:=bZ X a9 B h.low (S.below B);have b1:=aM i0 h3 h4;have n:=aB i4 d6;have d7:=bq.yE h.eK.b_ a;obtain⟨i6,i9,A,-⟩:=id S;have d8:=ad A;rw[A];obtain⟨h7,b2⟩:=ah (a.dK g);have d9:=ad b2;rw[b2]at y d7;rw[A]at y;obtain⟨p2,b3⟩:=ah (2*h7);obtain⟨a8,b4⟩:=ah (p2+1);have e1:QK.wrap (2*(h7:Int))=((p2:Nat):Int):=by rw[<-b3];go_arith
 have e2:QK.wrap ((p2:Int)+1)=((a8:Nat):Int):=by rw[<-b4];go_arith
 have b5:QX (2*a.dK g+1=a8):=by rw[<-b4,<-b3,<-d9.out];rfl
 unfold NV;rw[b5.out];have j0:QX (g.M<=16):=t.1.eK.b_.m16;by_cases j3:a8<=u.N
 .simp only[aq (show¬a8>u.N by omega)];by_cases b6:a.n=0
  .rw [b6]at y|-;have b7:=ad b6;obtain⟨b,i,j⟩:=g
   go_enter_defers func60,ntmps60
   go_wp2_with fail
   try rw[n.1,n.2]
   go_wp2_with(first|(go_at_call 99;refine N.mono ?_;rintro e w1 ⟨rfl,rfl⟩)|(go_at_call 104;refine y.mono ?_;rintro e E ⟨rfl,c⟩;obtain⟨p1,p2,p3⟩:=kp c D d3;obtain⟨p4,p5,p6⟩:=kp c Z.A z0;have d:=aB c p6));refine WY (f:=98) (args:= #[ar D]) aJ (by simp[go_sem]) ?_;refine(cN (ag D 0) _).mono ?_;rintro e e6 M ⟨rfl,rfl,rfl⟩;have l:w.heap.size<=D:=RO n.2;have R:=QE t.2.2.2.1 l;have o:=(d.1.block D d3).trans t.2.1;have F:=heap_setCell_same E D 0 _ _ (aG 0) o;have I:=heap_setCell_same _ D 0 _ _ (aG 0) F;have Y:QX (Ma Z ⟨b,i,j⟩ m (bq.dR ⟨b,i,j⟩ a V) C r w ((E.setCell (ag D 0) (aG 0)).setCell (ag D 0) (aG 0))):=by rw[vq b7.out];exact⟨s,u,(((t.1.below d.1).cell o R rfl _).cell F R rfl _).less aa,d4.1.none s u b7 d4.2,(((eB.af t.2.2.1).then d.1).new l _).new l _⟩
   have O:=(cr I).1 0;simp[Leaves,settle,RM,results60,go_sem,O];exact Y
  .have gb:¬(a.n:Int)=0:=aa;have l:w.heap.size<=D:=RO n.2;have v:=aB l (QE t.2.2.2.1 l);have e7:QX (∀q W,Fp Z g m V C u.N x r a pv D w q W->aE 105 #[ar Z.R,.slice i6 a.n i9] W _):=λq W h8=>by rw[<-d8.out];exact GV Z g m V C u.N a pv w b1.1 b1.2.1 b1.2.2 aa x r d4.1 q W h8.st h8.pv (by rw[b5.out];exact j3)
   have l0:=ad (show∃j4,j4=g from⟨g,rfl⟩);obtain⟨b,i,j⟩:=g
   go_enter_defers func60,ntmps60
   go_wp2_with fail
   try rw[n.1,n.2]
   go_wp2_with(first|(go_at_call 99;refine N.mono ?_;rintro e w1 ⟨rfl,rfl⟩)|(go_at_call 104;refine y.mono ?_;rintro e E ⟨rfl,c⟩;obtain⟨p1,p2,p3⟩:=kp c D d3;obtain⟨p4,p5,p6⟩:=kp c Z.A z0;have d:=aB c p6));have o:=(d.1.block D d3).trans t.2.1;have e8:QX (∃q,Fp Z ⟨b,i,j⟩ m V C u.N x r a pv D w q (E.setCell (ag D 0) (aG 0))):=⟨false,⟨s,u,(t.1.below d.1).cell o v.2 rfl _,t.1.same.1.symm,λe=>(by cases e),λ_=>d4.2,((eB.af t.2.2.1).then d.1).new v.1 _⟩,(t.2.2.2.2.below d.1).fr (T:= [35]) ((Fr.refl [35] aF E).set (p:=ag D 0) o rfl v.2 _) rfl rfl,0,heap_setCell_same E D 0 _ _ (aG 0) o⟩;have e9:decide (u.N<a8)=false:=aR;have f1:((a.n:Int)==0)=false:=by rw[beq_eq_false_iff_ne];omega
   simp only[e9,f1];go_loopw [6] (λ_ wr=>QX (∃q,Fp Z ⟨b,i,j⟩ m V C u.N x r a pv D w q wr)) (λ_ wr=>NU (Fp Z ⟨b,i,j⟩ m V C u.N x r a pv D w) wr)
   case atStart=>exact e8
   case round=>
    obtain⟨q,b8⟩:∃q,QX (Fp Z ⟨b,i,j⟩ m V C u.N x r a pv D w q wr/\(q=false->¬Fp Z ⟨b,i,j⟩ m V C u.N x r a pv D w true wr)):=by
     by_cases e:Fp Z ⟨b,i,j⟩ m V C u.N x r a pv D w true wr
     .exact ⟨true,e,λh=>by cases h⟩
     .obtain ⟨q,j5⟩:=hrel.out;exact⟨q,j5,λ_=>e⟩
    obtain⟨s1,u1,i1,-⟩:=b8.1.st;obtain⟨h9,-,f2⟩:=i1.ay.arr.aL;obtain⟨k0,f0,z0⟩:=cr f2;have f3:=ad (e7 q wr b8.1);go_wp2_with fail;refine f3.mono ?_;rintro e G ⟨k,d5,rfl,b9,J⟩;obtain⟨v0,f4⟩:=b8.1.cell;have a0:=b9.hp f4 rfl;have K:=ad a0;have j6:=Z_ a0;have f6:=ad b9;rcases J with⟨rfl,j8⟩|⟨rfl,j9,k1,c3,k2,l1,-,⟨u5,a1⟩,⟨u6,f8⟩,f9,g0⟩
    .have k3:=ad j8;obtain⟨O,c1,c2⟩:=cr a0;rw[df];go_wp2;refine WY (f:=98) (args:= #[ar D]) aJ (by simp[go_sem]) ?_;refine(cN (ag D 0) _).mono ?_;rintro e e6 M ⟨rfl,rfl,rfl⟩;have c4:=heap_setCell_same G D 0 _ _ (aG 0) K;have a2:SC (G.setCell (ag D 0) (aG 0)).heap.size (G.setCell (ag D 0) (aG 0)) ((G.setCell (ag D 0) (aG 0)).alloc (al #[ae 0,aG 0] 172)):=aI ak _;have O:=(cr ((a2.block D (Z_ c4)).trans c4)).1 0;have Y:QX (Ma Z ⟨b,i,j⟩ m (bq.dR ⟨b,i,j⟩ a V) C r w ((G.setCell (ag D 0) (aG 0)).alloc (al #[ae 0,aG 0] 172))):=by obtain⟨s2,u2,j1,k4,j2⟩:=k3.out;exact⟨s2,u2,(j1.cell K v.2 rfl _).below a2,k4,(j2.new v.1 _).then a2⟩
     simp[Leaves,settle,RM,results60,go_sem,O];exact Y
    .have P:d5≠0:=j9.ne;have c5:=ad c3;have l2:¬(d5:Int)=0:=aa;have a3:((k:Int)==(b:Int))=false:=by rw[beq_eq_false_iff_ne];have:k<b:=k1;omega
     obtain⟨c6,T,k6,g1,a4,g2⟩:=dU G (al #[ae k,aG d5] 172);have g3:=(a4.block _ (Z_ a1)).trans a1;obtain⟨k0,f0,z0⟩:=cr g3;obtain⟨k5,f5,z5⟩:=cr a1;obtain⟨t0,t1,t2⟩:=cr g2;have g4:=ad (f9 c6 a4);have k8:=ad (λW (b0:au G W)=>eb Z ⟨b,i,j⟩ u6 false W (f8.fr (T:= []) (Fr.af b0) rfl rfl));have c7:QX (∀W,au G W->aE 111 #[ar Z.A,.agg #[ae k,aG d5]] W _):=λW b0=>by rw[<-bf k P];exact g0 W b0
     have L:=ad a4;have Q:=aB k6 g1;rw[bf k P];go_wp2_with fail
     try rw[Q.1,Q.2]
     go_wp2_with(go_at_call 106;refine g4.mono ?_;rintro e w6 ⟨rfl,rfl⟩);go_quiet((go_at_call 107;exact ZQ ((k8 _ (L.trans ((cE ak _).mono L.size))).mono λe l3 h=>⟨h.1,h.2.symm⟩)));have a5:QX (au G (c6.drewN nq)):=L.trans ((cE ak _).mono L.size);have a3:au c6 (c6.drewN nq):=cE ak _;obtain⟨e0,g5,g6⟩:=kp a3 T t2;obtain⟨e3,e4,e5⟩:=kp a3 Z.A z0;obtain⟨l4,g7⟩:=ah (c6.drewN nq);rw[g7]at a5 e0 g5 g6 e3 e4 e5|-;cases k2 with
     |true=>
      go_wp2_with(go_at_call 111;refine(c7 _ a5).mono ?_;rintro e w7 ⟨rfl,f7,z⟩;rw[ao rfl]at z;obtain⟨s7,u7,i7,j7,l7⟩:=z;have a6:=f7.hp K rfl;obtain⟨c8,-,a7⟩:=i7.ay.arr.aL;obtain⟨k7,g8,z7⟩:=cr a7;have H7:=aT i7 j7 l7 a6;have c9:QX (1000000<=C):=b1.1;have g9:=ad (pt Z ⟨b,i,j⟩ i7.eK.b_.m16 112 _ _ _ _ _ (yO Z ⟨b,i,j⟩ m _ (C-61000) _ _ 112 _ (vp Z ⟨b,i,j⟩ m _ (C-61000) (by have:=c9.out;omega)) (by have:=c9.out;omega) w7) false w7 ⟨s7,u7,i7,j7,λe=>(by cases e),eB.af ak⟩));go_wp2_with(go_at_call 101;refine g9.mono ?_;rintro e w8 ⟨rfl,s8,u8,i8,-,l8⟩;have d0:=(H7.1.ay.wide l8).hp H7.2.2.2 rfl;obtain⟨x1,x2,x3⟩:=cr d0;have H8:=aM i8 l8 d0);refine WY (f:=98) (args:= #[ar D]) aJ (by simp[go_sem]) ?_;refine(cN (ag D 0) _).mono ?_;rintro e e6 M ⟨rfl,rfl,rfl⟩;have O:=(cr (heap_setCell_same w8 D 0 _ _ (aG 0) H8.2.2)).1 0;have k9:=b1.1;have Y:QX (Ma Z ⟨b,i,j⟩ m (bq.dR ⟨b,i,j⟩ a V) C r w (w8.setCell (ag D 0) (aG 0))):=
       ⟨s8,u8,(H8.1.cell H8.2.2 v.2 rfl _).less aa,c5 _ _,(H7.2.2.1.trans H8.2.1).new v.1 _⟩
      simp[Leaves,settle,RM,results60,go_sem,O];exact Y
     |false=>
      go_wp2_with fail;refine(c7 _ a5).mono ?_;rintro e w7 ⟨rfl,f7,z⟩;rw[aq Bool.false_ne_true]at z;have a6:=f7.hp K rfl;have h0:=(b8.1.pv.fr f6 rfl rfl).fr f7 rfl rfl;have H7:QX (Fp Z ⟨b,i,j⟩ m V C u.N x r a pv D w true w7):=⟨z,h0,_,a6⟩;obtain⟨s7,u7,i7,-⟩:=z;obtain⟨c8,-,a7⟩:=i7.ay.arr.aL;obtain⟨k7,g8,z7⟩:=cr a7;go_wp2;go_roundw
      case rel=>exact⟨true,H7⟩
      case measure=>have h1:NU (Fp Z ⟨b,i,j⟩ m V C u.N x r a pv D w) w7=0:=ao H7;have h2:NU (Fp Z ⟨b,i,j⟩ m V C u.N x r a pv D w) wr=1:=aq (b8.2 trivial);rw[h1,h2];exact Nat.zero_lt_one
 .simp only[ao (show a8>u.N by omega)];obtain⟨b,i,j⟩:=g
  go_enter_defers func60,ntmps60
  go_wp2_with fail
  try rw[n.1,n.2]
  go_wp2_with(first|(go_at_call 99;refine N.mono ?_;rintro e w1 ⟨rfl,rfl⟩)|(go_at_call 104;refine y.mono ?_;rintro e E ⟨rfl,c⟩;obtain⟨p1,p2,p3⟩:=kp c D d3;obtain⟨p4,p5,p6⟩:=kp c Z.A z0;have d:=aB c p6));refine WY (f:=98) (args:= #[ar D]) aJ (by simp[go_sem]) ?_;refine(cN (ag D 0) _).mono ?_;rintro e e6 M ⟨rfl,rfl,rfl⟩;have l:w.heap.size<=D:=RO n.2;have R:=QE t.2.2.2.1 l;have o:=(d.1.block D d3).trans t.2.1;have F:=heap_setCell_same E D 0 _ _ (aG 0) o;have I:=heap_setCell_same _ D 0 _ _ (aG 122) F;have Y:QX (au w ((E.setCell (ag D 0) (aG 0)).setCell (ag D 0) (aG 122))):=((t.2.2.1.trans (d.1.mono t.2.2.1.size)).setCell (p:=ag D 0) l _).setCell (p:=ag D 0) l _;have O:=(cr I).1 0;simp[Leaves,settle,RM,results60,go_sem,O];exact Y
theorem Fr.tm[Lo](h:Fr et aF w W):Fr TM aF w W:=h.wide TM rfl
theorem pC(w:M)(b:Nat)(c n d:Int)(pv e:QC):∃a bA f,(w.alloc (N #[bx b,Y c,Y n,Y d,pv,e] 50)).alloc z46=a/\w.heap.size=bA/\w.heap.size+1=f/\a.heap[bA]?=some (N #[bx b,Y c,Y n,Y d,pv,e] 50)/\a.heap[f]?=some z46/\au w a:=by obtain⟨g,h,i⟩:=kK w (N #[bx b,Y c,Y n,Y d,pv,e] 50) z46;exact⟨_,_,_,rfl,rfl,rfl,g,h,i⟩
theorem qu[Lo](h:a_ W n (N A 46))(i:A.size=3)(d:w.heap.size<=n)(j:Lo.lo<=w.heap.size)(x y z:QC):
  ((W.setCell (R n 0) x).setCell (R n 1) y|>.setCell (R n 2) z).heap[n]?=some (N #[x,y,z] 46)/\Fr [46] aF W ((W.setCell (R n 0) x).setCell (R n 1) y|>.setCell (R n 2) z)/\(∀{T:List Nat} {S:Nat->Prop},Fr T S w W->Fr T S w ((W.setCell (R n 0) x).setCell (R n 1) y|>.setCell (R n 2) z)):=by
 obtain⟨a,b,c,rfl⟩:∃a b c,A= #[a,b,c]:=by
  match A,i with
  |⟨[a,b,c]⟩,_=>exact⟨a,b,c,rfl⟩
 have e:=QE j d;have f:=heap_setCell_same W n 0 _ 46 x h;have g:=heap_setCell_same _ n 1 _ 46 y f;have k:=heap_setCell_same _ n 2 _ 46 z g;exact⟨k,(((Fr.refl [46] aF W).set (p:=R n 0) h rfl e x).set (p:=R n 1) f rfl e y).set (p:=R n 2) g rfl e z,λl=>((l.new (p:=R n 0) d x).new (p:=R n 1) d y).new (p:=R n 2) d z⟩
theorem Ec[Lo](Z:bm)(g:az)(y:Option Nat)(V:bY)(C G:Nat)(s:Rs)(u:Su)(L k n:Nat)(O:Int)(pv P:QC)(w:QA)(h:Inv w Z g y V C s u)(z:cw w G Z g)(N:1000<=C)(M:k+n<=g.B):
  aE 30 #[ar G,fQ L O n k pv P] w λe b=>∃a c,aK e (cX 0 (.slice a (n*128) c) 0)/\cR b (.slice a (n*128) c) (n*128) (λj=>eL g V (k+j/128) (j%128))/\Fr et aF w b/\∃s u,Inv b Z g y V (C-1000) s u:=by
 obtain⟨Q,bA,R,S,p,r,A,T,d⟩:=pC w L O n k pv P;have l:=h.below d;have m:=(d.block _ (Z_ z)).trans z;obtain⟨a1,a2,a3⟩:=cr A;obtain⟨r1,r2,r3⟩:=cr m;have B:=ad (λW (D:au Q W)=>(GP Z g y V C s u k n W (l.below D) N M).mono λe b U=>And.intro U (show Fr et aF Q b from by obtain⟨_,_,_,_,q,a0,a4,_,_,i,_⟩:=U;exact(Fr.af D).tr ((l.below D).ay.wide i.a)));have o:=bZ A T m h.low d;have f:=aM S p r;clear h z S p r A T d l m;go_enter func30,ntmps30;go_wp2_with fail;rw[f.1,f.2.2,f.2.1];go_region_held3(λb=>b.cell? (ag G 1)=some (ar Z.A)/\b.cell? (ag bA 3)=some (ae k)/\b.cell? (ag bA 2)=some (ae n)) ((simp[*,go_sem];done)) (first|(go_at_call 59;refine(B _ (by first|exact ak|exact cE ak _)).mono ?_;rintro e w2 ⟨⟨a,c,rfl,t,q,I,Y,X,j2,f2,-⟩,i⟩;have v1:=(cr (i.hp o.2.2.1 rfl)).1 1;have v2:=(cr (i.hp o.1 rfl)).1 3;have v3:=(cr (i.hp o.1 rfl)).1 2;have E:=i.hp o.2.1 rfl;obtain⟨x1,x2,x3⟩:=cr E;have x:=aT t X i E;clear t X i E));go_wp2;have F:w.heap.size<=R:=by have:=f.2.2;omega
 obtain⟨K,H,J⟩:=qu (w:=w) x.2.2.2 rfl F o.2.2.2.1 (aG 0) (.slice a (n*128) c) (ae 0);have c0:=(cr K).1 0;have c1:=(cr K).1 1;have c2:=(cr K).1 2;refine QR (v:=cX 0 (.slice a (n*128) c) 0) (by simp[RM,results30,go_sem,c0,c1,c2]) rfl ⟨a,c,rfl,x.1.fr H rfl,J ((Fr.af o.2.2.2.2).tr x.2.2.1),I,Y,(x.2.1.fr H rfl).less (by split<;>omega)⟩
section
theorem JS(w:QA)(A B C:Obj):(((w.alloc A).alloc B).alloc C).heap[w.heap.size]?=some A/\(((w.alloc A).alloc B).alloc C).heap[w.heap.size+1]?=some B/\(((w.alloc A).alloc B).alloc C).heap[w.heap.size+1+1]?=some C/\au w (((w.alloc A).alloc B).alloc C):=by obtain⟨a,b,c⟩:=kK w A B;have d:((w.alloc A).alloc B).heap.size=w.heap.size+1+1:=aJ;refine⟨(YE _ _ J).trans a,(YE _ _ J).trans b,?_,aI c _⟩;rw[<-d];exact QB _ _
def AE[Lo](Z:bm)(g:az)(m:Nat)(V:bY)(C:Nat)(w:QA)(k:Nat)(W:QA):Prop:=
 eB Z w W/\match k with
  |0=>∃s u,kI W Z g (some m) V C s u
  |1=>∃s u,Inv W Z g (some m) V (C-1000) s u/\u.st m=2/\uS s.b m
  |_=>∃s u,Inv W Z g (some m) V (C-1000) s u/\u.st m=2/\bh s.b
theorem AE.below[Lo]{Z:bm}{g:az}{m:Nat}{V:bY}{C:Nat}{w W c:QA}{k:Nat}(h:AE Z g m V C w k W)(a:au W c):AE Z g m V C w k c:=by
 refine⟨h.1.then a,?_⟩
 match k,h.2 with
 |0,⟨s,u,h⟩=>exact⟨s,u,h.below a⟩
 |1,⟨s,u,h,b⟩=>exact⟨s,u,h.below a,b⟩
 |_+2,⟨s,u,h,b⟩=>exact⟨s,u,h.below a,b⟩
section
variable [Lo] (Z:bm) (g:az) (m:Nat) (V:bY) (C G bR bA kd:Nat) (n bk:Int) (pv kv:QC) (w W:QA) (hm:m<g.M) (hC:1000<=C) (hR:W.heap[bR]? =some (al #[ar G] 40)) (hA:W.heap[bA]? =some (al #[bx kd,ae m,ae n,ae bk,pv,kv] 50)) (hr:cw W G Z g)
include hm hC hR hA hr
theorem GW(h:AE Z g m V C w 0 W):aE 64 #[H bR,H bA] W λe a=>aK e (aG 0)/\AE Z g m V C w 1 a/\Fr et aF W a:=by obtain⟨b,s,u,i⟩:=h;obtain⟨y,z,A⟩:=cr hA;obtain⟨B,D,E⟩:=cr hR;obtain⟨F,K,L⟩:=cr hr;have l:=I (λo (c:au W o)=>(yP m (i.below c) hm hC).mono λe a d=>show aK e (aG 0)/\AE Z g m V C w 1 a/\Fr et aF W a from by obtain⟨p,q,r,t,v,x,j⟩:=d;exact⟨p,⟨(b.then c).trans j,q,r,t,v,x⟩,(Fr.af c).tr ((i.below c).ay.wide j)⟩);have f:=aM hA hR hr;go_enter func64,ntmps64;go_wp2;go_region_held3(λa=>a.cell? (R bR 0)=some (H G)/\a.cell? (R G 1)=some (H Z.A)/\a.cell? (R bA 1)=some (Y m)) ((simp[*,go_sem];done)) (first|(go_at_call 63;refine(l _ (by first|exact ak|exact cE ak _)).mono ?_;rintro e O ⟨rfl,d,b⟩;have P:=(cr (b.hp f.2.1 rfl)).1 0;have Q:=(cr (b.hp f.2.2 rfl)).1 1;have S:=(cr (b.hp f.1 rfl)).1 1;have k:=aB d b));go_wp2;go_ret;exact⟨rfl,k.1,k.2⟩
theorem GX(h:AE Z g m V C w 1 W):aE 65 #[ar bR,ar bA] W λe d=>aK e (aG 0)/\AE Z g m V C w 2 d/\Fr et aF W d:=by
 have _:=hC;obtain⟨f,s,u,a,y,F⟩:=h;obtain⟨Y,J,a3⟩:=cr hA;obtain⟨b1,b2,b3⟩:=cr hR;obtain⟨K,r2,r3⟩:=cr hr;have q:=az.gY a.eK.b_;have L:1<=g.R:=by have z:=a.eK.b_.s1;have O:=a.eK.b_.c1;exact SX z O
 have P:=a.gt.gd.N;obtain⟨Q,A⟩:=a.gt.swap (k:=m) (n:=1+g.R) rfl λr=>a.down hm y r;have S:∃v,s.b.dv g.M=some v:=by
  cases i:s.b.dv g.M with
  |none=>exact absurd (a.gt.gd.nL _ ((a.gt.gd.dev g.M aa).1 i)) (TO _)
  |some v=>exact⟨v,rfl⟩
 have j:Fit g (C-1000) {s with b:=s.b.put m ⟨Dk.fresh (1+g.R),false,0⟩}:=by
  refine⟨a.fit.b_,P,λk v T c=>?_,λv c=>?_,a.fit.bad,a.fit.cA,a.fit.iF,a.fit.wt,a.fit.mA⟩
  .have c:(if k=m then some _ else s.b.dv k)=some v:=c;by_cases e:k=m
   .rw [ao e]at c;cases c;obtain⟨U,X⟩:=S;have z:=(a.fit.gy U X).2;exact⟨QH _,by show 0+(C-1000)<_;omega⟩
   .rw [aq e]at c;exact a.fit.mem k v T c
  .have c:(if g.M=m then some _ else s.b.dv g.M)=some v:=c;rw[aq aa]at c;exact a.fit.gy v c
 have B:=ad (λD (o:au W D)=>(Cq Z.B m (1+g.R) s.b D (a.below o).ay.rs.cj aa F aa aa).mono λe d i=>show aK e (aG 0)/\AE Z g m V C w 2 d/\Fr et aF W d from by obtain⟨H,N,t⟩:=i;exact⟨H,⟨(f.then o).trans (Fr.ra t.rb),_,u,((a.below o).DF.cj N t Q j).up λ_=>A,y,A⟩,((Fr.af o).tr t).wide et rfl⟩);have p:=aM hA hR hr;obtain⟨R,l⟩:=ah g.R;rw[l]at K B q;have e1:QK.wrap (1+(R:Int))=((1+R:Nat):Int):=bj;have x:=ad l;go_enter func65,ntmps65;go_wp2;go_region_held3(λd=>d.cell? (ag bR 0)=some (ar G)/\d.cell? (ag G 0)=some (ar Z.B)/\d.cell? (ag G 2)=some (ae R)/\d.cell? (ag bA 1)=some (ae m)) ((simp[*,go_sem];done)) (first|(go_at_call 66;refine(B _ (by first|exact ak|exact cE ak _)).mono ?_;rintro e w2 ⟨rfl,i,f⟩;have v1:=(cr (f.hp p.2.1 rfl)).1 0;have v2:=(cr (f.hp p.2.2 rfl)).1 0;have I:=(cr (f.hp p.2.2 rfl)).1 2;rw[x.out]at I;have v3:=(cr (f.hp p.1 rfl)).1 1;have E:=aB i f));go_wp2;go_ret;exact⟨rfl,E.1,E.2⟩
end
theorem vr[Lo](Z:bm)(g:az)(m:Nat)(V:bY)(C G:Nat)(s:Rs)(u:Su)(kd:Nat)(n bk:Int)(pv kv:QC)(w:QA)(h:Inv w Z g (some m) V C s u)(hr:cw w G Z g)(hm:m<g.M)(hC:200000<=C):
  aE 34 #[ar G,fQ kd m n bk pv kv] w λe p=>aK e (cX 0 aW 0)/\Fr et aF w p/\GL Z g m V (C-40000) w p:=by
 have X:∀a w,(UN 64 a).run prog w=.ok (.enter 64 a) w:=RF func64 ai rfl;have H:∀a w,(UN 65 a).run prog w=.ok (.enter 65 a) w:=RF func65 ai rfl;obtain⟨a6,hA⟩:=ah (((w.alloc (al #[ar G] 40)).alloc (al #[bx kd,ae m,ae n,ae bk,pv,kv] 50)).alloc z46);obtain⟨z,N,a7,j⟩:=JS w (al #[ar G] 40) (al #[bx kd,ae m,ae n,ae bk,pv,kv] 50) z46;rw[hA]at z N a7 j;obtain⟨bR,F⟩:=ah w.heap.size;obtain⟨bA,q⟩:=ah (w.heap.size+1);obtain⟨U,K⟩:=ah (w.heap.size+1+1);rw[F]at z;rw[q]at N;rw[K]at a7;have L:=(j.block _ (Z_ hr)).trans hr;obtain⟨a1,a2,a3⟩:=cr N;obtain⟨b1,b2,b3⟩:=cr z;obtain⟨r1,r2,r3⟩:=cr L;have h0:QX (AE Z g m V C w 0 a6):=⟨eB.af j,s,u,(h.below j).DF⟩;have d1:decide ((m:Int)<0)=false:=aJ;have d2:decide ((g.M:Int)<=(m:Nat))=false:=aR;have d3:¬g.M<=m:=aa;have r:=aT hA F q K;have t:=eM z N a7 L h.low j;have R:=aB hm hC;clear h hr hA F q K z N a7 L j hC;go_enter func34,ntmps34;go_wp2_with fail;rw[r.1,r.2.2.2,r.2.2.1,r.2.1];go_quiet(fail);obtain⟨a8,O⟩:=ah (a6.drewN nq);have I:au a6 a8:=by rw[<-O];exact cE ak _
 rw[O];obtain⟨A,B⟩:=ah (a8.alloc (al #[.func (.func 64) #[] #[ar bR,ar bA],.func (.func 65) #[] #[ar bR,ar bA]] 63));have b:au a6 A:=by rw[<-B];exact aI I _
 have P:A.heap[a8.heap.size]?=some (al #[.func (.func 64) #[] #[ar bR,ar bA],.func (.func 65) #[] #[ar bR,ar bA]] 63):=by rw[<-B];exact QB _ _
 obtain⟨D2,Q⟩:=ah a8.heap.size;rw[Q]at P;have Y:=aB b P;have J:QX (AE Z g m V C w 0 A/\Fr et aF A A):=⟨h0.out.below b,Fr.refl _ _ _⟩;have D:QX (A.heap[bR]?=some (al #[ar G] 40)/\A.heap[bA]?=some (al #[bx kd,ae m,ae n,ae bk,pv,kv] 50)/\A.heap[U]?=some z46/\cw A G Z g):=⟨(b.block _ (Z_ t.1)).trans t.1,(b.block _ (Z_ t.2.1)).trans t.2.1,(b.block _ (Z_ t.2.2.1)).trans t.2.2.1,(b.block _ (Z_ t.2.2.2.1)).trans t.2.2.2.1⟩;have a0:=aB B Q;clear O I b P B Q a1 b1 r1;go_wp2;rw[a0.1,a0.2];go_loopw [26] (λi wr=>∃k:Nat,i= ae k/\k<=2/\QX (AE Z g m V C w k wr/\Fr et aF A wr)) (λi _=>2-(intOf i).toNat)
 case atStart=>exact⟨0,rfl,aa,J⟩
 case round=>
  clear J;obtain⟨k,rfl,c5,x⟩:=hrel;have c:=x.2.hp D.1 rfl;have d:=x.2.hp D.2.1 rfl;have l:=x.2.hp D.2.2.1 rfl;have f:cw wr G Z g:=x.2.hp D.2.2.2 rfl;obtain⟨x1,x2,x3⟩:=cr (x.2.hp Y.2 rfl);have a4:1000<=C:=by have:=R.2;omega
  by_cases b4:k<2
  .have S:∃a5,wr.cell? ⟨D2,k,none⟩=some (.func (.func a5) #[] #[ar bR,ar bA])/\(∀a w,(UN a5 a).run prog w=.ok (.enter a5 a) w)/\aE a5 #[ar bR,ar bA] wr λe p=>aK e (aG 0)/\AE Z g m V C w (k+1) p/\Fr et aF wr p:=by
    rcases(show k=0\/k=1 by omega)with rfl|rfl
    .exact ⟨64,x1 0,X,GW Z g m V C G bR bA kd n bk pv kv w wr R.1 a4 c d f x.1⟩
    .exact ⟨65,x1 1,H,GX Z g m V C G bR bA kd n bk pv kv w wr R.1 a4 c d f x.1⟩
   obtain⟨a5,y1,y2,y3⟩:=S;have c6:=ad y3;have c7:(k:Int)<2:=aa;clear y3 x1 c d l f c5;go_wp2_with(refine c6.mono ?_;rintro e w4 ⟨rfl,a9,E⟩;have H4:=aB a9 E;clear a9 E);go_roundw
   case rel=>exact⟨k+1,by go_num,aa,H4.1,x.2.tr H4.2⟩
   case measure=>simp[intOf];omega
  .obtain rfl:k=2:=aa;obtain⟨s2,u2,i2,j2,l2⟩:=x.1.2;have b5:=ad (λW (z:au wr W)=>(xq Z g m V (C-1000) s2 u2 W (i2.below z) R.1 j2 l2 (by have:=R.2;omega)).mono λe p a9=>show aK e (aG 0)/\Fr et aF wr p/\GL Z g m V (C-40000) w p from by obtain⟨q1,c8,c9,q2,q3,q4,q5⟩:=a9;exact⟨q1,(Fr.af z).tr ((i2.below z).ay.wide q5),c8,c9,q2.less aa,q3,q4,(x.1.1.then z).trans q5⟩);have d0:=ad ih;have b0:=aT c d l f;obtain⟨c1,c2,c3⟩:=cr c;obtain⟨a1,a2,a3⟩:=cr d;obtain⟨r1,r2,r3⟩:=cr f;have d4:¬G=U:=fI f l aj;have d5:¬bA=U:=fI d l aj;have d6:¬bR=U:=fI c l aj;clear c d l f i2 j2 l2 x1 b4 c5;go_wp2;go_region_held3(λp=>p.cell? ⟨bR,0,none⟩=some (ar G)/\p.cell? ⟨G,1,none⟩=some (ar Z.A)/\p.cell? ⟨bA,1,none⟩=some (ae m)) ((simp[*,go_sem];done)) (first
    |(go_at_call 67;refine(b5 _ (by first|exact ak|exact cE ak _)).mono ?_;rintro e w5 ⟨rfl,E,hR⟩
      obtain⟨v1,v2,v3⟩:=cr (E.hp b0.1 rfl);obtain⟨v4,v5,v6⟩:=cr (E.hp b0.2.1 rfl);have T:=E.hp b0.2.2.1 rfl;obtain⟨v7,v8,v9⟩:=cr T;obtain⟨d7,d8,b6⟩:=cr (E.hp b0.2.2.2 rfl);have H5:=aM E hR T;clear E hR T)
    |(go_at_call 21;refine(d0 0 _).mono ?_;rintro e w6 ⟨rfl,y⟩
      have o:au w5 w6:=by first|exact y|exact via (cE ak _) y
      obtain⟨u1,u2,u3⟩:=kp o bR v3;obtain⟨u4,u5,u6⟩:=kp o bA v6;obtain⟨u7,u8,u9⟩:=kp o U v9;obtain⟨d9,e0,e1⟩:=kp o G b6;have H6:=ad o;clear o y))
   go_wp2;have b7:w.heap.size<=U:=by have:=r.2.2.2;omega
   have b8:=(H6.block _ (Z_ H5.2.2)).trans H5.2.2;obtain⟨y1,y2,y3⟩:=qu (w:=w) b8 rfl b7 t.2.2.2.2.1 (aG 0) aW (ae 0);have c0:=(cr y1).1 0;have c1:=(cr y1).1 1;have c2:=(cr y1).1 2;have b9:Fr et aF w w6:=(((Fr.af (t.2.2.2.2.2.trans (Y.1.mono t.2.2.2.2.2.size))).tr x.2).tr H5.1).then H6;obtain⟨s7,c4,i7,j7,l7,f7⟩:=H5.2.1;refine QR (v:=cX 0 aW 0) (by simp[RM,results34,go_sem,c0,c1,c2]) rfl ⟨rfl,y3 b9,s7,c4,(i7.below H6).fr y2 rfl,j7,l7,y3 (f7.then H6)⟩
end
theorem vt{f:Nat->QC}(h:w.ownsRow m t 1 (a' k n n) n (bP n f))(_:0<n):w.heap[k]?=some (.cells (bs n f) t (0,0)):=by
 rcases h.2 with⟨e,-⟩|⟨b,c,a,e,-,d,-,-,o,g⟩
 .cases e
 .cases e;rw[d];have i:a.toList=bP n f:=by rw[<-g,YH (by rw[Array.length_toList];omega)]
  have j:a=bs n f:=by apply Array.ext';rw[i];simp[bs,bP]
  rw[j]
def Mb(E n:Nat)(v:QC)(w:M)(e:RW)(a:M):Prop:=
 ∃g,aK e (a' g n n)/\a.heap[g]?=some (.cells (bs n λ_=>v) E (0,0))/\w.heap.size<=g/\au w a
theorem AF(n b:Nat)(c:Int)(w:QA)(V:0<n)(a3:n<=4096)(i:w.cell? (ag b 0)=some (ae c)):
  aE 92 #[a' b 1 1,ae n] w (Mb 3 n (ae c) w):=by
 obtain⟨W,X,y,z,A⟩:=SD wi;have C:∀w,(TC 82 (ae (n:Int)) (ae (n:Int))).run prog w=.ok (a' w.heap.size n n) (w.alloc (al (bs n λ_=> ae 0) 3)):=λw=>by have:=run_make (P:=prog) w 82 3 W (ae 0) YD X y .i64 .i64 n n aa aa (by rw[A];omega) aa;rw[this,z,TZ,iS];simp
 have e2:(n:Int)%18446744073709551616=n:=aa;have e3:¬(9223372036854775807:Int)<n:=aa;have e4:¬(n:Int)<0:=aa;have G:=ad (λw=>mul_one n w aa);have l:=QO w _ i;go_enter func92,ntmps92;go_wp2_with fail;refine(G _).mono ?_;rintro e t ⟨rfl,rfl⟩;clear G;have x:=ad (iT (w:=w.alloc (al (bs n λ_=> ae 0) 3)) (B:=w.heap.size) (QB w _) (QH _) (by unfold UI;omega));have K:(w.alloc (al (bs n λ_=> ae 0) 3)).cell? (ag b 0)=some (ae c):=by rw[(aI ak _).cell (p:=ag b 0) l];exact i
 go_wp2_with(refine ef _ rfl (.tmp 31) (.tmp 32) 82 82 rfl 3 w.heap.size w.heap.size n n 0 n n (bP n λ_=> ae 0) x (ag b 0) 1 1 [ae c] YD BN rfl rfl (by show 1=Nat.min 1 n;exact(WK aa).symm) aR (λj v d=>by cases j with|zero=>simp at d;subst d;rw[iK];exact K|succ j=>simp at d) (by simp[Value.oneCell']) ?_);intro L f a;have O:QX (L.ownsRow w.heap.size 3 1 (a' w.heap.size n n) n (bP n λk=>if k<1 then ae c else ae 0)/\SC w.heap.size w L):=by refine⟨?_,((Out.af (S:=λk=>k=w.heap.size) (aI (SL w.heap.size w) _)).tr a).below (λk _ e=>aa) (QH _)⟩;rw[kx _ _ _ aa]at f;exact f
 obtain⟨g,D⟩:=ah w.heap.size;have Q:=ad D;rw[D]at O|-;clear f a x K i l D C;go_wp2;go_loopw [8] (λE wr=>∃m:Nat,1<=m/\m<=n/\E= ae m/\QX (wr.ownsRow g 3 1 (a' g n n) n (bP n λk=>if k<m then ae c else ae 0)/\SC g w wr)) (λE _=>n-(intOf E).toNat)
 case atStart=>exact⟨1,aa,aa,rfl,O⟩
 case round=>
  obtain⟨m,Z,H,rfl,h⟩:=hrel;by_cases N:m<n
  .obtain ⟨q,o⟩:=ah (Nat.min m (n-m));have M:1<=q:=by subst o;exact Nat.le_min.2 ⟨aa,aa⟩
   have R:q<=m:=by subst o;exact ZH _ _
   have I:q<=n-m:=by subst o;exact Nat.min_le_right _ _
   have Y:=ad o;have J:QX (YG (bP n λk=>if k<m then ae c else ae 0) m (bP q λ_=> ae c)=bP n λk=>if k<m+q then ae c else ae 0):=hS n m q _ _ aa;have a0:QX (∀t,SC wr.heap.size wr t->∀j u,(bP q λ_=>.int .i64 c)[j]?=some u->t.cell? (((ag g 0):SZ).add j)=some u):=λt i j u d=>by
    by_cases F:j<q
    .rw [cd _ _ _ F]at d;rw[iK,RH];have r:=(bz h.1 (k:=j) (u:= ae c) (by rw[cd _ _ _ aa,ao aa])).1;rw[i.cell (p:=ag g j) (QO wr _ r),r,d]
    .rw [RE (by rw[bG];omega)]at d;cases d
   have a1:QK.wrap ((m:Int)+q)=((m+q:Nat):Int):=bj;have j1:¬n=m:=aa;have i1:(0:Int)<=m:=aa;have i2:(m:Int)<=n:=aa;clear o;go_wp2
   go_region_law (refine gn _ rfl (.tmp 41) (.tmp 44) 82 82 rfl 3 g g n n m (n-m) (n-m) (bP n λk=>if k<m then ae c else ae 0) (aP (w:=wr) bF h.1) (ag g 0) m n (bP q λ_=> ae c) YD BN (by simp[VU,RG, *]) (by simp[VU,RG, *]) (by rw[bG];exact Y.symm) (by rw[bG];omega) (a0 _ bF) (ow λ_ _=>rfl) ?_;intro T f a;rw[bG];have x:=ad f;have s:=ad a;clear f a)
   all_goals(try simp only[QI,QF,QG])
   all_goals go_frame
   all_goals go_roundw
   all_goals(
    have U:QX (T.ownsRow g 3 1 (a' g n n) n (bP n λk=>if k<m+q then ae c else ae 0)/\SC g w T):=by refine⟨by rw[<-J.out];exact x,h.2.trans (((Out.af (S:=λk=>k=g) (aV (SL wr.heap.size wr))).tr s).below (λk _ e=>aa) ?_)⟩;have:=(h.1.lt g rfl).2;omega)
   all_goals first
    |exact⟨m+q,aa,aa,by go_num,U⟩
    |((repeat apply Exists.intro);exact⟨⟨m+q,aa,aa,by go_num,U⟩,rfl⟩)
    |(simp[intOf];omega)
  .obtain rfl:m=n:=aa;go_wp2;go_ret;have r:=h.1;rw[ov (g:=λ_=> ae c) λk a2=>ao a2]at r;exact⟨_,rfl,vt r V,RO Q,(Q▸h.2:SC w.heap.size w wr)⟩
theorem AG(n b:Nat)(c:Int)(w:QA)(V:0<n)(a3:n<=4096)(i:w.cell? (ag b 0)=some (.int .u8 c)):
  aE 54 #[a' b 1 1,ae n] w (Mb 122 n (.int .u8 c) w):=by
 obtain⟨W,X,y,z,A⟩:=SD ox;have C:∀w,(TC 115 (ae (n:Int)) (ae (n:Int))).run prog w=.ok (a' w.heap.size n n) (w.alloc (al (bs n λ_=>.int .u8 0) 122)):=λw=>by have:=run_make (P:=prog) w 115 122 W (.int .u8 0) underlying115 X y .i64 .i64 n n aa aa (by rw[A];omega) aa;rw[this,z,TZ,iS];simp
 have e2:(n:Int)%18446744073709551616=n:=aa;have e3:¬(9223372036854775807:Int)<n:=aa;have e4:¬(n:Int)<0:=aa;have G:=ad (λw=>mul_one n w aa);have l:=QO w _ i;go_enter func54,ntmps54;go_wp2_with fail;refine(G _).mono ?_;rintro e t ⟨rfl,rfl⟩;clear G;have x:=ad (iT (w:=w.alloc (al (bs n λ_=>.int .u8 0) 122)) (B:=w.heap.size) (QB w _) (QH _) (by unfold UI;omega));have K:(w.alloc (al (bs n λ_=>.int .u8 0) 122)).cell? (ag b 0)=some (.int .u8 c):=by rw[(aI ak _).cell (p:=ag b 0) l];exact i
 go_wp2_with(refine ef _ rfl (.tmp 31) (.tmp 32) 115 115 rfl 122 w.heap.size w.heap.size n n 0 n n (bP n λ_=>.int .u8 0) x (ag b 0) 1 1 [.int .u8 c] underlying115 tL rfl rfl (by show 1=Nat.min 1 n;exact(WK aa).symm) aR (λj v d=>by cases j with|zero=>simp at d;subst d;rw[iK];exact K|succ j=>simp at d) (by simp[Value.oneCell']) ?_);intro L f a;have O:QX (L.ownsRow w.heap.size 122 1 (a' w.heap.size n n) n (bP n λk=>if k<1 then .int .u8 c else .int .u8 0)/\SC w.heap.size w L):=by refine⟨?_,((Out.af (S:=λk=>k=w.heap.size) (aI (SL w.heap.size w) _)).tr a).below (λk _ e=>aa) (QH _)⟩;rw[kx _ _ _ aa]at f;exact f
 obtain⟨g,D⟩:=ah w.heap.size;have Q:=ad D;rw[D]at O|-;clear f a x K i l D C;go_wp2;go_loopw [8] (λE wr=>∃m:Nat,1<=m/\m<=n/\E= ae m/\QX (wr.ownsRow g 122 1 (a' g n n) n (bP n λk=>if k<m then .int .u8 c else .int .u8 0)/\SC g w wr)) (λE _=>n-(intOf E).toNat)
 case atStart=>exact⟨1,aa,aa,rfl,O⟩
 case round=>
  obtain⟨m,Z,H,rfl,h⟩:=hrel;by_cases N:m<n
  .obtain ⟨q,o⟩:=ah (Nat.min m (n-m));have M:1<=q:=by subst o;exact Nat.le_min.2 ⟨aa,aa⟩
   have R:q<=m:=by subst o;exact ZH _ _
   have I:q<=n-m:=by subst o;exact Nat.min_le_right _ _
   have Y:=ad o;have J:QX (YG (bP n λk=>if k<m then SK .u8 c else .int .u8 0) m (bP q λ_=>.int .u8 c)=bP n λk=>if k<m+q then .int .u8 c else .int .u8 0):=hS n m q _ _ aa;have a0:QX (∀t,SC wr.heap.size wr t->∀j u,(bP q λ_=>SK .u8 c)[j]?=some u->t.cell? (((ag g 0):SZ).add j)=some u):=λt i j u d=>by
    by_cases F:j<q
    .rw [cd _ _ _ F]at d;rw[iK,RH];have r:=(bz h.1 (k:=j) (u:=.int .u8 c) (by rw[cd _ _ _ aa,ao aa])).1;rw[i.cell (p:=ag g j) (QO wr _ r),r,d]
    .rw [RE (by rw[bG];omega)]at d;cases d
   have a1:QK.wrap ((m:Int)+q)=((m+q:Nat):Int):=bj;have j1:¬n=m:=aa;have i1:(0:Int)<=m:=aa;have i2:(m:Int)<=n:=aa;clear o;go_wp2
   go_region_law (refine gn _ rfl (.tmp 41) (.tmp 44) 115 115 rfl 122 g g n n m (n-m) (n-m) (bP n λk=>if k<m then .int .u8 c else .int .u8 0) (aP (w:=wr) bF h.1) (ag g 0) m n (bP q λ_=>.int .u8 c) underlying115 tL (by simp[VU,RG, *]) (by simp[VU,RG, *]) (by rw[bG];exact Y.symm) (by rw[bG];omega) (a0 _ bF) (ow λ_ _=>rfl) ?_;intro T f a;rw[bG];have x:=ad f;have s:=ad a;clear f a)
   all_goals(try simp only[QI,QF,QG])
   all_goals go_frame
   all_goals go_roundw
   all_goals(
    have U:QX (T.ownsRow g 122 1 (a' g n n) n (bP n λk=>if k<m+q then .int .u8 c else .int .u8 0)/\SC g w T):=by refine⟨by rw[<-J.out];exact x,h.2.trans (((Out.af (S:=λk=>k=g) (aV (SL wr.heap.size wr))).tr s).below (λk _ e=>aa) ?_)⟩;have:=(h.1.lt g rfl).2;omega)
   all_goals first
    |exact⟨m+q,aa,aa,by go_num,U⟩
    |((repeat apply Exists.intro);exact⟨⟨m+q,aa,aa,by go_num,U⟩,rfl⟩)
    |(simp[intOf];omega)
  .obtain rfl:m=n:=aa;go_wp2;go_ret;have r:=h.1;rw[ov (g:=λ_=>.int .u8 c) λk a2=>ao a2]at r;exact⟨_,rfl,vt r V,RO Q,(Q▸h.2:SC w.heap.size w wr)⟩
def Iv(B:Nat)(c:Option SZ)(g:az)(d:Bool)(w:M)(e:RW)(a:M):Prop:=
 ∃R b,aK e (.tuple #[H R,aG 0])/\fh a R B c g b ⟨d,λ_=>none,[],false⟩/\w.heap.size<=R/\w.heap.size<=b/\au w a
theorem yS[Lo](B:Nat)(s:Option SZ)(g:az)(t:Bool)(b:By)(w:QA)(P:aC w B b)(n:g.ok)(Q:b.N=g.M+1):
  aE 57 #[ar B,g.V,.pointer s,.bool t] w (Iv B s g t w):=by
 obtain⟨o,D,C,u,h,i⟩:=dU w (al #[ae g.M,ae g.c,ae g.s] 39);obtain⟨d1,d2,d3⟩:=cr i;have p:=aB h i;have E:=ad (eI n o);have v:=ad (λW (x:au o W)=>(by obtain⟨S,T,R,I,r,wc,f,U⟩:=(P.below h).below x;exact ll U:aE 49 #[ar B] W λe a=>aK e (ae b.N)/\W=a));rw[Q]at v;have y:=n.m3;have j:=n.m16;have F:=ad (λW G (V:W.cell? (ag G 0)=some (ae (-1)))=>AF g.M G (-1) W aa aa V);have X:=ad n;obtain⟨M,K,L⟩:=g;simp only at d1 p v F C j y E;have Y:QK.wrap ((M:Int)+1)=((M+1:Nat):Int):=bj;go_enter func57,ntmps57;go_wp2_with fail
 try simp only[C,u]
 go_wp2_with(go_at_call 26;refine E.mono ?_;rintro e J ⟨rfl,k⟩;obtain⟨k0,f0,z0⟩:=kp k D d3;have c:=ad k);go_region_held3(λa=>a.cell? (ag D 0)=some (ae M)) ((simp[*,go_sem];done)) (first|(go_at_call 49;refine(v _ (via c bF)).mono ?_;rintro e d ⟨rfl,rfl⟩));go_wp2;go_region_held3(λa=>a.cell? (ag D 0)=some (ae M)/\a.cell? (ag D 1)=some (ae K)/\a.cell? (ag D 2)=some (ae L)) ((simp[*,go_sem];done)) (first|(go_at_call 92;refine(F _ _ aJ).mono ?_;rintro e d ⟨q,rfl,Z,H,N⟩;have l:QX (au o d):=via (via c bF) N;obtain⟨p1,p2,p3⟩:=kp l D d3;have O:=ad Z;have z:QX (o.heap.size<=q):=QE (via c bF).size H));go_wp2;have m:au w d:=p.1.trans (l.mono p.1.size);have A:=aI (SL d.heap.size d) (al #[ar B,ae M,ae K,ae L,.pointer s,.bool t,a' q M M,aW,.bool false] 164);go_ret2;exact⟨d.heap.size,q,rfl,⟨⟨M,aW,QB _ _,ff.nil _⟩,(A.block q (Z_ O)).trans O⟩,m.size,QE p.1.size z,aI m _⟩
section
structure KQ[Lo](B:Nat)(g:az)(b:By)(m r:Nat)(w W:M):Prop where
 cj:aC W B (b.run (eV g m++ry m r)).1
 bV:Fr TB aF w W
theorem GY{g:az}(a:g.ok){N:Nat}(h:5<=N/\N<=2048)(lz:Bool){k:Nat}(m:k<g.M+1):((Su.born N lz).at k).ok g:=by obtain⟨c,d,e,n,f,i,j,l⟩:=Su.sT a h lz;exact⟨c,d,e,by show k<=g.M;omega,f,i,j,l⟩
structure Ed[Lo](B:Nat)(g:az)(N:Nat)(lz:Bool)(b:By)(w W:M)(n:Nat):Prop where
 cj:aC W B ((jX g N b).run ((xt g (Su.born N lz)).take n)).1
 bV:Fr TB aF w W
section
variable [Lo] {B:Nat} {g:az} {N:Nat} {lz:Bool} {b:By} {w W:QA}
theorem Ed.tell(Z:bm)(d f:QC)(c:g.ok)(H:qt g N b)(a:5<=N/\N<=2048)(m:a_ w Z.A (al (GR Z g (Su.born N lz) g.M d f) 120))(o:a_ w Z.sb (al (bs g.M λ_=>.int .u8 1) 122))(p:Z.B=B){j:Nat}(k:j<g.M+1)(h:Ed B g N lz b w W (0*(g.M+1)+j)):
  aE 55 #[ar Z.A,Y (en g j:Nat)] W λe l=>aK e (aG 0)/\Ed B g N lz b w l (0*(g.M+1)+(j+1)):=by
 obtain⟨q,r,s,t⟩:=H.step c a (lz:=lz) (i:=0) (j:=j) aj k;subst p;refine(D' Z g (Su.born N lz) g.M d f _ (en g j) W (QH _) (h.bV.hp m rfl) (h.bV.hp o rfl) h.cj (GY c a lz (n' c k)) s t).mono ?_;rintro e l ⟨u,v,x⟩;exact⟨by rw[u];exact congrArg (λn:Nat=>Ending.returned (aG n)) q,by rw[<-r];exact v,h.bV.tr x⟩
theorem Ed.flush(d:g.ok)(H:qt g N b)(a:5<=N/\N<=2048){j:Nat}(f:j<g.M+1)(h:Ed B g N lz b w W (1*(g.M+1)+j)):
  aE 56 #[ar B,Y (en g j:Nat)] W λe c=>aK e (aG 0)/\Ed B g N lz b w c (1*(g.M+1)+(j+1)):=by
 obtain⟨k,l,m,r⟩:=H.step d a (lz:=lz) (i:=1) (j:=j) aj f;refine(gq B (en g j) _ W h.cj m).mono ?_;rintro e c ⟨o,p,q⟩;exact⟨by rw[o];exact congrArg (λn:Nat=>Ending.returned (aG n)) k,by rw[<-l];exact p,h.bV.tr q⟩
end
theorem AH[Lo](B:Nat)(g:az)(N:Nat)(lz:Bool)(b:By)(w:QA)(h:aC w B b)(c8:g.ok)(z:5<=N/\N<=2048)(H:qt g N b)(h0:Lo.lo<=w.heap.size):
  aE 29 #[ar B,.int .u64 1,g.V,ae N,.bool lz] w λe C=>∃Z:bm,aK e (.tuple #[ar Z.A,aG 0])/\Z.B=B/\Z.N=N/\Z.lz=lz/\Fr fT aF w C/\cZ C Z g (p' g N lz (sS g N (Su.born N lz) b)) (Su.born N lz) false:=by
 obtain⟨t0,s0,l4,l5,l6⟩:=SD wi;have t1:∀w:QA,(TC 41 (ae 128) (ae 128)).run prog w=.ok (a' w.heap.size 128 128) (w.alloc (al (cB 128 λ_=>0) 5)):=λw=>nU w 128 aj;obtain⟨a3,D,t2,l7,h4,h5⟩:=dU w (al #[ae g.M,ae g.c,ae g.s] 39);obtain⟨d1,d2,d3⟩:=cr h5;have U:=h.below h4;have l8:=ad (eI c8);have d8:=ad (λW (b5:au a3 W)=>uO (U.below b5));have b7:=ad (jn c8);have h6:=ad (λW (b5:au a3 W) k (X:k<g.M+1)=>show aE 50 #[ar B,ae k] W λe C=>aK e ed/\∃q,C=W.drewN q by obtain⟨S,l9,t3,t4,r,wc,f,m0⟩:=U.below b5;exact Cg m0 k (by rw[H.bN];exact X) _ (H.dv k X));have d9:=ad (λW (b5:au a3 W) k (X:k<g.M+1)=>show aE 51 #[ar B,ae k] W λe C=>aK e (ae ((if k=g.M then 2+N else 1+g.R:Nat):Nat))/\W=C by obtain⟨S,l9,t3,t4,r,wc,f,m0⟩:=U.below b5;exact ss m0 k (by rw[H.bN];exact X) _ (H.dv k X));have m1:=c8.m3;have h7:=c8.m16;have t5:=az.gY c8;have J:=bZ U h5 h4 H c8;have h8:=aB t2 l7;obtain⟨d,a,c⟩:=g;obtain⟨R,h9⟩:=ah (az.R ⟨d,a,c⟩);rw[h9]at b7 t5 d9;have m2:b.N=d+1:=H.bN;rw[m2]at d8;have f1:QK.wrap ((d:Int)+1)=((d+1:Nat):Int):=by have:d<=16:=h7;go_arith
 have f2:decide ((N:Int)<5)=false:=aR;have f3:decide ((2048:Int)<(N:Nat))=false:=aR;have f4:QK.wrap (1+(R:Int))=((1+R:Nat):Int):=bj;have f5:QK.wrap (2+(N:Int))=((2+N:Nat):Int):=by have:N<=2048:=z.2;go_arith
 have f6:decide (N<5)=false:=aR;have f7:decide (2048<N)=false:=aR;have i0:=ad h9;go_enter func29,ntmps29;go_wp2_with fail
 try simp only[h8.out.1,h8.out.2]
 go_wp2_with(first|(go_at_call 26;refine(l8 _).mono ?_;rintro e w1 ⟨rfl,i6⟩;obtain⟨k0,k1,k2⟩:=kp i6 D d3;have e0:=ad i6));go_region_held3(λC=>C.cell? (ag D 0)=some (ae d)) ((simp[*,go_sem];done)) (first|(go_at_call 49;refine(d8 _ (by first|exact e0|exact cE e0 _)).mono ?_;rintro e w2 ⟨rfl,rfl⟩));have b8:QX (au a3 w1.drew):=cE e0 1;obtain⟨w2,m3⟩:=ah w1.drew;rw[m3]at b8|-;obtain⟨k0,k1,k2⟩:=kp b8 D d3;go_wp2_with(first|(go_at_call 49;refine(d8 _ b8).mono ?_;rintro e w3 ⟨rfl,i7⟩;subst i7));go_loopw [13,14,47] (λt6 t7 e1 wr=>∃k:Nat,k<=d+1/\e1= ae k/\QX (au a3 wr)) (λ_ _ e1 _=>d+1-(intOf e1).toNat)
 case atStart=>exact⟨0,QN _,rfl,b8⟩
 case round=>
  obtain⟨k,X,rfl,a4⟩:=hrel;obtain⟨k0,k1,k2⟩:=kp a4 D d3;by_cases L:k<d+1
  .have i1:(k:Int)<((d+1:Nat):Int):=aa;have i2:(k:Int)<(d:Int)+1:=aa;by_cases e2:k=d
   .subst e2;have a5:=ad (λW b5=>d9.out W b5 k L);simp only[ao]at a5;have i3:¬((2+N:Nat):Int)<((2+N:Nat):Int):=aa;go_wp2_with(first|(go_at_call 27;refine(b7 _).mono ?_;rintro e w3 ⟨rfl,E⟩;have P:=ad (via a4 E);obtain⟨p0,p1,p2⟩:=kp E D k2)|(go_at_call 50;refine(h6 _ P k (TK k)).mono ?_;rintro e w4 ⟨rfl,q,rfl⟩)|(go_at_call 51;refine(a5 _ (cE P _)).mono ?_;rintro e w5 ⟨rfl,i7⟩;subst i7));exact⟨⟨k+1,QH _,rfl,cE P _⟩,by first|(simp[intOf];done)|(simp[intOf];omega)⟩
   .have a5:=ad (λW b5=>d9.out W b5 k L);have s1:¬(⟨d,a,c⟩:az).M=k:=λe=>e2 e.symm;simp only[show¬k=(⟨d,a,c⟩:az).M from e2,if_false]at a5;have i3:¬((1+R:Nat):Int)<((1+R:Nat):Int):=aa;have i5:¬(k:Int)=(d:Int):=aa;go_wp2_with(first|(go_at_call 27;refine(b7 _).mono ?_;rintro e w3 ⟨rfl,E⟩;have P:=ad (via a4 E);obtain⟨p0,p1,p2⟩:=kp E D k2)|(go_at_call 50;refine(h6 _ P k L).mono ?_;rintro e w4 ⟨rfl,q,rfl⟩)|(go_at_call 51;refine(a5 _ (cE P _)).mono ?_;rintro e w5 ⟨rfl,i7⟩;subst i7));exact⟨⟨k+1,L,rfl,cE P _⟩,by first|(simp[intOf];done)|(simp[intOf];omega)⟩
  .obtain rfl:k=d+1:=aa;have m4:QX (KQ B ⟨d,a,c⟩ b 0 0 a3 wr):=⟨J.1.below a4,Fr.af a4⟩;obtain⟨v4,m5⟩:=ah wr;subst m5;go_wp2_with fail;go_loopw [15,73] (λt8 e3 wr=>∃m:Nat,m<=d/\e3= ae m/\QX (KQ B ⟨d,a,c⟩ b m 0 a3 wr)) (λ_ e3 _=>d-(intOf e3).toNat)
   case atStart=>exact⟨0,QN _,rfl,m4⟩
   case round=>
    obtain⟨m,s2,rfl,M⟩:=hrel;obtain⟨m6,m7⟩:=ah wr;subst m7;have s3:=M.bV.hp J.2.1 rfl;obtain⟨k0,k1,k2⟩:=cr s3;by_cases L:m<d
    .have i1:(m:Int)<(d:Int):=aa;go_wp2_with(first|(go_at_call 27;refine(b7 _).mono ?_;rintro e w3 ⟨rfl,E⟩;have m8:QX (KQ B ⟨d,a,c⟩ b m 0 a3 w3):=⟨M.cj.below E,M.bV.then E⟩));go_loopw [16,17,78] (λt9 u0 e4 wr=>∃r:Nat,r<=R/\e4= ae r/\QX (KQ B ⟨d,a,c⟩ b m r a3 wr)) (λ_ _ e4 _=>R-(intOf e4).toNat)
     case atStart=>exact⟨0,QN _,rfl,m8⟩
     case round=>
      obtain⟨r,s4,rfl,e5⟩:=hrel;by_cases a6:r<R
      .have i2:(r:Int)<(R:Int):=aa;have f8:QK.wrap (1+(r:Int))=((1+r:Nat):Int):=bj;obtain⟨z1,z2,z3,z4⟩:=J.2.2.2.1.zr J.2.2.2.2 (m:=m) (r:=r) L (by rw[i0.out];exact a6);have m9:QX (aE 52 #[ar B,ae m,ae (1+r:Nat),a' wr.heap.size 128 128] (wr.alloc (al (cB 128 λ_=>0) 5)) λe C=>aK e (aG 0)/\KQ B ⟨d,a,c⟩ b m (r+1) a3 C):=(fo B m (1+r) (a' wr.heap.size 128 128) (λ_=>0) _ (wr.alloc (al (cB 128 λ_=>0) 5)) (e5.cj.below (aI ak _)) z3 (qS _ _ _) z4).mono λe C ⟨q1,q2,q3⟩=>⟨by rw[q1,z1];rfl,by rw[<-z2];exact q2,(e5.bV.then (aI ak _)).tr q3⟩;go_wp2_with(first|(go_at_call 52;refine m9.mono ?_;rintro e w4 ⟨rfl,n0⟩;have n1:=ad n0));exact⟨⟨r+1,a6,rfl,n1⟩,by first|(simp[intOf];done)|(simp[intOf];omega)⟩
      .obtain rfl:r=R:=aa;have n2:QX (KQ B ⟨d,a,c⟩ b (m+1) 0 a3 wr):=by
        have e:eV ⟨d,a,c⟩ (m+1)++ry (m+1) 0=eV ⟨d,a,c⟩ m++ry m r:=by rw[rz,i0.out];exact UB _
        obtain⟨q1,q2⟩:=e5.out;exact⟨by rw[e];exact q1,q2⟩
       go_wp2_with fail;go_roundw
       case rel=>((repeat apply Exists.intro);exact⟨⟨m+1,L,rfl,n2⟩,rfl⟩)
       case measure=>first|(simp[intOf];done)|(simp[intOf];omega)
    .obtain rfl:m=d:=aa;have n3:QX (aC wr B (qs ⟨m,a,c⟩ b)):=by have q1:=M.cj;have e:eV ⟨m,a,c⟩ m++ry m 0=eV ⟨m,a,c⟩ m:=UB _;rw[e]at q1;exact q1
     obtain⟨x1,x2,x3,x4,x5,x6,x7,x8⟩:=J.2.2.2.1.fmt J.2.2.2.2 z.2;have v5:=aM x6 x7 x8;have n4:=ad (zY B m N 1 _ wr n3 (QE (QE h0 J.2.2.1.size) M.bV.size) (by rw[x1];exact TK _) z.1 z.2 aj x3 x4 x5);have e6:=ad (M.bV);go_wp2_with fail;refine n4.mono ?_;rintro e w5 ⟨W,r,rfl,n5,n6,i8,i9,s4⟩;have n7:QX (aC w5 B (jX ⟨m,a,c⟩ N b)):=n5;have b9:=aT n6 i8 i9 s4;have j0:=i8.hp s3 rfl;obtain⟨k0,k1,k2⟩:=cr j0;go_wp2_with fail;obtain⟨A,c0⟩:=ah w5.heap.size;obtain⟨v6,u1⟩:=ah (RU none 0 0);obtain⟨w6,a7⟩:=ah ((w5.alloc (al #[ar B,.int .u64 1,.int .u64 1,.int .u64 1,ae 0,ae m,ae a,ae c,ae N,.bool lz,.bool false,aW,ae 0,.pointer none,ar W,.bool false,aG 0,.bool true,.bool false] 120)).alloc (al #[.int .u8 1] 122));have e7:au w5 w6:=by rw[<-a7];exact aI (aI ak _) _
     have j1:a_ w6 A (al #[ar B,.int .u64 1,.int .u64 1,.int .u64 1,ae 0,ae m,ae a,ae c,ae N,.bool lz,.bool false,aW,ae 0,.pointer none,ar W,.bool false,aG 0,.bool true,.bool false] 120):=by rw[<-a7,<-c0];exact gb _ _ _
     have n8:a_ w6 (A+1) (al #[.int .u8 1] 122):=by rw[<-a7,<-c0];exact fe _ _ _
     have s5:=aB c0 a7;simp only[a7,c0];have n9:=AG m (A+1) 1 w6 (by have:=m1;show 0<m;omega) aa ((cr n8).1 0);refine n9.mono ?_;rintro e w7 ⟨V,rfl,o0,o1,e8⟩;have j2:=(e8.block _ (Z_ j1)).trans j1;have j3:=((e7.trans (e8.mono e7.size)).block _ k2).trans j0;have H7:=bZ e7 e8 o0 o1 j2;obtain⟨k0,k1,k2⟩:=cr j3;obtain⟨a0,a1,a2⟩:=cr j2;have e9:=ad j3;go_wp2_with fail;obtain⟨O,l2⟩:=ah w7.heap.size;obtain⟨w8,a8⟩:=ah ((w7.setCell (ag A 11) (a' V m m)).alloc (al #[ae m] 3));have c9:(w7.setCell (ag A 11) (a' V m m)).heap.size=O:=by rw[RS];exact l2
     have j4:a_ w8 A (al (GR ⟨A,B,0,W,r,0,V,N,lz⟩ ⟨m,a,c⟩ (Su.born N lz) m (.pointer none) (ar W)) 120):=by rw[<-a8];refine(QW _ _ _ (by rw[c9];omega)).trans ?_;exact heap_setCell_same w7 A 11 _ 120 _ H7.2.2.2.2
     have o2:a_ w8 O (al (bs 1 λk=> ae (en ⟨m,a,c⟩ k:Nat)) 3):=by rw[<-a8,<-c9];exact QB _ _
     have o3:Out (λk=>k=A) w7 w8:=by rw[<-a8];exact((Out.refl (λk=>k=A) w7).setCell (p:=ag A 11) (λ_=>rfl) _).then (aI ak _)
     have I:=bZ j4 o2 o3 l2 (Z_ j4);have u2:=aB a8 l2;simp only[a8,l2];have j5:=(I.2.2.1.heap e9 (λe=>by have s:=H7.2.2.2.2;rw[<-e,e9.out]at s;cases s));obtain⟨k0,k1,k2⟩:=cr j5;have o4:=ad j5;go_loopw [19,125] (λo5 a9 wr=>∃j:Nat,j<=m/\a9= ae j/\QX (wr.ownsRow O 3 1 o5 (j+1) (bP (j+1) λk=> ae (en ⟨m,a,c⟩ k:Nat))/\SC O w8 wr)) (λ_ a9 _=>m-(intOf a9).toNat)
     case atStart=>exact⟨0,QN _,rfl,iT I.2.1 (QH _) (by unfold UI;omega),ak⟩
     case round=>
      obtain⟨j,v7,rfl,b6⟩:=hrel;by_cases o6:j<m
      .have i1:(j:Int)<(m:Int):=aa;obtain⟨s6,j6,f0,-⟩:=av b6.1;subst f0;have j7:O<=(wr.alloc (al #[ae j] 3)).heap.size:=by rw[SS];have s:=b6.2.size;have h2:=Z_ I.2.1;omega
       go_wp2_with(first|(at_builtin;refine aU _ rfl _ _ 82 rfl O 3 t0 (ae 0) 1 8 YD s0 l4 l5 l6 rfl aj (.slice s6 (j+1) j6) (j+1) (bP (j+1) λk=> ae (en ⟨m,a,c⟩ k:Nat)) rfl (b6.1.alloc _) (ag wr.heap.size 0) 1 1 [ae j] rfl rfl (RY (cs:= #[ae j]) (t:=3) (fr:=(0,0)) (QB wr _)) (by intro u u3;rw[SP.1 u3];rfl) aa (by unfold UI;omega) aa j7 ?_));intro v8 C b0 j8;have u4:(bP (j+1) λk=>.int .i64 (en ⟨m,a,c⟩ k:Nat))++ [ae j] =bP (j+1+1) λk=> ae (en ⟨m,a,c⟩ k:Nat):=by unfold bP;rw[UK (n:=j+1),SH];rfl
       rw[u4]at b0;have o7:=j8.below (B:=O) (b6.2.trans ((aI ak _:au wr (wr.alloc (al #[ae j] 3))).mono (QE (TL (Z_ I.2.1)) b6.2.size))) j7 λk X=>(b6.1.lt k X).1;obtain⟨v9,u5,o8,-⟩:=av b0;subst o8;have u6:=aB b0 o7;go_wp2_with fail;exact⟨⟨j+1,o6,rfl,u6⟩,by first|(simp[intOf];done)|(simp[intOf];omega)⟩
      .obtain rfl:j=m:=aa;obtain⟨s6,j6,f0,o9⟩:=av b6.1;obtain⟨g9,rfl⟩:=o9.resolve_left aa;subst f0;go_wp2_with fail;obtain⟨w9,u7⟩:=ah wr;obtain⟨Q,f9⟩:=ah (wr.alloc (al #[Ir 55 A,Ir 56 B] 123));obtain⟨F,hF⟩:=ah wr.heap.size;rw[f9,hF];have j9:au wr Q:=by rw[<-f9];exact aI ak _
       have p3:a_ Q F (al #[Ir 55 A,Ir 56 B] 123):=by rw[<-f9,<-hF];exact QB _ _
       have p4:A<O:=by have:=I.2.2.2.2;have s:=Z_ H7.2.2.2.2;rw[I.2.2.2.1]at s;exact s
       have u8:=J.2.2.2.1;have p5:=J.2.2.2.2;have b1:SC O w8 Q:=b6.2.trans (j9.mono (QE (TL (Z_ I.2.1)) b6.2.size));have p6:a_ Q A (al (GR ⟨A,B,0,W,r,0,V,N,lz⟩ ⟨j,a,c⟩ (Su.born N lz) j (.pointer none) (ar W)) 120):=(b1.block _ p4).trans I.1;have k3:a_ w8 V (al (bs j λ_=>.int .u8 1) 122):=I.2.2.1.heap H7.2.2.1 (λe=>by have h2:=H7.2.2.2.2;rw[<-e,H7.2.2.1]at h2;have h3:=congrArg ty (RK h2);exact absurd (show(122:Nat)=120 from h3) aj);have p7:V<O:=by rw[<-I.2.2.2.1];exact Z_ H7.2.2.1
       have p8:a_ Q V (al (bs j λ_=>.int .u8 1) 122):=(b1.block _ p7).trans k3;have p9:D<O:=by rw[<-I.2.2.2.1];exact Z_ e9
       have q0:=(b1.block _ p9).trans o4;have g0:=aP j9 b6.1;have g1:au w5 Q:=by
        have s:au w5 w7:=H7.1.trans (H7.2.1.mono H7.1.size);have h2:SC w5.heap.size w7 w8:=I.2.2.1.below (λk _ e=>by have e:k=A:=e;have:=s5.1;omega) s.size;have h3:w5.heap.size<=O:=by rw[<-I.2.2.2.1];exact s.size
        exact(s.trans h2).trans (b1.mono h3)
       have g2:aC Q B (jX ⟨j,a,c⟩ N b):=n7.below g1;have g3:=aB g1 (b9.1.fr (T:= []) (Fr.af g1) rfl rfl rfl rfl);have q4:QX (Ed B ⟨j,a,c⟩ N lz b Q Q 0):=⟨g2,Fr.refl _ _ _⟩;have G:=eM p6 p8 q0 g0 p3 b1;have K:=aB u8 p5;have q5:∀l w,(UN 55 l).run prog w=.ok (.enter 55 l) w:=λ_ _=>rfl;have q6:∀l w,(UN 56 l).run prog w=.ok (.enter 56 l) w:=λ_ _=>rfl;go_loopw [10,22,139] (λg4 u9 b2 wr=>∃i:Nat,i<=2/\b2= ae i/\g4= ar A/\QX (Ed B ⟨j,a,c⟩ N lz b Q wr (i*(j+1)))) (λ_ _ b2 _=>2-(intOf b2).toNat)
       case atStart=>exact⟨0,aj,rfl,rfl,by rw[VV];exact q4⟩
       case round=>
        obtain⟨i,s0,rfl,rfl,o⟩:=hrel;by_cases c3:i<2
        .have g5:∃k4 x,wr.cell? (ag F i)=some (.func (.func k4) #[x] #[])/\(∀l w,(UN k4 l).run prog w=.ok (.enter k4 l) w)/\∀k l3,k<j+1->Ed B ⟨j,a,c⟩ N lz b Q l3 (i*(j+1)+k)->aE k4 #[x,ae (en ⟨j,a,c⟩ k:Nat)] l3 λe C=>aK e (aG 0)/\Ed B ⟨j,a,c⟩ N lz b Q C (i*(j+1)+(k+1)):=by
          obtain⟨c1,-,-⟩:=cr (o.bV.hp G.2.2.2.2.1 rfl)
          match i,c3,o with
          |0,_,o=>exact⟨55,_,c1 0,q5,λk l3 X i9=>i9.tell ⟨A,B,0,W,r,0,V,N,lz⟩ _ _ K.2 K.1 z G.1 G.2.1 rfl X⟩
          |1,_,o=>exact⟨56,_,c1 1,q6,λk l3 X i9=>i9.flush K.2 K.1 z X⟩
         obtain⟨k4,x,c1,w0,v0⟩:=g5;have q7:=ad v0;have v1:(i:Int)<2:=aa;have s7:(0:Int)<=(i:Int):=aa;obtain⟨m6,rfl⟩:∃m6:QA,m6=wr:=⟨_,rfl⟩;go_wp2_with fail;go_loopw [10,24,145] (λg4 v2 b3 wr=>∃k:Nat,k<=j+1/\b3= ae k/\g4= ar A/\QX (Ed B ⟨j,a,c⟩ N lz b Q wr (i*(j+1)+k))) (λ_ _ b3 _=>j+1-(intOf b3).toNat)
         case atStart=>exact⟨0,QN _,rfl,rfl,o⟩
         case round=>
          obtain⟨k,X,rfl,rfl,b4⟩:=hrel;by_cases g6:k<j+1
          .have i1:(k:Int)<((j+1:Nat):Int):=aa;have i2:(k:Int)<(j:Int)+1:=aa;have i3:(0:Int)<=(k:Int):=aa;have c2:wr.cell? (ag g9 k)=some (ae (en ⟨j,a,c⟩ k:Nat)):=by
            obtain⟨c4,d0⟩:∃c4,a_ Q g9 (al c4 3):=by
             rcases G.2.2.2.1.2 with⟨q8,_⟩|⟨x0,s8,c4,q8,b5,c8,i1,i2,i3,i4⟩
             .cases q8
             .cases q8;exact⟨c4,c8⟩
            have s:=(bz G.2.2.2.1 (k:=k) (by rw[cd _ _ _ g6])).1;rw[QQ ((b4.bV.hp d0 rfl).trans d0.symm)];exact s
           have s9:=ad (q7 k wr g6 b4);obtain⟨y,v3⟩:=ah (en ⟨j,a,c⟩ k);rw[v3]at c2 s9;go_wp2_with fail;refine s9.mono ?_;rintro e w4 ⟨rfl,n0⟩;have q9:=ad n0;go_wp2_with fail;exact⟨⟨k+1,g6,rfl,rfl,q9⟩,by first|(simp[intOf];done)|(simp[intOf];omega)⟩
          .obtain rfl:k=j+1:=aa;go_wp2_with fail;go_roundw
           case rel=>first|exact⟨i+1,c3,rfl,rfl,by rw[XZ];exact b4⟩|exact⟨_,⟨i+1,c3,rfl,rfl,by rw[XZ];exact b4⟩,rfl⟩|exact⟨_,_,⟨i+1,c3,rfl,rfl,by rw[XZ];exact b4⟩,rfl⟩
           case measure=>first|(simp[intOf];done)|(simp[intOf];omega)
        .obtain rfl:i=2:=aa;have k5:aC wr B (sS ⟨j,a,c⟩ N (Su.born N lz) b):=by have s:=o.cj;rw[YH (by rw[oa];exact QH _)]at s;exact s
         have k6:=o.bV.hp G.1 rfl;have r0:=o.bV.hp G.2.2.1 rfl;have r1:=o.bV.hp G.2.1 rfl;have r2:=ad (yS B (some (ag W 0)) ⟨j,a,c⟩ lz _ wr k5 K.2 (pB K.2 K.1 z.2 lz).1.gd.N);obtain⟨k0,k1,k2⟩:=cr r0;obtain⟨a0,a1,a2⟩:=cr k6;have Y:=aM k5 k6 r1;go_wp2_with fail;refine r2.mono ?_;rintro e c5 ⟨R1,k7,rfl,r3,r4,r5,d4⟩;have d5:=(d4.block _ (Z_ Y.2.1)).trans Y.2.1;have v:=bZ r3 r4 r5 d4 d5;obtain⟨a0,a1,a2⟩:=cr d5;go_wp2_with fail;obtain⟨g7,c6⟩:=ah (c5.setCell (ag A 13) (ar R1));have d6:=s5.1;have k8:Lo.lo<=A:=by rw[<-d6];exact QE (QE (QE h0 J.2.2.1.size) e6.size) b9.2.1.size
         have d7:Lo.lo<=V:=by have s:=H7.2.2.2.1;have h2:=H7.1.size;omega
         have c7:Fr [120] aF c5 g7:=by rw[<-c6];exact(Fr.refl _ _ _).set (p:=ag A 13) v.2.2.2.2 rfl k8 _
         have r6:a_ g7 A (al (Bu ⟨A,B,R1,W,r,k7,V,N,lz⟩ ⟨j,a,c⟩ (Su.born N lz) j false) 120):=by rw[<-c6];exact heap_setCell_same c5 A 13 _ 120 _ v.2.2.2.2
         have k9:bH g7 W r B j (Wl.fresh N 1):=((g3.2.fr o.bV rfl rfl rfl rfl).fr (T:= []) (Fr.af v.2.2.2.1) rfl rfl rfl rfl).fr c7 rfl rfl rfl rfl;have r7:a_ g7 V (al (bs j λ_=>.int .u8 1) 122):=c7.hp ((v.2.2.2.1.block _ (Z_ Y.2.2)).trans Y.2.2) rfl;have a6:Lo.lo<=wr.heap.size:=QE d7 (TL (Z_ Y.2.2));have l0:cZ g7 ⟨A,B,R1,W,r,k7,V,N,lz⟩ ⟨j,a,c⟩ ⟨sS ⟨j,a,c⟩ N (Su.born N lz) b,Wl.fresh N 1,Ro.born lz⟩ (Su.born N lz) false:=
          ⟨⟨⟨j,QH _,r6⟩,⟨_,r7,λm s2=>cg _ _ _ s2⟩,k8,d7⟩,⟨v.1.fr c7 rfl rfl rfl rfl,(Y.1.below v.2.2.2.1).fn c7 rfl,k9,QE a6 v.2.1,QE a6 v.2.2.1⟩⟩
         have r8:=ad (nV _ _ _ _ _ g7 l0 (Su.sT K.2 z lz));have g8:Fr fT aF w g7:=by
          have s:Fr fT aF w w5:=((Fr.af J.2.2.1).tr (e6.wide fT rfl)).tr b9.2.1;have r9:w.heap.size<=A:=by rw[<-d6];exact s.size
          have h2:Fr fT aF w Q:=s.low g3.1 s.size;have h3:Fr fT aF w c5:=(h2.tr (o.bV.wide fT rfl)).then v.2.2.2.1;rw[<-c6];exact h3.low (Below.setCell ak (p:=ag A 13) (QH A) _) r9
         have l1:=aT l0 g8 v.2.2.1 c6;simp only[l1.out.2.2.2];go_wp2_with fail;refine r8.mono ?_;rintro e C ⟨rfl,q1,q2⟩;have q9:QX (Fr fT aF w C/\cZ C ⟨A,B,R1,W,r,k7,V,N,lz⟩ ⟨j,a,c⟩ (p' ⟨j,a,c⟩ N lz (sS ⟨j,a,c⟩ N (Su.born N lz) b)) (Su.born N lz) false):=by obtain⟨y1,y2,y3,-⟩:=l1.out;have s:w.heap.size<=wr.heap.size:=QE (QE (QE J.2.2.1.size e6.size) b9.2.1.size) (QE g3.1.size o.bV.size);exact⟨y2.low (q2.below (B:=w.heap.size) (λk _ e=>by have e:k=k7:=e;omega) y2.size) (QH _),⟨y1.arr.out q2 y1.rs.row.fy y1.rs.lo.2,y1.rs.mark q1 q2⟩⟩
         go_wp2_with fail;go_ret2;exact⟨⟨A,B,R1,W,r,k7,V,N,lz⟩,rfl,rfl,rfl,rfl,q9⟩
end
def GZ(g:az)(N k:Nat):Nat:=if k=g.M then 2+N else 1+g.R
theorem lO:qt g n (By.part (g.M+1) (GZ g n) (g.M+1)):=
 ⟨rfl,λ_ a=>ao a,rfl,rfl⟩
def yT[Lo](g:az)(N:Nat)(a:Bool)(w:QA)(e:RW)(b:QA):Prop:=
 ∃G Z,aK e (.tuple #[H G,aG 0])/\cw b G Z g/\Z.N=N/\Z.lz=a/\w.heap.size<=G/\Fr fT aF w b/\
  cZ b Z g (p' g N a (sS g N (Su.born N a) (By.part (g.M+1) (GZ g N) (g.M+1)))) (Su.born N a) false
theorem vu[Lo](g:az)(N:Nat)(e7:Bool)(w:QA)(Q:g.ok)(b6:5<=N/\N<=2048)(f9:Lo.lo<=w.heap.size):
  aE 16 #[g.V,ae N,.bool e7] w (yT g N e7 w):=by
 obtain⟨t,D,g9,b7,b8,S⟩:=dU w (al #[ae g.M,ae g.c,ae g.s] 39);obtain⟨d1,d2,d3⟩:=cr S;have g0:=ad (eI Q);have b9:=ad (jn Q);have h3:=Q.m3;have C:=Q.m16;have h4:=az.gY Q;obtain⟨c,U⟩:=ah (g.M+1);have g1:=ad (λv W (h5:Ints W v (g.M+1) (GZ g N)) (g2:Lo.lo<=W.heap.size)=>FK v (g.M+1) (GZ g N) W h5 g2 aa aa (λk h7=>by unfold GZ;split<;>omega));have g3:=ad (λB b W (e8:aC W B b) (h8:qt g N b) (g2:Lo.lo<=W.heap.size)=>AH B g N e7 b W e8 Q b6 h8 g2);have q:=aM S b8 f9;have c3:=aB g9 b7;obtain⟨a,r,s⟩:=g;obtain⟨R,V⟩:=ah (az.R ⟨a,r,s⟩);rw[V]at b9 h4;obtain⟨h9,e9,c4,c5,c6⟩:=SD wi;have i0:∀w,(TC 82 (ae (c:Int)) (ae (c:Int))).run prog w=.ok (a' w.heap.size c c) (w.alloc (al (bs c λ_=> ae 0) 3)):=λw=>by
  have i6:c<=17:=by rw[<-U];show a+1<=17;have:a<=16:=C;omega
  have:=run_make (P:=prog) w 82 3 h9 (ae 0) YD e9 c4 .i64 .i64 c c aa aa (by rw[c6];omega) aa;rw[this,c5,TZ,iS];simp
 have f1:QK.wrap ((a:Int)+1)=((c:Nat):Int):=by have:a<=16:=C;have:a+1=c:=U;go_arith
 have f2:decide ((N:Int)<5)=false:=aR;have f3:decide ((2048:Int)<(N:Nat))=false:=aR;have f4:QK.wrap (1+(R:Int))=((1+R:Nat):Int):=bj;have f5:QK.wrap (2+(N:Int))=((2+N:Nat):Int):=by have:N<=2048:=b6.2;go_arith
 have f6:decide (N<5)=false:=aR;have f7:decide (2048<N)=false:=aR;have X:=aB V U;clear g9 b7 S b8 V e9 c4 c5 c6 Q;go_enter func16,ntmps16;go_wp2_with fail
 try simp only[c3.out.1,c3.out.2]
 go_wp2_with(first|(go_at_call 26;refine(g0 _).mono ?_;rintro e w1 ⟨rfl,H⟩;obtain⟨k0,k1,k2⟩:=kp H D d3;have c7:=ad H;clear H));go_region_held3(λE=>E.cell? (ag D 0)=some (ae a)/\E.cell? (ag D 1)=some (ae r)/\E.cell? (ag D 2)=some (ae s)) ((simp[*,go_sem];done)) (first|(go_at_call 27;refine(b9 _).mono ?_;rintro e w2 ⟨rfl,M⟩;have I:QX (SC t.heap.size t w2):=via (via c7 bF) M;obtain⟨p0,p1,p2⟩:=kp M D dJ;clear M));obtain⟨G,f0⟩:=ah w2.heap.size;obtain⟨F,u⟩:=ah (w2.alloc (al #[.pointer none,.pointer none,ae R,ae a,ae r,ae s] 73));have c8:F.heap[G]?=some (al #[.pointer none,.pointer none,ae R,ae a,ae r,ae s] 73):=by rw[<-u,<-f0];exact QB _ _
 have Y:SC t.heap.size t F:=by rw[<-u];exact aI I _
 have c9:t.heap.size<=G:=by rw[<-f0];exact I.size
 simp only[u,f0];have d:=aM c8 Y c9;clear u f0 k0 k2 p0 p1 p2 c7 I;obtain⟨k0,k1,k2⟩:=kp Y D d3;clear Y c8 c9;obtain⟨L,f8⟩:=ah F.heap.size;obtain⟨w4,x⟩:=ah (F.alloc (al (bs c λ_=> ae 0) 3));have d0:w4.heap[L]?=some (al (bs c λ_=> ae 0) 3):=by rw[<-x,<-f8];exact QB _ _
 have d4:SC L F w4:=by rw[<-x,<-f8];exact aI ak _
 have j:=aT x f8 d0 d4;clear x f8 d0 d4;go_wp2_with fail
 try simp only[j.out.1,j.out.2.1]
 go_loopw [11,34] (λi3 J wr=>∃k:Nat,k<=c/\J= ae k/\QX (wr.heap[L]?=some (al (bs c λi=>if i<k then ae (1+R:Nat)else ae 0) 3)/\SC L F wr)) (λ_ J _=>c-(intOf J).toNat)
 case atStart=>exact⟨0,QN _,rfl,by rw[j.2.2.1];rfl,j.2.2.2⟩
 case round=>
  obtain⟨k,h7,rfl,a3⟩:=hrel;have d5:=j.2.1;have a4:G<L:=by rw[<-d5];exact Z_ d.1
  have d6:D<L:=by rw[<-d5];exact k2
  have a5:=(a3.2.block G a4).trans d.1;have a6:=(a3.2.block D d6).trans ((d.2.1.block D d3).trans q.1);obtain⟨a0,a1,a2⟩:=cr a5;obtain⟨b0,b1,b2⟩:=cr a3.1;by_cases d7:k<c
  .have i1:(k:Int)<(c:Int):=aa;have i2:(0:Int)<=(k:Int):=aa;have b3:wr.cell? (ag L k)=some (ae 0):=by rw[b0,cg _ _ _ d7,aq (TO k)]
   clear b0 a5 a6;go_wp2_with fail;have h:=heap_setCell_same wr L k _ 3 (ae (1+R:Nat)) a3.1;rw[eY]at h;rw[show(1:Int)+(R:Int)=((1+R:Nat):Int)by omega];refine⟨⟨k+1,d7,rfl,?_,a3.2.setCell (p:=ag L k) (QH L) _⟩,by first|(simp[intOf];done)|(simp[intOf];omega)⟩;rw[h];congr 2;refine kV λi e9=>?_;by_cases e:i=k
   .rw [ao e,ao aa]
   .rw [aq e];by_cases e2:i<k
    .rw [ao e2,ao aa]
    .rw [aq e2,aq aa]
  .obtain rfl:k=c:=aa;have g4:a+1=k:=X.2;have i1:(a:Int)<(k:Int):=aa;have i2:(0:Int)<=(a:Int):=aa;have b3:wr.cell? (ag L a)=some (ae (1+R:Nat)):=by rw[b0,cg _ _ _ aa,ao aa]
   obtain⟨c0,c1,c2⟩:=cr a6;have h:=heap_setCell_same wr L a _ 3 (ae (2+N:Nat)) a3.1;rw[eY]at h;have l:SC L F (wr.setCell (ag L a) (ae (2+N:Nat))):=a3.2.setCell (p:=ag L a) (QH L) _;obtain⟨w5,a7⟩:=ah (wr.setCell (ag L a) (ae (2+N:Nat)));rw[a7]at h l;have h0:Ints w5 (a' L (a+1) (a+1)) (a+1) (GZ ⟨a,r,s⟩ N):=by
    refine⟨_,_,rfl,.inr ⟨L,0,_,_,rfl,h,λi e9=>?_⟩⟩;rw[RH,cg _ _ _ aa];unfold GZ;by_cases e:i=a
    .rw [ao e,ao e]
    .rw [aq e,aq e,ao aa,X.1]
   have a8:Lo.lo<=w5.heap.size:=QE (QE (QE q.2.2 q.2.1.size) d.2.1.size) l.size;have y:=aT l a8 a4 d6;have m:=(l.block G a4).trans d.1;have d8:=g1.out _ w5 h0 a8;have d9:QX (aE 28 #[a' L k k] w5 (HR (a+1) (GZ ⟨a,r,s⟩ N) w5)):=by rw[<-g4];exact d8
   have e0:=ad a7;clear b0 a5 a6 a0 h l a7 h0 a8 d8;have g5:=Z_ m;clear m;go_wp2_with fail;rw[show(2:Int)+(N:Int)=((2+N:Nat):Int)by omega,e0.out];refine d9.mono ?_;rintro e w6 ⟨B,rfl,K,a9⟩;have m:w5.heap[G]?=some (al #[.pointer none,.pointer none,ae R,ae a,ae r,ae s] 73):=(y.1.block G y.2.2.1).trans d.1;have z:=(a9.block _ g5).trans m;have h6:=heap_setCell_same w6 G 0 _ 73 (ar B) z;obtain⟨w7,n⟩:=ah (w6.setCell (ag G 0) (ar B));rw[n]at h6;have b4:Lo.lo<=G:=QE (QE q.2.2 q.2.1.size) d.2.2;have o:aC w7 B (By.part (a+1) (GZ ⟨a,r,s⟩ N) (a+1)):=by rw[<-n];exact K.fn (T:= [73]) ((Fr.refl _ _ _).set (p:=ag G 0) z rfl b4 _) rfl
   have A:SC t.heap.size t w7:=by have h:=d.2.1;have h2:SC t.heap.size F w5:=y.1.mono (QE d.2.2 (TL y.2.2.1));rw[<-n];exact((h.trans h2).trans (a9.mono (h.trans h2).size)).setCell (p:=ag G 0) d.2.2 _
   have e1:=(A.block D d3).trans q.1;have g6:=ad (λW (e8:SC w7.heap.size w7 W)=>g3.out B _ W (o.below e8) lO (QE (QE q.2.2 q.2.1.size) (QE A.size e8.size)));have H7:=aT h6 A b4 e1;have e3:=ad n;obtain⟨q0,q1,q2⟩:=cr z;clear K a9 m z b1 b3 c0 h6 n o A b4 e1;go_wp2_with fail;rw[e3.out];obtain⟨a0,a1,a2⟩:=cr H7.1;obtain⟨b0,b1,b2⟩:=cr H7.2.2.2;clear q0 q1;have i4:¬D=G:=by have:=d.2.2;omega
   have g7:¬G=D:=by have:=d.2.2;omega
   go_region_held3(λE=>E.cell? (ag G 0)=some (ar B)/\E.cell? (ag D 0)=some (ae a)/\E.cell? (ag D 1)=some (ae r)/\E.cell? (ag D 2)=some (ae s)) ((simp[*,go_sem];done)) (first|(go_at_call 29;refine(g6 _ bF).mono ?_;rintro e w8 ⟨Z,rfl,z1,z2,z3,z4,z5⟩;have b5:QX (Fr fT aF w7 w8):=(Fr.af bF).tr z4;have f:=b5.hp H7.1 rfl;have e4:=b5.hp H7.2.2.2 rfl;have H8:=bZ z1 z2 z3 z5 f;obtain⟨p0,p1,p2⟩:=cr f;obtain⟨r0,r1,r2⟩:=cr e4;clear z1 z2 z3 z4 z5 f e4));have O:yT ⟨a,r,s⟩ N e7 w (.returned (.tuple #[ar G,aG 0])) (w8.setCell (ag G 1) (ar Z.A)):=by
    obtain⟨z1,z2,z3,z5,f⟩:=H8.out;have g8:w.heap.size<=t.heap.size:=q.2.1.size;have e5:w.heap.size<=G:=QE g8 d.2.2;have i5:=heap_setCell_same w8 G 1 _ 73 (ar Z.A) f;refine⟨G,Z,rfl,?_,z2,z3,e5,?_,z5.fr (T:= [73]) ((Fr.refl _ _ _).set (p:=ag G 1) f rfl H7.2.2.1 _) rfl⟩
    .unfold cw;rw[i5,z1,X.1];rfl
    .have h:Fr fT aF w w7:=(Fr.af q.2.1).tr (Fr.af H7.2.1);exact(h.tr b5).low (Below.setCell ak (p:=ag G 1) (QH G) _) e5
   have e6:=ad O;clear O p0 p1 p2 r0 g7;go_wp2_with fail;go_ret2;exact e6
structure G_[Lo](w:M)(f:Nat)(args:Array QC)(R:Nat->M->Prop):Prop where
 call:∀W,au w W->aE f args W fun e w'=>∃er:Nat,aK e (.int .u16 er)/\Fr et aF W w'/\R er w'
 stay:∀er W W',R er W->Fr [46] aF W W'->R er W'
 low:Lo.lo<=w.heap.size
theorem AI[Lo](G:Nat)(Z:bm)(g:az)(t:Nat)(u n x:Int)(pv y:QC)(w:QA)(R:Nat->QA->Prop)(z:cw w G Z g)(H:G_ w 60 #[ar Z.A,pv] R):
  aE 31 #[ar G,fQ t u n x pv y] w λe i=>∃a:Nat,aK e (cX a aW 0)/\Fr et aF w i/\R a i:=by
 obtain⟨A,bA,m,L,o,p,q,r,b⟩:=pC w t u n x pv y;have c:=(b.block _ (Z_ z)).trans z;obtain⟨a1,a2,a3⟩:=cr q;obtain⟨s1,s2,s3⟩:=cr c;have B:=ad H;have Q:QX (∀W,au A W->aE 60 #[ar Z.A,pv] W λe i=>∃a:Nat,aK e (.int .u16 a)/\Fr et aF A i/\R a i):=λW O=>(H.call W (b.trans (O.mono b.size))).mono λe i ⟨a,S,T,U⟩=>⟨a,S,(Fr.af O).tr T,U⟩;have V:=ad ih;have C:QX (∀k,Fr et aF A k->k.heap[G]?=some (al #[ar Z.B,ar Z.A,ae g.R,ae g.M,ae g.c,ae g.s] 73)/\k.heap[bA]?=some (al #[bx t,ae u,ae n,ae x,pv,y] 50)/\k.heap[m]?=some z46):=λk l=>⟨l.hp c rfl,l.hp q rfl,l.hp r rfl⟩;have X:=aT q r c b;have j:=aM L o p;have N:¬G=m:=fI c r aj;have M:¬bA=m:=fI q r aj;clear z H L o p q r b c;go_enter func31,ntmps31;go_wp2_with fail;rw[j.1,j.2.2,j.2.1];go_region_held3(λi=>i.cell? ⟨G,1,none⟩=some (ar Z.A)/\i.cell? ⟨bA,4,none⟩=some (pv)) ((simp[*,go_sem];done)) (first
  |(go_at_call 60;refine(Q _ (by first|exact ak|exact cE ak _)).mono ?_;rintro e k ⟨a,rfl,l,P⟩
    have d:=C.out k l;obtain⟨v1,v2,I⟩:=cr d.1;obtain⟨v4,v5,Y⟩:=cr d.2.1;obtain⟨v7,v8,J⟩:=cr d.2.2;have s:=aM l P d;clear l P d)
  |(go_at_call 21;refine(V a _).mono ?_;rintro e w3 ⟨rfl,f⟩
    have h:au k w3:=by first|exact f|exact via (cE ak _) f
    obtain⟨u1,u2,u3⟩:=kp h G I;obtain⟨u4,u5,u6⟩:=kp h bA Y;obtain⟨u7,u8,u9⟩:=kp h m J;have D:=ad h;clear h f))
 go_wp2;have E:w.heap.size<=m:=by have:=j.2.2;omega
 have F:=(D.block _ (Z_ s.2.2.2.2)).trans s.2.2.2.2;obtain⟨K,y2,y3⟩:=qu (w:=w) F rfl E B.low (aG a) aW (ae 0);have c0:=(cr K).1 0;have c1:=(cr K).1 1;have c2:=(cr K).1 2;refine QR (v:=cX a aW 0) (by simp[RM,results31,go_sem,c0,c1,c2]) rfl ⟨a,rfl,y3 (((Fr.af X.2.2.2).tr s.1).then D),B.stay a _ _ (B.stay a _ _ s.2.1 (Fr.af D)) y2⟩
theorem AJ[Lo](G:Nat)(Z:bm)(g:az)(r:Nat)(s n t:Int)(pv u:QC)(w:QA)(R:Nat->QA->Prop)(p:cw w G Z g)(H:G_ w 61 #[ar Z.A] R):
  aE 32 #[ar G,fQ r s n t pv u] w λe l=>∃a:Nat,aK e (cX a aW 0)/\Fr et aF w l/\R a l:=by
 obtain⟨x,bA,y,L,m,o,z,A,b⟩:=pC w r s n t pv u;have i:=(b.block _ (Z_ p)).trans p;obtain⟨r1,r2,r3⟩:=cr p;have B:=ad H;have Q:QX (∀W,au x W->aE 61 #[ar Z.A] W λe l=>∃a:Nat,aK e (.int .u16 a)/\Fr et aF x l/\R a l):=λW O=>(H.call W (b.trans (O.mono b.size))).mono λe l ⟨a,S,T,U⟩=>⟨a,S,(Fr.af O).tr T,U⟩;have V:=ad ih;have C:QX (∀h,Fr et aF x h->a_ h G (al #[ar Z.B,ar Z.A,ae g.R,ae g.M,ae g.c,ae g.s] 73)/\a_ h bA (al #[bx r,ae s,ae n,ae t,pv,u] 50)/\a_ h y z46):=λh j=>⟨j.hp i rfl,j.hp z rfl,j.hp A rfl⟩;have X:=aT z A i b;have f:=aM L m o;clear p H L m o z A b i;go_enter func32,ntmps32;go_wp2_with fail;rw[f.1,f.2.2,f.2.1];go_wp2_with(first
  |(go_at_call 61;refine(Q _ (by first|exact ak|exact cE ak _)).mono ?_;rintro e h ⟨a,rfl,j,P⟩
    have c:=C.out h j;obtain⟨v1,v2,v3⟩:=cr c.1;obtain⟨v4,v5,v6⟩:=cr c.2.1;obtain⟨v7,v8,N⟩:=cr c.2.2;have q:=aM j P c;clear j P c)
  |(go_at_call 21;refine(V a _).mono ?_;rintro e M ⟨rfl,d⟩
    have k:au h M:=by first|exact d|exact via (cE ak _) d
    obtain⟨u7,u8,u9⟩:=kp k y N;have D:=ad k;clear k d))
 have E:w.heap.size<=y:=by have:=f.2.2;omega
 have F:=(D.block _ (Z_ q.2.2.2.2)).trans q.2.2.2.2;obtain⟨K,I,Y⟩:=qu (w:=w) F rfl E B.low (aG a) aW (ae 0);have J:=(cr K).1 0;have c1:=(cr K).1 1;have c2:=(cr K).1 2;refine QR (v:=cX a aW 0) (by simp[RM,results32,go_sem,J,c1,c2]) rfl ⟨a,rfl,Y (((Fr.af X.2.2.2).tr q.1).then D),B.stay a _ _ (B.stay a _ _ q.2.1 (Fr.af D)) I⟩
theorem Ee[Lo](G:Nat)(Z:bm)(g:az)(x:Nat)(m n y:Int)(pv z:QC)(w:QA)(R:Nat->QA->Prop)(t:cw w G Z g)(H:G_ w 63 #[ar Z.A,ae m] R):
  aE 33 #[ar G,fQ x m n y pv z] w λe i=>∃a:Nat,aK e (cX a aW 0)/\Fr et aF w i/\R a i:=by
 obtain⟨A,bA,o,L,p,q,r,s,b⟩:=pC w x m n y pv z;have c:=(b.block _ (Z_ t)).trans t;obtain⟨a1,a2,a3⟩:=cr r;obtain⟨r1,r2,r3⟩:=cr t;obtain⟨s1,s2,s3⟩:=cr c;have B:=ad H;have Q:QX (∀W,au A W->aE 63 #[ar Z.A,ae m] W λe i=>∃a:Nat,aK e (.int .u16 a)/\Fr et aF A i/\R a i):=λW O=>(H.call W (b.trans (O.mono b.size))).mono λe i ⟨a,S,T,U⟩=>⟨a,S,(Fr.af O).tr T,U⟩;have V:=ad ih;have C:QX (∀k,Fr et aF A k->k.heap[G]?=some (al #[ar Z.B,ar Z.A,ae g.R,ae g.M,ae g.c,ae g.s] 73)/\k.heap[bA]?=some (al #[bx x,ae m,ae n,ae y,pv,z] 50)/\k.heap[o]?=some z46):=λk l=>⟨l.hp c rfl,l.hp r rfl,l.hp s rfl⟩;have X:=aT r s c b;have j:=aM L p q;have N:¬G=o:=fI c s aj;have M:¬bA=o:=fI r s aj;clear t H L p q r s b c;go_enter func33,ntmps33;go_wp2_with fail;rw[j.1,j.2.2,j.2.1];go_region_held3(λi=>i.cell? ⟨G,1,none⟩=some (ar Z.A)/\i.cell? ⟨bA,1,none⟩=some (ae m)) ((simp[*,go_sem];done)) (first
  |(go_at_call 63;refine(Q _ (by first|exact ak|exact cE ak _)).mono ?_;rintro e k ⟨a,rfl,l,P⟩
    have d:=C.out k l;obtain⟨v1,v2,I⟩:=cr d.1;obtain⟨v4,v5,Y⟩:=cr d.2.1;obtain⟨v7,v8,J⟩:=cr d.2.2;have u:=aM l P d;clear l P d)
  |(go_at_call 21;refine(V a _).mono ?_;rintro e w3 ⟨rfl,f⟩
    have h:au k w3:=by first|exact f|exact via (cE ak _) f
    obtain⟨u1,u2,u3⟩:=kp h G I;obtain⟨u4,u5,u6⟩:=kp h bA Y;obtain⟨u7,u8,u9⟩:=kp h o J;have D:=ad h;clear h f))
 go_wp2;have E:w.heap.size<=o:=by have:=j.2.2;omega
 have F:=(D.block _ (Z_ u.2.2.2.2)).trans u.2.2.2.2;obtain⟨K,y2,y3⟩:=qu (w:=w) F rfl E B.low (aG a) aW (ae 0);have c0:=(cr K).1 0;have c1:=(cr K).1 1;have c2:=(cr K).1 2;refine QR (v:=cX a aW 0) (by simp[RM,results33,go_sem,c0,c1,c2]) rfl ⟨a,rfl,y3 (((Fr.af X.2.2.2).tr u.1).then D),B.stay a _ _ (B.stay a _ _ u.2.1 (Fr.af D)) y2⟩
theorem Ef[Lo](G:Nat)(Z:bm)(g:az)(u:Nat)(m n x:Int)(pv y:QC)(w:QA)(R:Nat->QA->Prop)(z:cw w G Z g)(H:G_ w 70 #[ar Z.B,ae m,ae n] R):
  aE 37 #[ar G,fQ u m n x pv y] w λe i=>∃a:Nat,aK e (cX a aW 0)/\Fr et aF w i/\R a i:=by
 obtain⟨A,bA,o,L,p,q,r,s,b⟩:=pC w u m n x pv y;have c:=(b.block _ (Z_ z)).trans z;obtain⟨a1,a2,a3⟩:=cr r;obtain⟨s1,s2,s3⟩:=cr c;have B:=ad H;have Q:QX (∀W,au A W->aE 70 #[ar Z.B,ae m,ae n] W λe i=>∃a:Nat,aK e (.int .u16 a)/\Fr et aF A i/\R a i):=λW O=>(H.call W (b.trans (O.mono b.size))).mono λe i ⟨a,S,T,U⟩=>⟨a,S,(Fr.af O).tr T,U⟩;have V:=ad ih;have C:QX (∀k,Fr et aF A k->k.heap[G]?=some (al #[ar Z.B,ar Z.A,ae g.R,ae g.M,ae g.c,ae g.s] 73)/\k.heap[bA]?=some (al #[bx u,ae m,ae n,ae x,pv,y] 50)/\k.heap[o]?=some z46):=λk l=>⟨l.hp c rfl,l.hp r rfl,l.hp s rfl⟩;have X:=aT r s c b;have j:=aM L p q;have N:¬G=o:=fI c s aj;have M:¬bA=o:=fI r s aj;clear z H L p q r s b c;go_enter func37,ntmps37;go_wp2_with fail;rw[j.1,j.2.2,j.2.1];go_region_held3(λi=>i.cell? ⟨G,0,none⟩=some (ar Z.B)/\i.cell? ⟨bA,1,none⟩=some (ae m)/\i.cell? ⟨bA,2,none⟩=some (ae n)) ((simp[*,go_sem];done)) (first
  |(go_at_call 70;refine(Q _ (by first|exact ak|exact cE ak _)).mono ?_;rintro e k ⟨a,rfl,l,P⟩
    have d:=C.out k l;obtain⟨v1,v2,I⟩:=cr d.1;obtain⟨v4,v5,Y⟩:=cr d.2.1;obtain⟨v7,v8,J⟩:=cr d.2.2;have t:=aM l P d;clear l P d)
  |(go_at_call 21;refine(V a _).mono ?_;rintro e w3 ⟨rfl,f⟩
    have h:au k w3:=by first|exact f|exact via (cE ak _) f
    obtain⟨u1,u2,u3⟩:=kp h G I;obtain⟨u4,u5,u6⟩:=kp h bA Y;obtain⟨u7,u8,u9⟩:=kp h o J;have D:=ad h;clear h f))
 go_wp2;have E:w.heap.size<=o:=by have:=j.2.2;omega
 have F:=(D.block _ (Z_ t.2.2.2.2)).trans t.2.2.2.2;obtain⟨K,y2,y3⟩:=qu (w:=w) F rfl E B.low (aG a) aW (ae 0);have c0:=(cr K).1 0;have c1:=(cr K).1 1;have c2:=(cr K).1 2;refine QR (v:=cX a aW 0) (by simp[RM,results37,go_sem,c0,c1,c2]) rfl ⟨a,rfl,y3 (((Fr.af X.2.2.2).tr t.1).then D),B.stay a _ _ (B.stay a _ _ t.2.1 (Fr.af D)) y2⟩
structure NW[Lo](w:M)(A:Nat)(R:Bool->Nat->M->Prop):Prop where
 call:∀W,au w W->aE 68 #[H A] W fun e w'=>∃(dn:Bool) (er:Nat),aK e (.tuple #[.bool dn,.int .u16 er])/\Fr et aF W w'/\R dn er w'
 stay:∀dn er W W',R dn er W->Fr [46] aF W W'->R dn er W'
 low:Lo.lo<=w.heap.size
theorem Eg[Lo](G:Nat)(Z:bm)(g:az)(V:Nat)(X n N:Int)(pv M:QC)(w:QA)(R:Bool->Nat->QA->Prop)(L:cw w G Z g)(H:NW w Z.A R):
  aE 35 #[ar G,fQ V X n N pv M] w λe s=>∃(d:Bool) (b:Nat),Fr et aF w s/\R d b s/\((b≠0/\aK e (cX b aW 0))\/(b=0/\∃a c,aK e (cX 0 (.slice a 1 c) 0)/\cR s (.slice a 1 c) 1 λ_=>if d=true then 1 else 0)):=by
 obtain⟨I,bA,r,Y,C,D,a1,J,h⟩:=pC w V X n N pv M;have O:=(h.block _ (Z_ L)).trans L;obtain⟨r1,r2,r3⟩:=cr L;have o:=ad H;have a2:QX (∀W,au I W->aE 68 #[ar Z.A] W λe s=>∃(d:Bool) (b:Nat),aK e (.tuple #[.bool d,.int .u16 b])/\Fr et aF I s/\R d b s):=λW l=>(H.call W (h.trans (l.mono h.size))).mono λe s ⟨d,b,h1,h2,h3⟩=>⟨d,b,h1,(Fr.af l).tr h2,h3⟩;have a3:=ad ih;have a4:=ad J;have P:=ad h;have p:=aM Y C D;clear L H Y C D a1 J h O;go_enter func35,ntmps35;go_wp2_with fail;rw[p.1,p.2.2,p.2.1];have t:w.heap.size<=r:=by have:=p.2.2;omega
 refine(a2 _ ak).mono ?_;rintro e f ⟨d,b,rfl,Q,a0⟩;have u:=Q.hp a4 rfl;have m:=aM Q a0 u;obtain⟨v7,v8,v9⟩:=cr u;clear Q a0 u;by_cases h0:b=0
 .subst h0;cases d
  .go_wp2;obtain⟨i,x,y⟩:=qu (w:=w) m.2.2 rfl t o.low (aG 0) (a' f.heap.size 1 1) (ae 0);obtain⟨q,j⟩:=ah (((f.setCell (ag r 0) (aG 0)).setCell (ag r 1) (a' f.heap.size 1 1)).setCell (ag r 2) (ae 0));have S:q.heap.size=f.heap.size:=by rw[<-j];simp
   rw[j]at i x y|-;have l:au q (q.alloc (al #[.int .u8 0] 5)):=aI ak _;have z:=(l.block _ (Z_ i)).trans i;have E:=(cr z).1 0;have F:=(cr z).1 1;have K:=(cr z).1 2;have A:cR (q.alloc (al #[.int .u8 0] 5)) (a' f.heap.size 1 1) 1 λ_=>0:=⟨_,_,rfl,.inr ⟨_,_,_,_,rfl,by rw[<-S];exact QB _ _,λk a5=>by obtain rfl:k=0:=aa;rfl⟩⟩;refine QR (v:=cX 0 (a' f.heap.size 1 1) 0) (by simp[RM,results35,go_sem,E,F,K]) rfl ⟨_,0,(y ((Fr.af P).tr m.1)).then l,o.stay _ 0 _ _ (o.stay _ 0 _ _ m.2.1 x) (Fr.af l),.inr ⟨rfl,_,_,rfl,A⟩⟩
  .go_wp2;obtain⟨i,x,y⟩:=qu (w:=w) m.2.2 rfl t o.low (aG 0) (a' f.heap.size 1 1) (ae 0);obtain⟨q,j⟩:=ah (((f.setCell (ag r 0) (aG 0)).setCell (ag r 1) (a' f.heap.size 1 1)).setCell (ag r 2) (ae 0));have S:q.heap.size=f.heap.size:=by rw[<-j];simp
   rw[j]at i x y|-;have l:au q (q.alloc (al #[.int .u8 1] 5)):=aI ak _;have z:=(l.block _ (Z_ i)).trans i;have E:=(cr z).1 0;have F:=(cr z).1 1;have K:=(cr z).1 2;have A:cR (q.alloc (al #[.int .u8 1] 5)) (a' f.heap.size 1 1) 1 λ_=>1:=⟨_,_,rfl,.inr ⟨_,_,_,_,rfl,by rw[<-S];exact QB _ _,λk a5=>by obtain rfl:k=0:=aa;rfl⟩⟩;refine QR (v:=cX 0 (a' f.heap.size 1 1) 0) (by simp[RM,results35,go_sem,E,F,K]) rfl ⟨_,0,(y ((Fr.af P).tr m.1)).then l,o.stay _ 0 _ _ (o.stay _ 0 _ _ m.2.1 x) (Fr.af l),.inr ⟨rfl,_,_,rfl,A⟩⟩
 .have a6:¬(b:Int)=0:=aa;go_wp2_with(go_at_call 21;refine(a3 b _).mono ?_;rintro e w3 ⟨rfl,B⟩;obtain⟨u7,u8,u9⟩:=kp B r v9;have T:=ad B;clear B);have U:=(T.block _ (Z_ m.2.2)).trans m.2.2;obtain⟨i,x,y⟩:=qu (w:=w) U rfl t o.low (aG b) aW (ae 0);have E:=(cr i).1 0;have F:=(cr i).1 1;have K:=(cr i).1 2;refine QR (v:=cX b aW 0) (by simp[RM,results35,go_sem,E,F,K]) rfl ⟨d,b,y (((Fr.af P).tr m.1).then T),o.stay d b _ _ (o.stay d b _ _ m.2.1 (Fr.af T)) x,.inl ⟨h0,rfl⟩⟩
theorem pD(h:n=30\/n=31\/n=32\/n=33\/n=34\/n=35\/n=36\/n=37\/n=38\/n=39):∀a w,(UN n a).run prog w=.ok (.enter n a) w:=by
 rcases h with rfl|rfl|rfl|rfl|rfl|rfl|rfl|rfl|rfl|rfl
 .exact RF func30 ai rfl
 .exact RF func31 ai rfl
 .exact RF func32 ai rfl
 .exact RF func33 ai rfl
 .exact RF func34 ai rfl
 .exact RF func35 ai rfl
 .exact RF func36 ai rfl
 .exact RF func37 ai rfl
 .exact RF func38 ai rfl
 .exact RF func39 ai rfl
theorem pE[Lo](w:M)(G f:Nat)(z:Bool)(k:Nat)(r n s:Int)(pv t:QC)(Z:bm)(g:az)(R:Nat->QC->M->Prop)(u:f=30\/f=31\/f=32\/f=33\/f=34\/f=35\/f=36\/f=37\/f=38\/f=39)(K:GS (k:Nat)=some (.agg #[.func (.func f) #[] #[],.bool z]))(A:cw w G Z g)(l:∃b,aC w Z.B b)(L:∀W,au w W->aE f #[H G,fQ k r n s pv t] W λe i=>∃d a m c,aK e (cX d (.slice a m c) 0)/\Fr et aF W i/\R d (.slice a m c) i)(O:∀d v W,R d v W->∃b,aC W Z.B b)(B:∀d v W q,R d v W->Fr [46] aF W q->R d v q)(P:Lo.lo<=w.heap.size):
  aE 11 #[H G,fQ k r n s pv t] w λe i=>∃d a m c y,aK e (cX d (.slice a m c) y)/\Fr et aF w i/\R d (.slice a m c) i:=by
 refine(Iu w G f z k r n s pv t Z g (λd v W=>Fr et aF w W/\R d v W) ⟨pD u,A,l,λW C=>?_,λd v W q h l=>⟨h.1.then l,B d v W q h.2 (Fr.af l)⟩,λd v W p o T x h Q j=>⟨h.1.new j x,B d v W _ h.2 ((Fr.refl [46] aF W).set (p:=ag p o) Q rfl (QE P j) x)⟩⟩ K).mono λe i h=>h;refine(L W C).mono ?_;rintro e i ⟨d,a,m,c,S,D,E⟩;have F:=(Fr.af C).tr D;exact⟨d,a,m,c,S,⟨Z,F.hp A rfl,O d _ i E⟩,D.tm,F,E⟩
theorem rC(x:Nat)(w:M):aE 17 #[bx x] w λe q=>∃b,aK e (a' b 128 128)/\w.heap.size<=b/\q.heap[b]?=some (N (cB 128 λ_=>x) 5)/\au w q:=by
 have s:∀w:M,(TC 41 (Y 128) (Y 128)).run prog w=.ok (a' w.heap.size 128 128) (w.alloc (N (cB 128 λ_=>0) 5)):=λw=>nU w 128 aj;obtain⟨h,j⟩:=ah (w.alloc (N (cB 128 λ_=>0) 5));have f:au w h:=by rw[<-j];exact aI ak _
 have c:h.heap[w.heap.size]?=some (N (cB 128 λ_=>0) 5):=by rw[<-j];exact QB _ _
 obtain⟨D,d⟩:=ah w.heap.size;rw[d]at c;have l:QX (h.heap[D]?=some (N (cB 128 λi=>if i<0 then x else 0) 5)/\au w h):=⟨c,f⟩;have a:=aB j d;clear f c j d;go_enter func17,ntmps17;go_wp2_with fail
 try simp only[a.out.1,a.out.2]
 go_wp2;go_loopw [4] (λi wr=>∃k:Nat,i= Y k/\k<=128/\QX (wr.heap[D]?=some (N (cB 128 λi=>if i<k then x else 0) 5)/\au w wr)) (λi _=>128-(intOf i).toNat)
 case atStart=>exact⟨0,rfl,J,l⟩
 case round=>
  obtain⟨k,rfl,v,g⟩:=hrel;obtain⟨m,n,c3⟩:=cr g.1;by_cases o:k<128
  .have t:(k:Int)<128:=J;have c4:=(m k).trans (eu 128 _ k o);have c5:=n k;have u:QX ((wr.setCell (R D k) (bx x)).heap[D]?=some (N (cB 128 λi=>if i<k+1 then x else 0) 5)/\au w (wr.setCell (R D k) (bx x))):=by
    refine⟨?_,g.2.setCell (p:=R D k) (by rw[a.2];exact QH _) _⟩;rw[heap_setCell_same wr D k _ 5 _ g.1,tv];congr 2;exact kq _ _ _ λy _=>by
     by_cases e:y=k
     .simp [e]
     .simp only[aq e];by_cases r:y<k
      .rw [ao r,ao J]
      .rw [aq r,aq J]
   clear m n;go_wp2;go_roundw
   case rel=>exact⟨k+1,by go_num,J,u⟩
   case measure=>simp[intOf];omega
  .obtain rfl:k=128:=J;clear m n;go_wp2;go_ret;refine⟨D,rfl,RO a.2,?_,g.2⟩;rw[g.1];congr 2
def Eh(w:M)(v:QC)(L:Nat)(d e:aQ):Prop:=
 ∃a c,v=.slice a L c/\(L=0\/∃b o,a=some (R b o)/\∀i,i<L->w.cell? ⟨b,o+i*2,none⟩=some (.int .u16 (d i:Nat))/\w.cell? ⟨b,o+i*2+1,none⟩=some (.int .u8 (e i:Nat)))
def cD(g:az)(L:Nat)(a b:aQ):bq:=⟨min L 100,λi=>a i%g.B,λi _=>b i⟩
def fJ(f:dp)(k:Nat):Nat:=f (k/128) (k%128)
def Iw:QC->Prop
 | .slice _ n c=>n<=c
 |_=>False
structure Mc(w:QA)(P G:Nat)(g:az)(N:Nat)(lz:Bool)(f:dp)(aw:Int)(wn:Bool):Prop where
 aL:∃wv bv uv la,w.heap[P]? =some (al #[Y g.M,Y g.c,Y g.s,Y N,.bool lz,H G,wv,bv,uv,Y g.B,Y aw,.bool wn,.bool true,.int .u16 la,.bool false] 44)/\cR w wv (g.B*128) (fJ f)/\Iw wv
section
theorem xv(n:Nat)(f:aQ)(i v:Nat):(aA n f).set i (bx v)=aA n λj=>if j=i then v else f j:=by
 apply TN;intro j;rw[List.getElem?_set];by_cases a:j<n
 .rw [ba _ _ _ a,ba _ _ _ a,aH];by_cases e:i=j
  .subst e;simp[a]
  .rw [aq e,aq (Ne.symm e)]
 .rw [RE (l:=aA n _) (by rw[aH];omega),RE (l:=aA n _) (by rw[aH];omega),aH];by_cases e:i=j
  .rw [ao e,aq J]
  .rw [aq e]
def nM(n:Nat)(a sb:aQ):List QC:=(TT n).flatMap λj=> [Y (a j:Nat),.slice (some ⟨sb j,0,none⟩) 128 128]
theorem hM(n:Nat)(a sb:aQ):nM (n+1) a sb=nM n a sb++ [Y (a n:Nat),.slice (some ⟨sb n,0,none⟩) 128 128]:=by unfold nM;rw[UK,UY];rfl
theorem pF{a sb sb':aQ}:∀{n:Nat},(∀j,j<n->sb j=sb' j)->nM n a sb=nM n a sb'
 |0,_=>rfl
 |n+1,h=>by rw[hM,hM,pF λj b=>h j J,h n J]
structure Ei(g:az)(B:bq)(f:dp)(bn n rn ab ac hb rb L0:Nat)(w:M)(i:Nat)(pl:QC)(sb:aQ)(W:M):Prop where
 dw:au w W
 base:w.heap.size<=ab/\ab<L0/\hb<L0/\rb<L0/\w.heap.size<=hb/\w.heap.size<=rb/\hb≠rb/\L0<=W.heap.size
 all:W.ownsRow w.heap.size 5 1 (a' ab n ac) n (aA n (fJ (ig B f i)))
 has:W.heap[hb]? =some (N (bs bn fun b=> .bool (gK B i b)) 4)
 rows:W.heap[rb]? =some (N (bs rn fun r=> .bool (aY g B i r)) 4)
 put:W.ownsRow L0 61 2 pl i (nM i B.aL sb)
 sec:∀j,j<i->L0<=sb j/\∃x,(∀k,B.da j k=x)/\W.heap[sb j]? =some (N (cB 128 fun _=>x) 5)
theorem Ei.below{g:az}{B:bq}{f:dp}{bn n rn ab ac hb rb L0:Nat}{w:M}{i:Nat}{pl:QC}{sb:aQ}{W b:M}(h:Ei g B f bn n rn ab ac hb rb L0 w i pl sb W)(a:au W b):Ei g B f bn n rn ab ac hb rb L0 w i pl sb b:=
 ⟨h.dw.trans (a.mono h.dw.size),⟨h.base.1,h.base.2.1,h.base.2.2.1,h.base.2.2.2.1,h.base.2.2.2.2.1,h.base.2.2.2.2.2.1,h.base.2.2.2.2.2.2.1,QE h.base.2.2.2.2.2.2.2 a.size⟩,aP a h.all,(a.block _ (Z_ h.has)).trans h.has,(a.block _ (Z_ h.rows)).trans h.rows,aP a h.put,λj c=>⟨(h.sec j c).1,(h.sec j c).2.imp λ_ q=>⟨q.1,(a.block _ (Z_ q.2)).trans q.2⟩⟩⟩
structure MN(g:az)(B:bq)(f:dp)(bn n rn ab ac hb rb L0:Nat)(w:M)(i:Nat)(pl:QC)(sb:aQ)(W:M):Prop where
 dw:au w W
 base:w.heap.size<=ab/\ab<L0/\hb<L0/\rb<L0/\w.heap.size<=hb/\w.heap.size<=rb/\hb≠rb/\L0<=W.heap.size
 all:W.ownsRow w.heap.size 5 1 (a' ab n ac) n (aA n (fJ (ig B f i)))
 has:W.heap[hb]? =some (N (bs bn fun b=> .bool (gK B i b)) 4)
 rows:W.heap[rb]? =some (N (bs rn fun r=> .bool (aY g B i r)) 4)
 put:W.ownsRow L0 61 2 pl (i+1) (nM (i+1) B.aL sb)
 sec:∀j,j<i+1->L0<=sb j/\∃x,(∀k,B.da j k=x)/\W.heap[sb j]? =some (N (cB 128 fun _=>x) 5)
section
variable {g:az} {B:bq} {f:dp} {bn n rn ab ac hb rb L0 k sg x s:Nat} {w w4 w4' w5 W:QA} {pa:Option SZ} {pc:Nat} {v' pl:QC} {sb:aQ}
theorem Ei.take(h:Ei g B f bn n rn ab ac hb rb L0 w k (.slice pa k pc) sb w4)(p:L0<=sg)(q:w4.heap[sg]?=some (N (cB 128 λ_=>x) 5))(A:∀j,B.da k j=x)(d:au w4 w4')(i:w5.ownsRow L0 61 2 v' (k+1) (nM k B.aL sb++ [Y (B.aL k:Nat),a' sg 128 128]))(a:nF s w4' (.slice pa k pc) k 1 v' w5):MN g B f bn n rn ab ac hb rb L0 w k v' (λj=>if j=k then sg else sb j) w5:=by
 have b:=h.below d;have c:∀{x T:Nat} {C:Array QC} {D:Nat × Nat},w4'.heap[x]?=some (.cells C T D)->T≠61->(RU pa k pc).ownBlock≠some x:=λl r e=>by obtain⟨-,E,F,t⟩:=fu b.put e;rw[l]at t;exact r (UU (RK t)).2.1
 have G:w.heap.size<=L0:=by have:=b.base;omega
 have m:au w w5:=a.below b.dw b.dw.size λz o=>QE G (fu b.put o).1;have K:w4'.heap.size<=w5.heap.size:=(a.below (SL L0 w4') b.base.2.2.2.2.2.2.2 λz o=>(fu b.put o).1).size;refine⟨m,?_,a.cS b.all λz o e=>?_,a.heap b.has (c b.has aj),a.heap b.rows (c b.rows aj),?_,λj u=>?_⟩
 .have:=b.base;exact⟨this.1,this.2.1,this.2.2.1,this.2.2.2.1,this.2.2.2.2.1,this.2.2.2.2.2.1,this.2.2.2.2.2.2.1,J⟩
 .have l:=(fu b.put e).1;have r:ab=z:=RK o;have:=b.base;omega
 .rw [hM,ao rfl,pF (sb':=sb) λj u=>aq (XG u)];exact i
 .by_cases e:j=k
  .subst e;rw[ao rfl];have l:=(d.block _ (Z_ q)).trans q;exact⟨p,x,A,a.heap l (c l aj)⟩
  .rw [aq e];obtain⟨L,y,O,v⟩:=b.sec j J;exact⟨L,y,O,a.heap v (c v aj)⟩
theorem MN.fin(h:MN g B f bn n rn ab ac hb rb L0 w k pl sb w5)(d:Out (λz=>z=ab) w5 W)(i:W.ownsRow w.heap.size 5 1 (a' ab n ac) n (aA n (fJ (ig B f (k+1)))))(_:B.aL k<bn)(_:g.row (B.aL k)<rn):
  Ei g B f bn n rn ab ac hb rb L0 w (k+1) pl sb ((W.setCell ⟨hb,B.aL k,none⟩ ed).setCell ⟨rb,g.row (B.aL k),none⟩ ed)/\W.heap[hb]?=some (N (bs bn λb=>.bool (gK B k b)) 4)/\W.heap[rb]?=some (N (bs rn λr=>.bool (aY g B k r)) 4):=by
 have a:=h.base;have q:hb≠ab:=λe=>by have l:=h.has;rw[e]at l;obtain⟨-,D,E,c⟩:=fu h.all (show(a' ab n ac).ownBlock=some ab from rfl);rw[l]at c;exact absurd (UU (RK c)).2.1 aj
 have t:rb≠ab:=λe=>by have l:=h.rows;rw[e]at l;obtain⟨-,D,E,c⟩:=fu h.all (show(a' ab n ac).ownBlock=some ab from rfl);rw[l]at c;exact absurd (UU (RK c)).2.1 aj
 have u:=d.heap h.has q;have v:=d.heap h.rows t;have F:=heap_setCell_same W hb (B.aL k) _ 4 ed u;have G:=(RN W ⟨hb,B.aL k,none⟩ rb ed (Ne.symm a.2.2.2.2.2.2.1)).trans v;have K:=heap_setCell_same _ rb (g.row (B.aL k)) _ 4 ed G;have x4:=(RN _ ⟨rb,g.row (B.aL k),none⟩ hb ed a.2.2.2.2.2.2.1).trans F;have m:Out (λz=>z=hb\/z=rb) W ((W.setCell ⟨hb,B.aL k,none⟩ ed).setCell ⟨rb,g.row (B.aL k),none⟩ ed):=((Out.refl (λz=>z=hb\/z=rb) W).setCell (p:=⟨hb,B.aL k,none⟩) (λ_=>.inl rfl) _).setCell (p:=⟨rb,g.row (B.aL k),none⟩) (λ_=>.inr rfl) _;refine⟨⟨?_,⟨a.1,a.2.1,a.2.2.1,a.2.2.2.1,a.2.2.2.2.1,a.2.2.2.2.2.1,a.2.2.2.2.2.2.1,QE (QE a.2.2.2.2.2.2.2 d.size) m.size⟩,m.own i λz o e=>?_,?_,?_,?_,λj L=>?_⟩,u,v⟩
 .refine ((h.dw.trans (d.below (λz _ e=>?_) h.dw.size))).trans (m.below (λz _ e=>?_) (QE h.dw.size d.size))
  .rw [e];exact a.1
  .rcases e with e|e<;>rw[e]
   .exact a.2.2.2.2.1
   .exact a.2.2.2.2.2.1
 .have c:ab=z:=RK o;rcases e with e|e
  .exact q (e.symm.trans c.symm)
  .exact t (e.symm.trans c.symm)
 .rw [x4,eY];congr 2;apply congrArg;funext b;rw[gK];by_cases e:b=B.aL k
  .rw [ao e,e];simp
  .rw [aq e,show(B.aL k==b)=false from beq_eq_false_iff_ne.2 (Ne.symm e),Bool.false_or]
 .rw [K,eY];congr 2;apply congrArg;funext r;rw[aY];by_cases e:r=g.row (B.aL k)
  .rw [ao e,e];simp
  .rw [aq e,show(g.row (B.aL k)==r)=false from beq_eq_false_iff_ne.2 (Ne.symm e),Bool.false_or]
 .refine m.own (d.own h.put λz o e=>?_) λz o e=>?_
  .have:=(fu h.put o).1;omega
  .have:=(fu h.put o).1;rcases e with e|e<;>omega
 .obtain ⟨O,y,P,Q⟩:=h.sec j L;exact⟨O,y,P,m.heap (d.heap Q J) (λe=>by rcases e with e|e<;>omega)⟩
end
theorem Ej(n:Nat)(a sb:aQ){j:Nat}(d:j<n):(nM n a sb)[j*2]?=some (Y (a j:Nat))/\(nM n a sb)[j*2+1]?=some (.slice (some ⟨sb j,0,none⟩) 128 128):=by
 have b:∀n,(nM n a sb).length=n*2:=λn=>by
  induction n with
  |zero=>rfl
  |succ n c=>rw[hM,QU,c];simp;omega
 induction n with
 |zero=>omega
 |succ n c=>
  rw[hM];by_cases e:j=n
  .subst e;rw[QZ (by rw[b];omega),QZ (by rw[b];omega),b,Nat.sub_self,show j*2+1-j*2=1 by omega];exact⟨rfl,rfl⟩
  .rw [RD (by rw[b];omega),RD (by rw[b];omega)];exact c J
theorem Ei.NX{g:az}{B:bq}{f:dp}{bn n rn ab ac hb rb L0 i:Nat}{w W:M}{pl:QC}{sb:aQ}(h:Ei g B f bn n rn ab ac hb rb L0 w i pl sb W)(o:i=B.n):gN W pl B:=by
 subst o;rcases h.put.2 with⟨e,d⟩|⟨p,b,a,e,-,q,r,A,C,t⟩
 .exact ⟨none,0,by rw[e,d],J,.inl d⟩
 .refine ⟨_,b,e,r,.inr ⟨p,0,a,_,rfl,q,λj l=>?_⟩⟩;have m:∀k,k<B.n*2->a[k]?=(nM B.n B.aL sb)[k]?:=λk c=>by rw[<-t,TH,ao c];simp
  obtain⟨u,v⟩:=Ej B.n B.aL sb l;obtain⟨-,x,y,z⟩:=h.sec j l;rw[RH];refine⟨(m _ J).trans u,_,(m _ J).trans v,sb j,0,128,_,_,rfl,QH _,z,λk c=>?_⟩;rw[RH,eu _ _ _ c,y k]
theorem vv(w:M)(n:Nat)(h:n<=1000000):(TC 56 (Y (n:Int)) (Y (n:Int))).run prog w=.ok (a' w.heap.size n n) (w.alloc (N (bs n λ_=>.bool false) 4)):=by
 obtain⟨d,j,a,b,c⟩:=SD H';have:=run_make (P:=prog) w 56 4 d iG underlying56 j a .i64 .i64 n n J J (by rw[c];omega) J;rw[this,b,TZ];show YT _ (w.alloc (N (TQ #[.bool false] n) 4))=_;have e:TQ #[.bool false] n=bs n λ_=>.bool false:=by
  apply Array.ext
  .simp [TQ,bs]
  .intro i l m;have:i%1=0:=YF i;simp[TQ,bs,this]
 rw[e];rfl
theorem az.JT{g:az}(h:g.ok):g.B<=65536:=by have a:=h.m16;unfold az.B az.E;exact QE (SX h.hj (SX (show g.M-1<=16 by omega) h.pZ)) aj
theorem az.Ek{g:az}(h:g.ok):1<=g.B:=by have a:=h.m3;unfold az.B az.E;exact SX h.s1 (SX (show 1<=g.M-1 by omega) h.c1)
theorem pG(g:az)(B:bq):∀n,n<=100->fW g B n<=2*n
 |0,_=>QH _
 |n+1,h=>by have:=pG g B n J;unfold fW;split<;>split<;>omega
theorem JU:(prog.info? 61).map (λi=>(i.zero,i.size,i.bytes))=some (some (.agg #[Y 0,aW]),2,32):=ai
theorem G'(P G:Nat)(g:az)(N:Nat)(n6:Bool)(f:dp)(n7:Int)(n8:Bool)(m0:QC)(L:Nat)(m l:aQ)(w:QA)(h:Mc w P G g N n6 f n7 n8)(h8:g.ok)(h9:Eh w m0 L m l)(m1:L<=20000)(i0:∀i,i<L->m i<65536):
  aE 23 #[ar P,m0] w λe i1=>∃pv i2,aK e (.tuple #[pv,i2,ae (2*fW g (cD g L m l) (cD g L m l).n+1:Nat)])/\gN i1 pv (cD g L m l)/\cR i1 i2 (g.B*128) (fJ (ig (cD g L m l) f (cD g L m l).n))/\au w i1/\Iw i2:=by
 obtain⟨n9,i3,i4,a0,i5⟩:=SD kb;obtain⟨s0,s1,s2,s3,d8,a1,o0⟩:=h.aL;obtain⟨s4,wc,rfl,m2⟩:=a1;have i6:=az.Ek h8;have i7:=az.JT h8;obtain⟨b5,o5,i8,i9,rfl,e0,a2⟩:=m2.resolve_left aa;obtain⟨B,j0⟩:=ah g.B;obtain⟨n,j1⟩:=ah (B*128);rw[j0]at d8 a2 i6 i7;rw[j1]at d8 a2;have j2:QX (∀j u,(aA n (fJ f))[j]?=some u->w.cell? (((ag b5 o5):SZ).add j)=some u):=λj u b3=>by
  by_cases f0:j<n
  .rw [ba _ _ _ f0]at b3;rw[iK,<-b3];exact(QT w b5 (o5+j) i8 5 i9 e0).trans (a2 j f0)
  .rw [RE (by rw[aH];omega)]at b3;cases b3
 obtain⟨p1,p2,p3⟩:=cr d8;have o1:∀w:QA,(TC 56 (ae (B:Int)) (ae (B:Int))).run prog w=.ok (a' w.heap.size B B) (w.alloc (al (bs B λ_=>.bool false) 4)):=λw=>vv w B aa;have j3:=az.gY h8;obtain⟨R,b7⟩:=ah g.R;rw[b7]at j3;have m3:∀w:QA,(TC 56 (ae (R:Int)) (ae (R:Int))).run prog w=.ok (a' w.heap.size R R) (w.alloc (al (bs R λ_=>.bool false) 4)):=λw=>vv w R aa;have s5:QK.wrap ((g.s:Int)*(g.c:Nat))=((R:Nat):Int):=by rw[show(g.s:Int)*(g.c:Nat)=((R:Nat):Int)by rw[<-b7];unfold az.R;rw[TG]];go_arith
 have K:=j_ d8 h8 h9 m1 j0 j1 b7;obtain⟨j4,o2,U,f1⟩:=id h9;rw[U];have o3:=ad U;have b8:=ad (Z_ d8);have f2:QX (∀wr,au w wr->∀i,i<L->∃b o,j4=some (ag b o)/\wr.cell? ⟨b,o+i*2,none⟩=some (.int .u16 (m i:Nat))/\wr.cell? ⟨b,o+i*2+1,none⟩=some (.int .u8 (l i:Nat))):=λwr hb i m4=>by obtain⟨b,o,e,q⟩:=f1.resolve_left aa;exact⟨b,o,e,(Out.af (S:=λ_=>False) hb).cell (q i m4).1 id,(Out.af (S:=λ_=>False) hb).cell (q i m4).2 id⟩
 clear f1;have m5:n<=8388608:=aa;have o4:0<n:=aa;clear h m2 e0 a2 d8 h9 m1 U j1 b7 j0;obtain⟨c,a,d⟩:=g;go_enter func23,ntmps23;go_wp2_with(first
  |(at_builtin;refine aU _ rfl _ _ 41 rfl w.heap.size 5 n9 (.int .u8 0) 1 1 UL i3 i4 a0 i5 rfl aj aW 0 [] rfl (SJ _ _ _ _) (ag b5 o5) n _ (aA n (fJ f)) rfl (by rw[aH,TZ]) j2 (dg _ _) aa (by unfold UI;omega) aa (QH _) ?_;intro v' w1 v A
    simp only[RH,UT]at v A;have a3:au w w1:=A.below ak (QH _) (λk j5=>by cases j5);obtain⟨⟨ac,rfl⟩,-⟩:=A.resolve_left (by rintro⟨s6,o6,e,-⟩;cases e);simp only[RH]at v;obtain⟨Q,q2,q3⟩:=kp a3 P p3;have H1:=aB v a3;have j6:QX (a_ w1 P _):=(a3.block P p3).trans K.1;clear v A a3))
 obtain⟨w2,V⟩:=ah (w1.alloc (al (bs B λ_=>.bool false) 4));have a4:au w1 w2:=by rw[<-V];exact aI ak _
 have f3:a_ w2 w1.heap.size (al (bs B λ_=>.bool false) 4):=by rw[<-V];exact QB _ _
 have f4:w2.heap.size=w1.heap.size+1:=by rw[<-V];simp
 rw[V];clear V Q q2;obtain⟨Q,q2,q4⟩:=kp a4 P q3;have b9:=(a4.block P q3).trans j6;obtain⟨r1,r2,r3⟩:=cr b9;have H2:=aT a4 f3 f4 b9;clear a4 f3 f4 b9 Q q2 q3 q4 p1 p3;go_region;obtain⟨w3,X⟩:=ah ((w2.alloc (al (bs R λ_=>.bool false) 4)).drew);have c0:au w2 w3:=by rw[<-X];exact aV (aI ak _)
 have f5:a_ w3 w2.heap.size (al (bs R λ_=>.bool false) 4):=by rw[<-X];exact QB _ _
 have j7:w3.heap.size=w2.heap.size+1:=by rw[<-X];simp
 rw[X];have a0:=Z_ H2.2.1;have f6:=H1.2.size;have Z:=H2.1.trans (c0.mono H2.1.size);obtain⟨ab,a5⟩:=ah w.heap.size;obtain⟨hb,c1⟩:=ah w1.heap.size;obtain⟨rb,c2⟩:=ah w2.heap.size;have f7:ab<w1.heap.size:=by obtain⟨-,cs,fr,q⟩:=fu H1.1 (show(a' w.heap.size n ac).ownBlock=some w.heap.size from rfl);rw[<-a5];exact Z_ q
 have c3:QX (Ei ⟨c,a,d⟩ (cD ⟨c,a,d⟩ L m l) f B n R ab ac hb rb w3.heap.size w 0 aW (λ_=>0) w3):=by
  refine⟨H1.2.trans (Z.mono f6),⟨aa,aa,aa,aa,aa,aa,aa,QH _⟩,?_,?_,?_,SJ _ _ _ _,λj b3=>aa⟩
  .rw [<-a5];exact aP Z H1.1
  .rw [<-c1];exact(c0.block _ a0).trans H2.2.1
  .rw [<-c2];exact f5
 simp only[a5,c1,c2];obtain⟨L0,f8⟩:=ah w3.heap.size;rw[f8]at c3;clear c0 f5 j7 X a0 f6 Z c1 c2 f7 r1 f8 a5;have m6:QX ((cD ⟨c,a,d⟩ L m l).n=min L 100):=rfl;go_wp2;go_loopw [7,11,12] (λpl o7 i wr=>∃(k:Nat) (sb:aQ),i= ae k/\k<=min L 100/\o7= ae (fW ⟨c,a,d⟩ (cD ⟨c,a,d⟩ L m l) k:Nat)/\QX (Ei ⟨c,a,d⟩ (cD ⟨c,a,d⟩ L m l) f B n R ab ac hb rb L0 w k pl sb wr)) (λ_ _ i _=>min L 100-(intOf i).toNat)
 case atStart=>exact⟨0,λ_=>0,rfl,QN _,rfl,c3⟩
 case round=>
  clear c3;obtain⟨k,sb,rfl,j5,rfl,c4⟩:=hrel;have a6:=(c4.dw.block P b8).trans K.1;obtain⟨p1,p2,p3⟩:=cr a6;by_cases c5:k<min L 100
  .have a7:k<L:=aa;have o8:(k:Int)<(L:Int):=aa;have o9:(k:Int)<100:=aa;obtain⟨s7,s8,rfl,x1,x2⟩:=f2.out wr c4.dw k a7;have p0:WV ((m k:Nat):Int)=((m k:Nat):Int):=by have:=i0 k a7;go_arith
   obtain⟨r,a8⟩:=ah (m k%B);have c6:r<B:=by rw[<-a8];exact RT _ aa
   have f9:QX ((cD ⟨c,a,d⟩ L m l).aL k=r):=by show m k%az.B ⟨c,a,d⟩=_;rw[K.2.2.2.2.1,a8]
   have g0:QX (B*128=n):=K.2.2.2.2.2.1;have p5:((m k:Nat):Int).tmod (B:Nat)=((r:Nat):Int):=by rw[<-a8];exact SI _ _
   have m7:=aM c5 a7 a6;clear a6 c5 a8;go_wp2;go_quiet(fail);have a9:au wr (wr.drewN nq):=cE ak _;obtain⟨m8,g1⟩:=ah (wr.drewN nq);rw[g1]at a9|-;have b0:=ad (c4.below a9);obtain⟨y1,y2,y3⟩:=kp a9 P p3;obtain⟨p6,p7,j8,x3,x4⟩:=f2.out m8 b0.dw k a7;cases j8;have j9:=ad (rC (l k) m8);obtain⟨pa,pc,rfl,-⟩:=av b0.put;clear g1 a9 p1 p3 x1;obtain⟨p8,k0,l0,l1,l2⟩:=SD JU;go_wp2_with(first
    |(go_at_call 17;refine j9.mono ?_;rintro e w4 ⟨sg,rfl,g2,g3,c7⟩
      have H4:=aT g2 g3 c7 (b0.below c7);clear g2 g3 c7)
    |(at_builtin;refine aU _ rfl _ _ 48 rfl L0 61 p8 (.agg #[ae 0,aW]) 2 32 underlying48 k0 l0 l1 l2 rfl aj (.slice pa k pc) k _ rfl (aP (aI ak _) H4.2.2.2.put) (ag w4.heap.size 0) 1 1 [ae r,a' sg 128 128] rfl rfl (RY (cs:= #[ae r,a' sg 128 128]) (t:=61) (fr:=(0,0)) (QB w4 _)) (by intro u m9;simp at m9;rcases m9 with rfl|rfl<;>rfl) aj (by unfold UI;omega) aa (QE H4.2.2.2.base.2.2.2.2.2.2.2 (aI ak _).size) ?_;intro v' w5 v A
      obtain⟨s9,t0,rfl,-⟩:=av v;rw[<-f9.out]at v;have d9:=Ei.take H4.2.2.2 (QE b0.base.2.2.2.2.2.2.2 H4.1) H4.2.1 (λ_=>rfl) (aI ak _) v A;have H5:=ad d9;have c8:=(d9.dw.block P b8).trans K.1;obtain⟨p1,p2,p3⟩:=cr c8;have l3:=ad c8;clear v A d9 c8 y3 x3 x4))
   obtain⟨n0,rfl⟩:∃n0:QA,n0=wr:=⟨_,rfl⟩;have g4:QX (Out (λz=>z=ab) w5 w5/\w5.ownsRow w.heap.size 5 1 (a' ab n ac) n (aA n λj=>if r*128<=j/\j<r*128+0 then l k else fJ (ig (cD ⟨c,a,d⟩ L m l) f k) j)):=by refine⟨Out.refl _ _,?_⟩;rw[ee (g:=fJ (ig (cD ⟨c,a,d⟩ L m l) f k)) λj b3=>aq aa];exact H5.all
   clear p5 p0 p1;go_loopw [15] (λj g5=>∃q:Nat,j= ae q/\q<=128/\QX (Out (λz=>z=ab) w5 g5/\g5.ownsRow w.heap.size 5 1 (a' ab n ac) n (aA n λj=>if r*128<=j/\j<r*128+q then l k else fJ (ig (cD ⟨c,a,d⟩ L m l) f k) j))) (λj _=>128-(intOf j).toNat)
   case atStart=>exact⟨0,rfl,aa,g4⟩
   case round=>
    clear g4;obtain⟨q,rfl,p9,c9⟩:=hrel;by_cases T:q<128
    .have b1:(q:Int)<128:=aa;obtain⟨-,q0,l4,H⟩:=H5.sec k (TK k);rw[ao rfl]at H;have l5:q0=l k:=(l4 0).symm;rw[l5]at H;have l6:=c9.1.heap H (by have h1:=H5.base;have h2:=(H5.sec k (TK k)).1;rw[ao rfl]at h2;show¬sg=ab;omega);have z1:=((cr l6).1 q).trans (eu 128 _ q T);obtain⟨M,q5⟩:=ah (r*128+q);have l7:M<n:=by have:=g0.out;omega
     have d0:=oe c9.2 (k:=M) (u:=_) (ba n _ M l7);obtain⟨z2,z3⟩:=d0;have e1:QK.wrap ((r:Int)*128)=((r*128:Nat):Int):=by have:=g0.out;go_arith
     have e2:QK.wrap (((r*128:Nat):Int)+(q:Nat))=((M:Nat):Int):=by rw[show(((r*128:Nat):Int)+(q:Nat))=((M:Nat):Int)by omega];go_arith
     have m6:QX (Out (λz=>z=ab) w5 (wr.setCell (ag ab M) (.int .u8 (l k:Nat)))/\(wr.setCell (ag ab M) (.int .u8 (l k:Nat))).ownsRow w.heap.size 5 1 (a' ab n ac) n (aA n λj=>if r*128<=j/\j<r*128+(q+1)then l k else fJ (ig (cD ⟨c,a,d⟩ L m l) f k) j)):=by
      refine⟨c9.1.setCell (p:=ag ab M) (λ_=>rfl) _,?_⟩;have:=Fs c9.2 M (.int .u8 (l k:Nat));rw[xv]at this;rw[ee (g:=λj=>if j=M then l k else if r*128<=j/\j<r*128+q then l k else fJ (ig (cD ⟨c,a,d⟩ L m l) f k) j) λj b3=>?_]
      .exact this
      .by_cases e:j=M
       .rw [ao e,ao aa]
       .rw [aq e];by_cases e2:r*128<=j/\j<r*128+q
        .rw [ao e2,ao aa]
        .rw [aq e2,aq aa]
     go_wp2;exact⟨⟨q+1,by go_num,aa,m6⟩,by simp[intOf];omega⟩
    .obtain rfl:q=128:=aa;clear T p9;have y:(cD ⟨c,a,d⟩ L m l).aL k=r:=f9.out;have b4:wr.ownsRow w.heap.size 5 1 (a' ab n ac) n (aA n (fJ (ig (cD ⟨c,a,d⟩ L m l) f (k+1)))):=by
      rw[ee (g:=λj=>if r*128<=j/\j<r*128+128 then l k else fJ (ig (cD ⟨c,a,d⟩ L m l) f k) j) λj b3=>?_]
      .exact c9.2
      .unfold fJ;rw[ig,y];by_cases e:r=j/128
       .rw [ao e,ao aa];rfl
       .rw [aq e,aq aa]
     have I:az.B ⟨c,a,d⟩=B:=K.2.2.2.2.1;have g6:az.R ⟨c,a,d⟩=R:=K.2.2.2.2.2.2;have g7:az.row ⟨c,a,d⟩ r<R:=by rw[<-g6];exact az.iN K.2.1 (by rw[I];exact c6)
     obtain⟨D,O⟩:=ah (az.row ⟨c,a,d⟩ r);rw[O]at g7;have C:=aT b4 y g7 O;have g8:=c9.1.heap l3 (by have h1:=H5.base;have h2:=b8.out;show¬P=ab;omega);obtain⟨p1,p2,p4⟩:=cr g8;have l8:=H5.base.2.2.2.2.2.2.1;have n1:=Ne.symm l8;have g9:=K.2.1.m16;have b6:=K.2.1.pZ;have l9:=K.2.1.m3;have h0:=K.2.1.c1;clear b4 I g6 g8 y;simp only at g9 b6 l9 h0;obtain⟨E,h3⟩:=ah ((c-1)*a);have q6:1<=E:=by rw[<-h3];exact SX (show 1<=c-1 by omega) h0
     have q7:E<=240:=by rw[<-h3];exact SX (show c-1<=15 by omega) b6
     have e3:QK.wrap ((c:Int)-1)=((c-1:Nat):Int):=by rw[show(c:Int)-1=((c-1:Nat):Int)by omega];go_arith
     have e4:QK.wrap (((c-1:Nat):Int)*(a:Nat))=((E:Nat):Int):=by rw[show(((c-1:Nat):Int)*(a:Nat))=((E:Nat):Int)by rw[<-h3,TG]];go_arith
     have h4:r/E*a+r%E%a=D:=by rw[<-O,<-h3];rfl
     obtain⟨Q,b2⟩:=ah (r/E);obtain⟨q2,T⟩:=ah (r%E);obtain⟨q3,b1⟩:=ah (q2%a);obtain⟨q4,d1⟩:=ah (Q*a);rw[b2,T,b1,d1]at h4;have e5:((r:Nat):Int).tdiv (E:Nat)=((Q:Nat):Int):=by rw[<-b2];exact Int.ofNat_tdiv _ _
     have e6:((r:Nat):Int).tmod (E:Nat)=((q2:Nat):Int):=by rw[<-T];exact SI _ _
     have e7:((q2:Nat):Int).tmod (a:Nat)=((q3:Nat):Int):=by rw[<-b1];exact SI _ _
     have n2:Q<=65536:=by rw[<-b2];exact QE (Nat.div_le_self _ _) aa
     have n3:D<=4096:=aa;have e8:QK.wrap (((Q:Nat):Int)*(a:Nat))=((q4:Nat):Int):=by rw[show(((Q:Nat):Int)*(a:Nat))=((q4:Nat):Int)by rw[<-d1,TG]];go_arith
     have e9:QK.wrap (((q4:Nat):Int)+(q3:Nat))=((D:Nat):Int):=by rw[show(((q4:Nat):Int)+(q3:Nat))=((D:Nat):Int)by omega];go_arith
     have q8:QK.wrap ((Q:Nat):Int)=((Q:Nat):Int):=bj;have q9:¬(E:Int)=0:=aa;have r0:¬(a:Int)=0:=aa;clear b2 T b1 d1 h4 h3 O;go_wp2;go_quiet(fail);obtain⟨wc,d2⟩:=ah (wr.drewN nq);have d3:au wr wc:=by rw[<-d2];exact cE ak _
     rw[d2];obtain⟨r1,r2,r3⟩:=kp d3 P p4;clear d2;go_wp2;go_quiet(fail);obtain⟨r4,d4⟩:=ah (wc.drewN nq);have d5:au wr r4:=by rw[<-d4];exact via d3 (cE ak _)
     rw[d4];have y:=C.2.1;obtain⟨hF,d9,b7⟩:=MN.fin H5 (c9.1.then d5) (aP d5 C.1) (by rw[y];exact c6) (by rw[y,C.2.2.2];exact C.2.2.1);rw[y,C.2.2.2]at hF;have r5:=ad hF;obtain⟨k1,k2,k3⟩:=cr d9;obtain⟨k4,k5,k6⟩:=cr b7;have k7:=(k1 r).trans (cg _ _ _ c6);have k8:=(k4 D).trans (cg _ _ _ C.2.2.1);have k9:=k2 r;have r6:=k5 D;have fI:fW ⟨c,a,d⟩ (cD ⟨c,a,d⟩ L m l) (k+1)=fW ⟨c,a,d⟩ (cD ⟨c,a,d⟩ L m l) k+(if gK (cD ⟨c,a,d⟩ L m l) k r=true then 0 else 1)+if aY ⟨c,a,d⟩ (cD ⟨c,a,d⟩ L m l) k D=true then 0 else 1:=by rw[fW,y,C.2.2.2]
     have h5:=ad fI;have h6:fW ⟨c,a,d⟩ (cD ⟨c,a,d⟩ L m l) k<=200:=QE (pG _ _ _ aa) aa;obtain⟨Y,F⟩:=ah (fW ⟨c,a,d⟩ (cD ⟨c,a,d⟩ L m l) k);rw[F]at h6 h5;simp only[F];have r7:QK.wrap ((Y:Int)+1)=((Y+1:Nat):Int):=bj;have r8:QK.wrap (((Y+1:Nat):Int)+1)=((Y+2:Nat):Int):=bj;clear d4 d3 d5 hF d9 b7 k1 k2 k4 k5 y fI F r1;cases d6:gK (cD ⟨c,a,d⟩ L m l) k r<;>cases d7:aY ⟨c,a,d⟩ (cD ⟨c,a,d⟩ L m l) k D
     all_goals
      rw[d6]at k7;rw[d7]at k8;have n4:=aB d6 d7;clear d6 d7;go_wp2
     all_goals exact⟨⟨k+1,_,by go_num,m7.1,by rw[h5.out,n4.1,n4.2];simp<;>omega,r5⟩,by have:=m7.1;simp[intOf];omega⟩
  .obtain rfl:k=min L 100:=aa;obtain⟨Y,F⟩:=ah (fW ⟨c,a,d⟩ (cD ⟨c,a,d⟩ L m l) (min L 100));have h6:Y<=200:=by rw[<-F];exact QE (pG _ _ _ aa) aa
   have r9:QK.wrap (2*(Y:Int))=((2*Y:Nat):Int):=by rw[show 2*(Y:Int)=((2*Y:Nat):Int)by omega];go_arith
   have a1:cR wr (a' ab n ac) n (fJ (ig (cD ⟨c,a,d⟩ L m l) f (min L 100))):=fX c4.all;have I:az.B ⟨c,a,d⟩*128=n:=by rw[show az.B ⟨c,a,d⟩=B from K.2.2.2.2.1];exact K.2.2.2.2.2.1
   have n5:QX (gN wr u7 (cD ⟨c,a,d⟩ L m l)/\cR wr (a' ab n ac) (az.B ⟨c,a,d⟩*128) (fJ (ig (cD ⟨c,a,d⟩ L m l) f (cD ⟨c,a,d⟩ L m l).n))/\au w wr/\Iw (a' ab n ac)):=⟨c4.NX rfl,by rw[I];exact a1,c4.dw,by obtain⟨t1,o6,Q,q2,-⟩:=eX c4.all;cases Q;exact q2⟩;have h7:QX (fW ⟨c,a,d⟩ (cD ⟨c,a,d⟩ L m l) (cD ⟨c,a,d⟩ L m l).n=Y):=F;rw[F];clear a1 I a6 F c5 j5 p1;by_cases e:L<=100
   .have J:min L 100=L:=WK e;simp only[J];clear J e;go_wp2;go_ret3;rw[h7.out];exact⟨_,_,rfl,n5⟩
   .have J:min L 100=100:=Nat.min_eq_right aa;have h1:(100:Int)<(L:Int):=aa;have h2:100<L:=aa;simp only[J];clear J e;go_wp2;go_ret3;rw[h7.out];exact⟨_,_,rfl,n5⟩
end
def NY:Option Nat->Int
 |none=> -1
 |some m=>(m:Nat)
def TP:List Nat:=44::et
structure xw[Lo](w:M)(P G:Nat)(Z:bm)(g:az)(a:Int)(aw:Option Nat)(V:bY)(C:Nat)(wn:Bool):Prop where
 pl:Mc w P G g Z.N Z.lz (eL g V) a wn
 jw:cw w G Z g
 inv:∃s u,Inv w Z g aw V C s u
 lo:Lo.lo<=P
theorem Mc.fr[Lo]{a:Bool}(h:Mc w n m g k d F c a)(b:Fr T aF w W)(e:T.contains 44=false)(f:T.contains 5=false):Mc W n m g k d F c a:=by obtain⟨i,j,l,o,p,q,r⟩:=h.aL;exact⟨i,j,l,o,b.hp p e,q.fr b f,r⟩
abbrev gO[Lo](w:M)(P G:Nat)(Z:bm)(g:az)(a:Option Nat)(V:bY)(C:Nat)(b:Bool):Prop:=xw w P G Z g (NY a) a V C b
theorem xw.below[Lo]{Z:bm}{b:Option Nat}{V:bY}(h:xw w n m Z g c b V C d)(a:au w W):xw W n m Z g c b V C d:=
 ⟨h.pl.fr (T:= []) (Fr.af a) rfl rfl,(a.block _ (Z_ h.jw)).trans h.jw,by obtain⟨s,u,q⟩:=h.inv;exact⟨s,u,q.below a⟩,h.lo⟩
def AK[Lo](Z:bm)(g:az)(a:Option Nat)(V:bY)(C:Nat)(d e:Rs->Su->Prop)(b:bq)(c:Nat)(W:M):Prop:=
 if 2*b.dK g+1>Z.N then c=122/\∃s u,Inv W Z g a V (C-250000) s u/\d s u else c=0/\∃s u,Inv W Z g a (b.dR g V) (C-250000) s u/\e s u
theorem AK.stay[Lo]{Z:bm}{c:Option Nat}{V:bY}{d f:Rs->Su->Prop}(h:AK Z g c V C d f K n W)(i:Fr [46] aF W w):AK Z g c V C d f K n w:=by
 unfold AK at h|-;split
 .rename_i e;rw[ao e]at h;obtain⟨b,s,u,a⟩:=h;exact⟨b,s,u,a.1.fr i rfl,a.2⟩
 .rename_i e;rw[aq e]at h;obtain⟨b,s,u,a⟩:=h;exact⟨b,s,u,a.1.fr i rfl,a.2⟩
theorem AK.cj[Lo]{Z:bm}{c:Option Nat}{V:bY}{d e:Rs->Su->Prop}(h:AK Z g c V C d e K n W):∃b,aC W Z.B b:=by
 unfold AK at h;split at h
 .obtain ⟨-,s,u,a⟩:=h;exact⟨_,a.1.ay.rs.cj⟩
 .obtain ⟨-,s,u,a⟩:=h;exact⟨_,a.1.ay.rs.cj⟩
theorem El[Lo]{Z:bm}{k:Option Nat}{V:bY}(A:cw w n Z g)(o:Inv w Z g k V C s u){l p:Rs->Su->Prop}(H:XH g k K l p)(G:l s u)(O:1000000<=C)(P:K.ok g)(Q:K.n<=256)(B:gN w x K):
  aE 11 #[ar n,fQ 2 0 0 0 x aW] w λe q=>∃b f,aK e (cX b aW f)/\Fr et aF w q/\AK Z g k V C l p K b q:=by
 refine(pE w n 31 true 2 0 0 0 x aW Z g (λb v W=>v= aW/\AK Z g k V C l p K b W) aJ rfl A ⟨_,o.ay.rs.cj⟩ (λW z=>?_) (λb v W h=>h.2.cj) (λb v W L h D=>⟨h.1,h.2.stay D⟩) o.low).mono ?_
 .refine (AI n Z g 2 0 0 0 x aW W (λb W=>AK Z g k V C l p K b W) ((z.block _ (Z_ A)).trans A) ⟨λL r=>?_,λb X N h D=>h.stay D,QE o.low z.size⟩).mono λe q ⟨b,i,d,t⟩=>⟨b,none,0,0,i,d,rfl,t⟩;have j:=(o.below z).below r;refine(Eb Z g k V C s u K x L j O P Q ((B.below z).below r) l p H G).mono ?_;intro e q y;unfold NV at y;rw[o.qq.1]at y;unfold AK;split at y
  .rename_i E;obtain⟨i,d⟩:=y;exact⟨122,i,Fr.af d,by rw[ao E];exact⟨rfl,s,u,(j.below d).less (YW _ _),G⟩⟩
  .rename_i E;obtain⟨i,S,T,d,F,t⟩:=y;exact⟨0,i,j.ay.wide t,by rw[aq E];exact⟨rfl,S,T,d,F⟩⟩
 .rintro e q ⟨b,a,m,c,f,i,d,t,U⟩;exact⟨b,f,by rw[i,t],d,U⟩
theorem Em(b:g.ok){L:Nat}{bk a:aQ}(c:∀i,i<L->a i<256):(cD g L bk a).ok g/\(cD g L bk a).n<=100:=
 ⟨⟨λ_ _=>RT _ (az.Ek b),λi d _ _=>c i (RJ d (ZH _ _))⟩,Nat.min_le_right _ _⟩
theorem gO.xx[Lo]{Z:bm}{b:Option Nat}{V:bY}{e:Int}(f:cw w m Z g)(i:∃s u,Inv w Z g b V C s u)(a:Fr [44] aF w W)(j:a_ W n (al #[Y g.M,Y g.c,Y g.s,Y Z.N,.bool Z.lz,H m,v,x,y,Y g.B,Y c,.bool d,.bool true,.int .u16 e,.bool false] 44))(k:cR w v (g.B*128) (fJ (eL g V)))(l:Iw v)(o:Lo.lo<=n):xw W n m Z g c b V C d:=
 ⟨⟨v,x,y,e,j,k.fr a rfl,l⟩,a.hp f rfl,by obtain⟨s,u,h⟩:=i;exact⟨s,u,h.fr a rfl⟩,o⟩
theorem gO.vw[Lo]{Z:bm}{a:Option Nat}{V:bY}{b:Int}(e:cw w m Z g)(f:∃s u,Inv w Z g a V C s u)(h:a_ w n (al #[Y g.M,Y g.c,Y g.s,Y Z.N,.bool Z.lz,H m,v,x,y,Y g.B,Y c,.bool d,.bool true,.int .u16 b,.bool false] 44))(i:cR w v (g.B*128) (fJ (eL g V)))(j:Iw v)(k:Lo.lo<=n):xw w n m Z g c a V C d:=gO.xx e f (Fr.refl _ _ _) h i j k
theorem gO.yU[Lo]{X:Rs->Su->Prop}{Z:bm}{a:Option Nat}{V:bY}{e:Int}(f:cw w m Z g)(i:∃s u,Inv w Z g a V C s u/\X s u)(b:Fr [44] aF w W)(j:a_ W n (al #[Y g.M,Y g.c,Y g.s,Y Z.N,.bool Z.lz,H m,v,x,y,Y g.B,Y c,.bool d,.bool true,.int .u16 e,.bool false] 44))(k:cR w v (g.B*128) (fJ (eL g V)))(l:Iw v)(o:Lo.lo<=n):xw W n m Z g c a V C d/\∃s u,Inv W Z g a V C s u/\X s u:=by obtain⟨s,u,h,p⟩:=i;exact⟨gO.xx f ⟨s,u,h⟩ b j k l o,s,u,h.fr b rfl,p⟩
theorem Ha[Lo](P G:Nat)(Z:bm)(g:az)(a:Int)(E:Option Nat)(V:bY)(C:Nat)(a7:Bool)(a8:QC)(L:Nat)(bk U:aQ)(w:QA)(h:xw w P G Z g a E V C a7)(c7:1000000<=C)(c8:Eh w a8 L bk U)(c9:L<=20000)(a9:∀i,i<L->bk i<65536)(b0:∀i,i<L->U i<256)(K X:Rs->Su->Prop)(H:XH g E (cD g L bk U) K X)(d0:∃s u,Inv w Z g E V C s u/\K s u):
  aE 12 #[ar P,a8] w λe b1=>aK e ed/\Fr TP aF w b1/\∃c3,xw b1 P G Z g a E c3 (C-250000) a7/\∃s u,Inv b1 Z g E c3 (C-250000) s u/\(K s u\/X s u):=by
 obtain⟨s0,u0,F,b2⟩:=d0;have M:=F.eK.b_;have b3:=F.low;have t:=ad (λW (O:au w W)=>G' P G g Z.N Z.lz (eL g V) a a7 a8 L bk U W (h.below O).pl M (by obtain⟨a,b4,rfl,q⟩:=c8;refine⟨a,b4,rfl,q.imp id ?_⟩;rintro⟨b,o,R,q3⟩;exact⟨b,o,R,λi r=>⟨(Out.af (S:=λ_=>False) O).cell (q3 i r).1 id,(Out.af (S:=λ_=>False) O).cell (q3 i r).2 id⟩⟩) c9 a9);obtain⟨b5,d3⟩:=Em (L:=L) (bk:=bk) M b0;obtain⟨k,b6⟩:=ah (cD g L bk U);rw[b6]at t b5 d3 H;rw[AB M b5]at t;obtain⟨a4,I⟩:=ah (k.dK g);obtain⟨N,Y⟩:=ah Z.N;have d4:=ad (λW pv (O:au w W) (b7:gN W pv k)=>El ((O.block _ (Z_ h.jw)).trans h.jw) (F.below O) H b2 c7 b5 aa b7);rw[I]at t;obtain⟨e1,e2,e3,e4,c4,b8,b9⟩:=h.pl.aL;obtain⟨J,wc,rfl,d5⟩:=b8;have f:=eM c4 h b3 (show cR w (.slice J (g.B*128) wc) (g.B*128) (fJ (eL g V))from⟨J,wc,rfl,d5⟩) M (show Iw (.slice J (g.B*128) wc)from b9);obtain⟨p1,p2,p3⟩:=cr c4;have c0:=aB I Y;rw[Y]at p1;go_enter func12,ntmps12;go_wp2_with(first
  |(go_at_call 23;refine(t _ (by first|exact ak|exact cE ak _)).mono ?_;rintro e w1 ⟨pv,e5,rfl,h1,h2,h3,h4⟩
    obtain⟨e6,e7,rfl⟩:∃a c,pv=.slice a k.n c:=by obtain⟨a,c,q,_⟩:=h1;exact⟨a,c,q⟩
    obtain⟨a5,a6,rfl⟩:=h2.form;obtain⟨k1,k2,k3⟩:=kp h3 P p3;have v:=aT h1 h2 h3 h4))
 refine(d4 w1 _ v.2.2.1 v.1).mono ?_;rintro e x ⟨c5,l,rfl,a0,m⟩;have y:=a0.hp ((v.2.2.1.block _ (Z_ f.1)).trans f.1) rfl;have d6:(c5=122/\∃s u,Inv x Z g E V (C-250000) s u/\(K s u\/X s u))/\N<2*a4+1\/(c5=0/\∃s u,Inv x Z g E (k.dR g V) (C-250000) s u/\(K s u\/X s u))/\2*a4+1<=N:=by
  unfold AK at m;rw[c0.1,c0.2]at m;split at m
  .obtain ⟨y1,s,u,y2,y3⟩:=m;exact .inl ⟨⟨y1,s,u,y2,.inl y3⟩,aa⟩
  .obtain ⟨y1,s,u,y2,y3⟩:=m;exact .inr ⟨⟨y1,s,u,y2,.inr y3⟩,aa⟩
 have z:=ad a0;rcases d6 with⟨⟨rfl,r⟩,d7⟩|⟨⟨rfl,r⟩,d7⟩
 .have d1:decide (2*(a4:Int)+1<=(N:Int))=false:=aR;have j:au x (x.alloc (al #[aG 122,aW,ae l] 46)):=aI ak _;have A:=QB x (al #[aG 122,aW,ae l] 46);have n:=(j.block _ (Z_ y)).trans y;obtain⟨t1,t2,t3⟩:=cr A;obtain⟨R,q2,q3⟩:=cr n;rw[c0.2]at R;have d:=aT r j n A;rw[d1];go_wp2_with fail;go_ret;refine⟨rfl,?_,V,?_⟩
  .exact ((((Fr.af (T:=TP) v.2.2.1).tr (z.wide TP rfl)).then d.2.1).set (p:=ag P 13) d.2.2.1 rfl f.2.1.lo _)
  .have B:=((Fr.af (T:=et) v.2.2.1).tr z).then d.2.1;exact gO.yU (B.hp f.2.1.jw rfl) (by obtain⟨s,u,r,c1⟩:=d.1;exact⟨s,u,r.below d.2.1,c1⟩) ((Fr.refl [44] aF _).set (p:=ag P 13) d.2.2.1 rfl f.2.1.lo _) (heap_setCell_same _ P 13 _ 44 _ d.2.2.1) (f.2.2.2.1.fr B rfl) f.2.2.2.2.2 f.2.1.lo
 .have d1:decide (2*(a4:Int)+1<=(N:Int))=true:=aR;have j:au x (x.alloc (al #[aG 0,aW,ae l] 46)):=aI ak _;have A:=QB x (al #[aG 0,aW,ae l] 46);have n:=(j.block _ (Z_ y)).trans y;obtain⟨t1,t2,t3⟩:=cr A;obtain⟨R,q2,q3⟩:=cr n;have B:=((Fr.af (T:=et) v.2.2.1).tr z).then j;have c2:∃s u,Inv (x.alloc (al #[aG 0,aW,ae l] 46)) Z g E (k.dR g V) (C-250000) s u/\(K s u\/X s u):=by obtain⟨s,u,r,c1⟩:=r;exact⟨s,u,r.below j,c1⟩
  have D:=v.2.1.fr (z.then j) rfl;have d:=aT c2 B n D;rw[d1];rcases Nat.eq_zero_or_pos k.n with e0|e0
  .rw [e0];go_wp2_with fail;go_ret;have c6:=(Fr.refl [44] aF _).set (p:=ag P 13) d.2.2.1 rfl f.2.1.lo (aG 0);have a1:=f.2.2.2.1.fr d.2.1 rfl;rw[<-vq (g:=g) e0 V]at a1;exact⟨rfl,(d.2.1.wide TP rfl).tr (c6.wide TP rfl),_,gO.yU (d.2.1.hp f.2.1.jw rfl) d.1 c6 (heap_setCell_same _ P 13 _ 44 _ d.2.2.1) a1 f.2.2.2.2.2 f.2.1.lo⟩
  .have d2:decide ((0:Int)<(k.n:Nat))=true:=aR;have D:=d.2.2.2;rw[show ig k (eL g V) k.n=eL g (k.dR g V)from funext λb=>(yQ M k V b).symm]at D;have a2:=ad D;have x1:=heap_setCell_same _ P 13 _ 44 (aG 0) d.2.2.1;have f1:=(Fr.refl [44] aF _).set (p:=ag P 13) d.2.2.1 rfl f.2.1.lo (aG 0);have x2:=heap_setCell_same _ P 7 _ 44 aW x1;have f2:=f1.set (p:=ag P 7) x1 rfl f.2.1.lo aW;have Q:=aB x2 f2;obtain⟨d8,a3⟩:=ah Z.lz;rw[a3]at R;have d9:=ad a3;cases d8
   .go_wp2_with fail;go_ret;have x3:=heap_setCell_same _ P 6 _ 44 (.slice a5 (g.B*128) a6) Q.1;have f3:=Q.2.set (p:=ag P 6) Q.1 rfl f.2.1.lo (.slice a5 (g.B*128) a6);exact⟨rfl,(d.2.1.wide TP rfl).tr (f3.wide TP rfl),_,gO.yU (d.2.1.hp f.2.1.jw rfl) d.1 f3 x3 a2 v.2.2.2 f.2.1.lo⟩
   .go_wp2_with fail;go_ret;have x3:=heap_setCell_same _ P 7 _ 44 (.slice J (g.B*128) wc) Q.1;have f3:=Q.2.set (p:=ag P 7) Q.1 rfl f.2.1.lo (.slice J (g.B*128) wc);have x4:=heap_setCell_same _ P 6 _ 44 (.slice a5 (g.B*128) a6) x3;have f4:=f3.set (p:=ag P 6) x3 rfl f.2.1.lo (.slice a5 (g.B*128) a6);exact⟨rfl,(d.2.1.wide TP rfl).tr (f4.wide TP rfl),_,gO.yU (d.2.1.hp f.2.1.jw rfl) d.1 f4 x4 a2 v.2.2.2 f.2.1.lo⟩
theorem XH.any(g:az)(a:Option Nat)(b:bq):XH g a b (λ_ _=>True) λ_ _=>True:=⟨λ_ _ _ _ _ _=>trivial,λ_ _ _ _ _ _ _ _ _ _ _ _=>trivial,λ_ _ _ _=>trivial⟩
theorem AL[Lo](P G:Nat)(Z:bm)(g:az)(a:Option Nat)(V:bY)(C:Nat)(b:Bool)(c:QC)(L:Nat)(d f:aQ)(w:M)(h:gO w P G Z g a V C b)(n:1000000<=C)(o:Eh w c L d f)(p:L<=20000)(j:∀i,i<L->d i<65536)(k:∀i,i<L->f i<256):
  aE 12 #[H P,c] w λe l=>aK e ed/\Fr TP aF w l/\∃m,gO l P G Z g a m (C-250000) b:=by
 obtain⟨s,u,q⟩:=h.inv;exact(Ha P G Z g (NY a) a V C b c L d f w h n o p j k _ _ (XH.any _ _ _) ⟨s,u,q,trivial⟩).mono λe l ⟨r,t,m,v,_⟩=>⟨r,t,m,v⟩
theorem En[Lo]{Z:bm}{q:Option Nat}{V:bY}(t:cw w i Z g)(x:Inv w Z g q V C s u)(D:1000<=C)(E:k+n<=g.B):
  aE 11 #[H i,fQ 1 0 n k aW aW] w λe f=>∃a c b,aK e (cX 0 (.slice a (n*128) c) b)/\Fr et aF w f/\cR f (.slice a (n*128) c) (n*128) (λj=>eL g V (k+j/128) (j%128))/\∃s u,Inv f Z g q V (C-1000) s u:=by
 refine(pE w i 30 true 1 0 n k aW aW Z g (λr v W=>r=0/\∃a c,v=.slice a (n*128) c/\cR W v (n*128) (λj=>eL g V (k+j/128) (j%128))/\∃s u,Inv W Z g q V (C-1000) s u) aJ rfl t ⟨_,x.ay.rs.cj⟩ (λW y=>?_) (λr v W h=>?_) (λr v W K h z=>?_) x.low).mono ?_
 .refine (Ec Z g q V C i s u 1 k n 0 aW aW W (x.below y) ((y.block _ (Z_ t)).trans t) D E).mono λe f ⟨a,c,l,o,p,d⟩=>⟨0,a,n*128,c,l,p,rfl,a,c,rfl,o,d⟩
 .obtain ⟨-,a,c,-,-,A,B,d⟩:=h;exact⟨_,d.ay.rs.cj⟩
 .obtain ⟨l,a,c,o,p,A,B,d⟩:=h;exact⟨l,a,c,o,p.fr z rfl,A,B,d.fr z rfl⟩
 .rintro e f ⟨r,a,m,c,b,l,o,p,L,O,d,F,G⟩;cases d;subst p;exact⟨_,_,b,l,o,F,G⟩
theorem Hb{n a lo hi:Nat}(h:cR w (.slice P n a) n f)(k:lo<=hi)(l:hi<=n)(m:n<=a):cR w (.slice (if a=lo then P else P.map λx=>x.add lo) (hi-lo) (a-lo)) (hi-lo) λj=>f (lo+j):=by
 obtain⟨p,q,e,h⟩:=h;cases e;refine⟨_,_,rfl,?_⟩;by_cases e:hi=lo
 .exact .inl J
 rw[aq J];rcases h with h|⟨b,o,c,d,g,i,h⟩
 .exact absurd h J
 refine .inr ⟨b,o+lo,c,d,by rw[g];simp[Addr.add],i,λj r=>?_⟩;rw[UO];exact h _ J
theorem Eo(j:Nat):fJ F (k*128+j)=F (k+j/128) (j%128):=by unfold fJ;rw[show(k*128+j)/128=k+j/128 by omega,show(k*128+j)%128=j%128 by omega]
theorem JV[Lo](P G:Nat)(Z:bm)(g:az)(a:Int)(I:Option Nat)(V:bY)(C:Nat)(Y:Bool)(k n:Nat)(w:QA)(h:xw w P G Z g a I V C Y)(a3:1000<=C)(a4:k+n<=g.B):
  aE 10 #[ar P,ae k,ae n] w λe p=>aK e (.tuple #[.bool true,aG 0])/\Fr TP aF w p/\xw p P G Z g a I V (C-1000) Y:=by
 obtain⟨s0,u0,r⟩:=h.inv;have J:=r.eK.b_;have T:=r.low;have a5:=ad (λW (a0:au w W)=>En ((a0.block _ (Z_ h.jw)).trans h.jw) (r.below a0) a3 a4);have a6:=az.JT J;obtain⟨b0,b1,b2,b3,a1,U,l⟩:=h.pl.aL;obtain⟨y,wc,rfl,a7⟩:=U;have l:g.B*128<=wc:=l;have A:=eM a1 h T (show cR w (.slice y (g.B*128) wc) (g.B*128) (fJ (eL g V))from⟨y,wc,rfl,a7⟩) J (show Iw (.slice y (g.B*128) wc)from l);obtain⟨p1,p2,p3⟩:=cr a1;obtain⟨Q,B⟩:=ah (k+n);obtain⟨lo,D⟩:=ah (k*128);obtain⟨hi,X⟩:=ah (Q*128);have e1:QK.wrap ((k:Int)*128)=((lo:Nat):Int):=by rw[show(k:Int)*128=((lo:Nat):Int)by omega];go_arith
 have e2:QK.wrap ((k:Int)+n)=((Q:Nat):Int):=by rw[<-B];go_arith
 have e3:QK.wrap ((Q:Int)*128)=((hi:Nat):Int):=by rw[show(Q:Int)*128=((hi:Nat):Int)by omega];go_arith
 have s0:(0:Int)<=lo:=aa;have s1:(lo:Int)<=hi:=aa;have s2:(hi:Int)<=wc:=aa;have b:=aM D X B;go_enter func10,ntmps10;go_wp2_with fail;refine(a5 w ak).mono ?_;rintro e m ⟨q,c,d,rfl,t,E,H⟩;have F:=t.hp A.1 rfl;have i:au m (m.alloc (al #[aG 0,.slice q (n*128) c,ae d] 46)):=aI ak _;have N:=QB m (al #[aG 0,.slice q (n*128) c,ae d] 46);have K:=(i.block _ (Z_ F)).trans F;obtain⟨t1,t2,t3⟩:=cr N;obtain⟨q1,q2,q3⟩:=cr K;have L:=t.then i;have O:=A.2.2.2.1.fr L rfl;have z:=j_ L (E.below i) H K O i t;have S:QX (∀W,SC (m.alloc (al #[aG 0,.slice q (n*128) c,ae d] 46)).heap.size (m.alloc (al #[aG 0,.slice q (n*128) c,ae d] 46)) W->aE 18 #[.slice q (n*128) c,.slice (if wc=lo then y else y.map λx=>x.add lo) (hi-lo) (wc-lo)] W λe p=>aK e ed/\SC (m.alloc (al #[aG 0,.slice q (n*128) c,ae d] 46)).heap.size (m.alloc (al #[aG 0,.slice q (n*128) c,ae d] 46)) p):=λW M=>by
  have a8:n*128=hi-lo:=by have:=b.1;have:=b.2.1;have:=b.2.2;omega
  have a9:=(E.below i).below M;have a2:=Hb (lo:=lo) (hi:=hi) ((O).below M) aa (by have:=b.2.1;have:=b.2.2;omega) l;rw[show(λj=>fJ (eL g V) (lo+j))=λj=>eL g V (k+j/128) (j%128)from funext λj=>by rw[<-b.1];exact Eo j]at a2;refine(BP _ _ _ _ _ _ W a9.Bz a2.Bz (by have:=b.2.1;have:=b.2.2;omega)).mono λe p ⟨h1,h2⟩=>⟨by rw[h1,show∀f,qC (n*128) (hi-lo) f f=true fromλf=>by rw[a8];exact iZ λ_ _=>rfl],via M h2⟩
 have R:QX (wc=lo\/¬wc=lo):=Decidable.em _;rcases R.out with o|o
 all_goals
  first|(rw[ao o]at S;subst o;rw[Nat.sub_self]at S)|rw[aq o]at S
  go_wp2_with fail;go_region_held3(λp=>p.cell? (ag m.heap.size 1)=some (.slice q (n*128) c)/\p.cell? (ag P 6)=some (.slice y (g.B*128) wc)) ((simp[*,go_sem];done)) (first|(go_at_call 18;refine(S _ (by first|exact ak|exact cE ak _)).mono ?_;rintro e w4 ⟨rfl,v⟩;obtain⟨k1,k2,k3⟩:=kp v P q3;obtain⟨k4,k5,k6⟩:=kp v m.heap.size t3;have H4:=ad v));go_wp2;go_ret2;refine⟨rfl,(z.1.wide TP rfl).then H4,?_⟩;exact(gO.vw (z.1.hp A.2.1.jw rfl) (by obtain⟨s,u,hi⟩:=z.2.2.1;exact⟨s,u,hi.below z.2.2.2.2.2.1⟩) z.2.2.2.1 z.2.2.2.2.1 A.2.2.2.2.2 A.2.1.lo).below H4
theorem vx[Lo](P G:Nat)(Z:bm)(g:az)(a:Option Nat)(V:bY)(C:Nat)(b:Bool)(k n:Nat)(w:M)(h:gO w P G Z g a V C b)(d:1000<=C)(f:k+n<=g.B):
  aE 10 #[H P,Y k,Y n] w λe c=>aK e (.tuple #[.bool true,aG 0])/\Fr TP aF w c/\gO c P G Z g a V (C-1000) b:=JV P G Z g (NY a) a V C b k n w h d f
theorem Ep[Lo]{Z:bm}{o:Option Nat}{V:bY}(x:cw w n Z g)(t:Inv w Z g o V C s u)(E:1000000<=C):
  aE 11 #[H n,fQ 3 0 0 0 aW aW] w λe p=>∃i,aK e (cX 0 aW i)/\Fr et aF w p/\∃s u,Inv p Z g o V (C-250000) s u:=by
 refine(pE w n 32 true 3 0 0 0 aW aW Z g (λb v W=>b=0/\v= aW/\∃s u,Inv W Z g o V (C-250000) s u) aJ rfl x ⟨_,t.ay.rs.cj⟩ (λW y=>?_) (λb v W h=>?_) (λb v W B h z=>?_) t.low).mono ?_
 .refine (AJ n Z g 3 0 0 0 aW aW W (λb W=>b=0/\∃s u,Inv W Z g o V (C-250000) s u) ((y.block _ (Z_ x)).trans x) ⟨λB A=>?_,λb F G h z=>?_,QE t.low y.size⟩).mono λe p ⟨b,d,f,j⟩=>⟨b,none,0,0,d,f,j.1,rfl,j.2⟩
  .have q:=(t.below y).below A;refine(DI Z g o V C s u B q J).mono ?_;rintro e p ⟨d,k,l,f,-,j⟩;exact⟨0,d,q.ay.wide j,rfl,k,l,f.less J⟩
  .obtain ⟨d,k,l,f⟩:=h;exact⟨d,k,l,f.fr z rfl⟩
 .obtain ⟨-,-,k,l,r⟩:=h;exact⟨_,r.ay.rs.cj⟩
 .obtain ⟨d,f,k,l,r⟩:=h;exact⟨d,f,k,l,r.fr z rfl⟩
 .rintro e p ⟨b,a,m,c,i,d,f,j,r,D⟩;exact⟨i,by rw[d,j,r],f,D⟩
theorem AM[Lo](P G:Nat)(Z:bm)(g:az)(l:Option Nat)(V:bY)(C:Nat)(x:Bool)(w:QA)(h:gO w P G Z g l V C x)(D:1000000<=C):
  aE 19 #[ar P] w λe y=>aK e (aG 0)/\Fr TP aF w y/\gO y P G Z g l V (C-250000) x:=by
 obtain⟨L,O,m⟩:=h.inv;have E:=ad (λW (z:au w W)=>Ep ((z.block _ (Z_ h.jw)).trans h.jw) (m.below z) D);obtain⟨Q,S,T,U,A,n,o⟩:=h.pl.aL;obtain⟨B,wc,rfl,F⟩:=n;have c:=aT A h (show cR w (.slice B (g.B*128) wc) (g.B*128) (fJ (eL g V))from⟨B,wc,rfl,F⟩) o;obtain⟨X,H,N⟩:=cr A;go_enter func19,ntmps19;go_wp2_with fail;refine(E w ak).mono ?_;rintro e k ⟨a,rfl,f,q⟩;have i:=f.hp c.1 rfl;have b:au k (k.alloc (al #[aG 0,aW,Y a] 46)):=aI ak _;have r:=QB k (al #[aG 0,aW,Y a] 46);have j:=(b.block _ (Z_ i)).trans i;obtain⟨t1,t2,t3⟩:=cr r;obtain⟨M,R,I⟩:=cr j;have t:=f.then b;have v:∃s u,Inv (k.alloc (al #[aG 0,aW,Y a] 46)) Z g l V (C-250000) s u:=by obtain⟨s,u,K⟩:=q;exact⟨s,u,K.below b⟩
 have d:=aM t v j;go_wp2_with fail;go_ret;have f1:=(Fr.refl [44] aF _).set (p:=ag P 7) d.2.2 rfl c.2.1.lo aW;exact⟨rfl,(d.1.wide TP rfl).tr (f1.wide TP rfl),gO.xx (d.1.hp c.2.1.jw rfl) d.2.1 f1 (heap_setCell_same _ P 7 _ 44 _ d.2.2) (c.2.2.1.fr d.1 rfl) c.2.2.2 c.2.1.lo⟩
theorem Inv.qp[Lo]{Z:bm}{V:bY}(h:Inv w Z g none V C s u)(a:m<g.M):Inv w Z g (some m) V C s u:=
 ⟨h.ay,h.gt.qp a,h.eK,h.n_,λk b e=>absurd (h.only k b e) (by intro e;cases e),h.gI,h.fit,h.ev,h.same,h.qq⟩
theorem Inv.whole[Lo]{Z:bm}{c:Option Nat}{V:bY}(h:Inv w Z g c V C s u)(a:bh s.b)(b:∀k,k<g.M->u.st k=1):Inv w Z g none V C s u:=
 ⟨h.ay,h.gt.whole a λm r=>by
  have d:=h.n_ m;have f:s.ro.fr m=none:=by
   rw[d];split
   .rename_i e;unfold dM;rw[ao (b m e)]
   .rfl
  unfold Ro.down;rw[f],h.eK,h.n_,λk i e=>absurd (b k i) e,λ⟨_,_⟩=>a,h.fit,h.ev,h.same,h.qq⟩
structure JW[Lo](Z:bm)(Q:M->Prop):Prop where
 cj:∀W,Q W->∃b,aC W Z.B b
 stay:∀W W',Q W->Fr [46] aF W W'->Q W'
theorem JX[Lo](w:M)(G d:Nat)(s:Bool)(j:Nat)(l n:Int)(Z:bm)(g:az)(Q:M->Prop)(H:JW Z Q)(o:d=30\/d=31\/d=32\/d=33\/d=34\/d=35\/d=36\/d=37\/d=38\/d=39)(t:GS (j:Nat)=some (.agg #[.func (.func d) #[] #[],.bool s]))(u:cw w G Z g)(x:∃b,aC w Z.B b)(y:Lo.lo<=w.heap.size)(z:∀W,au w W->aE d #[ar G,fQ j l n 0 aW aW] W λe f=>aK e (cX 0 aW 0)/\Fr et aF W f/\Q f):
  aE 11 #[ar G,fQ j l n 0 aW aW] w λe f=>∃i,aK e (cX 0 aW i)/\Fr et aF w f/\Q f:=by
 refine(pE w G d s j l n 0 aW aW Z g (λk v W=>k=0/\v= aW/\Q W) o t u x (λW A=>?_) (λk v W h=>H.cj W h.2.2) (λk v W B h C=>⟨h.1,h.2.1,H.stay W B h.2.2 C⟩) y).mono ?_
 .exact (z W A).mono λe f ⟨p,q,r⟩=>⟨0,none,0,0,p,q,rfl,rfl,r⟩
 .rintro e f ⟨k,a,m,c,i,p,q,r,D,E⟩;exact⟨i,by rw[p,r,D],q,E⟩
theorem yV[Lo](Z:bm)(g:az)(a:Option Nat)(V:bY)(C:Nat):JW Z (λW=>∃s u,Inv W Z g a V C s u):=
 ⟨λ_ ⟨_,_,h⟩=>⟨_,h.ay.rs.cj⟩,λ_ _ ⟨s,u,h⟩ b=>⟨s,u,h.fr b rfl⟩⟩
theorem Er[Lo]{Z:bm}{V:bY}(j:cw w i Z g)(b:Inv w Z g none V C s u)(m n:Nat)(y:m<g.M)(E:n<=1000):
  aE 11 #[H i,fQ 8 m n 0 aW aW] w λe f=>∃l,aK e (cX 0 aW l)/\Fr et aF w f/\∃s u,Inv f Z g (some m) V C s u:=by
 refine JX w i 37 false 8 m n Z g _ (yV Z g (some m) V C) aJ rfl j ⟨_,b.ay.rs.cj⟩ b.low λW o=>?_;refine(Ef i Z g 8 m n 0 aW aW W (λp W=>p=0/\∃s u,Inv W Z g (some m) V C s u) ((o.block _ (Z_ j)).trans j) ⟨λz q=>?_,λp F G ⟨c,s,u,d⟩ A=>⟨c,s,u,d.fr A rfl⟩,QE b.low o.size⟩).mono λe f ⟨p,c,d,h,B⟩=>⟨by rw[c,h],d,B⟩;have a:=(((b.below o).below q).qp y);have D:=a.gt.gd.N;obtain⟨v,r⟩:=GM (k:=m) b.gt.gd.dev.gI (by rw[D];omega);refine(Cl Z.B m n s.b v z a.ay.rs.cj J r J).mono ?_;rintro e f ⟨c,d,h⟩;have t:∀k,k<g.M->u.st k=1:=λk x=>Decidable.by_contra λe=>by have:=b.only k x e;cases this
 exact⟨0,c,h.wide et rfl,rfl,_,u,(a.DF.cj d h (a.gt.fN rfl r) (a.fit.put r ⟨rfl,QH _⟩)).up λ⟨k,x,e⟩=>by rw[t k x]at e;cases e⟩
theorem vy[Lo]{Z:bm}{V:bY}(m:Nat)(h:cw w n Z g)(d:Inv w Z g (some m) V C s u)(p:m<g.M)(q:1000<=C):
  aE 11 #[H n,fQ 4 m 0 0 aW aW] w λe f=>∃i,aK e (cX 0 aW i)/\Fr et aF w f/\∃s u,Inv f Z g (some m) V (C-1000) s u:=by
 refine JX w n 33 false 4 m 0 Z g _ (yV Z g (some m) V (C-1000)) aJ rfl h ⟨_,d.ay.rs.cj⟩ d.low λW j=>?_;refine(Ee n Z g 4 m 0 0 aW aW W (λk W=>k=0/\∃s u,Inv W Z g (some m) V (C-1000) s u) ((j.block _ (Z_ h)).trans h) ⟨λy l=>?_,λk z A ⟨a,s,u,b⟩ r=>⟨a,s,u,b.fr r rfl⟩,QE d.low j.size⟩).mono λe f ⟨k,a,b,o,t⟩=>⟨by rw[a,o],b,t⟩;have c:=(d.below j).below l;refine(yP m c.DF p q).mono ?_;rintro e f ⟨a,v,x,b,-,-,o⟩;exact⟨0,a,c.ay.wide o,rfl,v,x,b⟩
theorem Es[Lo](Z:bm)(g:az)(a:Option Nat)(V:bY)(C:Nat)(X:Rs->Su->Prop):JW Z (λW=>∃s u,Inv W Z g a V C s u/\X s u):=
 ⟨λ_ ⟨_,_,h,_⟩=>⟨_,h.ay.rs.cj⟩,λ_ _ ⟨s,u,h,b⟩ c=>⟨s,u,h.fr c rfl,b⟩⟩
theorem Et[Lo]{Z:bm}{V:bY}(m:Nat)(a:cw w n Z g)(b:Inv w Z g (some m) V C s u)(h:m<g.M)(i:200000<=C):
  aE 11 #[H n,fQ 5 m 0 0 aW aW] w λe c=>∃d,aK e (cX 0 aW d)/\Fr et aF w c/\∃s u,Inv c Z g (some m) V (C-40000) s u/\u.st m=3/\u.cur=0:=by
 refine JX w n 34 true 5 m 0 Z g _ (Es Z g (some m) V (C-40000) λs u=>u.st m=3/\u.cur=0) aJ rfl a ⟨_,b.ay.rs.cj⟩ b.low λW f=>?_;refine(vr Z g m V C n s u 5 0 0 aW aW W (b.below f) ((f.block _ (Z_ a)).trans a) h i).mono ?_;rintro e c ⟨j,k,l,o,p,q,r,-⟩;exact⟨j,k,l,o,p,q,r⟩
theorem Hc[Lo]{Z:bm}{V:bY}(m:Nat)(c:cw w n Z g)(d:Inv w Z g (some m) V C s u)(f:m<g.M)(h:200000<=C):
  aE 11 #[H n,fQ 5 m 0 0 aW aW] w λe b=>∃a,aK e (cX 0 aW a)/\Fr et aF w b/\∃s u,Inv b Z g (some m) V (C-40000) s u:=
 (Et m c d f h).mono λ_ _ ⟨a,i,j,s,u,k,_⟩=>⟨a,i,j,s,u,k⟩
def AN[Lo](Z:bm)(g:az)(d:Option Nat)(V:bY)(C:Nat)(b:Su)(a:Bool)(c:Nat)(W:QA):Prop:=
 ((c=160/\a=false)\/c=0)/\∃s u,Inv W Z g d V C s u/\(a=true->bh s.b/\∀k,k<g.M->u.st k=1)/\∀m,m<g.M->b.st m=3->c=0/\a=decide (b.cur+1=g.s)/\bh s.b/\(a=false->u.st m=3/\u.cur=b.cur+1)
theorem AN.fr[Lo]{Z:bm}{a:Option Nat}{V:bY}{b:Su}(h:AN Z g a V C b d n W)(c:Fr T aF W w)(e:(120::122::TA).all (λt=> !T.contains t)=true):AN Z g a V C b d n w:=by obtain⟨f,s,u,i,j⟩:=h;exact⟨f,s,u,i.fr c e,j⟩
theorem Eu[Lo]{Z:bm}{t:Option Nat}{V:bY}(D:cw w n Z g)(z:Inv w Z g t V C s u)(Q:200000<=C):
  aE 11 #[ar n,fQ 6 0 0 0 aW aW] w λe q=>∃(f:Bool) (b:Nat) (a:Option SZ) (m c:Nat) (r:Int),aK e (cX b (.slice a m c) r)/\Fr et aF w q/\AN Z g t V (C-30000) u f b q/\((b=160/\m=0)\/(b=0/\m=1/\cR q (.slice a 1 c) 1 λ_=>if f=true then 1 else 0)):=by
 refine(pE w n 35 true 6 0 0 0 aW aW Z g (λb v W=>∃f,AN Z g t V (C-30000) u f b W/\((b=160/\v= aW)\/(b=0/\∃a c,v=.slice a 1 c/\cR W v 1 λ_=>if f=true then 1 else 0))) aJ rfl D ⟨_,z.ay.rs.cj⟩ (λW E=>?_) (λb v W h=>?_) (λb v W F h A=>?_) z.low).mono ?_
 .refine (Eg n Z g 6 0 0 0 aW aW W (λf b W=>AN Z g t V (C-30000) u f b W) ((E.block _ (Z_ D)).trans D) ⟨λF G=>?_,λf b T U h A=>h.fr A rfl,QE z.low E.size⟩).mono ?_
  .have j:=(z.below E).below G;by_cases i:∃m,m<g.M/\u.st m=3
   .obtain ⟨m,L,i⟩:=i;obtain rfl:=j.only m L (by rw[i];decide);refine(GQ Z g m V C s u F j L i Q).mono ?_;rintro e q ⟨l,O,P,d,o,x,B⟩;refine⟨_,0,l,j.ay.wide x,.inr rfl,O,P,d,λK=>⟨o,?_⟩,λk y S=>⟨rfl,rfl,o,λK=>?_⟩⟩
    .rw [ao (of_decide_eq_true K)]at B;exact B
    .rw [aq (of_decide_eq_false K)]at B;have:=j.only k y (by rw[S];decide);cases this;exact B
   .refine (AD Z g t V C s u F j λk y e=>i ⟨k,y,e⟩).mono ?_;rintro e q ⟨l,p,d⟩;exact⟨false,160,l,j.ay.wide d,.inl ⟨rfl,rfl⟩,s,u,p.less (YW _ _),(λe=>by cases e),λk y e=>absurd ⟨k,y,e⟩ i⟩
  .rintro e q ⟨f,b,l,p,i⟩;rcases i with⟨i,d⟩|⟨i,a,c,d,o⟩
   .have x:b=160:=by
     rcases p.1 with h|h
     .exact h.1
     .exact absurd h i
    exact⟨b,none,0,0,d,l,f,p,.inl ⟨x,rfl⟩⟩
   .exact ⟨0,a,1,c,d,l,f,i▸p,.inr ⟨rfl,a,c,rfl,o⟩⟩
 .obtain ⟨f,⟨-,O,P,d,-⟩,-⟩:=h;exact⟨_,d.ay.rs.cj⟩
 .obtain ⟨f,l,p⟩:=h;refine⟨f,l.fr A rfl,p.imp id ?_⟩;rintro⟨i,a,c,d,o⟩;exact⟨i,a,c,d,o.fr A rfl⟩
 .rintro e q ⟨b,a,m,c,r,l,p,f,i,d⟩;refine⟨f,b,a,m,c,r,l,p,i,?_⟩;rcases d with⟨d,o⟩|⟨d,X,H,o,x⟩
  .cases o;exact .inl ⟨d,rfl⟩
  .cases o;exact .inr ⟨d,rfl,x⟩
section
@[reducible] def sV (kd x y:Nat)(la:Option SZ)(L lc:Nat)(ra:Option SZ)(rn rc:Nat):QC:=.agg #[bx kd,bx x,bx y,.slice la L lc,.slice ra rn rc]
theorem xw.less[Lo]{w:M}{P G:Nat}{Z:bm}{g:az}{a:Int}{aw:Option Nat}{V:bY}{C b:Nat}{wn:Bool}(h:xw w P G Z g a aw V C wn)(c:b<=C):xw w P G Z g a aw V b wn:=
 ⟨h.pl,h.jw,by obtain⟨s,u,q⟩:=h.inv;exact⟨s,u,q.less c⟩,h.lo⟩
theorem gO.less[Lo]{w:M}{P G:Nat}{Z:bm}{g:az}{aw:Option Nat}{V:bY}{C a:Nat}{wn:Bool}(h:gO w P G Z g aw V C wn)(b:a<=C):gO w P G Z g aw V a wn:=xw.less h b
def sW[Lo](P G:Nat)(Z:bm)(g:az)(C:Nat)(w:M)(e:RW)(a:M):Prop:=aK e ed/\Fr TP aF w a/\∃aw V wn,gO a P G Z g aw V (C-250000) wn
theorem ob[Lo]{w:M}{T:Nat}(h:a_ w T z46)(c:Lo.lo<=T)(b:Nat)(v:QC)(a:Int):
  (((w.setCell (R T 0) (.int .u16 b)).setCell (R T 1) v).setCell (R T 2) (Y a)).heap[T]?=some (N #[.int .u16 b,v,Y a] 46)/\Fr [46] aF w (((w.setCell (R T 0) (.int .u16 b)).setCell (R T 1) v).setCell (R T 2) (Y a)):=by
 have d:=heap_setCell_same w T 0 _ 46 (.int .u16 b) h;have e:=heap_setCell_same _ T 1 _ 46 v d;have f:=heap_setCell_same _ T 2 _ 46 (Y a) e;exact⟨f,(((Fr.refl [46] aF w).set (p:=R T 0) h rfl c _).set (p:=R T 1) d rfl c _).set (p:=R T 2) e rfl c _⟩
section
variable [Lo] (P G:Nat) (Z:bm) (g:az) (aw:Option Nat) (V:bY) (C:Nat) (wn:Bool) (kd x y L lc rn rc:Nat) (la ra:Option SZ) (w:QA) (h:gO w P G Z g aw V C wn) (hC:1000000<=C) (hkd:kd<256) (hx:x<256) (hy:y<256)
include h hC hkd hx hy
theorem AO(c d:aQ)(z:Eh w (.slice la L lc) L c d)(A:L<=20000)(f:∀i,i<L->c i<65536)(j:∀i,i<L->d i<256)(B:kd%12<5):
  aE 9 #[ar P,sV kd x y la L lc ra rn rc] w (sW P G Z g C w):=by
 have _:=hkd;have _:=hx;have _:=hy;have k:au w (w.alloc (al #[bx kd,bx x,bx y,.slice la L lc,.slice ra rn rc] 34)):=aI ak _;have D:=QB w (al #[bx kd,bx x,bx y,.slice la L lc,.slice ra rn rc] 34);have E:=ad (λW (l:au w W)=>AL P G Z g aw V C wn (.slice la L lc) L c d W (h.below l) hC (by obtain⟨a,m,e,q⟩:=z;refine⟨a,m,e,q.imp id ?_⟩;rintro⟨b,o,F,r⟩;exact⟨b,o,F,λi s=>⟨(Out.af (S:=λ_=>False) l).cell (r i s).1 id,(Out.af (S:=λ_=>False) l).cell (r i s).2 id⟩⟩) A f j);obtain⟨Q,T,U⟩:=cr D;obtain⟨q,t⟩:=ah (kd%12);rw[t]at B;have X:((kd:Nat):Int).tmod 12=((q:Nat):Int):=by rw[<-t];exact SI _ _
 have H:ZC.wrap ((q:Nat):Int)=((q:Nat):Int):=bj;have n:=ad k;go_enter func9,ntmps9;go_wp2_with(first|(go_at_call 12;refine(E _ (by first|exact n|exact cE n _)).mono ?_;rintro e N ⟨rfl,K,O,u⟩;have v:=aB K u;obtain⟨M,R,I,Y,p,-,-⟩:=u.pl.aL;obtain⟨J,p2,p3⟩:=cr p));go_ret;exact⟨rfl,(Fr.af n).tr v.1,aw,O,wn,v.2⟩
theorem Ev(r:kd%12=5\/kd%12=6):
  aE 9 #[ar P,sV kd x y la L lc ra rn rc] w (sW P G Z g C w):=by
 have _:=hkd;have c:au w (w.alloc (al #[bx kd,bx x,bx y,.slice la L lc,.slice ra rn rc] 34)):=aI ak _;have A:=QB w (al #[bx kd,bx x,bx y,.slice la L lc,.slice ra rn rc] 34);have s:=ad (λW k n (j:k+n<=g.B) (l:au w W)=>vx P G Z g aw V C wn k n W (h.below l) aa j);obtain⟨T,U,d⟩:=h.inv;have f:=az.Ek d.eK.b_;have m:=az.JT d.eK.b_;obtain⟨X,H,N,M,o,-,-⟩:=(h.below c).pl.aL;obtain⟨D,R,I⟩:=cr o;obtain⟨Y,J,a3⟩:=cr A;obtain⟨B,E⟩:=ah g.B;rw[E]at D f m s;obtain⟨k,j⟩:=ah (x%B);have F:k<B:=by rw[<-j];exact RT _ f
 obtain⟨i,K⟩:=ah (B-k);obtain⟨a,O⟩:=ah (i+1);obtain⟨n,t⟩:=ah (y%a);have gb:n<a:=by rw[<-t];exact RT _ aa
 have m1:((x:Nat):Int).tmod (B:Nat)=((k:Nat):Int):=by rw[<-j];exact SI _ _
 have m2:((y:Nat):Int).tmod (a:Nat)=((n:Nat):Int):=by rw[<-t];exact SI _ _
 have z1:¬(B:Int)=0:=aa;have z2:¬B=0:=aa;have z3:¬(a:Int)=0:=aa;have z4:¬a=0:=aa;have v1:QK.wrap ((x:Nat):Int)=((x:Nat):Int):=bj;have v2:QK.wrap ((y:Nat):Int)=((y:Nat):Int):=bj;have v3:QK.wrap ((B:Int)-k)=((i:Nat):Int):=by rw[show(B:Int)-k=((i:Nat):Int)by omega];go_arith
 have v4:QK.wrap ((i:Int)+1)=((a:Nat):Int):=by rw[show(i:Int)+1=((a:Nat):Int)by omega];go_arith
 have v5:QK.wrap ((k:Nat):Int)=((k:Nat):Int):=bj;have v6:QK.wrap ((n:Nat):Int)=((n:Nat):Int):=bj;have p:=ad (λW (l:au w W)=>(s W k n aa l).mono λe u b=>show aK e (.tuple #[.bool true,aG 0])/\Fr TP aF w u/\gO u P G Z g aw V (C-1000) wn from⟨b.1,(Fr.af l).tr b.2.1,b.2.2⟩);have v:=ad c;obtain⟨q,b⟩:=ah (kd%12);rw[b]at r;have e1:((kd:Nat):Int).tmod 12=((q:Nat):Int):=by rw[<-b];exact SI _ _
 rcases r with rfl|rfl
 all_goals
  go_enter func9,ntmps9;go_wp2_with fail;go_quiet(fail);go_wp2_with fail;go_quiet(fail);go_wp2_with(first|(go_at_call 10;refine(p _ (by first|exact v|exact cE v _)).mono ?_;rintro e w2 ⟨rfl,Q,S⟩;have z:=aB Q S));go_ret;exact⟨rfl,z.1,aw,V,wn,z.2.less aa⟩
theorem AP(j:kd%12=7):
  aE 9 #[H P,sV kd x y la L lc ra rn rc] w (sW P G Z g C w):=by
 have _:=hkd;have _:=hx;have _:=hy;have a:au w (w.alloc (N #[bx kd,bx x,bx y,.slice la L lc,.slice ra rn rc] 34)):=aI ak _;have k:=QB w (N #[bx kd,bx x,bx y,.slice la L lc,.slice ra rn rc] 34);have l:=I (λW (c:au w W)=>(AM P G Z g aw V C wn W (h.below c) hC).mono λe d b=>show aK e (aG 0)/\Fr TP aF w d/\gO d P G Z g aw V (C-250000) wn from⟨b.1,(Fr.af c).tr b.2.1,b.2.2⟩);obtain⟨o,p,q⟩:=cr k;have r:((kd:Nat):Int).tmod 12=((7:Nat):Int):=by rw[<-j];exact SI _ _
 have f:=I a;go_enter func9,ntmps9;go_wp2_with(first|(go_at_call 19;refine(l _ (by first|exact f|exact cE f _)).mono ?_;rintro e s ⟨rfl,m,n⟩;have i:=aB m n));go_ret;exact⟨rfl,i.1,aw,V,wn,i.2⟩
theorem Ew(N:kd%12=9):
  aE 9 #[ar P,sV kd x y la L lc ra rn rc] w (sW P G Z g C w):=by
 have _:=hkd;have _:=hx;have _:=hy;have b:au w (w.alloc (al #[bx kd,bx x,bx y,.slice la L lc,.slice ra rn rc] 34)):=aI ak _;have M:=QB w (al #[bx kd,bx x,bx y,.slice la L lc,.slice ra rn rc] 34);obtain⟨a1,a2,a3⟩:=cr M;have e1:((kd:Nat):Int).tmod 12=((9:Nat):Int):=by rw[<-N];exact SI _ _
 obtain⟨b4,b5,b6,b7,c,f,i⟩:=(h.below b).pl.aL;obtain⟨p1,p2,p3⟩:=cr c;have a0:=ad b;have U:=aT c f i h;obtain⟨s0,u0,d⟩:=h.inv;cases aw with
 |none=>clear M N b h hC c f i;go_enter func9,ntmps9;go_wp2_with fail;go_ret;exact⟨rfl,Fr.af a0,none,V,wn,(U.2.2.2.below a0).less (YW _ _)⟩
 |some m=>
  have a5:=d.gt.gd.nL m rfl;have a6:=ad (λW (R:au w W)=>(Hc m ((R.block _ (Z_ h.jw)).trans h.jw) (d.below R) a5 aa).mono λe r t=>show∃a,aK e (cX 0 aW a)/\Fr et aF W r/\Fr et aF w r/\∃s u,Inv r Z g (some m) V (C-40000) s u from t.imp λ_ t=>⟨t.1,t.2.1,(Fr.af R).tr t.2.1,t.2.2⟩);have d2:¬(m:Int)<0:=aa;have B:=d.low;obtain⟨a7,a8,a9,b0,D,E,F⟩:=h.pl.aL;have K:=ad D;have O:=aB E F;clear D E F;obtain⟨v,j⟩:=ah (w.alloc (al #[bx kd,bx x,bx y,.slice la L lc,.slice ra rn rc] 34));have k:=c;have l:=b;rw[j]at k l;have X:=cr k;have q5:v.cell? (ag P 5)=some (ar G):=X.1 5;have b1:v.cell? (ag P 10)=some (ae m):=X.1 10;have q3:=X.2.2;have n:=ad l;have b2:=ad j;clear M N b h hC c f i d X k l j;go_enter func9,ntmps9;go_wp2_with fail;simp only[b2.out];clear p1 a1;go_cut [12] (λI Y=>∃(T:Nat) (a:Int),I= ar T/\QX (w.heap.size<=T/\a_ Y T (al #[.int .u16 (0:Nat),aW,ae a] 46)/\Fr et aF w Y/\∃s u,Inv Y Z g (some m) V (C-40000) s u))
  case first=>
   go_region_held3(λr=>r.cell? (ag P 5)=some (ar G)/\r.cell? (ag P 10)=some (ae m)) ((simp[*,go_sem];done)) (first
    |(go_at_call 11;refine(a6 _ (via n bF)).mono ?_;rintro e w2 ⟨a,rfl,a4,o,z⟩
      (try(have J:=a4.hp (QB v z46) rfl;obtain⟨c7,f7,z7⟩:=cr J;have H7:=ad J;clear J))
      have H:=cr (o.hp K rfl);have c1:w2.cell? (ag P 5)=some (ar G):=H.1 5;have c2:w2.cell? (ag P 10)=some (ae m):=H.1 10;have c4:=H.2.2;have Q:=aB o z;clear a4 o z H))
   all_goals go_wp2
   all_goals go_meet
   all_goals first
    |exact⟨_,a,rfl,n.size,(ob H7 (QE B n.size) 0 aW a).1,((Q.1.new (p:=ag v.heap.size 0) n.size _).new (p:=ag v.heap.size 1) n.size _).new (p:=ag v.heap.size 2) n.size _,by obtain⟨s,u,z⟩:=Q.2;exact⟨s,u,z.fr (ob H7 (QE B n.size) 0 aW a).2 rfl⟩⟩
    |exact⟨_,a,rfl,Q.1.size,QB _ _,Q.1.then (aI ak _),by obtain⟨s,u,z⟩:=Q.2;exact⟨s,u,z.below (aI ak _)⟩⟩
  case rest=>rename_i b3;refine b3 _ _ ?_;obtain⟨T,a,rfl,A⟩:=hcut;have q:=A.2.2.1.hp K rfl;obtain⟨t1,t2,t3⟩:=cr A.2.1;obtain⟨r1,r2,r3⟩:=cr q;have S:=ad q;clear q;go_wp2_with fail;go_ret;have f1:=(Fr.refl [44] aF wc).set (p:=ag P 11) S rfl U.2.2.2.lo iG;exact⟨rfl,(A.2.2.1.wide TP rfl).tr (f1.wide TP rfl),some m,V,false,gO.less (gO.xx (A.2.2.1.hp U.2.2.2.jw rfl) A.2.2.2 f1 (heap_setCell_same _ P 11 _ 44 _ S) (O.1.fr A.2.2.1 rfl) O.2 U.2.2.2.lo) aa⟩
end
end
section
section
variable [Lo] (P G:Nat) (Z:bm) (g:az) (aw:Option Nat) (V:bY) (C:Nat) (wn:Bool) (kd x y L lc rn rc:Nat) (la ra:Option SZ) (w:QA) (h:gO w P G Z g aw V C wn) (hC:1000000<=C)
include h hC
theorem Ex(a0:kd%12=10\/kd%12=11):
  aE 9 #[ar P,sV kd x y la L lc ra rn rc] w (sW P G Z g C w):=by
 have t:au w (w.alloc (al #[bx kd,bx x,bx y,.slice la L lc,.slice ra rn rc] 34)):=aI ak _;have a7:=QB w (al #[bx kd,bx x,bx y,.slice la L lc,.slice ra rn rc] 34);obtain⟨s0,u0,S⟩:=h.inv;have a8:=ad (λW (a4:au w W)=>Eu ((a4.block _ (Z_ h.jw)).trans h.jw) (S.below a4) (by omega:200000<=C));obtain⟨a1,a2,a3⟩:=cr a7;obtain⟨b4,b5,b6,b7,v,U,X⟩:=(h.below t).pl.aL;obtain⟨p1,p2,p3⟩:=cr v;have H:=ad t;have d:=aT v U X h;obtain⟨q,Q⟩:=ah (kd%12);rw[Q]at a0;have e1:((kd:Nat):Int).tmod 12=((q:Nat):Int):=by rw[<-Q];exact SI _ _
 have a9:=ad a0;rcases a9.out with e|e
 all_goals
  rw[e]at e1;go_enter func9,ntmps9;go_wp2_with fail;refine(a8 _ H).mono ?_;rintro e l ⟨a5,a6,a,m,c,z,rfl,j,A,Q⟩;have k:au l (l.alloc (al #[aG a6,.slice a m c,ae z] 46)):=aI ak _;have N:=QB l (al #[aG a6,.slice a m c,ae z] 46);have i:=j.hp d.1 rfl;have B:=(k.block _ (Z_ i)).trans i;have D:=(d.2.1.fr j rfl).below k;have M:=((Fr.af (T:=et) H).tr j).then k;have E:=A.fr (T:= []) (Fr.af k) rfl;obtain⟨t1,t2,t3⟩:=cr N;obtain⟨r1,r2,r3⟩:=cr B;obtain⟨j1,j2,j3⟩:=cr i;have f:=aT B D M E;have r:=aT ((Fr.af (T:=et) H).tr j) i (d.2.1.fr j rfl) A;rcases Q with⟨rfl,rfl⟩|⟨rfl,rfl,F⟩
  .clear j k;go_wp2_with fail;go_ret;obtain⟨-,s,u,n,-⟩:=f.2.2.2;exact⟨rfl,f.2.2.1.wide TP rfl,aw,V,wn,(gO.vw (f.2.2.1.hp d.2.2.2.jw rfl) ⟨s,u,n⟩ f.1 f.2.1 d.2.2.1 d.2.2.2.lo).less aa⟩
  .obtain ⟨b8,b9,b0,F⟩:=F;cases b0;rcases F with F|⟨b,o,b1,b2,rfl,K,R⟩
   .cases F
   have c0:=Z_ K;have O:l.cell? (ag b o)=some (.int .u8 ((if a5=true then 1 else 0:Nat):Nat)):=(QT _ b o b1 5 b2 K).trans (R 0 aa);cases a5
   .have I:l.cell? (ag b o)=some (.int .u8 0):=O;go_wp2_with fail;go_ret;obtain⟨-,s,u,n,-⟩:=f.2.2.2;exact⟨rfl,f.2.2.1.wide TP rfl,aw,V,wn,(gO.vw (f.2.2.1.hp d.2.2.2.jw rfl) ⟨s,u,n⟩ f.1 f.2.1 d.2.2.1 d.2.2.2.lo).less aa⟩
   .have I:l.cell? (ag b o)=some (.int .u8 1):=O;cases wn
    .go_wp2_with fail;go_ret;have f1:=(Fr.refl [44] aF l).set (p:=ag P 10) r.2.1 rfl d.2.2.2.lo (ae (-1));obtain⟨-,s,u,n,b3,-⟩:=r.2.2.2;obtain⟨Y,J⟩:=b3 rfl;exact⟨rfl,((r.1.wide TP rfl).tr (f1.wide TP rfl)).then (aI ak _),none,V,false,(gO.less (gO.xx (r.1.hp d.2.2.2.jw rfl) ⟨s,u,n.whole Y J⟩ f1 (heap_setCell_same _ P 10 _ 44 _ r.2.1) r.2.2.1 d.2.2.1 d.2.2.2.lo) aa).below (aI ak _)⟩
    .go_wp2_with fail;go_ret;obtain⟨-,s,u,n,-⟩:=f.2.2.2;exact⟨rfl,f.2.2.1.wide TP rfl,aw,V,true,(gO.vw (f.2.2.1.hp d.2.2.2.jw rfl) ⟨s,u,n⟩ f.1 f.2.1 d.2.2.1 d.2.2.2.lo).less aa⟩
end
end
section
section
variable [Lo] (P G:Nat) (Z:bm) (g:az) (aw:Option Nat) (V:bY) (C:Nat) (wn:Bool) (kd x y L lc rn rc:Nat) (la ra:Option SZ) (w:QA) (h:gO w P G Z g aw V C wn) (hC:1000000<=C) (hx:x<256) (hy:y<256)
include h hC hx hy
theorem Ey(e:Nat)(n:kd%12=8)(s:aw=some e)(o:e≠x%g.M):
  aE 9 #[ar P,sV kd x y la L lc ra rn rc] w (sW P G Z g C w):=by
 have _:=hC;have _:=hy;subst s;have b:au w (w.alloc (al #[bx kd,bx x,bx y,.slice la L lc,.slice ra rn rc] 34)):=aI ak _;have p:=QB w (al #[bx kd,bx x,bx y,.slice la L lc,.slice ra rn rc] 34);obtain⟨z,A,c⟩:=h.inv;have l:=c.eK.b_.m3;have f:=c.eK.b_.m16;obtain⟨B,D,E⟩:=cr p;obtain⟨F,K,O,Q,d,i,j⟩:=(h.below b).pl.aL;obtain⟨k,S,T⟩:=cr d;have q:=ad b;have t:=aT d i j h;obtain⟨M,r⟩:=ah g.M;rw[r]at o k l f;obtain⟨m,a⟩:=ah (x%M);rw[a]at o;have u:m<M:=by rw[<-a];exact RT _ J
 have U:((x:Nat):Int).tmod (M:Nat)=((m:Nat):Int):=by rw[<-a];exact SI _ _
 have W:¬(M:Int)=0:=J;have X:¬M=0:=J;have H:QK.wrap ((x:Nat):Int)=((x:Nat):Int):=bj;have N:QK.wrap ((m:Nat):Int)=((m:Nat):Int):=bj;have R:((kd:Nat):Int).tmod 12=((8:Nat):Int):=by rw[<-n];exact SI _ _
 have d1:(0:Int)<=(e:Int):=J;have d2:¬(e:Int)=m:=J;have v:=k 0;have I:(w.alloc (al #[bx kd,bx x,bx y,.slice la L lc,.slice ra rn rc] 34)).cell? (ag P 10)=some (Y e):=k 10;have v:(w.alloc (al #[bx kd,bx x,bx y,.slice la L lc,.slice ra rn rc] 34)).cell? (ag P 0)=some (Y M):=k 0;clear p b h c d i j n a r k;go_enter func9,ntmps9;go_wp2_with fail;go_quiet(fail);go_wp2_with fail;go_ret;exact⟨rfl,(Fr.af q).then (cE ak _),some e,V,wn,((t.2.2.2.below q).below (cE ak _)).less (YW _ _)⟩
end
end
section
section
variable [Lo] (P G:Nat) (Z:bm) (g:az) (aw:Option Nat) (V:bY) (C:Nat) (wn:Bool) (kd x y L lc rn rc:Nat) (la ra:Option SZ) (w:QA) (h:gO w P G Z g aw V C wn) (hC:1000000<=C) (hx:x<256) (hy:y<256)
include h hC hx hy
theorem vz(T:kd%12=8)(U:aw=none/\y%2=0\/aw=some (x%g.M)):
  aE 9 #[ar P,sV kd x y la L lc ra rn rc] w (sW P G Z g C w):=by
 have _:=hy;have r:au w (w.alloc (al #[bx kd,bx x,bx y,.slice la L lc,.slice ra rn rc] 34)):=aI ak _;have I:=QB w (al #[bx kd,bx x,bx y,.slice la L lc,.slice ra rn rc] 34);obtain⟨Y,J,d⟩:=h.inv;have z:Inv w Z g (some (x%g.M)) V C Y J:=by
  have h3:=d.eK.b_.m3;rcases U with⟨rfl,-⟩|rfl
  .exact d.qp (RT _ aa)
  .exact d
 have X:=ad (λW (a7:Fr TP aF w W) (T:cw W G Z g) (A:Inv W Z g (some (x%g.M)) V C Y J)=>vy (x%g.M) T A (RT _ (by have:=d.eK.b_.m3;omega)) aa);have a0:=ad z;have H:=d.eK.b_.m3;have B:=d.eK.b_.m16;obtain⟨a1,a2,a3⟩:=cr I;obtain⟨a8,a9,b0,b1,a,D,E⟩:=(h.below r).pl.aL;obtain⟨v,p2,p3⟩:=cr a;have a4:=ad r;have b:=aT a D E h;obtain⟨M,N⟩:=ah g.M;have K:=ad N;rw[N]at v H B U X;obtain⟨m,k⟩:=ah (x%M);have a6:m<M:=by rw[<-k];exact RT _ aa
 rw[k]at U X;have a5:=ad k;have m1:((x:Nat):Int).tmod (M:Nat)=((m:Nat):Int):=by rw[<-k];exact SI _ _
 have z2:¬M=0:=aa;have v1:QK.wrap ((x:Nat):Int)=((x:Nat):Int):=bj;have v2:QK.wrap ((m:Nat):Int)=((m:Nat):Int):=bj;have e1:((kd:Nat):Int).tmod 12=((8:Nat):Int):=by rw[<-T];exact SI _ _
 have q1:(w.alloc (al #[bx kd,bx x,bx y,.slice la L lc,.slice ra rn rc] 34)).cell? (ag P 0)=some (ae M):=v 0;clear r h hC d z a D E T k N I;rcases U with⟨rfl,R⟩|rfl
 .have y1:((y:Nat):Int).tmod 2=((0:Nat):Int):=by rw[<-R];exact SI _ _
  go_enter func9,ntmps9;go_wp2_with fail;go_quiet(fail);go_wp2_with fail;have O:=heap_setCell_same ((w.alloc (al #[bx kd,bx x,bx y,.slice la L lc,.slice ra rn rc] 34)).drewN nq) P 10 _ 44 (ae m) b.1;have f0:Fr [44] aF w (((w.alloc (al #[bx kd,bx x,bx y,.slice la L lc,.slice ra rn rc] 34)).drewN nq).setCell (ag P 10) (ae m)):=(Fr.af (cE a4 nq)).set (p:=ag P 10) b.1 rfl b.2.2.2.lo (ae m);have l:SC (w.alloc (al #[bx kd,bx x,bx y,.slice la L lc,.slice ra rn rc] 34)).heap.size (w.alloc (al #[bx kd,bx x,bx y,.slice la L lc,.slice ra rn rc] 34)) ((w.alloc (al #[bx kd,bx x,bx y,.slice la L lc,.slice ra rn rc] 34)).drewN nq):=cE ak nq;have Q:Fr [44] aF (w.alloc (al #[bx kd,bx x,bx y,.slice la L lc,.slice ra rn rc] 34)) ((w.alloc (al #[bx kd,bx x,bx y,.slice la L lc,.slice ra rn rc] 34)).drewN nq|>.setCell (ag P 10) (ae m)):=(Fr.af l).set (p:=ag P 10) b.1 rfl b.2.2.2.lo (ae m);refine(X _ (f0.wide TP rfl) (f0.hp b.2.2.2.jw rfl) (by have S:=a0.fr f0 rfl;rw[K.out,a5.out]at S;exact S)).mono ?_;rintro e t ⟨n,rfl,f,o⟩;have a:=f.hp O rfl;have i:au t (t.alloc (al #[aG 0,aW,ae n] 46)):=aI ak _;have q:=QB t (al #[aG 0,aW,ae n] 46);have j:=(i.block _ (Z_ a)).trans a;obtain⟨t1,t2,t3⟩:=cr q;obtain⟨r1,r2,r3⟩:=cr j;have c:=eM (f0.wide TP rfl) f o i j Q;clear l Q O f0 f o a i q j v p2 q1;go_wp2_with fail;go_ret;have f1:=(Fr.refl [44] aF _).set (p:=ag P 11) c.2.2.2.2.1 rfl b.2.2.2.lo iG;have F:=(c.1.tr (c.2.1.wide TP rfl)).then c.2.2.2.1;exact⟨rfl,F.tr (f1.wide TP rfl),some m,V,false,gO.less (gO.xx (F.hp b.2.2.2.jw rfl) (by obtain⟨s,u,A⟩:=c.2.2.1;exact⟨s,u,A.below c.2.2.2.1⟩) f1 (heap_setCell_same _ P 11 _ 44 _ c.2.2.2.2.1) (((b.2.1.fr c.2.2.2.2.2 rfl).fr c.2.1 rfl).below c.2.2.2.1) b.2.2.1 b.2.2.2.lo) aa⟩
 .have d1:(0:Int)<=(m:Int):=aa;have q2:(w.alloc (al #[bx kd,bx x,bx y,.slice la L lc,.slice ra rn rc] 34)).cell? (ag P 10)=some (ae m):=v 10;have q5:(w.alloc (al #[bx kd,bx x,bx y,.slice la L lc,.slice ra rn rc] 34)).cell? (ag P 5)=some (ar G):=v 5;clear v;go_enter func9,ntmps9;go_wp2_with fail;go_quiet(fail);go_wp2_with fail;have O:=heap_setCell_same ((w.alloc (al #[bx kd,bx x,bx y,.slice la L lc,.slice ra rn rc] 34)).drewN nq) P 10 _ 44 (ae m) b.1;have f0:Fr [44] aF w (((w.alloc (al #[bx kd,bx x,bx y,.slice la L lc,.slice ra rn rc] 34)).drewN nq).setCell (ag P 10) (ae m)):=(Fr.af (cE a4 nq)).set (p:=ag P 10) b.1 rfl b.2.2.2.lo (ae m);have l:SC (w.alloc (al #[bx kd,bx x,bx y,.slice la L lc,.slice ra rn rc] 34)).heap.size (w.alloc (al #[bx kd,bx x,bx y,.slice la L lc,.slice ra rn rc] 34)) ((w.alloc (al #[bx kd,bx x,bx y,.slice la L lc,.slice ra rn rc] 34)).drewN nq):=cE ak nq;have Q:Fr [44] aF (w.alloc (al #[bx kd,bx x,bx y,.slice la L lc,.slice ra rn rc] 34)) ((w.alloc (al #[bx kd,bx x,bx y,.slice la L lc,.slice ra rn rc] 34)).drewN nq|>.setCell (ag P 10) (ae m)):=(Fr.af l).set (p:=ag P 10) b.1 rfl b.2.2.2.lo (ae m);refine(X _ (f0.wide TP rfl) (f0.hp b.2.2.2.jw rfl) (by have S:=a0.fr f0 rfl;rw[K.out,a5.out]at S;exact S)).mono ?_;rintro e t ⟨n,rfl,f,o⟩;have a:=f.hp O rfl;have i:au t (t.alloc (al #[aG 0,aW,ae n] 46)):=aI ak _;have q:=QB t (al #[aG 0,aW,ae n] 46);have j:=(i.block _ (Z_ a)).trans a;obtain⟨t1,t2,t3⟩:=cr q;obtain⟨r1,r2,r3⟩:=cr j;have c:=eM (f0.wide TP rfl) f o i j Q;clear l Q O f0 f o a i q j p2 q1 q2 q5;go_wp2_with fail;go_ret;have f1:=(Fr.refl [44] aF _).set (p:=ag P 11) c.2.2.2.2.1 rfl b.2.2.2.lo iG;have F:=(c.1.tr (c.2.1.wide TP rfl)).then c.2.2.2.1;exact⟨rfl,F.tr (f1.wide TP rfl),some m,V,false,gO.less (gO.xx (F.hp b.2.2.2.jw rfl) (by obtain⟨s,u,A⟩:=c.2.2.1;exact⟨s,u,A.below c.2.2.2.1⟩) f1 (heap_setCell_same _ P 11 _ 44 _ c.2.2.2.2.1) (((b.2.1.fr c.2.2.2.2.2 rfl).fr c.2.1 rfl).below c.2.2.2.1) b.2.2.1 b.2.2.2.lo) aa⟩
end
end
section
section
variable [Lo] (P G:Nat) (Z:bm) (g:az) (aw:Option Nat) (V:bY) (C:Nat) (wn:Bool) (kd x y L lc rn rc:Nat) (la ra:Option SZ) (w:QA) (h:gO w P G Z g aw V C wn) (hC:1000000<=C) (hx:x<256) (hy:y<256)
include h hC hx hy
theorem Ez(U:kd%12=8)(a7:aw=none/\y%2=1):
  Calls VY 9 #[.pointer (some ⟨P,0,none⟩),sV kd x y la L lc ra rn rc] w (sW P G Z g C w):=by
 have r:SC w.heap.size w (w.alloc (.cells #[.int .u8 (kd:Nat),.int .u8 (x:Nat),.int .u8 (y:Nat),.slice la L lc,.slice ra rn rc] 34)):=aI (SL _ _) _;have a5:=QB w (.cells #[.int .u8 (kd:Nat),.int .u8 (x:Nat),.int .u8 (y:Nat),.slice la L lc,.slice ra rn rc] 34);obtain⟨s0,u0,f⟩:=h.inv;obtain⟨rfl,v⟩:=a7;have I:=RB (λW (X:Fr TP aF w W) (U:cw W G Z g) (n:Inv W Z g none V C s0 u0)=>(Er U n (x%g.M) y (RT _ (by have:=f.eK.b_.m3;omega)) (by omega)).mono λe j b=>show∃a,e=.returned (cX 0 aW a)/\Fr et aF W j/\Fr TP aF w j/\∃s u,Inv j Z g (some (x%g.M)) V C s u from b.imp λ_ b=>⟨b.1,b.2.1,X.tr (b.2.1.wide TP rfl),b.2.2⟩);have z:=f;have a8:=RB z;have Y:=f.eK.b_.m3;have A:=f.eK.b_.m16;obtain⟨a1,a2,a3⟩:=cr a5;obtain⟨b3,b4,b5,b6,t,B,D⟩:=(h.below r).pl.aL;obtain⟨p1,p2,p3⟩:=cr t;have a9:=RB r;have c:=RB (And.intro t (And.intro B (And.intro D h)));obtain⟨M,a6⟩:∃M,g.M=M:=⟨_,rfl⟩;rw[a6]at p1 Y A I;obtain⟨m,k⟩:∃m,x%M=m:=⟨_,rfl⟩;have b0:m<M:=by rw[<-k];exact RT _ (by omega)
 rw[k]at I;have m1:((x:Nat):Int).tmod (M:Nat)=((m:Nat):Int):=by rw[<-k];exact SI _ _
 have z2:¬M=0:=by omega
 have v1:QK.wrap ((x:Nat):Int)=((x:Nat):Int):=by go_arith
 have e1:((kd:Nat):Int).tmod 12=((8:Nat):Int):=by rw[<-U];exact SI _ _
 clear r h f z t B D U k a6 a5;have y1:((y:Nat):Int).tmod 2=((1:Nat):Int):=by rw[<-v];exact SI _ _
 have v3:QK.wrap ((y:Nat):Int)=((y:Nat):Int):=by go_arith
 clear v;go_enter Tryz.func9,Tryz.ntmps9;go_wp2_with fail;go_quiet(fail);go_wp2_with fail;have E:SC (w.alloc (.cells #[.int .u8 (kd:Nat),.int .u8 (x:Nat),.int .u8 (y:Nat),.slice la L lc,.slice ra rn rc] 34)).heap.size (w.alloc (.cells #[.int .u8 (kd:Nat),.int .u8 (x:Nat),.int .u8 (y:Nat),.slice la L lc,.slice ra rn rc] 34)) ((w.alloc (.cells #[.int .u8 (kd:Nat),.int .u8 (x:Nat),.int .u8 (y:Nat),.slice la L lc,.slice ra rn rc] 34)).drewN nq):=cE (SL _ _) nq;have H:=heap_setCell_same ((w.alloc (.cells #[.int .u8 (kd:Nat),.int .u8 (x:Nat),.int .u8 (y:Nat),.slice la L lc,.slice ra rn rc] 34)).drewN nq) P 10 _ 44 (.int .i64 (m:Nat)) c.out.1;have F:=heap_setCell_same _ P 11 _ 44 ed H;have f0:=((Fr.af (T:= [44]) (S:=aF) (cE a9.out nq)).set (p:=⟨P,10,none⟩) c.out.1 rfl c.out.2.2.2.lo (.int .i64 (m:Nat))).set (p:=⟨P,11,none⟩) H rfl c.out.2.2.2.lo ed;have N:=((Fr.af (T:= [44]) (S:=aF) E).set (p:=⟨P,10,none⟩) c.out.1 rfl c.out.2.2.2.lo (.int .i64 (m:Nat))).set (p:=⟨P,11,none⟩) H rfl c.out.2.2.2.lo ed;have i:=N.hp (QB w (.cells #[.int .u8 (kd:Nat),.int .u8 (x:Nat),.int .u8 (y:Nat),.slice la L lc,.slice ra rn rc] 34)) rfl;obtain⟨d,J⟩:∃d,(((w.alloc (.cells #[.int .u8 (kd:Nat),.int .u8 (x:Nat),.int .u8 (y:Nat),.slice la L lc,.slice ra rn rc] 34)).drewN nq).setCell ⟨P,10,none⟩ (.int .i64 (m:Nat))).setCell ⟨P,11,none⟩ ed=d:=⟨_,rfl⟩;rw[J]at F f0 N i|-;have K:=a8.out.fr f0 rfl;have o:=RB (λW (R:SC d.heap.size d W)=>I.out W ((f0.wide TP rfl).then R) ((f0.then R).hp c.out.2.2.2.jw rfl) (K.below R)|>.mono λe j b=>show∃a,e=.returned (cX 0 aW a)/\Fr et aF W j/\Fr et aF d j/\∃s u,Inv j Z g (some m) V C s u from b.imp λ_ b=>⟨b.1,b.2.1,(Fr.af R).tr b.2.1,b.2.2.2⟩);have q5:d.cell? ⟨P,5,none⟩=some (.pointer (some ⟨G,0,none⟩)):=(cr F).1 5;have q7:=(cr F).2.2;have q8:d.cell? ⟨w.heap.size,2,none⟩=some (.int .u8 (y:Nat)):=(cr i).1 2;have b1:=(cr i).2.2;have q:=RB (And.intro F (And.intro f0 (And.intro N i)));have O:=c.out.2.2.2.inv.choose_spec.choose_spec.low;clear E H F f0 N i K p1 p2 a1;go_cut [10] (λa0 a4=>∃(T:Nat) (a:Int),a0=.pointer (some ⟨T,0,none⟩)/\QX (d.heap.size<=T/\a4.heap[T]?=some (.cells #[.int .u16 (0:Nat),aW,.int .i64 a] 46 (0,0))/\Fr et aF d a4/\∃s u,Inv a4 Z g (some m) V C s u))
 case first=>
  go_region_held3(λj=>j.cell? ⟨P,5,none⟩=some (.pointer (some ⟨G,0,none⟩))/\j.cell? ⟨w.heap.size,2,none⟩=some (.int .u8 (y:Nat))) ((simp[*,go_sem];done)) (first
   |(go_at_call 11;refine(o.out _ (by go_grown)).mono ?_;rintro e w2 ⟨a,rfl,X,l,n⟩
     (try(have h7:=X.hp (QB d z46) rfl;obtain⟨c7,f7,z7⟩:=cr h7;have H7:=RB h7;clear h7))
     have c0:=cr (l.hp q.out.1 rfl);have c1:w2.cell? ⟨P,5,none⟩=some (.pointer (some ⟨G,0,none⟩)):=c0.1 5;have c4:=c0.2.2;have c5:=cr (l.hp q.out.2.2.2 rfl);have c6:w2.cell? ⟨w.heap.size,2,none⟩=some (.int .u8 (y:Nat)):=c5.1 2;have c9:=c5.2.2;have Q:=RB (And.intro l n);clear X l n c0 c5))
  all_goals go_wp2
  all_goals go_meet
  all_goals first
   |exact⟨_,a,rfl,QH _,(ob H7.out (QE O q.out.2.1.size) 0 aW a).1,((Q.out.1.new (p:=⟨d.heap.size,0,none⟩) (QH _) _).new (p:=⟨d.heap.size,1,none⟩) (QH _) _).new (p:=⟨d.heap.size,2,none⟩) (QH _) _,by obtain⟨s,u,n⟩:=Q.out.2;exact⟨s,u,n.fr (ob H7.out (QE O q.out.2.1.size) 0 aW a).2 rfl⟩⟩
   |exact⟨_,a,rfl,Q.out.1.size,QB _ _,Q.out.1.then (aI (SL _ _) _),by obtain⟨s,u,n⟩:=Q.out.2;exact⟨s,u,n.below (aI (SL _ _) _)⟩⟩
 case rest=>rename_i b2 _;refine b2 _ _ ?_;obtain⟨T,a,rfl,o⟩:=hcut;obtain⟨t1,t2,t3⟩:=cr o.out.2.1;go_wp2_with fail;go_ret;exact⟨rfl,(q.out.2.1.wide TP rfl).tr (o.out.2.2.1.wide TP rfl),some m,V,true,gO.less (gO.vw (o.out.2.2.1.hp (q.out.2.1.hp c.out.2.2.2.jw rfl) rfl) o.out.2.2.2 (o.out.2.2.1.hp q.out.1 rfl) ((c.out.2.1.fr q.out.2.2.1 rfl).fr o.out.2.2.1 rfl) c.out.2.2.1 c.out.2.2.2.lo) (by omega)⟩
end
end
theorem JY[Lo](P G:Nat)(Z:bm)(g:az)(p:Option Nat)(V:bY)(C:Nat)(d:Bool)(a x y L b f j:Nat)(c k:Option SZ)(w:QA)(h:gO w P G Z g p V C d)(l:1000000<=C)(m:a<256)(n:x<256)(o:y<256)(u v:aQ)(D:Eh w (.slice c L b) L u v)(E:L<=20000)(z:∀i,i<L->u i<65536)(A:∀i,i<L->v i<256):
  aE 9 #[H P,sV a x y c L b k f j] w (sW P G Z g C w):=by
 have F:a%12<12:=RT _ aj;rcases YY (a%12) 5 with e|e
 .exact AO P G Z g p V C d a x y L b f j c k w h l m n o u v D E z A e
 rcases YY (a%12) 7 with K|K
 .exact Ev P G Z g p V C d a x y L b f j c k w h l m n o J
 by_cases O:a%12=7
 .exact AP P G Z g p V C d a x y L b f j c k w h l m n o O
 by_cases r:a%12=8
 .cases B:p with
  |none=>
   subst B;rcases Nat.mod_two_eq_zero_or_one y with q|q
   .exact vz P G Z g none V C d a x y L b f j c k w h l n o r (.inl ⟨rfl,q⟩)
   .exact Ez P G Z g none V C d a x y L b f j c k w h l n o r ⟨rfl,q⟩
  |some s=>
   subst B;by_cases t:s=x%g.M
   .exact vz P G Z g (some s) V C d a x y L b f j c k w h l n o r (.inr (by rw[t]))
   .exact Ey P G Z g (some s) V C d a x y L b f j c k w h l n o s r rfl t
 by_cases t:a%12=9
 .exact Ew P G Z g p V C d a x y L b f j c k w h l m n o t
 .exact Ex P G Z g p V C d a x y L b f j c k w h l J
@[reducible] def JZ (a b c d:Nat)(e:Bool)(f:Option SZ)(L g:Nat):QC:=.agg #[bx a,bx b,bx c,aG d,.bool e,.slice f L g]
abbrev KR(a b c d:Nat)(e:Bool)(f:Option SZ)(L g:Nat):Array QC:= #[bx a,bx b,bx c,aG d,.bool e,.slice f L g]
def mP(a b c:Nat):az:=⟨3+a%14,1+b%16,1+c⟩
def nw(a:Nat):Nat:=5+a%2044
theorem yW{z0 z1 a:Nat}(h:a<256):(mP z0 z1 a).ok:=by have b:=RT z0 (show 0<14 by decide);have c:=RT z1 (show 0<16 by decide);exact⟨by show 3<=3+z0%14;omega,by show 3+z0%14<=16;omega,by show 1<=1+z1%16;omega,by show 1+z1%16<=16;omega,by show 1<=1+a;omega,by show 1+a<=256;omega⟩
theorem pH(a:Nat):5<=nw a/\nw a<=2048:=by have b:=RT a (show 0<2044 by decide);unfold nw;omega
theorem ny(d f c k:Nat)(l:Bool)(m:Option SZ)(L n:Nat)(w:M)(q:d<256)(r:f<256)(s:c<256):aE 14 #[JZ d f c k l m L n] w λe o=>aK e (mP d f c).V/\au w o:=by
 obtain⟨a,g⟩:=ah (d%14);obtain⟨b,h⟩:=ah (f%16);have t:((d:Nat):Int).tmod 14=(a:Nat):=by rw[<-g];exact SI _ _
 have u:((f:Nat):Int).tmod 16=(b:Nat):=by rw[<-h];exact SI _ _
 have x:QK.wrap (d:Int)=(d:Nat):=bj;have y:QK.wrap (f:Int)=(f:Nat):=bj;have z:QK.wrap (c:Int)=(c:Nat):=bj;have i:a<14:=by rw[<-g];exact RT _ aj
 have j:b<16:=by rw[<-h];exact RT _ aj
 have A:QK.wrap (3+(a:Int))=((3+a:Nat):Int):=bj;have B:QK.wrap (1+(b:Int))=((1+b:Nat):Int):=bj;have C:QK.wrap (1+(c:Int))=((1+c:Nat):Int):=bj;have p:QX ((mP d f c).V=.agg #[Y (3+a:Nat),Y (1+b:Nat),Y (1+c:Nat)]):=by rw[<-g,<-h];rfl
 rw[p.out];go_enter func14,ntmps14;go_wp2;refine QR (v:=.agg #[Y (3+a:Nat),Y (1+b:Nat),Y (1+c:Nat)]) (by simp[RM,results14,go_sem]) rfl ⟨rfl,aI (aI ak _) _⟩
theorem yX(f g i b:Nat)(j:Bool)(k:Option SZ)(L l:Nat)(w:M)(h:b<65536):aE 15 #[JZ f g i b j k L l] w λe m=>aK e (Y (nw b:Nat))/\au w m:=by
 unfold nw;obtain⟨a,c⟩:=ah (b%2044);have n:((b:Nat):Int).tmod 2044=(a:Nat):=by rw[<-c];exact SI _ _
 have o:QK.wrap (b:Int)=(b:Nat):=bj;have d:a<2044:=by rw[<-c];exact RT _ aj
 have p:QK.wrap (5+(a:Int))=((5+a:Nat):Int):=bj;rw[c];go_enter func15,ntmps15;go_wp2;go_ret;exact⟨by simp[*],aI ak _⟩
def EA[Lo](b c d _:Nat)(w:M)(e:RW)(a:M):Prop:=
 ∃P G Z,aK e (H P)/\gO a P G Z (mP b c d) none rA 100000000000 false/\Fr fT aF w a/\w.heap.size<=P
theorem EB(w:M)(n:Nat)(h:n<=100000000):(TC 41 (Y (n:Int)) (Y (n:Int))).run prog w=.ok (a' w.heap.size n n) (w.alloc (N (cB n λ_=>0) 5)):=by
 obtain⟨d,f,a,b,c⟩:=SD kb;have:=run_make (P:=prog) w 41 5 d (.int .u8 0) UL f a .i64 .i64 n n J J (by rw[c];omega) J;rw[this,b,TZ];show YT _ (w.alloc (N (TQ #[.int .u8 0] n) 5))=_;have e:TQ #[.int .u8 0] n=cB n λ_=>0:=by
  apply Array.ext
  .simp [TQ,cB]
  .intro i g j;have:i%1=0:=YF i;simp[TQ,cB,this]
 rw[e];rfl
theorem EC[Lo](z0 z1 j b:Nat)(l:Bool)(r:Option SZ)(L s:Nat)(w:QA)(h0:z0<256)(h1:z1<256)(h2:j<256)(h3:b<65536)(a4:Lo.lo<=w.heap.size):
  aE 7 #[JZ z0 z1 j b l r L s] w (EA z0 z1 j b w):=by
 have a5:=yW (z0:=z0) (z1:=z1) h2;have O:=ad (λW=>ny z0 z1 j b l r L s W h0 h1 h2);have t:=ad (λW=>yX z0 z1 j b l r L s W h3);have u:=ad (λW d0=>vu (mP z0 z1 j) (nw b) l W a5 (pH b) d0);unfold EA;obtain⟨g,Q⟩:=ah (mP z0 z1 j);obtain⟨N,T⟩:=ah (nw b);have c4:=pH b;rw[T]at c4;simp only[Q]at O u;simp only[T]at t u;rw[Q]at a5|-;obtain⟨a6,a7⟩:=ah (w.alloc (al (KR z0 z1 j b l r L s) 25));have a8:au w a6:=by rw[<-a7];exact aI ak _
 have v:a6.heap[w.heap.size]?=some (al (KR z0 z1 j b l r L s) 25):=by rw[<-a7];exact QB _ _
 obtain⟨D,U⟩:=ah w.heap.size;rw[U]at v;obtain⟨d1,d2,d3⟩:=cr v;have V:=aM v a8 a4;have X:=aB a7 U;have H:=ad a5;obtain⟨h,c,i⟩:=g;go_enter func7,ntmps7;go_wp2_with fail
 try simp only[X.out.1,X.out.2]
 go_wp2_with(first|(go_at_call 14;refine(O _).mono ?_;rintro e w1 ⟨rfl,a9⟩;have b3:=ad a9));obtain⟨E,c5⟩:=ah w1.heap.size;obtain⟨C,z⟩:=ah (w1.alloc (al #[ae h,ae c,ae i] 39));have M:C.heap[E]?=some (al #[ae h,ae c,ae i] 39):=by rw[<-z,<-c5];exact QB _ _
 have A:au a6 C:=by rw[<-z];exact aI b3 _
 have R:=(A.block D d3).trans V.1;have b4:Lo.lo<=C.heap.size:=QE (QE V.2.2 V.2.1.size) A.size;have F:=aT M A R b4;rw[z,c5];obtain⟨a0,a1,a2⟩:=cr M;obtain⟨b0,b1,b2⟩:=cr R;go_region_held3(λa=>a.cell? (ag E 0)=some (ae h)/\a.cell? (ag E 1)=some (ae c)/\a.cell? (ag E 2)=some (ae i)/\a.cell? (ag D 0)=some (bx z0)/\a.cell? (ag D 1)=some (bx z1)/\a.cell? (ag D 2)=some (bx j)/\a.cell? (ag D 3)=some (aG b)/\a.cell? (ag D 4)=some (.bool l)/\a.cell? (ag D 5)=some (.slice r L s)) ((simp[*,go_sem];done)) (first|(go_at_call 15;refine(t _).mono ?_;rintro e w3 ⟨rfl,b5⟩;have d:QX (au C w3):=via bF b5;obtain⟨p0,p1,p2⟩:=kp d D b2;obtain⟨q0,q1,q2⟩:=kp d E a2)|(go_at_call 16;refine(u _ (QE F.2.2.2 (by first|exact d.size|exact(via d bF:au C _).size))).mono ?_;rintro e o ⟨G,Z,rfl,g1,g2,g3,g4,g5,g6⟩;have m:QX (Fr fT aF C o):=(by first|exact(Fr.af d).tr g5|exact(Fr.af (via d bF)).tr g5);have b6:=m.hp F.1 rfl;have b7:=m.hp F.2.2.1 rfl;have H4:=aT g1 g2 g3 g6;obtain⟨r0,r1,r2⟩:=cr b6;obtain⟨s0,s1,s2⟩:=cr b7));have d4:3<=h:=H.m3;have c6:h<=16:=H.m16;have I:c<=16:=H.pZ;have B:i<=256:=H.hj;obtain⟨x,b8⟩:=ah (i*c);have b9:x<=4096:=by rw[<-b8];exact SX B I
 obtain⟨y,c7⟩:=ah (h-1);obtain⟨n,c0⟩:=ah (x*y);have c8:n<=61440:=by rw[<-c0];exact SX b9 (show y<=15 by omega)
 have c9:(⟨h,c,i⟩:az).B=n:=by show i*((h-1)*c)=n;rw[<-c0,<-b8,<-c7,Nat.mul_assoc,VB c]
 have e1:QK.wrap ((i:Int)*(c:Int))=((x:Nat):Int):=by rw[show(i:Int)*(c:Int)=((x:Nat):Int)by rw[<-b8,TG]];go_arith
 have e2:QK.wrap ((h:Int)-1)=((y:Nat):Int):=by rw[<-c7];go_arith
 have e3:QK.wrap ((x:Int)*(y:Int))=((n:Nat):Int):=by rw[show(x:Int)*(y:Int)=((n:Nat):Int)by rw[<-c0,TG]];go_arith
 obtain⟨p,Y⟩:=ah (n*128);have e4:QK.wrap ((n:Int)*128)=((p:Nat):Int):=by rw[<-Y];go_arith
 have d5:=λw=>EB w p aa;have d6:w.heap.size<=o.heap.size/\Lo.lo<=o.heap.size:=by have h1:=V.2.1.size;have h2:=F.2.1.size;have h3:=m.size;have h4:=F.2.2.2;omega
 have c1:QX (Fr fT aF w o):=((Fr.af V.2.1).tr (Fr.af F.2.1)).tr m;have q:QX (∀K P S,au o K->o.heap.size<=P->K.heap[P]?=some (al #[ae h,ae c,ae i,ae N,.bool l,ar G,a' S p p,aW,aW,ae n,ae (-1),.bool false,.bool true,aG 0,.bool false] 44)->K.heap[S]?=some (al (cB p λ_=>0) 5)->∃c2 G Z,Ending.returned (ar P)=.returned (ar c2)/\gO K c2 G Z ⟨h,c,i⟩ none rA 100000000000 false/\Fr fT aF w K/\w.heap.size<=c2):=λK P S c3 e0 d7 d8=>by
  obtain⟨g1,g2,g3,g6⟩:=H4.out;refine⟨P,G,Z,rfl,⟨⟨a' S p p,aW,aW,0,?_,?_,QH p⟩,(c3.block _ (Z_ g1)).trans g1,⟨_,_,vm H lO c4 ⟨g2,g3⟩ (g6.below c3)⟩,aa⟩,c1.then c3,aa⟩
  .rw [d7,g2,g3,c9];rfl
  .rw [c9,Y];exact⟨_,_,rfl,.inr ⟨S,0,_,_,rfl,d8,λk d9=>by rw[RH];exact cg _ _ _ d9⟩⟩
 go_wp2_with fail;go_region_held3(λa=>a.cell? (ag E 0)=some (ae h)/\a.cell? (ag E 1)=some (ae c)/\a.cell? (ag E 2)=some (ae i)/\a.cell? (ag D 0)=some (bx z0)/\a.cell? (ag D 1)=some (bx z1)/\a.cell? (ag D 2)=some (bx j)/\a.cell? (ag D 3)=some (aG b)/\a.cell? (ag D 4)=some (.bool l)/\a.cell? (ag D 5)=some (.slice r L s)) ((simp[*,go_sem];done)) (first|(go_at_call 15;refine(t _).mono ?_;rintro e w5 ⟨rfl,J⟩;have f:QX (au o w5):=via bF J;have a3:=ad J;obtain⟨p0,p1,p2⟩:=kp f D s2;obtain⟨q0,q1,q2⟩:=kp f E r2))
 .clear p0 p2 q0 q2;go_wp2_with fail;go_ret;refine q _ _ w5.heap.size (aI (aI f _) _) ?_ ?_ ?_
  .have:=f.size;omega
  .exact fe _ _ _
  .exact gb _ _ _
 .clear p0 p2 q0 q2;go_wp2_with fail;go_ret;refine q _ _ o.heap.size (aI f _) f.size (QB _ _) ?_;rw[QW _ _ _ (by have:=a3.size;simp at this;omega)];rw[a3.block _ aJ];exact QB _ _
structure kL where
 kd:Nat
 x:Nat
 y:Nat
 la:Option SZ
 L:Nat
 lc:Nat
 ra:Option SZ
 rn:Nat
 rc:Nat
 bk:Nat->Nat
 fl:Nat->Nat
 kn:Nat->Nat
structure kL.fit(a:kL):Prop where
 u8:a.kd<256/\a.x<256/\a.y<256
 len:a.L<=140737488351232/\a.rn<=140737488351232
 kn:∀k,k<a.rn->a.kn k<=140737488351232
 bk:∀k,k<a.L->a.bk k<65536
 fl:∀k,k<a.L->a.fl k<256
structure iB[Lo](w:M)(pa:Option SZ)(L:Nat)(A:Nat->kL):Prop where
 l:L=0\/∃b o,pa=some (R b o)/\b<Lo.lo/\∀i,i<L->w.cell? ⟨b,o+i*5,none⟩=some (.int .u8 ((A i).kd:Nat))/\w.cell? ⟨b,o+i*5+1,none⟩=some (.int .u8 ((A i).x:Nat))/\w.cell? ⟨b,o+i*5+2,none⟩=some (.int .u8 ((A i).y:Nat))/\w.cell? ⟨b,o+i*5+3,none⟩=some (.slice (A i).la (A i).L (A i).lc)/\w.cell? ⟨b,o+i*5+4,none⟩=some (.slice (A i).ra (A i).rn (A i).rc)
 aL:∀i,i<L->(A i).L=0\/∃b o,(A i).la=some (R b o)/\b<Lo.lo/\∀k,k<(A i).L->w.cell? ⟨b,o+k*2,none⟩=some (.int .u16 ((A i).bk k:Nat))/\w.cell? ⟨b,o+k*2+1,none⟩=some (.int .u8 ((A i).fl k:Nat))
 kp:∀i,i<L->(A i).rn=0\/∃b o,(A i).ra=some (R b o)/\b<Lo.lo/\∀k,k<(A i).rn->∃a c,w.cell? ⟨b,o+k,none⟩=some (.slice a ((A i).kn k) c)
 fit:∀i,i<L->(A i).fit
 lo:Lo.lo<=w.heap.size
theorem Fr.jx[Lo](h:Fr T aF w W)(d:Lo.lo<=w.heap.size)(b:p.block<Lo.lo)(c:w.cell? p=some v):W.cell? p=some v:=by obtain⟨o,a⟩:∃o,a_ w p.block o:=⟨_,SB J⟩;rw[QQ ((h.block _ o a (.inr b) id).trans a.symm)];exact c
theorem iB.fr[Lo]{A:Nat->kL}(h:iB w P n A)(f:Fr T aF w W):iB W P n A:=by
 refine⟨h.l.imp id ?_,λi g=>(h.aL i g).imp id ?_,λi g=>(h.kp i g).imp id ?_,h.fit,QE h.lo f.size⟩
 .rintro ⟨b,o,e,d,q⟩;exact⟨b,o,e,d,λi g=>by obtain⟨m,l,p,r,s⟩:=q i g;exact⟨f.jx h.lo d m,f.jx h.lo d l,f.jx h.lo d p,f.jx h.lo d r,f.jx h.lo d s⟩⟩
 .rintro ⟨b,o,e,d,q⟩;exact⟨b,o,e,d,λk j=>⟨f.jx h.lo d (q k j).1,f.jx h.lo d (q k j).2⟩⟩
 .rintro ⟨b,o,e,d,q⟩;exact⟨b,o,e,d,λk j=>by obtain⟨a,c,l⟩:=q k j;exact⟨a,c,f.jx h.lo d l⟩⟩
theorem iB.below[Lo]{A:Nat->kL}(h:iB w P n A)(a:au w W):iB W P n A:=h.fr (T:= []) (Fr.af a)
def NZ(L:Nat)(A:Nat->kL)(w:M)(e:RW)(a:M):Prop:=∃r:Bool,aK e (.bool r)/\au w a/\(r=false->L<=200/\∀i,i<L->(A i).L<=20000)
theorem J_[Lo](z0 z1 V v:Nat)(b4:Bool)(Z:Option SZ)(L b5:Nat)(A:Nat->kL)(w:QA)(h0:z0<256)(h1:z1<256)(h2:V<256)(h3:v<65536)(g4:iB w Z L A)(g8:L<=140737488351232):
  aE 6 #[JZ z0 z1 V v b4 Z L b5] w (NZ L A w):=by
 have e0:=yW (z0:=z0) (z1:=z1) h2;have b7:=ad (λW=>ny z0 z1 V v b4 Z L b5 W h0 h1 h2);have b8:=ad (λW=>yX z0 z1 V v b4 Z L b5 W h3);obtain⟨g,H⟩:=ah (mP z0 z1 V);obtain⟨N,M⟩:=ah (nw v);have g9:=pH v;rw[M]at g9;simp only[H]at b7;simp only[M]at b8;rw[H]at e0;clear H M;obtain⟨b6,z⟩:=ah (w.alloc (al (KR z0 z1 V v b4 Z L b5) 25));have b9:au w b6:=by rw[<-z];exact aI ak _
 have B:a_ b6 w.heap.size (al (KR z0 z1 V v b4 Z L b5) 25):=by rw[<-z];exact QB _ _
 obtain⟨D,R⟩:=ah w.heap.size;rw[R]at B;obtain⟨d1,d2,d3⟩:=cr B;have h:=aT B b9 g4 g8;have c0:=aB z R;have e7:=ad e0;clear z R B b9 e0 g4;obtain⟨I,Y,J⟩:=g;go_enter func6,ntmps6;go_wp2_with fail
 try simp only[c0.out.1,c0.out.2]
 go_wp2_with(first|(go_at_call 14;refine(b7 _).mono ?_;rintro e w1 ⟨rfl,a3⟩;obtain⟨k0,k1,k2⟩:=kp a3 D d3;have c1:=ad a3;clear a3));obtain⟨E,e8⟩:=ah w1.heap.size;obtain⟨w2,C⟩:=ah (w1.alloc (al #[ae I,ae Y,ae J] 39));have a4:a_ w2 E (al #[ae I,ae Y,ae J] 39):=by rw[<-C,<-e8];exact QB _ _
 have a5:au b6 w2:=by rw[<-C];exact aI c1 _
 have a6:=(a5.block D d3).trans h.1;have H2:=aM a4 a5 a6;rw[C,e8];clear C e8 k2 c1 a5;obtain⟨a0,a1,a2⟩:=cr a4;obtain⟨b0,b1,b2⟩:=cr a6;clear a4 a6;have c2:I<=16:=e7.m16;have c3:Y<=16:=e7.pZ;have a7:J<=256:=e7.hj;obtain⟨x,e9⟩:=ah (I*Y);have f0:x<=256:=by rw[<-e9];exact SX c2 c3
 obtain⟨y,f1⟩:=ah (x*J);have h4:y<=65536:=by rw[<-f1];exact SX f0 a7
 have e1:QK.wrap ((I:Int)*(Y:Int))=((x:Nat):Int):=by rw[show(I:Int)*(Y:Int)=((x:Nat):Int)by rw[<-e9,TG]];go_arith
 have e2:QK.wrap ((x:Int)*(J:Int))=((y:Nat):Int):=by rw[show(x:Int)*(J:Int)=((y:Nat):Int)by rw[<-f1,TG]];go_arith
 have e3:QK.wrap ((y:Int)+(N:Int))=((y+N:Nat):Int):=bj;obtain⟨m,h5⟩:=ah (min L 1000);have h6:m<=1000:=aa;have e4:min (L:Int) 1000=((m:Nat):Int):=aa;have e5:QK.wrap ((m:Int)+4)=((m+4:Nat):Int):=bj;obtain⟨p,f2⟩:=ah ((y+N)*(m+4));have h7:p<=67584*1004:=by rw[<-f2];exact SX aa aa
 have e6:QK.wrap (((y+N:Nat):Int)*((m+4:Nat):Int))=((p:Nat):Int):=by rw[show((y+N:Nat):Int)*((m+4:Nat):Int)=((p:Nat):Int)by rw[<-f2,TG]];go_arith
 obtain⟨i4,c4⟩:=ah (y+N);obtain⟨m4,c5⟩:=ah (m+4);rw[c4]at e3 e6;rw[c5]at e5 e6;clear e9 f1 h5 f2 c4 c5;go_wp2_with fail;go_region_held3(λF=>F.cell? (ag E 0)=some (ae I)/\F.cell? (ag E 1)=some (ae Y)/\F.cell? (ag E 2)=some (ae J)/\F.cell? (ag D 0)=some (bx z0)/\F.cell? (ag D 1)=some (bx z1)/\F.cell? (ag D 2)=some (bx V)/\F.cell? (ag D 3)=some (aG v)/\F.cell? (ag D 4)=some (.bool b4)/\F.cell? (ag D 5)=some (.slice Z L b5)) ((simp[*,go_sem];done)) (first|(go_at_call 15;refine(b8 _).mono ?_;rintro e w3 ⟨rfl,c6⟩;have G:QX (au w2 w3):=via bF c6;obtain⟨p0,p1,p2⟩:=kp G D b2;obtain⟨q0,q1,q2⟩:=kp G E a2;clear c6))
 all_goals
  clear a0 a2 q0;by_cases c7:131072<p
  .have j1:(131072:Int)<(p:Int):=aa;clear b0 b1 b2 p0;have d7:QX (au w w3):=h.2.1.trans ((H2.2.1.trans (G.mono H2.2.1.size)).mono h.2.1.size);go_wp2_with fail;go_ret;exact⟨true,rfl,d7,λe=>by cases e⟩
  have j1:¬(131072:Int)<(p:Int):=aa;have d7:QX (au b6 w3):=H2.2.1.trans (G.mono H2.2.1.size);clear c7 b0 b1 b2 p0 e1 e2 e3 e4 e5 e6;have f3:=(d7.block D d3).trans h.1;obtain⟨b0,b1,b2⟩:=cr f3;go_wp2_with fail;go_loopw [4,5] (λs4 s5 wr=>∃i n:Nat,i<=L/\s5= ae i/\s4= ae n/\QX (au b6 wr/\L<=n/\n<=600000000000000/\∀j,j<i->(A j).L<=n)) (λ_ s5 _=>L-(intOf s5).toNat)
  case atStart=>exact⟨0,L,QN _,rfl,rfl,d7,QH _,aa,λj d8=>absurd d8 (RR j)⟩
  case round=>
   obtain⟨i,n,i5,rfl,rfl,K⟩:=hrel;have c8:=(K.1.block D d3).trans h.1;have d:=h.2.2.1.below (h.2.1.trans (K.1.mono h.2.1.size));clear b0 b1 b2;obtain⟨b0,b1,b2⟩:=cr c8;by_cases q:i<L
   .by_cases d9:n<=20000
    .have f4:=d.fit i q;obtain⟨b,o,f5,f6,g5⟩:=d.l.resolve_left aa;obtain⟨-,-,-,q3,q4⟩:=g5 i q;subst f5;have j2:(i:Int)<(L:Int):=aa;have j3:(n:Int)<=20000:=aa;have j4:(0:Int)<=(i:Int):=aa;obtain⟨l1,O⟩:=ah ((A i).L);obtain⟨l,P⟩:=ah ((A i).rn);obtain⟨i6,f⟩:=ah ((A i).ra);have r:=f4.len;have h8:=ad (d.kp i q);have h9:=ad f4;rw[O]at q3;rw[P,f]at q4;rw[O,P]at r;have s:=aM O P f;have e1:QK.wrap ((l1:Int)+(l:Int))=((l1+l:Nat):Int):=bj;have e2:QK.wrap ((n:Int)+((l1+l:Nat):Int))=((n+(l1+l):Nat):Int):=bj;obtain⟨i0,a8⟩:=ah (l1+l);rw[a8]at e1 e2;obtain⟨n2,fe⟩:=ah (n+i0);rw[fe]at e2;have f7:=aT q3 q4 f6 q;have Q:=aT a8 fe r d9;clear g5 f4 O P f a8 fe r d q d9;go_wp2_with fail;go_quiet(fail);go_wp2_with fail;obtain⟨f8,rfl⟩:∃f8:QA,f8=wr:=⟨_,rfl⟩;go_loopw [4,6] (λs4 s6 ws=>∃k c:Nat,k<=l/\s6= ae k/\s4= ae c/\QX (au f8 ws/\n2<=c/\c<=600000000000000)) (λ_ s6 _=>l-(intOf s6).toNat)
     case atStart=>have:=Q.out;exact⟨0,n2,QN _,rfl,rfl,cE ak _,QH _,aa⟩
     case round=>
      obtain⟨k,c,i1,rfl,rfl,a⟩:=hrel;have f9:=(a.1.block D b2).trans c8;have g6:l<=140737488351232:=Q.2.2.1.2;have g0:k<l->QK.wrap ((k:Int)+1)=((k+1:Nat):Int):=λi1=>bj;have i2:=(Out.af (S:=λ_=>False) a.1).cell f7.2.1 id;clear q3 q4 b0 b1;obtain⟨b0,b1,b3⟩:=cr f9;have c9:QX (au b6 wr):=via K.1 a.1;have d0:QX (∀j,j<i+1->(A j).L<=c):=λj d8=>by
       have h1:=Q.out;have h2:=a.2.1;by_cases e:j=i
       .rw [e,s.1];omega
       .have:=K.2.2.2 j aa;omega
      have a9:QX (L<=c):=by have h1:=Q.out;have h2:=a.2.1;have h3:=K.2.1;show L<=c;omega
      by_cases T:k<l
      .have k2:(k:Int)<(l:Int):=aa;have k3:(0:Int)<=(k:Int):=aa;by_cases i3:c<=20000
       .have k4:(c:Int)<=20000:=aa;obtain⟨i7,i8,f,g7,d4⟩:=h8.resolve_left (by rw[s.2.1];omega);rw[s.2.2]at f;subst f;obtain⟨i9,j0,t⟩:=d4 k (by rw[s.2.1];exact T);have U:=(Out.af (S:=λ_=>False) a.1).cell t id;have g1:=h9.kn k (by rw[s.2.1];exact T);obtain⟨g2,X⟩:=ah ((A i).kn k);rw[X]at U g1;have e3:QK.wrap ((c:Int)+(g2:Int))=((c+g2:Nat):Int):=bj;have e4:=g0 T;clear X t d4;go_wp2_with fail;exact⟨⟨k+1,c+g2,T,rfl,rfl,a.1,by have:=a.2.1;omega,aa⟩,by first|(simp[intOf];done)|(simp[intOf];omega)⟩
       .have k4:¬(c:Int)<=20000:=aa;go_wp2_with fail;exact⟨⟨i+1,c,f7.2.2.2,rfl,rfl,c9,a9,a.2.2,d0⟩,by first|(simp[intOf];done)|(simp[intOf];omega)⟩
      .have k2:¬(k:Int)<(l:Int):=aa;go_wp2_with fail;exact⟨⟨i+1,c,f7.2.2.2,rfl,rfl,c9,a9,a.2.2,d0⟩,by first|(simp[intOf];done)|(simp[intOf];omega)⟩
    .have j2:(i:Int)<(L:Int):=aa;have j3:¬(n:Int)<=20000:=aa;have j5:(20000:Int)<(n:Int):=aa;clear d;have u:QX (au w wr):=h.2.1.trans (K.1.mono h.2.1.size);go_wp2_with fail;go_ret;exact⟨true,rfl,u,λe=>by cases e⟩
   .have j2:¬(i:Int)<(L:Int):=aa;have d5:i=L:=aa;have u:QX (au w wr):=h.2.1.trans (K.1.mono h.2.1.size);have g3:QX (∀j,j<L->(A j).L<=n):=by rw[<-d5];exact K.2.2.2
    have a9:QX (L<=n):=K.2.1;clear d d5;by_cases d9:n<=20000
    .have j3:¬(20000:Int)<(n:Int):=aa;by_cases d6:L<=200
     .have j4:¬(200:Int)<(L:Int):=aa;go_wp2_with fail;go_ret;exact⟨false,rfl,u,λ_=>⟨d6,λj d8=>QE (g3 j d8) d9⟩⟩
     .have j4:(200:Int)<(L:Int):=aa;go_wp2_with fail;go_ret;exact⟨true,rfl,u,λe=>by cases e⟩
    .have j3:(20000:Int)<(n:Int):=aa;go_wp2_with fail;go_ret;exact⟨true,rfl,u,λe=>by cases e⟩
section
open Go.ChangeShapes Go.WideShapes Go.ChangeAt
theorem ZU:laidOutB prog=true:=ai
theorem own:ownKnob prog.godebug=none:=ai
theorem c3:prog.cellsOf 3=1:=ai
theorem c4:prog.cellsOf 4=1:=ai
theorem c5:prog.cellsOf 5=1:=ai
theorem Pg:prog.cellsOf 22=1:=ai
theorem PU:prog.cellsOf 23=1:=ai
theorem PV:prog.cellsOf 25=6:=ai
theorem PW:prog.cellsOf 31=1:=ai
theorem PX:prog.cellsOf 32=1:=ai
theorem PY:prog.cellsOf 34=5:=ai
theorem PZ:prog.cellsOf 56=1:=ai
theorem P_:prog.cellsOf 92=2:=ai
theorem P':prog.bytesOf 4=1:=ai
theorem N_:prog.bytesOf 34=56:=ai
theorem N':prog.bytesOf 56=24:=ai
theorem Oa:prog.bytesOf 92=4:=ai
theorem vB{H:Type}{enc:SV × QC->H}{P:Program}(o:laidOutB P=true){W p:M}(q:au W p):∀(c:List SV) (g:List QC) (i:List (DataW H)) (f:List MemPlace),
  (∀t∈c,P.readableRec t=true/\t<P.types.size)->DataW.TrodAll enc P W 0 (λ_=>true) true c g i f->(∀x∈f,x.block<W.heap.size)->
  DataW.TrodAll enc P p 0 (λb=>decide (b<W.heap.size)) true c g i f
 | [],_,_,_,_,h,_=>by obtain⟨rfl,rfl,rfl⟩:=trodAll_nil h;exact trodAll_mk0
 |t::c,g,i,f,j,h,e=>by
  obtain⟨v,k,d,l,a,b,rfl,rfl,rfl,r,s⟩:=trodAll_cons h;exact trodAll_cons_mk (Below.trod o (j t aJ).1 (j t aJ).2 r q (λx m=>e x (by simp[m])))
   (vB o q c k l b (λu n=>j u (by simp[n])) s (λx m=>e x (by simp[m])))
theorem jy{H:Type}{P:Program}{e:SV}{x:DataW H}{k:Nat}:∀{b:List (DataW H)} {i:Nat},b[i]?=some x->k∈x.weights P e->k∈DataW.weightsAll P e b
 |y::r,0,h,a=>by simp only[List.getElem?_cons_zero,SO]at h;subst h;simp only[DataW.weightsAll,TJ];exact .inl a
 |y::r,i+1,h,a=>by simp only[List.getElem?_cons_succ]at h;simp only[DataW.weightsAll,TJ];exact .inr (jy h a)
def nN{H:Type}(t:SV)(d:DataW H):Prop:=∀k∈d.weights prog t,k<=140737488351232
theorem J'{H:Type}{b:List SV}{c:List (DataW H)}{t:SV}{d:DataW H}{j:Nat}(a:(DataW.weightsEach prog b c).all (· <=reachBytes)=true)(e:b[j]?=some t)(f:c[j]?=some d):nN t d:=λk g=>by have:=of_decide_eq_true (WD.1 a _ (DataW.weights_mem_each e f _ g));simpa only[reachBytes]using this
theorem vC{H:Type}{t e:SV}{a b:List (DataW H)}{x:DataW H}{i:Nat}(h:nN t (.slice a b))(c:prog.underlying t=some (.slice e))(d:a[i]?=some x):nN e x:=λk f=>
 h k (by simp only[DataW.weights,c,UG,TJ];exact .inr (.inl (jy d f)))
theorem oc{H:Type}{t e:SV}{a b:List (DataW H)}(h:nN t (.slice a b))(c:prog.underlying t=some (.slice e)):(a.length+b.length)*prog.bytesOf e<=140737488351232:=
 h _ (by simp only[DataW.weights,c];exact SE)
theorem pI{H:Type}{t:SV}{a:Array Field}{b:List (DataW H)}{x:DataW H}{j:Nat}{f:Field}(h:nN t (.agg b))(c:prog.underlying t=some (.struct a))(d:a[j]?=some f)(e:b[j]?=some x):nN f.type x:=λk g=>
 h k (by simp only[DataW.weights,c];exact DataW.weights_mem_each (by simp[d]) e _ g)
section
variable {H:Type} {enc:SV × QC->H} {W:QA}
theorem ij{a:Nat}{v:QC}{x:DataW H × List MemPlace}(h:YL enc prog W 0 (λ_=>true) true a 5 [v] =some x):∃z:Nat,v= bx z/\z<256:=by obtain⟨z,b,_,c⟩:=DataW.trod_int UR h;simp only[UD,and_true]at b;have d:ZC.min=0:=rfl;have e:ZC.max=255:=rfl;simp only[Lit.wf,VM,decide_eq_true_eq]at c;exact⟨z.toNat,by rw[b,Int.toNat_of_nonneg J],J⟩
theorem vD{a:Nat}{v:QC}{x:DataW H × List MemPlace}(h:YL enc prog W 0 (λ_=>true) true a 22 [v] =some x):∃z:Nat,v= aG z/\z<65536:=by obtain⟨z,b,_,c⟩:=DataW.trod_int underlying22 h;simp only[UD,and_true]at b;have d:IntKind.u16.min=0:=rfl;have e:IntKind.u16.max=65535:=rfl;simp only[Lit.wf,VM,decide_eq_true_eq]at c;exact⟨z.toNat,by rw[b,Int.toNat_of_nonneg J],J⟩
theorem yY{a:Nat}{v:QC}{x:DataW H × List MemPlace}(h:YL enc prog W 0 (λ_=>true) true a 4 [v] =some x):∃b:Bool,v=.bool b:=by obtain⟨b,c,_⟩:=DataW.trod_bool underlying4 h;simp only[UD,and_true]at c;exact⟨b,c⟩
theorem jQ{a:SZ}{v:QC}(h:W.cell? (a.add 0)=some v):∃b o,a=R b o/\b<W.heap.size:=by
 obtain⟨b,o,c⟩:=a;have d:c=none:=by simpa[Addr.add]using World.cell?_spot h
 subst d;exact⟨b,o,rfl,QO W _ h⟩
theorem AQ{p:Nat}{v:QC}{x:DataW H × List MemPlace}(h:YL enc prog W 0 (λ_=>true) true p 31 [v] =some x)(P:nN 31 x.1):
  ∃(a:Option SZ) (L c:Nat) (F G:aQ),v=.slice a L c/\L<=140737488351232/\(L=0\/∃b o,a=some (ag b o)/\b<W.heap.size/\∀k,k<L->W.cell? ⟨b,o+k*2,none⟩=some (.int .u16 (F k:Nat))/\W.cell? ⟨b,o+k*2+1,none⟩=some (.int .u8 (G k:Nat)))/\(∀k,k<L->F k<65536)/\∀k,k<L->G k<256:=by
 rcases Deep.open_slice underlying31 h with⟨d,z⟩|⟨a,g,Q,m,n,D,Pl,d,_,M,R,r,rfl,z⟩
 .simp only[UD,and_true]at d;subst d;exact⟨none,0,0,λ_=>0,λ_=>0,rfl,QN _,.inl rfl,λ_ h=>absurd h (RR _),λ_ h=>absurd h (RR _)⟩
 .simp only[UD,and_true]at d;subst d;simp only[if_true]at r;subst r;rw[P_]at z;have s:∀i,i<g->∃q:Nat × Nat,W.cell? (a.add (i*2))=some (aG q.1)/\W.cell? (a.add (i*2+1))=some (bx q.2)/\q.1<65536/\q.2<256:=λi l=>by
   obtain⟨A,u,w⟩:=z i aa;obtain⟨_,j,e⟩:=World.cells?_some u;obtain⟨xs,k,I,S,_,B,t⟩:=DataW.trod_struct underlying92 w;have C:=e 0 aa;have E:=e 1 aa;have K:=t 0 _ rfl;have O:=t 1 _ rfl;rw[Deep.add_add]at C E
   match xs,B,A,j with
   | [Y,J],_,[v0,v1],_=>simp[Pg,c5]at K O;simp at C E;obtain⟨T,rfl,U⟩:=vD K;obtain⟨V,rfl,X⟩:=ij O;exact⟨(T,V),C,E,U,X⟩
  obtain⟨q,y⟩:=Deep.choose_lt (α:=Nat × Nat) s;have f:=oc P underlying31;rw[Oa]at f;simp at f;refine⟨some a,g,m,λi=>(q i).1,λi=>(q i).2,rfl,aa,?_,λi l=>(y i l).2.2.1,λi l=>(y i l).2.2.2⟩;by_cases Z:g=0
  .exact .inl Z
  .obtain ⟨b,o,rfl,N⟩:=jQ (a:=a) (by have:=(y 0 aa).1;rwa[VV]at this);refine .inr ⟨b,o,rfl,N,λi l=>?_⟩;obtain⟨u,w,-⟩:=y i l;rw[iK]at u w;exact⟨u,by rw[UO];exact w⟩
theorem xy{g:Nat}{v:QC}{x:DataW H × List MemPlace}(h:YL enc prog W 0 (λ_=>true) true g 56 [v] =some x)(t:nN 56 x.1):
  ∃(a:Option SZ) (n c:Nat) (u:Nat->Bool),v=.slice a n c/\n<=140737488351232/\(n=0\/∃b o,a=some (R b o)/\b<W.heap.size/\∀k,k<n->W.cell? ⟨b,o+k,none⟩=some (.bool (u k))):=by
 rcases Deep.open_slice1 underlying56 c4 h with⟨d,r⟩|⟨a,f,w,m,n,V,D,Pl,d,_,C,E,j,rfl,r⟩
 .simp only[UD,and_true]at d;subst d;exact⟨none,0,0,λ_=>false,rfl,QN _,.inl rfl⟩
 .simp only[UD,and_true]at d;subst d;simp only[if_true]at j;subst j;obtain⟨q,s⟩:=Deep.choose_lt (α:=Bool) (p:=λi b=>W.cell? (a.add i)=some (.bool b)) (n:=f) λi F=>by obtain⟨y,z⟩:=r i J;obtain⟨b,l⟩:=yY z;exact⟨b,by rw[y,l]⟩
  have e:=oc t underlying56;rw[P']at e;simp at e;refine⟨some a,f,m,q,rfl,J,?_⟩;by_cases A:f=0
  .exact .inl A
  .obtain ⟨b,o,rfl,l⟩:=jQ (a:=a) (s 0 J);exact .inr ⟨b,o,rfl,l,λk B=>by rw[<-iK];exact s k B⟩
theorem xz{j:Nat}{v:QC}{x:DataW H × List MemPlace}(h:YL enc prog W 0 (λ_=>true) true j 32 [v] =some x)(u:nN 32 x.1):
  ∃(a:Option SZ) (n c:Nat) (r:aQ) (A:Nat->Nat->Bool),v=.slice a n c/\n<=140737488351232/\(∀k,k<n->r k<=140737488351232)/\(n=0\/∃b o,a=some (R b o)/\b<W.heap.size/\∀k,k<n->∃w B,W.cell? ⟨b,o+k,none⟩=some (.slice w (r k) B)/\
   (r k=0\/∃t y,w=some (R t y)/\t<W.heap.size/\∀i,i<r k->W.cell? ⟨t,y+i,none⟩=some (.bool (A k i)))):=by
 rcases Deep.open_slice1 underlying32 PZ h with⟨d,z⟩|⟨a,f,C,m,n,V,D,Pl,d,_,X,Z,l,rfl,z⟩
 .simp only[UD,and_true]at d;subst d;exact⟨none,0,0,λ_=>0,λ_ _=>false,rfl,QN _,λ_ h=>absurd h (RR _),.inl rfl⟩
 .simp only[UD,and_true]at d;subst d;simp only[if_true]at l;subst l;obtain⟨q,s⟩:=Deep.choose_lt (α:=Option SZ × Nat × Nat × (Nat->Bool)) (p:=λi q=>W.cell? (a.add i)=some (.slice q.1 q.2.1 q.2.2.1)/\q.2.1<=140737488351232/\(q.2.1=0\/∃b o,q.1=some (R b o)/\b<W.heap.size/\∀k,k<q.2.1->W.cell? ⟨b,o+k,none⟩=some (.bool (q.2.2.2 k)))) (n:=f) λi g=>by obtain⟨E,F⟩:=z i J;obtain⟨G,K,L,O,P,Q,S⟩:=xy F (vC u underlying32 (i:=i) (by simp[g]));exact⟨(G,K,L,O),by rw[E,P],Q,S⟩
  have e:=oc u underlying32;rw[N']at e;simp at e;refine⟨some a,f,m,λi=>(q i).2.1,λi=>(q i).2.2.2,rfl,J,λi g=>(s i g).2.1,?_⟩;by_cases T:f=0
  .exact .inl T
  .obtain ⟨b,o,rfl,U⟩:=jQ (a:=a) (s 0 J).1;exact .inr ⟨b,o,rfl,U,λi g=>⟨(q i).1,(q i).2.2.1,(by have:=(s i g).1;rw[iK]at this;exact this),(s i g).2.2⟩⟩
theorem AR{t:Nat}{v:QC}{x:DataW H × List MemPlace}(h:YL enc prog W 0 (λ_=>true) true t 23 [v] =some x)(U:nN 23 x.1):
  letI:Lo:=⟨W.heap.size⟩
  ∃(a:Option SZ) (L c:Nat) (A:Nat->kL),v=.slice a L c/\L<=140737488351232/\iB W a L A:=by
 letI:Lo:=⟨W.heap.size⟩
 rcases Deep.open_slice underlying23 h with⟨e,C⟩|⟨a,p,a0,m,n,D,Pl,e,_,b3,b4,u,rfl,C⟩
 .simp only[UD,and_true]at e;subst e;exact⟨none,0,0,λ_=>⟨0,0,0,none,0,0,none,0,0,λ_=>0,λ_=>0,λ_=>0⟩,rfl,QN _,⟨.inl rfl,λ_ h=>absurd h (RR _),λ_ h=>absurd h (RR _),λ_ h=>absurd h (RR _),QH _⟩⟩
 .simp only[UD,and_true]at e;subst e;simp only[if_true]at u;subst u;rw[PY]at C;have w:∀i,i<p->∃q:kL,W.cell? (a.add (i*5))=some (bx q.kd)/\W.cell? (a.add (i*5+1))=some (bx q.x)/\W.cell? (a.add (i*5+2))=some (bx q.y)/\W.cell? (a.add (i*5+3))=some (.slice q.la q.L q.lc)/\W.cell? (a.add (i*5+4))=some (.slice q.ra q.rn q.rc)/\q.fit/\
    (q.L=0\/∃b o,q.la=some (ag b o)/\b<W.heap.size/\∀k,k<q.L->W.cell? ⟨b,o+k*2,none⟩=some (.int .u16 (q.bk k:Nat))/\W.cell? ⟨b,o+k*2+1,none⟩=some (.int .u8 (q.fl k:Nat)))/\
    (q.rn=0\/∃b o,q.ra=some (ag b o)/\b<W.heap.size/\∀k,k<q.rn->∃a c,W.cell? ⟨b,o+k,none⟩=some (.slice a (q.kn k) c)):=λi g=>by
   obtain⟨E,z,B⟩:=C i aa;obtain⟨_,r,d⟩:=World.cells?_some z;obtain⟨xs,k,V,F,_,G,f⟩:=DataW.trod_struct underlying34 B;have s:nN 34 (D i):=vC U underlying23 (i:=i) (by simp[g]);have K:=d 0 aa;have O:=d 1 aa;have P:=d 2 aa;have Q:=d 3 aa;have S:=d 4 aa;have X:=f 0 _ rfl;have Z:=f 1 _ rfl;have N:=f 2 _ rfl;have M:=f 3 _ rfl;have R:=f 4 _ rfl;rw[Deep.add_add]at K O P Q S
   match xs,G,E,r with
   | [y0,T,y2,y3,y4],_,[v0,v1,v2,v3,v4],_=>
    simp[c5,PW,PX]at X Z N M R;simp at K O P Q S;obtain⟨z0,rfl,i0⟩:=ij X;obtain⟨z1,rfl,i1⟩:=ij Z;obtain⟨z2,rfl,i2⟩:=ij N;have a1:D i=.agg [y0.1,T.1,y2.1,y3.1,y4.1]:=by have:=congrArg Prod.fst F;simpa using this
    rw[a1]at s;obtain⟨a2,L,a3,a4,a5,rfl,l1,l2,l3,l4⟩:=AQ M (pI s underlying34 (j:=3) rfl rfl);obtain⟨a6,a7,a8,a9,b5,rfl,r1,r2,r3⟩:=xz R (pI s underlying34 (j:=4) rfl rfl);exact⟨⟨z0,z1,z2,a2,L,a3,a6,a7,a8,a4,a5,a9⟩,K,O,P,Q,S,⟨⟨i0,i1,i2⟩,⟨l1,r1⟩,r2,l3,l4⟩,l2,r3.imp id λ⟨b,o,x1,x2,x3⟩=>⟨b,o,x1,x2,λk V=>by obtain⟨b0,b1,T,-⟩:=x3 k V;exact⟨b0,b1,T⟩⟩⟩
  haveI:Inhabited kL:=⟨⟨0,0,0,none,0,0,none,0,0,λ_=>0,λ_=>0,λ_=>0⟩⟩
  obtain⟨q,y⟩:=Deep.choose_lt (α:=kL) w;have l:=oc U underlying23;rw[N_]at l;simp at l;refine⟨some a,p,m,q,rfl,aa,?_,λi g=>(y i g).2.2.2.2.2.2.1,λi g=>(y i g).2.2.2.2.2.2.2,λi g=>(y i g).2.2.2.2.2.1,QH _⟩;by_cases h0:p=0
  .exact .inl h0
  .obtain ⟨b,o,rfl,b2⟩:=jQ (a:=a) (by have:=(y 0 aa).1;rwa[VV]at this);refine .inr ⟨b,o,rfl,b2,λi g=>?_⟩;obtain⟨z,B,I,Y,J,-⟩:=y i g;rw[iK]at z B I Y J;exact⟨z,by rw[UO];exact B,by rw[UO];exact I,by rw[UO];exact Y,by rw[UO];exact J⟩
theorem AS{v:QC}{d:DataW H}{B:List MemPlace}(e:Value.okWide prog W .any 0 25 v)(m:DataW.Trod enc prog W 0 (λ_=>true) true 25 v d B)(q:nN 25 d):
  letI:Lo:=⟨W.heap.size⟩
  ∃(g h i r:Nat) (n:Bool) (a:Option SZ) (L c:Nat) (A:Nat->kL),v=JZ g h i r n a L c/\g<256/\h<256/\i<256/\r<65536/\L<=140737488351232/\iB W a L A:=by
 obtain⟨C,rfl,f⟩:=okWide_struct underlying25 e;rw[PV]at f;obtain⟨l⟩:=C;obtain⟨s,m⟩:=m
 match l,f with
 | [v0,Z,N,M,R,I],_=>
  obtain⟨xs,k,Y,o,_,p,b⟩:=DataW.trod_struct underlying25 m;have t:=b 0 _ rfl;have u:=b 1 _ rfl;have w:=b 2 _ rfl;have x:=b 3 _ rfl;have y:=b 4 _ rfl;have z:=b 5 _ rfl
  match xs,p with
  | [D,E,F,G,K,O],_=>
   simp[c5,Pg,c4,PU,Value.cells]at t u w x y z;obtain⟨g,rfl,P⟩:=ij t;obtain⟨h,rfl,Q⟩:=ij u;obtain⟨i,rfl,S⟩:=ij w;obtain⟨z3,rfl,T⟩:=vD x;obtain⟨n,rfl⟩:=yY y;have U:d=.agg [D.1,E.1,F.1,G.1,K.1,O.1]:=by have:=congrArg Prod.fst o;simpa using this
   rw[U]at q;obtain⟨a,L,c,A,rfl,V,X⟩:=AR z (pI q underlying25 (j:=5) rfl rfl);exact⟨g,h,i,z3,n,a,L,c,A,rfl,P,Q,S,T,V,X⟩
end
end
def fK(w:M)(p n:Nat)(f:aQ)(q:Nat):Prop:=
 ∃g c,n<=c/\w.heap[p]?=some (N #[a' g n c,Y q,aG 0,Y 0] 364)/\∃a b,w.heap[g]?=some (.cells a 5 b)/\∀k,k<n->a[k]?=some (.int .u8 (f k))
theorem fK.below(h:fK w m n f k)(a:au w W):fK W m n f k:=by obtain⟨g,c,e,b,i,j,d,l⟩:=h;exact⟨g,c,e,(a.block _ (Z_ b)).trans b,i,j,(a.block _ (Z_ d)).trans d,l⟩
def jY:List Nat:= [364]
theorem He(w:M)(p n q:Nat)(f:aQ)(h:fK w p n f q)(i:q<=n)(j:n<=1000000):aE 319 #[H p] w λe a=>aK e (Y (n-q:Nat))/\au w a:=by obtain⟨g,c,-,b,-⟩:=h;obtain⟨k,d,z⟩:=cr b;have e:QK.wrap ((n:Int)-q)=((n-q:Nat):Int):=bj;go_enter func319,ntmps319;go_wp2_with fail;go_quiet(fail);go_wp2;go_ret;exact⟨rfl,cE ak _⟩
theorem sX(w:M)(p n q k:Nat)(f:aQ)(h:fK w p n f q)(B:1<=k)(C:q+k<=n)(l:n<=1000000):aE 279 #[H p,Y k] w λe o=>(∃g c,n<=c/\aK e (.slice (some (R g q)) k (c-q))/\∃a b,w.heap[g]?=some (.cells a 5 b)/\∀k,k<n->a[k]?=some (.int .u8 (f k)))/\au w o:=by
 have r:=I (λW (s:au w W)=>He W p n q f (h.below s) J l);obtain⟨g,c,t,u,a,b,v,x⟩:=h;have y:QX (∃a b,a_ w g (.cells a 5 b)/\∀k,k<n->a[k]?=some (.int .u8 (f k))):=⟨a,b,v,x⟩;obtain⟨D,d,z⟩:=cr u;obtain⟨m,A⟩:=ah (q+k);have E:QK.wrap ((q:Int)+k)=((m:Nat):Int):=by rw[<-A];go_arith
 have F:¬((n-q:Nat):Int)<(k:Int):=J;have G:(0:Int)<=(q:Int):=J;have K:(q:Int)<=(m:Int):=J;have L:(m:Int)<=(c:Int):=J;have O:¬c=q:=J;have P:m-q=k:=J;go_enter func279,ntmps279;go_wp2_with(first|(go_at_call 319;refine(r w ak).mono ?_;rintro e Q ⟨rfl,i⟩;obtain⟨S,T,U⟩:=kp i p z;have j:=I i));go_quiet(fail);go_wp2;go_ret;exact⟨⟨g,c,t,by simp[*],y⟩,cE j _⟩
theorem ED(n:Nat)(h:n<18446744073709551616):(UJ 64 (n:Int)).toNat=n:=by rw[WW,XL];exact SA J
theorem Ka(a b:Nat)(c:a<18446744073709551616)(d:b<18446744073709551616):bits .or .u64 (a:Int) (b:Int)=((a|||b:Nat):Int):=by have e:a|||b<2^64:=Nat.or_lt_two_pow J J;show VN.wrap ((UJ 64 (a:Int)|||UJ 64 (b:Int)).toNat:Int)=_;rw[BitVec.toNat_or,ED a c,ED b d,IntKind.wrap_u64];omega
theorem EE{x y j:Nat}(a:x<256^j)(i:y<256)(k:j<8):bits .or .u64 (x:Int) (VN.wrap (VN.wrap (y:Int)*2^(8*j)))=((x+y*256^j:Nat):Int):=by
 have e:((256^j:Nat):Int)=2^(8*j):=by rw[show 256=2^8 from rfl,<-Nat.pow_mul,Int.natCast_pow];rfl
 have b:256^(j+1)<=256^8:=Nat.pow_le_pow_right aj J;have l:y*256^j<=255*256^j:=WC _ J;rw[Nat.pow_succ]at b;have c:y*256^j<18446744073709551616:=J;have d:x<18446744073709551616:=J;have f:VN.wrap (VN.wrap (y:Int)*2^(8*j))=((y*256^j:Nat):Int):=by
  have g:VN.wrap (y:Int)=y:=by rw[IntKind.wrap_u64];omega
  rw[g,<-e,<-TG,IntKind.wrap_u64];omega
 rw[f,Ka _ _ d c];congr 1;have h:y*256^j=y<<<(8*j):=by rw[Nat.shiftLeft_eq,Nat.pow_mul]
 rw[h,Nat.or_comm,<-Nat.shiftLeft_add_eq_or_of_lt (by rw[Nat.pow_mul];exact a),YZ]
theorem Fr.reader[Lo](h:fK w m n f k)(a:Nat)(j:Lo.lo<=m):fK (w.setCell (R m 1) (Y a)) m n f a/\Fr jY aF w (w.setCell (R m 1) (Y a)):=by
 obtain⟨g,c,l,b,o,p,d,q⟩:=h;have i:g≠m:=λe=>by rw[e,b]at d;cases d
 refine⟨⟨g,c,l,heap_setCell_same w m 1 _ 364 _ b,o,p,?_,q⟩,(Fr.refl _ _ _).set b rfl j _⟩;exact(RP _ _ _ _ i).trans d
def Md[Lo](p n q k v:Nat)(f:aQ)(w:M)(e:RW)(a:M):Prop:=aK e (bg v)/\fK a p n f (q+k)/\Fr jY aF w a
theorem sY[Lo](w:QA)(p n q k:Nat)(f:aQ)(h:fK w p n f q)(l:Lo.lo<=p)(C:1<=k)(D:k<=8)(v:q+k<=n)(E:n<=1000000)(F:∀j,j<n->f j<256):aE 282 #[ar p,ae k] w (Md p n q k (dq (λj=>f (q+j)) k) f w):=by
 have G:=ad (sX w p n q k f h C v E);have d:=aT h l F v;go_enter func282,ntmps282;go_wp2_with(first|(go_at_call 279;refine G.mono ?_;rintro e X ⟨⟨g,c,Z,rfl,m⟩,o⟩;have K:=ad m;have L:=ad o));go_loopw [5,12] (λO b wr=>∃(j:Nat),j<=k/\b= ae j/\O=.int .u64 (dq (λj=>f (q+j)) j:Nat)/\au w wr) (λ_ b _=>k-(intOf b).toNat)
 case atStart=>exact⟨0,QN _,rfl,rfl,L⟩
 case round=>
  obtain⟨j,H,rfl,rfl,o⟩:=hrel;have a:=ad o;by_cases r:j<k
  .obtain ⟨P,Q,z,S⟩:=K.out;have T:wr.cell? ⟨g,q+j,none⟩=some (.int .u8 (f (q+j):Nat)):=(QT wr g _ P 5 Q ((a.block _ (Z_ z)).trans z)).trans (S (q+j) aa);obtain⟨x,s⟩:=ah (dq (λj=>f (q+j)) j);obtain⟨y,t⟩:=ah (f (q+j));rw[s];rw[t]at T;have u:=aM s t (EE (j:=j) (x:=x) (y:=y) (by rw[<-s];exact gF λi N=>d.2.2.1 _ (by have:=d.2.2.2;omega)) (by rw[<-t];exact d.2.2.1 _ (by have:=d.2.2.2;omega)) aa);go_wp2;refine⟨⟨j+1,r,rfl,?_,a⟩,by simp[intOf];omega⟩;rw[u.2.2];unfold dq;rw[u.1,u.2.1]
  .obtain rfl:j=k:=aa;obtain⟨h,l,-,-⟩:=d.out;have A:=h.below a;have B:=ad (λU=>Fr.reader A U l);have V:=ad (Fr.af a:Fr jY aF w wr);obtain⟨M,R,-,W,-⟩:=A;obtain⟨I,Y,J⟩:=cr W;have e1:QK.wrap ((q:Int)+j)=((q+j:Nat):Int):=bj;go_wp2;go_ret;exact⟨rfl,(B _).1,V.tr (B _).2⟩
theorem xB[Lo](w:M)(p n q:Nat)(f:aQ)(h:fK w p n f q)(d:Lo.lo<=p)(g:q+1<=n)(i:n<=1000000)(b:∀j,j<n->f j<256):aE 226 #[H p] w λe c=>aK e (.int .u8 (f q:Nat))/\fK c p n f (q+1)/\Fr jY aF w c:=by have a:=I (sY w p n q 1 f h d (QH _) J g i b);have s:=b q J;have e:((f q:Nat):Int)%256=(f q:Nat):=J;rw[NG]at a;rw[VJ]at a;obtain⟨y,k⟩:=ah (f q);rw[k]at a e|-;go_enter func226,ntmps226;go_wp2_with(first|(go_at_call 282;refine a.mono ?_;rintro e t ⟨rfl,l,m⟩;have o:=I l;have r:=I m));go_ret;exact⟨by first|rfl|(simp;omega),o,r⟩
theorem Hf[Lo](w:M)(p n q:Nat)(f:aQ)(h:fK w p n f q)(d:Lo.lo<=p)(g:q+2<=n)(i:n<=1000000)(a:∀j,j<n->f j<256):aE 235 #[H p] w λe b=>aK e (.int .u16 (dq (λj=>f (q+j)) 2:Nat))/\fK b p n f (q+2)/\Fr jY aF w b:=by have c:=I (sY w p n q 2 f h d J J g i a);have k:dq (λj=>f (q+j)) 2<256^2:=gF λj t=>a _ J;obtain⟨y,l⟩:=ah (dq (λj=>f (q+j)) 2);rw[l]at c k|-;have e:((y:Nat):Int)%65536=(y:Nat):=J;go_enter func235,ntmps235;go_wp2_with(first|(go_at_call 282;refine c.mono ?_;rintro e u ⟨rfl,m,o⟩;have r:=I m;have s:=I o));go_ret;exact⟨by first|rfl|(simp;omega),r,s⟩
theorem gV[Lo](w:M)(p n q:Nat)(f:aQ)(h:fK w p n f q)(d:Lo.lo<=p)(g:q+4<=n)(i:n<=1000000)(a:∀j,j<n->f j<256):aE 263 #[H p] w λe b=>aK e (.int .u32 (dq (λj=>f (q+j)) 4:Nat))/\fK b p n f (q+4)/\Fr jY aF w b:=by have c:=I (sY w p n q 4 f h d J J g i a);have k:dq (λj=>f (q+j)) 4<256^4:=gF λj t=>a _ J;obtain⟨y,l⟩:=ah (dq (λj=>f (q+j)) 4);rw[l]at c k|-;have e:((y:Nat):Int)%4294967296=(y:Nat):=J;go_enter func263,ntmps263;go_wp2_with(first|(go_at_call 282;refine c.mono ?_;rintro e u ⟨rfl,m,o⟩;have r:=I m;have s:=I o));go_ret;exact⟨by first|rfl|(simp;omega),r,s⟩
theorem sZ[Lo](w:M)(p n q:Nat)(f:aQ)(h:fK w p n f q)(c:Lo.lo<=p)(d:q+8<=n)(g:n<=1000000)(i:∀j,j<n->f j<256):aE 220 #[H p] w λe a=>aK e (.int .u64 (dq (λj=>f (q+j)) 8:Nat))/\fK a p n f (q+8)/\Fr jY aF w a:=by have b:=I (sY w p n q 8 f h c J J d g i);obtain⟨y,k⟩:=ah (dq (λj=>f (q+j)) 8);rw[k]at b|-;go_enter func220,ntmps220;go_wp2_with(first|(go_at_call 282;refine b.mono ?_;rintro e s ⟨rfl,l,m⟩;have o:=I l;have r:=I m));go_ret;exact⟨rfl,o,r⟩
theorem EF(h:w.ownsRow m 5 1 (a' k n i) n (aA n f)):cR w (a' k n i) n f:=fX h
theorem lP(w:M)(v:QC)(n:Nat)(f:aQ)(h:cR w v n f)(L:1<=n)(O:n<=1000000):aE 262 #[v] w λe q=>∃p,aK e (H p)/\fK q p n f 0/\w.heap.size<=p/\au w q:=by obtain⟨a,d,rfl,h⟩:=h;obtain⟨b,o,u,x,rfl,y,z⟩:=h.resolve_left J;have A:=I (eF b o n d f w (λk i=>(QT w b _ u 5 x y).trans (z k i)) J);go_enter func262,ntmps262;go_wp2_with(first|(go_at_call 199;refine A.mono ?_;rintro e B ⟨v,rfl,r,j⟩;obtain⟨P,C,rfl,c,D⟩:=eX r;obtain⟨g,rfl⟩:=D.resolve_left J;have E:=I r;have s:=I j));go_ret;obtain⟨Q,S,F,j⟩:=EF E;cases F;obtain⟨T,U,l,m,G,t,K⟩:=j.resolve_left J;cases G;refine⟨B.heap.size,rfl,⟨g,C,c,QB _ _,l,m,?_,λk i=>by have:=K k i;rwa[RH]at this⟩,s.size,aI s _⟩;rw[QW _ _ _ (Z_ t)];exact t
instance MO (a b:Nat):Decidable (cJ a b):=by unfold cJ;infer_instance
theorem kM(b a:Nat)(w:M):aE 205 #[bg b,bg a] w λe c=>aK e (.bool (decide (cJ b a)))/\w=c:=by
 by_cases h:cJ b a
 .rw [decide_eq_true h];exact hT b a w h
 rw[decide_eq_false h];unfold cJ at h;by_cases d:(b:Int)<=4611686018427387904<;>by_cases f:(1:Int)<=a<;>by_cases g:(a:Int)<=4611686018427387904
 .exact absurd ⟨J,J,J⟩ h
 all_goals(clear h;go_enter func205,ntmps205;go_wp2;go_ret;exact⟨by simp[*],rfl⟩)
theorem mQ(n a b:Int)(w:M):aE 206 #[Y n,Y a,Y b] w λe c=>aK e (.bool (decide (a<=n/\n<=b)))/\w=c:=by by_cases d:a<=n<;>by_cases f:n<=b<;>(go_enter func206,ntmps206;go_wp2;go_ret;exact⟨by simp[*],rfl⟩)
def yZ(w:M)(e:RW)(a:M):Prop:=aK e (.tuple #[aW,aG 80])/\au w a
theorem Me(h:Ck)(w:M)(i:¬h.ok):aE 149 #[.agg #[bg h.ep,bg h.sq,Y h.tail]] w (yZ w):=by
 obtain⟨c,d,tail⟩:=h;have a:=I (kM c d);have f:=I (mQ (tail:Nat) 0 2047);by_cases b:cJ c d
 .have j:¬((0:Int)<=tail/\(tail:Int)<=2047):=λe=>i ⟨b,by show tail<2048;omega⟩;rw[decide_eq_true b]at a;rw[decide_eq_false j]at f;go_enter func149,ntmps149;go_wp2_with(first|(go_at_call 205;refine(a _).mono ?_;rintro e g ⟨rfl,rfl⟩)|(go_at_call 206;refine(f _).mono ?_;rintro e g ⟨rfl,rfl⟩));go_ret2;exact⟨rfl,aI ak _⟩
 .rw [decide_eq_false b]at a;go_enter func149,ntmps149;go_wp2_with(first|(go_at_call 205;refine(a _).mono ?_;rintro e g ⟨rfl,rfl⟩));go_ret2;exact⟨rfl,aI ak _⟩
theorem Mf(h:Cm)(w:M)(j:h.sm<4294967296)(k:¬h.ok):aE 336 #[.agg #[bg h.ep,bg h.sq,Y h.cA,.int .u32 (h.sm:Nat)]] w (yZ w):=by
 obtain⟨d,f,a,m⟩:=h;have b:=I (kM d f);have g:=I (mQ (a:Nat) 1 1023);by_cases c:cJ d f
 .have l:¬((1:Int)<=a/\(a:Int)<=1023):=λe=>k ⟨c,by show 1<=a/\a<=1023;omega,j⟩;rw[decide_eq_true c]at b;rw[decide_eq_false l]at g;go_enter func336,ntmps336;go_wp2_with(first|(go_at_call 205;refine(b _).mono ?_;rintro e i ⟨rfl,rfl⟩)|(go_at_call 206;refine(g _).mono ?_;rintro e i ⟨rfl,rfl⟩));go_ret2;exact⟨rfl,aI ak _⟩
 .rw [decide_eq_false c]at b;go_enter func336,ntmps336;go_wp2_with(first|(go_at_call 205;refine(b _).mono ?_;rintro e i ⟨rfl,rfl⟩));go_ret2;exact⟨rfl,aI ak _⟩
theorem Mg(h:Hd)(w:M)(r:h.sm<4294967296)(s:h.cA<4294967296)(t:¬h.ok):aE 335 #[.agg #[bg h.ep,bg h.sq,Y h.ix,Y h.cA,Y h.me,Y h.row,.bool h.nt,.int .u32 (h.sm:Nat)]] w (yZ w):=by
 obtain⟨m,n,i,a,j,c,u,z⟩:=h;have d:=I (kM m n);have v:a<4294967296:=s;have A:QK.wrap ((a:Int)-1)=(a:Int)-1:=bj;by_cases k:cJ m n
 .rw [decide_eq_true k]at d;by_cases o:(1:Int)<=a/\(a:Int)<=1023
  .have f:=I (decide_eq_true o);by_cases p:(0:Int)<=i/\(i:Int)<=(a:Nat)-1
   .have g:=I (decide_eq_true p);by_cases q:(0:Int)<=j/\(j:Int)<=15
    .have l:=I (decide_eq_true q);have x:¬((0:Int)<=c/\(c:Int)<=4095):=λe=>t ⟨k,by show 1<=a/\a<=1023;omega,by show i<a;omega,by show j<=15;omega,by show c<=4095;omega,r⟩;have y:=I (decide_eq_false x);go_enter func335,ntmps335;go_wp2_with(first|(go_at_call 205;refine(d _).mono ?_;rintro e b ⟨rfl,rfl⟩)|(go_at_call 206;refine(mQ _ _ _ _).mono ?_;rintro e b ⟨rfl,rfl⟩;(first|rw[f.out] |rw[g.out] |rw[l.out] |rw[y.out])));go_ret2;exact⟨rfl,aI ak _⟩
    .have l:=I (decide_eq_false q);go_enter func335,ntmps335;go_wp2_with(first|(go_at_call 205;refine(d _).mono ?_;rintro e b ⟨rfl,rfl⟩)|(go_at_call 206;refine(mQ _ _ _ _).mono ?_;rintro e b ⟨rfl,rfl⟩;(first|rw[f.out] |rw[g.out] |rw[l.out])));go_ret2;exact⟨rfl,aI ak _⟩
   .have g:=I (decide_eq_false p);go_enter func335,ntmps335;go_wp2_with(first|(go_at_call 205;refine(d _).mono ?_;rintro e b ⟨rfl,rfl⟩)|(go_at_call 206;refine(mQ _ _ _ _).mono ?_;rintro e b ⟨rfl,rfl⟩;(first|rw[f.out] |rw[g.out])));go_ret2;exact⟨rfl,aI ak _⟩
  .have f:=I (decide_eq_false o);go_enter func335,ntmps335;go_wp2_with(first|(go_at_call 205;refine(d _).mono ?_;rintro e b ⟨rfl,rfl⟩)|(go_at_call 206;refine(mQ _ _ _ _).mono ?_;rintro e b ⟨rfl,rfl⟩;(first|rw[f.out])));go_ret2;exact⟨rfl,aI ak _⟩
 .rw [decide_eq_false k]at d;go_enter func335,ntmps335;go_wp2_with(first|(go_at_call 205;refine(d _).mono ?_;rintro e b ⟨rfl,rfl⟩));go_ret2;exact⟨rfl,aI ak _⟩
theorem rD(h:yJ f):ht f=true:=by unfold ht;simp only[decide_eq_true_eq];exact⟨h 0 aj,h 1 aj,h 2 aj,h 3 aj⟩
def Kb(f:aQ):Nat:=if ht f=true/\f 4<=3 then f 4 else 0
theorem Hg(v:QC)(f:aQ)(w:M)(h:dT w v f)(p:∀k,k<128->f k<256):aE 307 #[v] w λe t=>aK e (.int .u8 (Kb f:Nat))/\au w t:=by
 obtain⟨b,o,d,u,x,rfl,q,c,z⟩:=h;have r:∀k,k<128->w.cell? ⟨b,o+k,none⟩=some (.int .u8 (f k)):=λk g=>(QT w b _ u 5 x c).trans (z k g);have s:=wm f λk g=>p k J;have i:=iY (w:=w) (v:=.slice (some (R b o)) 4 d) (n:=4) (f:=f) ⟨_,_,rfl,.inr ⟨b,o,rfl,λk g=>r k J⟩⟩ w ak;obtain⟨C,j⟩:=ah (ky 4 f);rw[j]at s i;have l:=r 4 J;have a:=p 4 J;obtain⟨y,A⟩:=ah (f 4);obtain⟨m,B⟩:=ah (ht f);unfold Kb;rw[B]at s|-;rw[A]at l a|-;cases m
 .rw [aq aJ];go_enter func307,ntmps307;go_wp2;go_ret;exact⟨rfl,ak⟩
 .by_cases c:y<=3
  .rw [ao ⟨rfl,c⟩];go_enter func307,ntmps307;go_wp2;go_ret;exact⟨rfl,ak⟩
  .rw [aq (λe=>c e.2)];go_enter func307,ntmps307;go_wp2;go_ret;exact⟨rfl,ak⟩
theorem y_[Lo](w:M)(p n q k:Nat)(f:aQ)(h:fK w p n f q)(A:Lo.lo<=p)(s:1<=k)(t:q+k<=n)(u:n<=1000000):aE 217 #[ar p,Y k] w λe x=>(∃v,aK e v)/\fK x p n f (q+k)/\Fr jY aF w x:=by have B:=I (sX w p n q k f h s t u);have m:=I (λW (i:au w W) g c (b:Array QC) l (a:a_ w g (.cells b 5 l)) (o:∀k,k<n->b[k]?=some (.int .u8 (f k)))=>eF g q k (c-q) (λj=>f (q+j)) W (λj L=>(QT W g _ b 5 l ((i.block _ (Z_ a)).trans a)).trans (o _ J)) J);have r:=bZ h A s t u;go_enter func217,ntmps217;go_wp2_with(first|(go_at_call 279;refine B.mono ?_;rintro e C ⟨⟨g,c,O,rfl,b,l,a,o⟩,i⟩;have D:=I (m C i g c b l a o);have E:=I i)|(go_at_call 199;refine D.mono ?_;rintro e P ⟨v,rfl,F,G⟩;obtain⟨Q,S,rfl,-,-⟩:=eX F;have d:=I (via E G);have y:=I (r.1.below d);have z:=I (λK=>Fr.reader y K r.2.1);obtain⟨T,U,-,a,-⟩:=id y;obtain⟨V,X,Z⟩:=cr a;have H:QK.wrap ((q:Int)+k)=((q+k:Nat):Int):=(by have:=r.out;go_arith)));go_ret;exact⟨⟨_,rfl⟩,(z _).1,(Fr.af d).tr (z _).2⟩
theorem Kc(a:1<=n/\n<=3)(h:gG n f):Kb f=n:=by unfold Kb;rw[ao ⟨rD h.Ip,by rw[h.kind];exact a.2⟩,h.kind]
def Ob[Lo](T:List Nat)(a:Nat)(f:aQ)(g:Prop)(b:aQ)(J Q:M->Prop)(w:M)(e:RW)(c:M):Prop:=
 ∃d:Nat,aK e (aG d)/\Fr T aF w c/\J c/\((d=0/\g/\aD f b/\Q c)\/(d≠0/\¬(gG a f/\g/\aD f b)))
theorem xC[Lo](T:List Nat)(r s:Nat)(a1:Array QC)(d7:∀l w,(UN r l).run prog w=.ok (.enter r l) w)(d8:∀l w,(UN s l).run prog w=.ok (.enter s l) w)(v:QC)(f:aQ)(i:Nat)(a6:Prop)(m:aQ)(J Q:QA->Prop)(w:QA)(h:dT w v f)(d1:∀k,k<128->f k<256)(d9:∀k,k<128->m k<256)(u:Lo.lo<=w.heap.size)(a2:1<=i/\i<=3)(h5:T.contains 5=false)(G:jY.all (λt=>T.contains t)=true)(K:∀W p,Fr jY aF w W->fK W p 128 f 24->w.heap.size<=p->aE r (#[ar p,.int .u64 (dq (λk=>f (8+k)) 8:Nat),.int .u64 (dq (λk=>f (16+k)) 8:Nat)] ++a1) W λe L=>aK e (.tuple #[])/\Q L/\Fr T aF W L)(a7:∀W,Fr jY aF w W->J W)(a8:∀a b,Q a->au a b->J b)(e0:∀a b,Q a->au a b->Q b)(z:∀W,Q W->aE s a1 W λe L=>(a6/\rX 128 m W e L)\/(¬a6/\yZ W e L)):
  aE 270 #[v,bx i,.func (.func r) #[] a1,.func (.func s) #[] a1] w (Ob T i f a6 m J Q w):=by
 have a3:=ad (Hg v f w h d1);obtain⟨b,o,A,d2,d3,rfl,d4,h3,h4⟩:=id h;have d5:=ad h;have X:=ad d1;have e2:=ad d9;have e3:=ad K;have e4:=ad z;have e5:=ad e0;have Z:=ad a7;have H:=ad a8;have c1:¬A=124:=aa;have c2:(124:Int)<=(A:Int):=aa;by_cases O:Kb f=i
 .rw [O]at a3;go_enter func270,ntmps270;have H4:QX (∀W,au w W->cR W (.slice (some ⟨b,o+124,none⟩) 4 (A-124)) 4 λk=>f (124+k)):=λW d=>⟨_,_,rfl,.inr ⟨b,o+124,d2,d3,rfl,(d.block _ (Z_ h3)).trans h3,λk a2=>by rw[UO];exact h4 _ aa⟩⟩;have N:QX (∀W,Fr jY aF w W->lW W (.slice (some (ag b o)) 124 A) 124 f):=λW d=>⟨_,_,rfl,.inr ⟨b,o,rfl,λk a2=>(QT W b _ d2 5 d3 (d.hp h3 rfl)).trans (h4 _ aa)⟩⟩;go_wp2_with(first|(go_at_call 307;refine a3.mono ?_;rintro e w1 ⟨rfl,d⟩;have V:=ad d)|(go_at_call 262;refine(lP w1 _ 4 _ (H4 w1 V) aj aj).mono ?_;rintro e w2 ⟨p,rfl,B,a9,P⟩;have b0:=ad B;have b1:=ad (QE V.size a9);have b2:=ad (via V P)));have d6:=ad (λW (d:au w2 W)=>gV W p 4 0 _ (b0.below d) (QE u b1) aj aj λj f0=>X.out _ aa);have M:=ad (λW (d:Fr jY aF w W)=>jE 124 _ f W (N W d) (λk a2=>X.out k aa) aj);obtain⟨x,b3⟩:=ah (dq (λj=>f (124+(0+j))) 4);obtain⟨y,R⟩:=ah (dE 0 124 f);simp only[b3]at d6;rw[R]at M;go_region_held3(λ_=>True) ((simp[*,go_sem];done)) (first|(go_at_call 263;refine(d6 _ bF).mono ?_;rintro e w3 ⟨rfl,-,h2⟩;have C:QX (Fr jY aF w w3):=(Fr.af (via b2 bF)).tr h2)|(go_at_call 160;refine(M _ (by first|exact C|exact C.tr (Fr.af bF))).mono ?_;rintro e w4 ⟨rfl,d⟩;have n:QX (Fr jY aF w w4):=(by first|exact C.tr (Fr.af d)|exact C.tr (Fr.af (via bF d)))));by_cases I:x=y
  .subst I;have a4:=aB b3 R;have b4:=d5.fr n rfl;have b5:=ad (lP w4 _ 128 f b4.eG aj aj);go_wp2_with(first|(go_at_call 262;refine b5.mono ?_;rintro e w5 ⟨p2,rfl,B,a9,P⟩;have b6:=ad B;have b7:=ad (n.tr (Fr.af P));have D:=ad (QE n.size a9)));go_wp2_with(first|(go_at_call 217;refine(y_ w5 p2 128 0 8 f b6 (QE u D) aj aj aj).mono ?_;rintro e w6 ⟨⟨v6,rfl⟩,B,d⟩;have b8:=ad B;have b9:QX (Fr jY aF w w6):=b7.tr d));have c0:=ad (sZ w6 p2 128 8 f b8 (QE u D) aj aj X);go_wp2_with(first|(go_at_call 220;refine c0.mono ?_;rintro e w7 ⟨rfl,B,d⟩;have c3:=ad B;have c4:QX (Fr jY aF w w7):=b9.tr d));have c6:=ad (sZ w7 p2 128 16 f c3 (QE u D) aj aj X);go_wp2_with(first|(go_at_call 220;refine c6.mono ?_;rintro e w8 ⟨rfl,B,d⟩;have c7:=ad B;have Y:QX (Fr jY aF w w8):=c4.tr d));refine(e3 w8 p2 Y c7 D).mono ?_;rintro e w9 ⟨rfl,e6,d⟩;have E:=ad e6;have a0:=ad ((Y.wide T G).tr d);go_wp2_with fail;refine(e4 w9 E).mono ?_;rintro e e7 (⟨S,g,c,rfl,e8,d⟩|⟨S,rfl,d⟩)
   .have q:=ad (a0.tr (Fr.af d));have F:=ad (H _ _ E d);have HEq:=ad (mf _ _ 128 128 f m e7 (d5.fr q h5).Bz (oy e8) X e2);have c8:=ad (e5 _ _ E d);have c9:=ad S;by_cases a5:aD f m
    .have e1:qC 128 128 f m=true:=iZ a5;have U:=ad a5;rw[e1]at HEq;go_wp2_with(first|(go_at_call 264;refine HEq.mono ?_;rintro e L ⟨rfl,rfl⟩));go_ret;exact⟨0,rfl,q,F,.inl ⟨rfl,c9,U,c8⟩⟩
    .have e1:qC 128 128 f m=false:=by
      unfold qC;rw[decide_eq_false_iff_not];exactλe=>a5 e.2
     have U:=ad a5;rw[e1]at HEq;go_wp2_with(first|(go_at_call 264;refine HEq.mono ?_;rintro e L ⟨rfl,rfl⟩));go_ret;exact⟨80,rfl,q,F,.inr ⟨aj,λe=>U.out e.2.2⟩⟩
   .have q:=ad (a0.tr (Fr.af d));have F:=ad (H _ _ E d);have d0:=ad S;go_wp2_with fail;go_ret;exact⟨80,rfl,q,F,.inr ⟨aj,λe=>d0.out e.2.1⟩⟩
  .have a4:=aM b3 R I;have e9:¬(x:Int)=(y:Int):=aa;go_wp2_with fail;go_ret;exact⟨81,rfl,n.wide T G,Z _ n,.inr ⟨aj,λe=>a4.2.2 (by rw[<-a4.1,<-a4.2.1];simp only[RH];exact e.1.sum)⟩⟩
 .have c5:¬(Kb f:Int)=(i:Int):=aa;have d0:=ad O;obtain⟨y,R⟩:=ah (Kb f);rw[R]at a3 c5 O;go_enter func270,ntmps270;go_wp2_with(first|(go_at_call 307;refine a3.mono ?_;rintro e w1 ⟨rfl,d⟩;have V:=ad d));go_ret;exact⟨80,rfl,Fr.af V,Z _ (Fr.af V),.inr ⟨aj,λe=>d0.out (Kc a2 e.1)⟩⟩
theorem Fr.under[Lo](h:Fr T aF w W)(c:w.heap.size<=Lo.lo):au w W:=
 ⟨h.os,h.tape,h.output,h.size,λk b=>by obtain⟨o,a⟩:∃o,a_ w k o:=⟨_,SB b⟩;rw[h.block k o a (.inr J) id,a]⟩
abbrev Oc(h:Ck):QC:=.agg #[bg h.ep,bg h.sq,Y h.tail]
abbrev Ph(h:Ck):Array QC:= #[bg h.ep,bg h.sq,Y h.tail]
def Kd{α:Type}(b:α->QC)(d:α->Prop)(a:α->Nat->Nat)(f:aQ)(w:M)(e:RW)(i:M):Prop:=
 ∃(c:Nat) (h:α),aK e (.tuple #[b h,aG c])/\au w i/\((c=0/\d h/\aD f (a h))\/(c≠0/\∀g,d g->¬aD f (a g)))
theorem Od{a b c:QC}(h:a_ w n (.cells #[a,b,c] m (0,0)))(x y z:QC):
  (((w.setCell (R n 0) x).setCell (R n 1) y).setCell (R n 2) z).heap[n]?=some (.cells #[x,y,z] m (0,0)):=by
 have d:=heap_setCell_same w n 0 _ m x h;have e:=heap_setCell_same _ n 1 _ m y d;exact heap_setCell_same _ n 2 _ m z e
theorem s_[Lo]{a b c:QC}(h:a_ w n (.cells #[a,b,c] m (0,0)))(d:Lo.lo<=n)(e:T.contains m=true)(x y z:QC):
  Fr T aF w (((w.setCell (R n 0) x).setCell (R n 1) y).setCell (R n 2) z):=by
 have f:=heap_setCell_same w n 0 _ m x h;have g:=heap_setCell_same _ n 1 _ m y f;exact(((Fr.refl T aF w).set (p:=R n 0) h e d _).set (p:=R n 1) f e d _).set (p:=R n 2) g e d _
theorem Ke(v:QC)(f:aQ)(w:QA)(h:dT w v f)(E:∀k,k<128->f k<256):aE 193 #[v] w (Kd Oc Ck.ok Ck.enc f w):=by
 letI:Lo:=⟨w.heap.size⟩
 obtain⟨a4,D,a5,F,g,n⟩:=dU w (al #[.int .u64 0,.int .u64 0,ae 0] 156);have o:Lo.lo<=D:=by show w.heap.size<=D;omega
 have G:dq (λk=>f (24+k)) 4<256^4:=gF λj b2=>E _ aa;have a6:=ad (xC [364,156] 271 272 #[ar D] (λ_ _=>rfl) (λ_ _=>rfl) v f 3 (Ck.of f).ok (Ck.of f).enc (λW=>∃a b c,a_ W D (al #[a,b,c] 156)) (λW=>a_ W D (al (Ph (Ck.of f)) 156)) a4 (h.below g) E (λk _=>jH (cI _) k) g.size aj rfl rfl
  (λW p q a7 a8=>by have r:a_ W D (al #[.int .u64 0,.int .u64 0,ae 0] 156):=q.hp n rfl;have R:=ad (gV W p 128 24 f a7 (QE g.size a8) aj aj E);obtain⟨K,L,O⟩:=cr r;obtain⟨y,I⟩:=ah (dq (λj=>f (24+j)) 4);obtain⟨y1,P⟩:=ah (dq (λj=>f (8+j)) 8);obtain⟨y2,Q⟩:=ah (dq (λj=>f (16+j)) 8);unfold Ck.of Ph;rw[I]at R G;simp only[I,P,Q];have a9:=ad r;have S:QK.wrap (y:Int)=(y:Nat):=bj;go_enter func271,ntmps271;go_wp2_with(first|(go_at_call 263;refine R.mono ?_;rintro e U ⟨rfl,-,i⟩;have s:=ad i;have Y:=i.hp a9 rfl;have t:=ad Y;obtain⟨k3,k4,k5⟩:=cr Y));go_end0;have u:=Od t (bg y1) (bg y2) (ae y);exact⟨rfl,u,(s.wide [364,156] rfl).tr (s_ t o aj _ _ _)⟩)
  (λW q=>⟨_,_,_,q.hp n rfl⟩) (λa b x m=>⟨_,_,_,(m.block _ (Z_ x)).trans x⟩)
  (λa b x m=>(m.block _ (Z_ x)).trans x)
  (λW q=>by
   obtain⟨K,L,O⟩:=cr q;by_cases d:(Ck.of f).ok
   .have V:=ad (mc (Ck.of f).ep (Ck.of f).sq (Ck.of f).tail W d.c (by have:=d.tail;omega));have X:=ad d;go_enter func272,ntmps272;go_wp2_with(first|(go_at_call 149;refine V.mono ?_;rintro e U ⟨b0,c,rfl,b1,i⟩;have l:=aB b1 i));go_ret2;exact .inl ⟨X,b0,c,rfl,l⟩
   .have V:=ad (Me (Ck.of f) W d);have X:=ad d;go_enter func272,ntmps272;go_wp2_with(first|(go_at_call 149;refine V.mono ?_;rintro e U ⟨rfl,i⟩;have l:=ad i));go_ret2;exact .inr ⟨X,rfl,l⟩))
 have B:=aB g o;have J:=aB a5 F;have z:=ad (λ(C:Ck) (d:C.ok) (e:aD f C.enc)=>And.intro (Ck.cG d e) (gG.of aj (cI _) e:gG 3 f));go_enter func193,ntmps193;go_wp2_with fail
 try simp only[J.out.1,J.out.2]
 go_wp2_with fail;refine a6.mono ?_;rintro e U ⟨Z,rfl,i,⟨a,b,c,a0⟩,⟨rfl,H,A,a1⟩|⟨N,M⟩⟩
 .have s:=ad i;have l:=aB H A;have u:=ad (s_ (T:= [364,156]) a1 B.2 rfl);obtain⟨K,L,O⟩:=cr a1;go_wp2;refine QR (v:=.tuple #[Oc (Ck.of f),aG 0]) (by rw[UE rfl];simp[go_sem, *]) rfl ?_;exact⟨0,Ck.of f,rfl,((Fr.af B.1).tr (s.tr (u.out _ _ _))).under (QH _),.inl ⟨rfl,l⟩⟩
 .have s:=ad i;have l:=aB N M;have u:=ad (s_ (T:= [364,156]) a0 B.2 rfl);have a2:¬(Z:Int)=0:=aa;obtain⟨K,L,O⟩:=cr a0;go_wp2;refine QR (v:=.tuple #[Oc ⟨0,0,0⟩,aG Z]) (by rw[UE rfl];simp[go_sem, *]) rfl ?_;exact⟨Z,⟨0,0,0⟩,rfl,((Fr.af B.1).tr (s.tr (u.out _ _ _))).under (QH _),.inr ⟨l.1,λC d a3=>by obtain⟨S,e2⟩:=z.out C d a3;exact l.2 ⟨e2,by rw[S];exact d,by rw[S];exact a3⟩⟩⟩
abbrev Oe(h:Cm):QC:=.agg #[bg h.ep,bg h.sq,Y h.cA,.int .u32 (h.sm:Nat)]
abbrev Pj(h:Cm):Array QC:= #[bg h.ep,bg h.sq,Y h.cA,.int .u32 (h.sm:Nat)]
theorem Of{a b c d:QC}(h:a_ w n (.cells #[a,b,c,d] m (0,0)))(x y z t:QC):
  ((((w.setCell (R n 0) x).setCell (R n 1) y).setCell (R n 2) z).setCell (R n 3) t).heap[n]?=some (.cells #[x,y,z,t] m (0,0)):=by
 have e:=heap_setCell_same w n 0 _ m x h;have f:=heap_setCell_same _ n 1 _ m y e;have g:=heap_setCell_same _ n 2 _ m z f;exact heap_setCell_same _ n 3 _ m t g
theorem tc[Lo]{a b c d:QC}(h:a_ w n (.cells #[a,b,c,d] m (0,0)))(e:Lo.lo<=n)(f:T.contains m=true)(x y z t:QC):
  Fr T aF w ((((w.setCell (R n 0) x).setCell (R n 1) y).setCell (R n 2) z).setCell (R n 3) t):=by
 have g:=heap_setCell_same w n 0 _ m x h;have i:=heap_setCell_same _ n 1 _ m y g;have j:=heap_setCell_same _ n 2 _ m z i;exact((((Fr.refl T aF w).set (p:=R n 0) h f e _).set (p:=R n 1) g f e _).set (p:=R n 2) i f e _).set (p:=R n 3) j f e _
theorem Kf(v:QC)(f:aQ)(w:QA)(h:dT w v f)(q:∀k,k<128->f k<256):aE 310 #[v] w (Kd Oe Cm.ok Cm.enc f w):=by
 letI:Lo:=⟨w.heap.size⟩
 obtain⟨b3,D,b4,Q,l,r⟩:=dU w (al #[.int .u64 0,.int .u64 0,ae 0,.int .u32 0] 397);have s:Lo.lo<=D:=by show w.heap.size<=D;omega
 have S:dq (λk=>f (24+k)) 4<256^4:=gF λj b5=>q _ aa;have U:(Cm.of f).sm<256^4:=gF λj b5=>q _ aa;have b6:=ad (xC [364,397] 338 339 #[ar D] (λ_ _=>rfl) (λ_ _=>rfl) v f 2 (Cm.of f).ok (Cm.of f).enc (λW=>∃a b c d,a_ W D (al #[a,b,c,d] 397)) (λW=>a_ W D (al (Pj (Cm.of f)) 397)) b3 (h.below l) q (λk _=>jH (cU (cI _) (cI _)) k) l.size aj rfl rfl
  (λW p t b7 a5=>by have u:a_ W D (al #[.int .u64 0,.int .u64 0,ae 0,.int .u32 0] 397):=t.hp r rfl;have a6:=ad (gV W p 128 24 f b7 (QE l.size a5) aj aj q);have x:=ad (λW1 (n:fK W1 p 128 f 28)=>gV W1 p 128 28 f n (QE l.size a5) aj aj q);obtain⟨V,X,Z⟩:=cr u;obtain⟨y,a7⟩:=ah (dq (λj=>f (24+j)) 4);obtain⟨y1,H⟩:=ah (dq (λj=>f (8+j)) 8);obtain⟨y2,N⟩:=ah (dq (λj=>f (16+j)) 8);obtain⟨y3,z⟩:=ah (dq (λj=>f (28+j)) 4);unfold Cm.of Pj;rw[a7]at a6 S;simp only[z]at x;simp only[a7,H,N,z];have b8:=ad u;have M:QK.wrap (y:Int)=(y:Nat):=bj;go_enter func338,ntmps338;go_wp2_with(first|(go_at_call 263;refine a6.mono ?_;rintro e K ⟨rfl,n,g⟩;have A:=ad g;have L:=g.hp b8 rfl;have R:=ad L;have I:=ad (x K n)));go_wp2_with(first|(go_at_call 263;refine I.mono ?_;rintro e w2 ⟨rfl,-,g⟩;have Y:=ad (A.tr g);have L:=g.hp R rfl;have B:=ad L;obtain⟨k6,k7,k8⟩:=cr L));go_end0;have C:=Of B (bg y1) (bg y2) (ae y) (.int .u32 (y3:Nat));exact⟨rfl,C,(Y.wide [364,397] rfl).tr (tc B s rfl _ _ _ _)⟩)
  (λW t=>⟨_,_,_,_,t.hp r rfl⟩) (λa b E o=>⟨_,_,_,_,(o.block _ (Z_ E)).trans E⟩)
  (λa b E o=>(o.block _ (Z_ E)).trans E)
  (λW t=>by
   obtain⟨V,X,Z⟩:=cr t;by_cases i:(Cm.of f).ok
   .have J:=ad (oz (Cm.of f).ep (Cm.of f).sq (Cm.of f).cA (Cm.of f).sm W i.c i.cA.1 i.cA.2 i.sm);have a0:=ad i;go_enter func339,ntmps339;go_wp2_with(first|(go_at_call 336;refine J.mono ?_;rintro e K ⟨b9,c,rfl,c0,g⟩;have m:=aB c0 g));go_ret2;exact .inl ⟨a0,b9,c,rfl,m⟩
   .have J:=ad (Mf (Cm.of f) W U i);have a0:=ad i;go_enter func339,ntmps339;go_wp2_with(first|(go_at_call 336;refine J.mono ?_;rintro e K ⟨rfl,g⟩;have m:=ad g));go_ret2;exact .inr ⟨a0,rfl,m⟩))
 have O:=aB l s;have a8:=aB b4 Q;have F:=ad (λ(P:Cm) (i:P.ok) (e:aD f P.enc)=>And.intro (Cm.cG i e) (gG.of aj (cU (cI _) (cI _)) e:gG 2 f));go_enter func310,ntmps310;go_wp2_with fail
 try simp only[a8.out.1,a8.out.2]
 go_wp2_with fail;refine b6.mono ?_;rintro e K ⟨a1,rfl,g,⟨a,b,c,d,a9⟩,⟨rfl,a2,G,b0⟩|⟨a3,a4⟩⟩
 .have A:=ad g;have m:=aB a2 G;have C:=ad (tc (T:= [364,397]) b0 O.2 rfl);obtain⟨V,X,Z⟩:=cr b0;go_wp2;refine QR (v:=.tuple #[Oe (Cm.of f),aG 0]) (by rw[UE rfl];simp[go_sem, *]) rfl ?_;exact⟨0,Cm.of f,rfl,((Fr.af O.1).tr (A.tr (C.out _ _ _ _))).under (QH _),.inl ⟨rfl,m⟩⟩
 .have A:=ad g;have m:=aB a3 a4;have C:=ad (tc (T:= [364,397]) a9 O.2 rfl);have b1:¬(a1:Int)=0:=aa;obtain⟨V,X,Z⟩:=cr a9;go_wp2;refine QR (v:=.tuple #[Oe ⟨0,0,0,0⟩,aG a1]) (by rw[UE rfl];simp[go_sem, *]) rfl ?_;exact⟨a1,⟨0,0,0,0⟩,rfl,((Fr.af O.1).tr (A.tr (C.out _ _ _ _))).under (QH _),.inr ⟨m.1,λP i b2=>by obtain⟨M,e2⟩:=F.out P i b2;exact m.2 ⟨e2,by rw[M];exact i,by rw[M];exact b2⟩⟩⟩
abbrev Og(h:Hd):QC:=.agg #[bg h.ep,bg h.sq,Y h.ix,Y h.cA,Y h.me,Y h.row,.bool h.nt,.int .u32 (h.sm:Nat)]
abbrev rE(h:Hd):Array QC:= #[bg h.ep,bg h.sq,Y h.ix,Y h.cA,Y h.me,Y h.row,.bool h.nt,.int .u32 (h.sm:Nat)]
theorem y'[Lo](h:a_ w n (.cells A m (0,0)))(a:Lo.lo<=n)(b:T.contains m=true)(c d e f x4 g i s:QC):
  Fr T aF w ((((((((w.setCell (R n 0) c).setCell (R n 1) d).setCell (R n 2) e).setCell (R n 3) f).setCell (R n 4) x4).setCell (R n 5) g).setCell (R n 6) i).setCell (R n 7) s):=by
 have j:=heap_setCell_same w n 0 _ m c h;have k:=heap_setCell_same _ n 1 _ m d j;have l:=heap_setCell_same _ n 2 _ m e k;have o:=heap_setCell_same _ n 3 _ m f l;have q:=heap_setCell_same _ n 4 _ m x4 o;have r:=heap_setCell_same _ n 5 _ m g q;have t:=heap_setCell_same _ n 6 _ m i r;exact((((((((Fr.refl T aF w).set (p:=R n 0) h b a _).set (p:=R n 1) j b a _).set (p:=R n 2) k b a _).set (p:=R n 3) l b a _).set (p:=R n 4) o b a _).set (p:=R n 5) q b a _).set (p:=R n 6) r b a _).set (p:=R n 7) t b a _
def Kg(f:aQ)(j:Nat):Nat:=dq (λk=>f (24+4*j+k)) 4
def Oh(f:aQ)(j:Nat):Array QC:= #[.int .u64 (dq (λk=>f (8+k)) 8:Nat),.int .u64 (dq (λk=>f (16+k)) 8:Nat),Y (if 0<j then Kg f 0 else 0:Nat),Y (if 1<j then Kg f 1 else 0:Nat),Y (if 2<j then Kg f 2 else 0:Nat),Y (if 3<j then Kg f 3 else 0:Nat),.bool false,.int .u32 0]
theorem EG[Lo](f:aQ)(D p:Nat)(W:QA)(o:fK W p 128 f 24)(a:W.heap[D]?=some (al #[.int .u64 0,.int .u64 0,ae 0,ae 0,ae 0,ae 0,.bool false,.int .u32 0] 390))(w:Lo.lo<=p)(i:Lo.lo<=D)(a8:∀k,k<128->f k<256):
  aE 340 (#[ar p,.int .u64 (dq (λk=>f (8+k)) 8:Nat),.int .u64 (dq (λk=>f (16+k)) 8:Nat)] ++ #[ar D]) W λe a9=>aK e (.tuple #[])/\a9.heap[D]?=some (al (rE (Hd.of f)) 390)/\Fr [364,390] aF W a9:=by
 obtain⟨y1,S⟩:=ah (dq (λj=>f (8+j)) 8);obtain⟨y2,T⟩:=ah (dq (λj=>f (16+j)) 8);have b:∀j,j<4->Kg f j<256^4:=λj b3=>gF λk b6=>a8 _ aa;obtain⟨O,k1,k2⟩:=cr a;simp only[S,T];obtain⟨t,l⟩:=ah ((W.setCell (ag D 0) (bg y1)).setCell (ag D 1) (bg y2));have U:t.heap[D]?=some (al (Oh f 0) 390):=by rw[<-l];unfold Oh;rw[S,T];exact heap_setCell_same _ D 1 _ 390 _ (heap_setCell_same W D 0 _ 390 _ a)
 have V:Fr [364,390] aF W t:=by rw[<-l];exact((Fr.refl [364,390] aF W).set (p:=ag D 0) a rfl i _).set (p:=ag D 1) (heap_setCell_same W D 0 _ 390 _ a) rfl i _
 have q:fK t p 128 f 24:=by
  obtain⟨g,c,z,r,X,Z,m,n⟩:=o;have A:p≠D:=λe=>by rw[e,a]at r;cases r
  have P:g≠D:=λe=>by rw[e,a]at m;cases m
  rw[<-l];exact⟨g,c,z,((RP _ _ _ _ A).trans (RP _ _ _ _ A)).trans r,X,Z,((RP _ _ _ _ P).trans (RP _ _ _ _ P)).trans m,n⟩
 have b0:=ad l;have u:=bZ q U V a8 b;clear o a l q U V;go_enter func340,ntmps340;go_wp2_with fail;simp only[b0.out];obtain⟨W2,H,N,a2⟩:=qc t (al #[.pointer (some (ag D 2)),.pointer (some (ag D 3)),.pointer (some (ag D 4)),.pointer (some (ag D 5))] 214)
 try rw[H]
 obtain⟨b1,B⟩:=ah W.heap.size;have M:t.heap.size=b1:=by rw[<-b0.out,RS,RS];exact B
 rw[M]at a2;rw[B];have a1:=aB a2 N;clear H N B a2 M;go_loopw [8,19] (λs8 C wr=>∃(j:Nat),j<=4/\C= ae j/\QX (fK wr p 128 f (24+4*j)/\wr.heap[D]?=some (al (Oh f j) 390)/\Fr [364,390] aF W2 wr)) (λ_ C _=>4-(intOf C).toNat)
 case atStart=>exact⟨0,aj,rfl,u.1.below a1.2,(a1.2.block _ (Z_ u.2.1)).trans u.2.1,Fr.refl _ _ _⟩
 case round=>
  obtain⟨j,b3,rfl,E⟩:=hrel;have a3:=ad (E.2.2.hp a1.1 rfl);by_cases b:j<4
  .have Q:=ad (gV wr p 128 (24+4*j) f E.1 w aa aj u.2.2.2.1);have d:=u.2.2.2.2 j b;obtain⟨y,F⟩:=ah (dq (λk=>f (24+4*j+k)) 4);unfold Kg at d;rw[F]at Q d;have b4:QX (Kg f j=y):=F;have A:QK.wrap (y:Int)=(y:Nat):=bj;have a4:wr.cell? (ag b1 j)=some (.pointer (some ⟨D,2+j,none⟩)):=by
    rw[(cr a3.out).1]
    match j,b with
    |0,_=>rfl
    |1,_=>rfl
    |2,_=>rfl
    |3,_=>rfl
   have i1:(0:Int)<=j:=aa;have i2:(j:Int)<4:=aa;clear d F;go_wp2_with(first|(go_at_call 263;refine Q.mono ?_;rintro e v ⟨rfl,o,d⟩;have G:=ad o;have K:=ad d;have a:=d.hp E.2.1 rfl;have s:=ad a;obtain⟨O,k1,k2⟩:=cr a;have a5:v.cell? ⟨D,2+j,none⟩=some (ae 0):=(by rw[O];match j,b with|0,_=>rfl|1,_=>rfl|2,_=>rfl|3,_=>rfl);clear O o d a));go_roundw
   case rel=>
    have z:=heap_setCell_same v D (2+j) _ 390 (ae y) s;have r:Fr [364,390] aF W2 (v.setCell ⟨D,2+j,none⟩ (ae y)):=(E.2.2.tr (K.wide [364,390] rfl)).set (p:=⟨D,2+j,none⟩) s rfl i _;refine⟨j+1,b,by go_num,?_,?_,r⟩
    .obtain ⟨g,c,m,n,X,Z,L,h6⟩:=G.out;have A:p≠D:=λe=>by rw[e,s.out]at n;cases n
     have P:g≠D:=λe=>by rw[e,s.out]at L;cases L
     exact⟨g,c,m,(RP _ _ _ _ A).trans n,X,Z,(RP _ _ _ _ P).trans L,h6⟩
    .rw [z,<-b4.out]
     match j,b with
     |0,_=>rfl
     |1,_=>rfl
     |2,_=>rfl
     |3,_=>rfl
   case measure=>simp[intOf];omega
  .obtain rfl:j=4:=aa;have Q:=ad (gV wr p 128 40 f E.1 w aa aj u.2.2.2.1);have R:=ad (λt (q:fK t p 128 f 44)=>gV t p 128 44 f q w aa aj u.2.2.2.1);obtain⟨x,a6⟩:=ah (dq (λk=>f (40+k)) 4);obtain⟨y,F⟩:=ah (dq (λk=>f (44+k)) 4);rw[a6]at Q;simp only[F]at R;have b2:=aB a6 F;clear a6 F;go_wp2_with(first|(go_at_call 263;refine Q.mono ?_;rintro e v ⟨rfl,o,d⟩;have G:=ad o;have K:=ad d;have a:=d.hp E.2.1 rfl;have s:=ad a;obtain⟨O,k1,k2⟩:=cr a;clear o d a Q));have I:((x:Int)==1)=(x==1):=by
    by_cases h:x=1
    .subst h;rfl
    .have b5:¬(x:Int)=1:=aa;rw[beq_eq_false_iff_ne.2 h,beq_eq_false_iff_ne.2 b5]
   have z:=heap_setCell_same v D 6 _ 390 (.bool ((x:Int)==1)) s;have r:Fr [364,390] aF W2 (v.setCell (ag D 6) (.bool ((x:Int)==1))):=(E.2.2.tr (K.wide [364,390] rfl)).set (p:=ag D 6) s rfl i _;have m:fK (v.setCell (ag D 6) (.bool ((x:Int)==1))) p 128 f 44:=by
    obtain⟨g,c,m,n,X,Z,L,h6⟩:=G.out;have A:p≠D:=λe=>by rw[e,s.out]at n;cases n
    have P:g≠D:=λe=>by rw[e,s.out]at L;cases L
    exact⟨g,c,m,(RP _ _ _ _ A).trans n,X,Z,(RP _ _ _ _ P).trans L,h6⟩
   obtain⟨w2,Y⟩:=ah (v.setCell (ag D 6) (.bool ((x:Int)==1)));rw[Y]at z r m|-;have J:=ad (R w2 m);have H2:=aM z r I;clear Y z r m I O k1;go_wp2_with(first|(go_at_call 263;refine J.mono ?_;rintro e w3 ⟨rfl,o,d⟩;have a7:=ad d;have a:=d.hp H2.1 rfl;have a0:=ad a;obtain⟨O,k1,k2⟩:=cr a;clear o d a J));go_end0;have n:=heap_setCell_same w3 D 7 _ 390 (.int .u32 (y:Nat)) a0;refine⟨rfl,?_,(u.2.2.1.tr (Fr.af a1.2)).tr ((H2.2.1.tr (a7.wide [364,390] rfl)).set (p:=ag D 7) a0 rfl i _)⟩;rw[n,H2.2.2];unfold Hd.of rE;simp only[b2.out.1,b2.out.2];rfl
theorem EH(v:QC)(f:aQ)(w:QA)(h:dT w v f)(u:∀k,k<128->f k<256):aE 312 #[v] w (Kd Og Hd.ok Hd.enc f w):=by
 letI:Lo:=⟨w.heap.size⟩
 obtain⟨J,D,a0,z,g,n⟩:=dU w (al #[.int .u64 0,.int .u64 0,ae 0,ae 0,ae 0,ae 0,.bool false,.int .u32 0] 390);have o:Lo.lo<=D:=by show w.heap.size<=D;omega
 have A:(Hd.of f).cA<256^4:=gF λj a1=>u _ aa;have B:(Hd.of f).sm<256^4:=gF λj a1=>u _ aa;have a2:=ad (xC [364,390] 340 341 #[ar D] (λ_ _=>rfl) (λ_ _=>rfl) v f 1 (Hd.of f).ok (Hd.of f).enc (λW=>∃C,C.size=8/\a_ W D (al C 390)) (λW=>a_ W D (al (rE (Hd.of f)) 390)) J (h.below g) u (λk _=>jH (kX _ _ _ _ _ _) k) g.size aj rfl rfl
  (λW p q a3 a4=>by have E:a_ W D (al #[.int .u64 0,.int .u64 0,ae 0,ae 0,ae 0,ae 0,.bool false,.int .u32 0] 390):=q.hp n rfl;exact EG f D p W a3 E (QE g.size a4) o u)
  (λW q=>⟨_,rfl,q.hp n rfl⟩) (λa b r l=>⟨_,rfl,(l.block _ (Z_ r)).trans r⟩)
  (λa b r l=>(l.block _ (Z_ r)).trans r)
  (λW q=>by
   obtain⟨U,V,X⟩:=cr q;by_cases d:(Hd.of f).ok
   .have F:=ad (tM (Hd.of f).ep (Hd.of f).sq (Hd.of f).ix (Hd.of f).cA (Hd.of f).me (Hd.of f).row (Hd.of f).sm (Hd.of f).nt W d.c d.cA.1 d.cA.2 d.ix d.me d.row d.sm);have G:=ad d;go_enter func341,ntmps341;go_wp2_with(first|(go_at_call 335;refine F.mono ?_;rintro e Z ⟨a5,c,rfl,a6,m⟩;have i:=aB a6 m));go_ret2;exact .inl ⟨G,a5,c,rfl,i⟩
   .have F:=ad (Mg (Hd.of f) W B A d);have G:=ad d;go_enter func341,ntmps341;go_wp2_with(first|(go_at_call 335;refine F.mono ?_;rintro e Z ⟨rfl,m⟩;have i:=ad m));go_ret2;exact .inr ⟨G,rfl,i⟩))
 have x:=aB g o;have H:=aB a0 z;have s:=ad (λ(y:Hd) (d:y.ok) (e:aD f y.enc)=>And.intro (Hd.cG d e) (gG.of aj (kX _ _ _ _ _ _) e:gG 1 f));go_enter func312,ntmps312;go_wp2_with fail
 try simp only[H.out.1,H.out.2]
 go_wp2_with fail;refine a2.mono ?_;rintro e Z ⟨K,rfl,m,⟨C,a7,N⟩,⟨rfl,L,t,M⟩|⟨O,P⟩⟩
 .have Q:=ad m;have i:=aB L t;have S:=ad (y' (T:= [364,390]) M x.2 rfl);obtain⟨U,V,X⟩:=cr M;go_wp2;refine QR (v:=.tuple #[Og (Hd.of f),aG 0]) (by rw[UE rfl];simp[go_sem, *]) rfl ?_;exact⟨0,Hd.of f,rfl,((Fr.af x.1).tr (Q.tr (S.out _ _ _ _ _ _ _ _))).under (QH _),.inl ⟨rfl,i⟩⟩
 .have Q:=ad m;have i:=aB O P;have S:=ad (y' (T:= [364,390]) N x.2 rfl);have R:¬(K:Int)=0:=aa;obtain⟨U,V,X⟩:=cr N;go_wp2;refine QR (v:=.tuple #[Og ⟨0,0,0,0,0,0,false,0⟩,aG K]) (by rw[UE rfl];simp[go_sem, *]) rfl ?_;exact⟨K,⟨0,0,0,0,0,0,false,0⟩,rfl,((Fr.af x.1).tr (Q.tr (S.out _ _ _ _ _ _ _ _))).under (QH _),.inr ⟨i.1,λy d I=>by obtain⟨Y,e2⟩:=s.out y d I;exact i.2 ⟨e2,by rw[Y];exact d,by rw[Y];exact I⟩⟩⟩
def xD(f:aQ):Bool:=decide (f 0=0/\f 1=0/\f 2=0/\f 3=0)
theorem Kh(f:aQ)(h:Lt 4 f):((ky 4 f).toList== [0,0,0,0])=xD f:=by have e:=yi 4 4 f (λ_=>0) h λ_ _=>(by show 0<256;decide);rw[hq 4 λ_=>0]at e;show((ky 4 f).toList==(TT 4).map λ_=>VX 0)=_;rw[e];unfold qC xD;congr 1;apply propext;exact⟨λ⟨_,h⟩=>⟨h 0 aj,h 1 aj,h 2 aj,h 3 aj⟩,λ⟨a,b,c,d⟩=>⟨rfl,λk g=>match k,g with|0,_=>a|1,_=>b|2,_=>c|3,_=>d⟩⟩
def tu(a:Bool)(f:aQ)(k:Nat):Nat:=if a=true/\k<4 then iU k else f k
def Mh:List QC:= [.int .u8 83,.int .u8 80,.int .u8 74,.int .u8 76]
theorem pJ(w:M)(B g b c:Nat)(j ty:SV)(xs:List QC)(h:w.ownsRow B 5 1 (a' g 128 b) 128 xs):
  ∃f,(Builtin.copy_ #[41,j] ty #[a' g 128 c,.string ⟨#[83,80,74,76]⟩]).run prog w=.ok (Y 4) f/\f.ownsRow B 5 1 (a' g 128 b) 128 (YG xs 0 Mh)/\Out (λk=>k=g) w f:=by
 rcases h.2 with⟨i,_⟩|⟨t,l,a,i,n,m,o,p,q,r⟩
 .cases i
 cases i;have d:=Go.Lib.run_copy_row_string (P:=prog) w 41 j ty 5 g 0 128 c ⟨#[83,80,74,76]⟩ a 5 UL rV m aj (by show 0+4<=_;omega);have e:(a.toList.take 0++Lib.byteCells (⟨#[83,80,74,76]⟩:ByteArray).data.toList++a.toList.drop (0+(⟨#[83,80,74,76]⟩:ByteArray).size))=YG a.toList 0 Mh:=by unfold YG;rw[SY];rfl
 rw[e]at d;have s:0+Mh.length<=a.toList.length:=by show 0+4<=a.toList.length;simp;omega
 refine⟨_,d,?_,Out.setRow (S:=λk=>k=g) (Out.refl _ _) (g:=g) (λ_=>rfl) _⟩;refine⟨by rw[length_splice _ _ _ (by show 0+4<=_;have:=h.1;omega)];exact h.1,.inr ⟨g,b,_,rfl,n,setRow_heap w g a _ 5 _ m,o,p,?_,?_⟩⟩
 .rw [VW,length_splice _ _ _ s];simpa using q
 .show (YG a.toList 0 Mh).take _=_;rw[iL _ _ _ _ (by show 0+4<=_;omega) aR,r]
theorem Ki(f:aQ):YG (aA 128 f) 0 Mh=aA 128 (tu true f):=by
 apply TN;intro k;rw[fi _ _ _ _ (by show 0+4<=_;simp[aH])];by_cases a:k<128
 .rw [ba _ _ _ a,ba _ _ _ a];unfold tu;by_cases b:k<4
  .rw [ao (by show 0<=k/\k<0+4;omega),ao ⟨rfl,b⟩]
   match k,b with
   |0,_=>rfl
   |1,_=>rfl
   |2,_=>rfl
   |3,_=>rfl
  .rw [aq (by show¬(0<=k/\k<0+4);omega),aq J]
 .rw [aq (by show¬(0<=k/\k<0+4);omega),RE (by rw[aH];omega),RE (by rw[aH];omega)]
def Qa(a:Bool)(f:aQ)(w:M)(e:RW)(b:M):Prop:=
 au w b/\((((a=false/\ht f=true)\/(a=true/\xD f=false))/\aK e (.tuple #[aW,aG 80]))\/
  (((a=false/\ht f=false)\/(a=true/\xD f=true))/\∃g c,aK e (.tuple #[a' g 128 c,aG 0])/\b.ownsRow w.heap.size 5 1 (a' g 128 c) 128 (aA 128 (tu a f))))
theorem EI(a:Bool)(v:QC)(f:aQ)(w:M)(h:dT w v f)(B:∀k,k<128->f k<256):aE 314 #[v,.bool a] w (Qa a f w):=by
 have j:=I (hv v f w h);obtain⟨b,o,s,P,Q,rfl,C,S,T⟩:=h;have U:∀k,k<128->w.cell? ⟨b,o+k,none⟩=some (.int .u8 (f k)):=λk r=>(QT w b _ P 5 Q S).trans (T k r);have D:=I (wm f λk r=>B k J);have E:=I (Kh f λk r=>B k J);have t:=iY (w:=w) (v:=.slice (some (R b o)) 4 s) (n:=4) (f:=f) ⟨_,_,rfl,.inr ⟨b,o,rfl,λk r=>U k J⟩⟩ w ak;obtain⟨H,u⟩:=ah (ky 4 f);rw[u]at D E t;have F:=D.out;have G:=E.out;obtain⟨m,K⟩:=ah (ht f);obtain⟨z,L⟩:=ah (xD f);rw[K]at F;rw[L]at G;have l:=I K;have p:=I L;have V:QX (tu false f=f):=by show _=_;funext k;unfold tu;rw[aq aJ]
 cases a
 .clear G;cases m
  .go_enter func314,ntmps314;go_wp2_with(first|(go_at_call 199;refine j.mono ?_;rintro e O ⟨v,rfl,i,x⟩;obtain⟨W,q,rfl,-,y⟩:=eX i;obtain⟨g,rfl⟩:=y.resolve_left J;have c:=I i;have X:=I x));go_ret2;exact⟨X,.inr ⟨.inl ⟨rfl,l⟩,g,q,rfl,by rw[V.out];exact c⟩⟩
  .go_enter func314,ntmps314;go_wp2;go_ret2;exact⟨ak,.inl ⟨.inl ⟨rfl,l⟩,rfl⟩⟩
 .clear F;cases z
  .go_enter func314,ntmps314;go_wp2;go_ret2;exact⟨ak,.inl ⟨.inr ⟨rfl,p⟩,rfl⟩⟩
  .go_enter func314,ntmps314;go_wp2_with(first|(go_at_call 199;refine j.mono ?_;rintro e O ⟨v,rfl,i,x⟩;obtain⟨W,q,rfl,-,y⟩:=eX i;obtain⟨g,rfl⟩:=y.resolve_left J;obtain⟨N,Z,A,d⟩:=pJ O w.heap.size g q q 9 3 _ i;have c:=aT i x A d));go_ret2;exact⟨c.2.1.trans (c.2.2.2.below (λk _ e=>by have:=(c.1.lt g rfl).1;omega) c.2.1.size),.inr ⟨.inr ⟨rfl,p⟩,g,q,rfl,by rw[<-Ki];exact c.2.2.1⟩⟩
end Go.Proofs.YtbimjlmclegaeaaGreat
