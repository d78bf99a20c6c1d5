/- TopWhole: a member replaced and rebuilt is whole, and any other may fail then; part 4 of 6. Conditions: none. -/
import Derived.Test.YtbimjlmclegaeaaGreatP2
namespace Go.Proofs.YtbimjlmclegaeaaGreat
set_option linter.all false
set_option maxRecDepth 1000000
set_option maxHeartbeats 8000000
open Go.RowKit Go.Proofs.Tryz
open Go renaming World->QL,World->M,Value->QN,results->RV,Ending->SG,Addr->TF,TypeId->TI,madeCells->UB,maxLen->UT,callFunc->UY,heap_alloc_old->YN,splice->YQ
open Go.IntKind renaming i64->QQ,u64->VY,u8->ZN
open List renaming getElem_cons_zero->QS,getElem_cons_succ->QT,getElem_toArray->QU,length_append->RE,length_map->RL,getElem?_map->RU,mem_map->SA,getElem?_range->SP,mem_singleton->TC,append_assoc->TK,getElem?_take->TT,mem_append->TV,range->UD,mem_range->UJ,append_nil->UK,mem_cons->UR,range_succ->UW,nil_append->VE,size_toArray->WJ
open Go.RowKit renaming Hid->RH,Below->SM,wrap64->XE
open Nat renaming zero_add->RQ,mod_eq_of_lt->SL,mul_one->UI,add_assoc->UZ,add_zero->VU,zero_mul->WI,succ_mul->YI,mod_one->YP
open Go.Act renaming put->SC,eval->WH
open Go.World renaming size_setCell->SE
open Go.Value renaming slice->SF,int->SU
open Option.some renaming injEq->SZ
open Go.Instr renaming makeSlice->TL
open List.cons renaming injEq->UO
open BitVec renaming ofInt->UU
open Go.Proofs.Tryz renaming underlying41->UX,prog->VW,underlying68->WE
open Bool renaming and_eq_true->VX
open UInt8 renaming ofNat->WK
open Go.DataW renaming trod->YV
open Go.Result renaming ok->ZE
def SK:=@Int.ofNat_tmod
def XQ:=@Nat.ne_of_lt
def ZJ:=@Nat.lt_or_ge
variable {w W z:World}{n m k i j r C:Nat}{c:Int}{v x y:Value}{T:List Nat}{p:Addr}{P:Option Addr}{A:Array Value}{d:Bool}{S Q X:Nat->Prop}{t:TypeId}{L:List Value}{O:Obj}{f:aO}{F:dj}{g:au}{K:bp}{l:List Pt}{D:Dk}{U:Dv}{b:By}{o:Ro}{s:Rs}{u:Su}
def Ph[Lo](Z:bg)(g:au)(m:Nat)(V:bW)(C:Nat)(s:Rs)(u:Su)(bA a:Nat)(w W:M):Prop:=
 ∃b,Inv W Z g (some m) V (C-100) {s with b:=b} u/\bh b/\eB Z w W/\W.heap[bA]?=some (N #[H Z.A] 71)/\W.heap[a]?=some (N #[Y m] 3)/\
  ∀ro:Ro,ro.wt=s.ro.wt->(∀j r,r<g.R->ro.down j r=false->s.ro.down j r=false\/(j=m/\u.cur*g.c<=r/\r<u.cur*g.c+g.c))->(∀j r,ro.down j r=true->some m=some j)->Gt g (some m) V {s with b:=b,ro:=ro}
theorem JV(h:u.ok g)(b:i<g.c):u.cur*g.c+i<g.R:=by have a:=h.cur.1;unfold au.R;have:(u.cur+1)*g.c<=g.s*g.c:=WN _ a;rw[YI]at this;omega
theorem DY[Lo](Z:bg)(g:au)(m:Nat)(V:bW)(C:Nat)(s:Rs)(u:Su)(bA Q:Nat)(w W:QL)(h:Inv W Z g (some m) V C s u)(y:eB Z w W)(S:u.st m=3)(z:m<g.M)(c3:1000<=C)(X:W.heap[bA]?=some (ao #[aq Z.A] 71))(H:W.heap[Q]?=some (ao #[ae m] 3))(a9:Lo.lo<=w.heap.size):
  aD 124 #[aq bA,aq Q] W λe c=>aK e (gV 0 0)/\Ph Z g m V C s u bA Q w c:=by
 obtain⟨N,D,a7,B,f,j⟩:=dQ W (ao #[ae 0,aG 0] 172);have a:=h.below f;have o:=(f.block _ (Z_ X)).trans X;have q:=(f.block _ (Z_ H)).trans H;obtain⟨b0,-,E⟩:=a.ay.arr.aL;obtain⟨k0,f0,z0⟩:=cr E;obtain⟨y1,y2,y3⟩:=cr X;obtain⟨y4,y5,y6⟩:=cr H;obtain⟨a1,a2,a3⟩:=cr o;obtain⟨b1,b2,b3⟩:=cr q;have M:=h.eK.bZ;have a8:=h.fR ⟨m,z,S⟩;have R:∀i,i<g.c->u.cur*g.c+i<g.R:=λi T=>JV h.eK T;have F:∀r,s.ro.down m r=decide (u.cur*g.c<=r):=λr=>by unfold Ro.down;rw[h.ob m,ak z];unfold dL;rw[S];rfl
 have G:=ad (ic Z g u false m N a.ay.arr z M.m16);rw[show decide (u.st m≠2)=true by simp[S]]at G;obtain⟨⟨I,c4,c5⟩,Y⟩:∃x,gE g s.ro m (u.cur*g.c) s.b=x:=⟨_,rfl⟩;obtain⟨e0,b4,K,J⟩:=h.gt.JQ a8 z R Y;subst e0;have L:=DW h.fit aa Y;have a0:=ad (λa4 (d:ar N a4)=>(Ds Z.R Z.B _ g Z.fb s.ro s.b m u.cur a4 (a.below d).ay.rs.row (a.below d).ay.rs.cg M h.gt.gd.N z h.eK.cur.1 (λk _=>by rw[F];simp) (h.gt.NU a8 h.fit aa z R)).mono λe c (b5:nr Z.B (gE g s.ro m (u.cur*g.c) s.b) a4 e c)=>show aK e (.agg #[ae 0,aG 0])/\Inv c Z g (some m) V (C-100) {s with b:=I} u/\Fr TB aF N c from by obtain⟨q1,q2,U⟩:=b5;rw[Y]at q1 q2;refine⟨q1,?_,(Fr.af d).tr U⟩;exact(a.below d).rows (s':={s with b:=I}) ⟨(a.below d).ay.rs.row.fr U rfl rfl rfl rfl,q2,(a.below d).ay.rs.kc.fr U rfl rfl rfl rfl,h.ay.rs.lo⟩ (U.wide iH rfl) b4 L rfl rfl rfl (λ_=>K) aa);have n1:=fI o j ai;have n2:=fI q j ai;have n3:=fI E j ai;have l:=aM a7 B j;have n:=eM y f a9 K o q;have a5:=ad J;have c6:=M.m16;clear S a7 B R F;obtain⟨b6,b7,b8⟩:=g;go_enter func124,ntmps124;go_wp2_with fail;simp only[l.out.1,l.out.2.1];go_wp2_with(go_at_call 120;refine G.mono ?_;rintro e w1 ⟨rfl,rfl⟩);go_region_held3(λc=>c.cell? ⟨bA,0,none⟩=some (aq Z.A)/\c.cell? ⟨Q,0,none⟩=some (ae m)/\c.cell? ⟨Z.A,0,none⟩=some (aq Z.B)/\c.cell? ⟨Z.A,5,none⟩=some (ae b6)/\c.cell? ⟨Z.A,6,none⟩=some (ae b7)/\c.cell? ⟨Z.A,7,none⟩=some (ae b8)/\c.cell? ⟨Z.A,13,none⟩=some (aq Z.R)/\c.cell? ⟨Z.A,12,none⟩=some (ae u.cur)) ((simp[*,go_sem];done)) (first|(go_at_call 125;refine(a0 _ (by first|exact aj|exact ct aj _)).mono ?_;rintro e w2 ⟨rfl,T,y⟩;have v1:=(cr (y.hp n.2.2.2.2.1 rfl)).1 0;have v2:=(cr (y.hp n.2.2.2.2.2 rfl)).1 0;obtain⟨c2,-,O⟩:=T.ay.arr.aL;obtain⟨k1,f1,z1⟩:=cr O;have a6:=y.hp l.2.2 rfl;obtain⟨x1,x2,x3⟩:=cr a6;have A:=aM T y a6;have c7:=fI O a6 ai));go_wp2;have b9:=n.1.size;have t:w.heap.size<=D:=by have:=l.2.1;omega
 have P:=QO n.2.2.1 t;have x4:=heap_setCell_same w2 D 0 _ 172 (ae 0) A.2.2;have x5:=heap_setCell_same _ D 1 _ 172 (aG 0) x4;have f5:=((Fr.refl [172] aF w2).set (p:=⟨D,0,none⟩) A.2.2 rfl P (ae 0)).set (p:=⟨D,1,none⟩) x4 rfl P (aG 0);have g5:eB Z w ((w2.setCell ⟨D,0,none⟩ (ae 0)).setCell ⟨D,1,none⟩ (aG 0)):=(((n.1.trans (eB.af n.2.1)).trans (Fr.ra A.2.1.rb)).new (p:=⟨D,0,none⟩) t _).new (p:=⟨D,1,none⟩) t _;have c0:=(cr x5).1 0;have c1:=(cr x5).1 1;refine RB (v:=.agg #[ae 0,aG 0]) (by simp[RV,results124,go_sem,c0,c1]) rfl ⟨rfl,I,A.1.fr f5 rfl,n.2.2.2.1,g5,f5.hp (A.2.1.hp n.2.2.2.2.1 rfl) rfl,f5.hp (A.2.1.hp n.2.2.2.2.2 rfl) rfl,a5⟩
def JW[Lo](Z:bg)(g:au)(m:Nat)(V:bW)(C:Nat)(u:Su)(w b:QL):Prop:=
 ∃s a,Inv b Z g (some m) V C s a/\bh s.b/\eB Z w b/\if u.cur+1=g.s then∀k,k<g.M->a.st k=1 else a.st m=3/\a.cur=u.cur+1
def Su.dR(g:au)(u:Su)(m:Nat):Su:=if u.cur+1=g.s then{u with st:=λk=>if k=m then 1 else u.st k,cur:=0}else{u with cur:=u.cur+1}
theorem Su.one(a:∀k,k<g.M->u.st k≠1->some m=some k)(b:k<g.M)(e:k≠m):u.st k=1:=by
 by_cases q:u.st k=1
 .exact q
 .exact absurd (RT (a k b q)).symm e
theorem Su.D_(h:u.ok g)(f:m<g.M)(i:u.st m=3)(j:∀k,k<g.M->u.st k≠1->some m=some k):(u.dR g m).ok g:=by
 unfold Su.dR;by_cases e:u.cur+1=g.s
 .rw [ak e];have c:∀k,k<g.M->(if k=m then 1 else u.st k)=1:=λk d=>by
   by_cases q:k=m
   .rw [ak q]
   .rw [al q];exact Su.one j d q
  exact⟨h.bZ,h.id,h.ev,h.rl,h.ring,λk d=>.inl (c k d),λa b l _ n _=>absurd ((c a l).symm.trans n) ai,⟨h.bZ.s1,λe=>absurd rfl e⟩⟩
 .rw [al e];have:=h.cur.1;exact⟨h.bZ,h.id,h.ev,h.rl,h.ring,h.st,h.one,⟨by show u.cur+1<g.s;omega,λ_=>⟨m,f,i⟩⟩⟩
theorem D'{V:bW}(p:m<g.M)(i:u.st m=3)(d:∀m,s.ro.fr m=if m<g.M then dL g u m else none)(l:∀k,k<g.M->u.st k≠1->some m=some k)(o:∀ro:Ro,ro.wt=s.ro.wt->(∀j r,r<g.R->ro.down j r=false->s.ro.down j r=false\/(j=m/\u.cur*g.c<=r/\r<u.cur*g.c+g.c))->(∀j r,ro.down j r=true->some m=some j)->Gt g (some m) V {s with b:=b,ro:=ro}):Gt g (some m) V {s with b:=b,ro:=s.ro.marks g (u.dR g m) g.M}:=by
 have f:=λj=>jv (g:=g) (u:=u.dR g m) (ro:=s.ro) (λk t=>by rw[d k,al J]) j;have h:∀j,j<g.M->j≠m->(u.dR g m).st j=1:=λj c e=>by
  have:=Su.one l c e;unfold Su.dR;split
  .show (if j=m then 1 else u.st j)=1;rw[al e];exact this
  .exact this
 refine o _ rfl (λj r v a=>?_) λj r a=>?_
 .unfold Ro.down at a|-;rw[f j]at a;rw[d j];by_cases c:j<g.M
  .rw [ak c]at a|-;by_cases e:j=m
   .subst e;unfold dL at a|-;rw[i];simp only[show¬(3:Nat)=1 by decide,show¬(3:Nat)=2 by decide,if_false,decide_eq_false_iff_not,Nat.not_le];by_cases q:u.cur*g.c<=r
    .refine .inr ⟨trivial,q,?_⟩;unfold Su.dR at a;by_cases n:u.cur+1=g.s
     .have:g.R=u.cur*g.c+g.c:=by unfold au.R;rw[<-n,YI]
      omega
     .rw [al n]at a;simp only[i,show¬(3:Nat)=1 by decide,show¬(3:Nat)=2 by decide,if_false,decide_eq_false_iff_not,Nat.not_le,YI]at a;exact a
    .exact .inl J
   .unfold dL;rw[Su.one l c e];exact .inl rfl
  .rw [al c];exact .inl rfl
 .unfold Ro.down at a;rw[f j]at a;by_cases c:j<g.M
  .by_cases e:j=m
   .rw [e]
   .rw [ak c]at a;unfold dL at a;rw[h j c e]at a;simp at a
  .rw [al c]at a;simp at a
theorem JX(w:M)(A B C D:Obj):((((w.alloc A).alloc B).alloc C).alloc D).heap[w.heap.size]?=some A/\((((w.alloc A).alloc B).alloc C).alloc D).heap[w.heap.size+1]?=some B/\((((w.alloc A).alloc B).alloc C).alloc D).heap[w.heap.size+1+1]?=some C/\((((w.alloc A).alloc B).alloc C).alloc D).heap[w.heap.size+1+1+1]?=some D/\((((w.alloc A).alloc B).alloc C).alloc D).heap.size=w.heap.size+4/\ar w ((((w.alloc A).alloc B).alloc C).alloc D):=by have a:∀(w:M) (o:Obj),(w.alloc o).heap.size=w.heap.size+1:=λw o=>aJ;have b:=a w A;have c:=a (w.alloc A) B;have g:=a ((w.alloc A).alloc B) C;have i:=a (((w.alloc A).alloc B).alloc C) D;have h:=QM w A;have d:=QM (w.alloc A) B;have e:=QM ((w.alloc A).alloc B) C;have f:=QM (((w.alloc A).alloc B).alloc C) D;rw[b]at d;rw[c,b]at e;rw[g,c,b]at f;exact⟨(YN _ _ J).trans ((YN _ _ J).trans ((YN _ _ J).trans h)),(YN _ _ J).trans ((YN _ _ J).trans d),(YN _ _ J).trans e,f,J,aI (aI (aI (aI aj _) _) _) _⟩
theorem Ea[Lo](Z:bg)(g:au)(p:Option Nat)(V:bW)(C:Nat)(r:Rs)(w:QL)(bA j l m k i:Nat)(B:k+i<g.B)(D:1000<=C)(E:bA≠Z.fb)(F:j≠Z.fb)(G:l≠Z.fb)(K:w.heap.size<=m)(L:Lo.lo<=w.heap.size)(R:Z.fb<w.heap.size):
  KQ Z g 102 #[] #[aq bA,aq j,aq l,aq m] (λq W=>vp Z g p V C r w q W/\DV Z bA j l m k i W) (λW=>∃q,Pf Z g p V C r w bA j l m k i q W) (λt _ W=>Pg Z g p V C r w bA j l m k i t W) where
 enters:=RP func102 aE rfl
 call:=λq W h=>(DX Z g p V C r w bA j l m k i B q W h.1 h.2 K L).mono λe O ⟨t,x,f,o⟩=>⟨t,x,f,o.imp (λh=>⟨h.1,q,h.2⟩) λh=>⟨h.1,h.2.1,h.2.2.2.1,h.2.2⟩⟩
 gV:=by rintro t x W P ⟨rfl,Q,S,s,u,y,T,U,X⟩;refine(ig Z g t V C x s u W y Q T D P).mono ?_;rintro e O ⟨f,H,N,d⟩;exact⟨f,⟨H,N,d.inv.less (by rw[ak rfl];omega),λ_=>d.inv.quiet d.down,U.trans d.bU,X.trans ⟨d.x,d.wt,d.sl,d.lz⟩⟩,S.PX d.bU F G E J⟩
 arr:=λ_ _ _ ⟨_,_,_,s,u,y,_⟩=>⟨u,false,y.ay.arr⟩
 sb:=λ_ _ _ h b=>⟨h.1.below b,h.2.below b⟩
 qb:=λ_ _ ⟨q,f,o,a,n,c,v,z⟩ b=>⟨q,f.below b,o.below b,a,n,c,(b.block _ (Z_ v)).trans v,z.below b⟩
 tb:=λ_ _ _ _ ⟨f,o,v,s,u,z,M,A⟩ b=>⟨f,o,v.below b,s,u,z.below b,M,A.1.then b,A.2⟩
theorem Eb(e o:Nat)(w:M)(b:aZ w e (N #[aG 0] 35)):CallsD prog 97 #[H e,H o] .returning w λe c a=>c=.returning/\aK e (.tuple #[])/\a=w:=by obtain⟨d1,d2,d3⟩:=cr b;refine callsD_of_wp (R:=λe a=>aK e (.tuple #[])/\a=w) func97 rfl ?_;simp only[ntmps97,Array.size];go_wp2;go_end0;exact⟨rfl,rfl⟩
def Pj[Lo](Z:bg)(g:au)(d:Option Nat)(V:bW)(C:Nat)(f:Rs)(k n:Nat)(w:M)(e:SG)(b:M):Prop:=
 ∃a c,aK e (.tuple #[.slice a (n*128) c,aG 0])/\cN b (.slice a (n*128) c) (n*128) (λj=>eL g V (k+j/128) (j%128))/\∃q,vp Z g d V C f w q b
structure GV[Lo](Z:bg)(g:au)(aw:Option Nat)(V:bW)(C:Nat)(s0:Rs)(bA bB bO bE k i:Nat)(w W:M):Prop where
 st:∃q,vp Z g aw V C s0 w q W
 a:W.heap[bA]? =some (N #[H Z.A] 71)
 b:W.heap[bB]? =some (N #[Y k] 3)
 e:W.heap[bE]? =some (N #[aG 0] 35)
 o:∃v,W.heap[bO]? =some (N #[v] 41)/\W.ownsRow w.heap.size 5 1 v (i*128) (az (i*128) fun j=>eL g V (k+j/128) (j%128))
theorem GV.below[Lo]{Z:bg}{b:Option Nat}{V:bW}(h:GV Z g b V C s n m j r k i w W)(a:ar W z):GV Z g b V C s n m j r k i w z:=
 ⟨h.st.imp λ_ h=>h.below a,(a.block _ (Z_ h.a)).trans h.a,(a.block _ (Z_ h.b)).trans h.b,(a.block _ (Z_ h.e)).trans h.e,h.o.imp λ_ h=>⟨(a.block _ (Z_ h.1)).trans h.1,aP a h.2⟩⟩
theorem GV.step[Lo]{Z:bg}{B:Option Nat}{V:bW}{D:Rs}{H:Su}{bA Q b S k i N M:Nat}(U:Inv w Z g B V n D H)(R:vp Z g B V C D w d W)(o:W.heap[b]?=some (ao #[.slice P N m] 41))(q:W.heap[S]?=some (ao #[aG 0] 35))(r:W.heap[bA]?=some (ao #[aq Z.A] 71))(t:W.heap[Q]?=some (ao #[ae k] 3))(y:W.ownsRow w.heap.size 5 1 (.slice P N m) N (az N λj=>eL g V (k+j/128) (j%128)))(F:eL g V (k+i)=f)(a1:i*128=N)(l:z.ownsRow w.heap.size 5 1 v (N+128) ((az N λj=>eL g V (k+j/128) (j%128))++az 128 f))(a:nI M W (.slice P N m) N 128 v z)(X:w.heap.size<=b):
  GV Z g B V C D bA Q b S k (i+1) w (z.setCell (ag b 0) v)/\z.heap[b]?=some (ao #[.slice P N m] 41):=by
 have c:∀{x T:Nat} {I:Array QN} {Y:Nat × Nat},W.heap[x]?=some (.cells I T Y)->T≠5->(SF P N m).ownBlock≠some x:=λJ h2 e=>by obtain⟨-,G,K,A⟩:=fu y e;rw[J]at A;exact h2 (VF (RT A)).2.1
 have E:=a.heap o (c o ai);have q4:vp Z g B V C D w d z:=R.own U (a.out (Out.refl (λx=>(SF P N m).ownBlock=some x) W) λ_ h _=>h) λx L=>fu y L;obtain⟨s,u,i1,i2,i3,i4⟩:=q4;have O:=QO U.low X;have f5:Fr [41] aF z (z.setCell (ag b 0) v):=(Fr.refl _ _ _).set (p:=ag b 0) E rfl O _;refine⟨⟨⟨d,s,u,i1.fr f5 rfl,i2,i3.new X _,i4⟩,f5.hp (a.heap r (c r ai)) rfl,f5.hp (a.heap t (c t ai)) rfl,f5.hp (a.heap q (c q ai)) rfl,v,heap_setCell_same z b 0 _ 41 v E,?_⟩,E⟩;have a0:Out (λx=>x=b) z (z.setCell (ag b 0) v):=(Out.refl (λx=>x=b) z).setCell (p:=ag b 0) (λ_=>rfl) v;have:=a0.own l λx L e=>by obtain⟨-,G,K,A⟩:=fu l L;rw[e,E]at A;exact absurd (VF (RT A)).2.1 ai
 rw[jD]at this;rw[show(i+1)*128=N+128 by omega];rw[ee (g:=cat N (λj=>eL g V (k+j/128) (j%128)) f) λj a2=>?_]
 .exact this
 .unfold cat;by_cases e:j<N
  .rw [ak e]
  .rw [al e,<-F,show j/128=i by omega,show j%128=j-N by omega]
theorem GW[Lo](Z:bg)(g:au)(z:Option Nat)(V:bW)(C:Nat)(s:Rs)(u:Su)(k n:Nat)(w:QL)(h:Inv w Z g z V C s u)(j1:1000<=C)(j5:k+n<=g.B):
  aD 59 #[aq Z.A,ae k,ae n] w (Pj Z g z V C s k n w):=by
 obtain⟨j6,g1,g2,g3,g4⟩:=SN j';obtain⟨e9,g5⟩:=ah ((((w.alloc (ao #[aq Z.A] 71)).alloc (ao #[ae k] 3)).alloc (ao #[aU] 41)).alloc (ao #[aG 0] 35));obtain⟨f1,J,g7,f2,U,A⟩:=JX w (ao #[aq Z.A] 71) (ao #[ae k] 3) (ao #[aU] 41) (ao #[aG 0] 35);rw[g5]at f1 J g7 f2 U A;obtain⟨bA,r⟩:=ah w.heap.size;obtain⟨X,b⟩:=ah (w.heap.size+1);obtain⟨m,D⟩:=ah (w.heap.size+1+1);obtain⟨c,H⟩:=ah (w.heap.size+1+1+1);rw[r]at f1;rw[b]at J;rw[D]at g7;rw[H]at f2;have g8:=ad h;have M:RH (w.heap.size<=m):=by rw[<-D];exact QO (VC _) (VC _)
 have E:=h.below A;have f4:=h.eK.bZ;have g9:g.B<=1048576:=by have h1:=f4.m16;have h2:=f4.qd;have h3:=f4.gP;unfold au.B au.E;exact QO (TJ h3 (TJ (show g.M-1<=16 by omega) h2)) ai
 have a4:=Z_ h.ay.rs.row.fy;obtain⟨j8,-,R⟩:=E.ay.arr.aL;obtain⟨k0,f0,z0⟩:=cr R;obtain⟨a1,a2,a3⟩:=cr f1;obtain⟨b1,b2,b3⟩:=cr J;obtain⟨x1,x2,x3⟩:=cr f2;have h0:=ad (gF Z g u false e9 E.ay.arr);have a5:=ad (λW (J:ar e9 W)=>As Z g u false W (E.below J).ay.arr f4);have a6:RH (GV Z g z V C s bA X m c k 0 w e9):=⟨⟨false,s,u,E,λe=>(by cases e),iI.af A,rfl,rfl,rfl,rfl⟩,f1,J,f2,_,g7,by rw[WI];exact SS _ _ _ _⟩;have d:=eM g5 r b D H U;have a0:=aS j1 A h.low a4;obtain⟨B,I⟩:=ah g.B;rw[I]at a5 j5 g9;have h6:=ad I;have e1:decide ((n:Int)<0)=false:=aJ;have e2:decide ((k:Int)<0)=false:=aJ;have e3:decide (B<k)=false:=aQ;have j9:decide ((B:Int)<(k:Nat))=false:=aQ;have e4:QQ.wrap ((B:Int)-(k:Nat))=((B-k:Nat):Int):=by rw[show(B:Int)-(k:Nat)=((B-k:Nat):Int)by omega];go_arith
 have e5:decide (B-k<n)=false:=aQ;have k1:decide (((B-k:Nat):Int)<(n:Nat))=false:=aQ;clear g5 r b D H U I j1;obtain⟨P,Q,S⟩:=g
 go_enter_defers func59,ntmps59
 go_wp2_with fail;rw[d.1,d.2.2.2.2.1,d.2.2.2.1,d.2.2.1,d.2.1];go_wp2_with(go_at_call 99;refine h0.mono ?_;rintro e w1 ⟨rfl,rfl⟩);go_region_held3(λj2=>j2.cell? (ag bA 0)=some (aq Z.A)/\j2.cell? (ag X 0)=some (ae k)) ((simp[*,go_sem];done)) (first|(go_at_call 100;refine(a5 _ (by first|exact l|exact ct l _|exact ct aj _)).mono ?_;rintro e w2 ⟨rfl,h7⟩;have l:RH (ar e9 w2):=via (by first|exact l|exact ct l _|exact ct aj _) h7;obtain⟨p1,p2,p3⟩:=kp l bA a3;obtain⟨p4,p5,p6⟩:=kp l X b3));have a7:RH (GV Z ⟨P,Q,S⟩ z V C s bA X m c k 0 w w2):=a6.below l;clear a6;go_wp2;go_loopw [34] (λj wr=>∃i:Nat,j= ae i/\i<=n/\RH (GV Z ⟨P,Q,S⟩ z V C s bA X m c k i w wr)) (λj _=>n-(intOf j).toNat)
 case atStart=>exact⟨0,rfl,QX _,a7⟩
 case round=>
  clear a7;obtain⟨i,rfl,k2,o⟩:=hrel;obtain⟨q,k3⟩:=o.st;obtain⟨s1,u1,f5,a8,hF,a9⟩:=k3;obtain⟨j4,-,R⟩:=f5.ay.arr.aL;obtain⟨k0,f0,z0⟩:=cr R;obtain⟨a1,a2,a3⟩:=cr o.a;obtain⟨b1,b2,b3⟩:=cr o.b;obtain⟨x1,x2,x3⟩:=cr o.e;by_cases h8:i<n
  .have k4:(i:Int)<(n:Int):=aa;obtain⟨f8,b0⟩:=ah ((wr.alloc (ao #[ae i] 3)).alloc (ao #[aU] 41));have b:ar wr f8:=by rw[<-b0];exact aI (aI aj _) _
   have b4:aZ f8 wr.heap.size (ao #[ae i] 3):=by rw[<-b0];exact fX _ _ _
   have b6:aZ f8 (wr.heap.size+1) (ao #[aU] 41):=by rw[<-b0];exact fg _ _ _
   have b7:=ad b0;have b8:=hF.size;have a4:=a0.2.2.2;have k5:=d.2;have b9:=o.below b;have h9:=ad (pz Z ⟨P,Q,S⟩ f5.eK.bZ.m16 102 _ _ _ _ _ (Ea Z ⟨P,Q,S⟩ z V C s1 wr bA X wr.heap.size (wr.heap.size+1) k i (by rw[h6.out];omega) a0.1 aa aa aa (VC _) (QO a0.2.2.1 b8) aa) q f8 ⟨⟨s1,u1,f5.below b,a8,iI.af b,rfl,rfl,rfl,rfl⟩,b9.a,b9.b,b4,_,b6⟩);obtain⟨k6,t,F⟩:=o.o;have a:=eM (And.intro o.a (And.intro o.b o.e)) (And.intro hF a9) k2 h8 t F;have G:RH (m≠Z.fb/\c≠Z.fb/\bA≠Z.fb/\X≠Z.fb):=⟨aa,aa,aa,aa⟩;have i0:=ad b8;clear b b4 b6 b0;go_wp2_with fail;rw[b7.out];go_wp2_with(first
    |(go_at_call 101;refine h9.mono ?_;rintro e w3 ⟨rfl,q3,i1,k7,l4,l5,l6,d0,d1⟩
      obtain⟨s3,u3,i3,j3,f3,m3⟩:=i1;have K:=Fr.heap f3 a.2.2.2.2.1 rfl G.1;have d2:=Fr.heap f3 a.1.2.2 rfl G.2.1;have d3:=Fr.heap f3 a.1.1 rfl G.2.2.1;have d4:=Fr.heap f3 a.1.2.1 rfl G.2.2.2;have v:=Fr.own f3 a.2.2.2.2.2 rfl λx k8 e=>by have h1:=(fu a.2.2.2.2.2 k8).1;have h2:=a0.2.2.2;omega
      obtain⟨N,U⟩:=ah (i*128);rw[U]at v;obtain⟨L,O,d5,-⟩:=av v;rw[d5]at K v;obtain⟨gk,Y⟩:=ah (eL ⟨P,Q,S⟩ V (k+i));rw[Y]at d1;obtain⟨l7,l8,e5,h5⟩:=d1;obtain⟨b5,o5,i2,i4,e6,d6,d7⟩:=h5.resolve_left ai;cases e5;subst e6;have i5:RH (∀j u,(az 128 gk)[j]?=some u->w3.cell? (((ag b5 o5):TF).add j)=some u):=λj u f9=>by
       by_cases d8:j<128
       .rw [a' _ _ _ d8]at f9;rw[iK,<-f9];exact(RD w3 b5 (o5+j) i2 5 i4 d6).trans (d7 j d8)
       .rw [RO (by rw[aH];omega)]at f9;cases f9
      have i6:RH (wr.heap.size<=w3.heap.size):=f3.size;have i8:RH (vp Z ⟨P,Q,S⟩ z V C s w q3 w3):=⟨s3,u3,i3,j3,a.2.1.1.trans f3,a.2.1.2.trans m3⟩;have H3:=bX K d2 d3 d4 v;have d9:=aA Y U;obtain⟨c1,c2,c3⟩:=cr K;obtain⟨c4,c5,c6⟩:=cr d0;have k9:N<=200000000:=by have:=a.2.2.1;omega
      clear i3 j3 f3 m3 K d2 d3 d4 v U d5 Y h5 d6 d7 d0 a1 a3 b1 b3 x1 x2 x3 k0)
    |(at_builtin;refine aT _ rfl _ _ 41 rfl w.heap.size 5 j6 (.int .u8 0) 1 1 UX g1 g2 g3 g4 rfl ai (.slice L N O) N _ rfl H3.2.2.2.2 (ag b5 o5) 128 _ (az 128 gk) rfl (by rw[aH]) i5 (df _ _) ai (by unfold UT;omega) aa (QO i0 i6) ?_;intro l9 w4 y T;obtain⟨m0,l0,rfl,-⟩:=av y
      obtain⟨r1,r2⟩:=GV.step g8 i8 H3.1 H3.2.1 H3.2.2.1 H3.2.2.2.1 H3.2.2.2.2 d9.1 d9.2 y T M;have i9:=ad r1;obtain⟨c7,c8,c9⟩:=cr r2;clear r1 r2 y T c1 c2))
   go_roundw
   case rel=>exact⟨i+1,by go_num,a.2.2.2.1,i9⟩
   case measure=>have:=a.2.2.2.1;simp[intOf];omega
  .obtain rfl:n=i:=aa;obtain⟨k6,t,F⟩:=o.o;obtain⟨L,O,rfl,-⟩:=av F;obtain⟨c1,c2,c3⟩:=cr t;have g0:=aM t F o.e;have l1:RH (vp Z ⟨P,Q,S⟩ z V C s w q wr):=⟨s1,u1,f5,a8,hF,a9⟩;have n1:=fI o.e t ai;have n2:=Ne.symm n1;go_wp2;have h1:=heap_setCell_same wr m 0 _ 41 (.slice L (n*128) O) g0.1;have h2:=(RW wr (ag m 0) c (.slice L (n*128) O) n1).trans g0.2.2;have h3:=heap_setCell_same _ c 0 _ 35 (aG 0) h2;have h4:=(RW _ (ag c 0) m (aG 0) n2).trans h1;have e0:w.heap.size<=c:=by have:=d.2.2.2.2.1;omega
   have f6:=((Fr.refl [41,35] aF wr).set (p:=ag m 0) g0.1 rfl (QO a0.2.2.1 M) (.slice L (n*128) O)).set (p:=ag c 0) h2 rfl (QO a0.2.2.1 e0) (aG 0);have g6:iI Z w wr->iI Z w ((wr.setCell (ag m 0) (.slice L (n*128) O)).setCell (ag c 0) (aG 0)):=λh=>(h.new (p:=ag m 0) M _).new (p:=ag c 0) e0 _;obtain⟨W6,j0⟩:=ah ((wr.setCell (ag m 0) (.slice L (n*128) O)).setCell (ag c 0) (aG 0));rw[j0]at h3 h4 f6 g6|-;refine XI (f:=98) (args:= #[aq c]) aJ (by simp[go_sem]) ?_;refine(cM (ag c 0) _).mono ?_;rintro e l2 w7 ⟨rfl,rfl,e7⟩;rw[e7];refine XI (f:=97) (args:= #[aq c,aq m]) (by simp[settle]) (by simp[go_sem]) ?_;refine(Eb c m _ h3).mono ?_;rintro e l2 w8 ⟨rfl,rfl,e8⟩;rw[e8];have l3:RH (Pj Z ⟨P,Q,S⟩ z V C s k n w (.returned (.tuple #[.slice L (n*128) O,aG 0])) W6):=by obtain⟨s7,u7,i7,j7,f7,m7⟩:=l1.out;refine⟨L,O,rfl,?_,q,s7,u7,i7.fr f6 rfl,j7,g6 f7,m7⟩;have:=fY g0.2.1;exact this.fr f6 rfl
   have c0:=(cr h3).1 0;have c4:=(cr h4).1 0;simp[Leaves,settle,RV,results59,go_sem,c0,c4];exact l3
theorem Ec[Lo](Z:bg)(g:au)(m:Nat)(V:bW)(C:Nat)(s:Rs)(u:Su)(bA c:Nat)(w:QL)(i:u.st m=3)(j:m<g.M)(k:1000<=C)(l:Lo.lo<=w.heap.size):
  KQ Z g 124 #[] #[H bA,H c] (λ_ W=>Inv W Z g (some m) V C s u/\eB Z w W/\W.heap[bA]?=some (N #[H Z.A] 71)/\W.heap[c]?=some (N #[Y m] 3)) (λW=>Ph Z g m V C s u bA c w W) (λ_ _ _=>False) where
 enters:=RP func124 aE rfl
 call:=λq W h=>(DY Z g m V C s u bA c w W h.1 h.2.1 i j k h.2.2.1 h.2.2.2 l).mono λe t h=>⟨0,0,h.1,.inl ⟨rfl,h.2⟩⟩
 gV:=λ_ _ _ _ h=>h.elim
 arr:=λ_ _ _ h=>h.elim
 sb:=λ_ _ _ h a=>⟨h.1.below a,h.2.1.then a,(a.block _ (Z_ h.2.2.1)).trans h.2.2.1,(a.block _ (Z_ h.2.2.2)).trans h.2.2.2⟩
 qb:=λ_ _ ⟨b,n,o,p,d,f,r⟩ a=>⟨b,n.below a,o,p.then a,(a.block _ (Z_ d)).trans d,(a.block _ (Z_ f)).trans f,r⟩
 tb:=λ_ _ _ _ h _=>h
theorem sV(e:u.cur+1=g.s):u.dR g m={u with st:=λk=>if k=m then 1 else u.st k,cur:=0}:=ak e
theorem xB(e:¬u.cur+1=g.s):u.dR g m={u with cur:=u.cur+1}:=al e
theorem vr:(u.dR g m).ev=u.ev/\(u.dR g m).N=u.N/\(u.dR g m).lz=u.lz/\(u.dR g m).lost=u.lost:=by unfold Su.dR;split<;>exact⟨rfl,rfl,rfl,rfl⟩
theorem vt(a:∀k,k<g.M->u.st k≠1->some m=some k)(k:Nat)(b:k<g.M)(h:(u.dR g m).st k≠1):some m=some k:=by
 unfold Su.dR at h;split at h
 .have h:(if k=m then 1 else u.st k)≠1:=h;by_cases e:k=m
  .rw [e]
  .rw [al e]at h;exact a k b h
 .exact a k b h
theorem kJ(w:M)(A B:Obj):((w.alloc A).alloc B).heap[w.heap.size]?=some A/\((w.alloc A).alloc B).heap[w.heap.size+1]?=some B/\ar w ((w.alloc A).alloc B):=⟨fX _ _ _,fg _ _ _,aI (aI aj _) _⟩
theorem AI[Lo](Z:bg)(g:au)(x:Option Nat)(V:bW)(C:Nat)(s:Rs)(u:Su)(w:QL)(h:Inv w Z g x V C s u)(G:∀k,k<g.M->u.st k≠3):
  aD 68 #[aq Z.A] w λe E=>aK e (.tuple #[.bool false,aG 160])/\Inv E Z g x V C s u/\eB Z w E:=by
 obtain⟨m,y⟩:=ah ((w.alloc (ao #[aq Z.A] 71)).alloc (ao #[aG 0] 35));obtain⟨z,v,d⟩:=kJ w (ao #[aq Z.A] 71) (ao #[aG 0] 35);rw[y]at z v d;obtain⟨bA,a⟩:=ah w.heap.size;obtain⟨i,j⟩:=ah (w.heap.size+1);rw[a]at z;rw[j]at v;have b:=h.below d;have K:=h.eK.bZ;obtain⟨L,n,A⟩:=b.ay.arr.aL;obtain⟨R,f0,I⟩:=cr A;obtain⟨Y,J,a3⟩:=cr z;obtain⟨x1,x2,x3⟩:=cr v;have B:=ad (gF Z g u false m b.ay.arr);have o:=ad (pr _ g.M u.st 3 m (b.ay.arr.NG n) (by have:=K.m16;omega) ai);have p:eP (λk=>decide (u.st k=3)) g.M= -1:=by
  unfold eP;cases O:gone (λk=>decide (u.st k=3)) g.M with
  |none=>rfl
  |some k=>obtain⟨P,Q⟩:=eQ O;exact absurd (of_decide_eq_true Q) (G k P)
 rw[p]at o;have c:=aM y a j;have q:=aS b d h.low v;clear y a j p;obtain⟨S,T,U⟩:=g
 go_enter_defers func68,ntmps68
 go_wp2_with fail;rw[c.1,c.2.2,c.2.1];go_wp2_with(first|(go_at_call 99;refine B.mono ?_;rintro e W ⟨rfl,rfl⟩)|(go_at_call 122;refine o.mono ?_;rintro e W ⟨rfl,rfl⟩));have F:=heap_setCell_same m i 0 _ 35 (aG 160) q.2.2.2;have r:w.heap.size<=i:=by have:=c.2.2;omega
 obtain⟨D,t⟩:=ah ((m.setCell (ag i 0) (aG 160)).alloc (ao #[ae (-1)] 3));have l:SM (m.setCell (ag i 0) (aG 160)).heap.size (m.setCell (ag i 0) (aG 160)) D:=by rw[<-t];exact aI aj _
 have X:RH (Inv D Z ⟨S,T,U⟩ x V C s u/\eB Z w D):=⟨(q.1.cell q.2.2.2 (QO q.2.2.1 r) rfl _).below l,((eB.af q.2.1).new r _).then l⟩;have H:=(l.block _ (Z_ F)).trans F
 try rw[t]
 refine XI (f:=98) (args:= #[aq i]) aJ (by simp[go_sem]) ?_;refine(cM (ag i 0) _).mono ?_;rintro e a0 w7 ⟨rfl,rfl,N⟩;rw[N];have M:=(cr H).1 0;simp[Leaves,settle,RV,results68,go_sem,M];exact X
theorem GX[Lo](Z:bg)(g:au)(m:Nat)(V:bW)(C:Nat)(s:Rs)(u:Su)(w:QL)(h:Inv w Z g (some m) V C s u)(d1:m<g.M)(d2:u.st m=3)(i5:200000<=C):
  aD 68 #[aq Z.A] w λe b7=>aK e (.tuple #[.bool (decide (u.cur+1=g.s)),aG 0])/\JW Z g m V (C-30000) u w b7:=by
 have i7:∀(h6:Fn) (first b8:Array QN) (w:QL),(Instr.makeFunc h6 first b8).run prog w=.ok (.func h6 first b8) w:=λ_ _ _ _=>rfl;obtain⟨d5,g7⟩:=ah ((w.alloc (ao #[aq Z.A] 71)).alloc (ao #[aG 0] 35));obtain⟨d3,d4,P⟩:=kJ w (ao #[aq Z.A] 71) (ao #[aG 0] 35);rw[g7]at d3 d4 P;obtain⟨bA,H⟩:=ah w.heap.size;obtain⟨o,b9⟩:=ah (w.heap.size+1);rw[H]at d3;rw[b9]at d4;have N:=h.below P;have i8:=h.eK.bZ;obtain⟨b8,d6,d7⟩:=N.ay.arr.aL;obtain⟨k0,f0,z0⟩:=cr d7;obtain⟨a1,a2,a3⟩:=cr d3;obtain⟨x1,x2,x3⟩:=cr d4;have d8:=ad (gF Z g u false d5 N.ay.arr);have c4:=ad (pr _ g.M u.st 3 d5 (N.ay.arr.NG d6) (by have:=i8.m16;omega) ai);have d9:eP (λk=>decide (u.st k=3)) g.M=(m:Nat):=by unfold eP;rw[ky (dn:=λk=>decide (u.st k=3)) d1 (decide_eq_true d2) λj j5=>decide_eq_false λe=>by have:=h.eK.one j m aa d1 e d2;omega]
 rw[d9]at c4;obtain⟨g3,g4⟩:=ah (d5.alloc (ao #[ae m] 3));have M:ar d5 g3:=by rw[<-g4];exact aI aj _
 obtain⟨e0,c5⟩:=ah d5.heap.size;have c6:g3.heap[e0]?=some (ao #[ae m] 3):=by rw[<-g4,<-c5];exact QM _ _
 have b1:=N.below M;have c7:=(M.block _ (Z_ d3)).trans d3;have e1:=(M.block _ (Z_ d4)).trans d4;obtain⟨h7,-,b2⟩:=b1.ay.arr.aL;obtain⟨k2,f2,z2⟩:=cr b2;obtain⟨a4,a5,a6⟩:=cr c7;obtain⟨m1,m2,m3⟩:=cr c6;have e2:=ad (λW (h8:ar g3 W)=>pB (b1.below h8) _ _ 123 _ (vq Z g (some m) V C aa) trivial (.inr (h.fR ⟨m,d1,d2⟩))|>.mono λe b7 i9=>show aK e (.tuple #[])/\∃g5,Inv b7 Z g (some m) V (C-20000) g5 u/\bh g5.b/\eB Z g3 b7 from by obtain⟨q1,g5,q2,-,-,q3,q4⟩:=i9;exact⟨q1,g5,q2,q3 (h.fR ⟨m,d1,d2⟩),(eB.af h8).trans q4⟩);have A:=bX g7 H b9 g4 c5;have e3:=eM b1 (P.trans (M.mono P.size)) h.low c7 e1 c6;have i:=bX d1 d2 i5 (h.fR ⟨m,d1,d2⟩) h.low;have g8:=Z_ h.ay.rs.row.fy;have p:RH (bA≠Z.fb/\o≠Z.fb/\e0≠Z.fb):=⟨aa,aa,by have:=P.size;omega⟩;clear h P N d7 d3 d4 g7 H b9 d9 M g4 c5 c6 b1 c7 e1 b2 g8;obtain⟨c,d,a⟩:=g
 go_enter_defers func68,ntmps68
 go_wp2_with fail;rw[A.1,A.2.2.1,A.2.1];go_wp2_with(first|(go_at_call 99;refine d8.mono ?_;rintro e w1 ⟨rfl,rfl⟩)|(go_at_call 122;refine c4.mono ?_;rintro e w1 ⟨rfl,rfl⟩));simp only[A.out.2.2.2.1,A.out.2.2.2.2];go_region_held3(λb7=>b7.cell? ⟨bA,0,none⟩=some (aq Z.A)/\b7.cell? ⟨Z.A,13,none⟩=some (aq Z.R)) ((simp[*,go_sem];done)) (first|(go_at_call 113;refine(e2 _ (by first|exact aj|exact ct aj _)).mono ?_;rintro e w3 ⟨rfl,s3,i3,l3,f3⟩;have v:=Fr.heap f3 e3.2.2.2.1 rfl p.1;have B:=Fr.heap f3 e3.2.2.2.2.2 rfl p.2.2;have z:=Fr.heap f3 e3.2.2.2.2.1 rfl p.2.1;have v1:=(cr v).1 0;obtain⟨c3,-,e4⟩:=i3.ay.arr.aL;obtain⟨k3,l4,z3⟩:=cr e4;obtain⟨r1,r2,r3⟩:=cr v;have D:=eM i3 l3 f3 v B z;clear i3 l3 f3 v B z e4));have g9:=ad (sT Z ⟨c,d,a⟩ D.1.eK.bZ.m16 124 _ _ _ _ _ (Ec Z ⟨c,d,a⟩ m V (C-20000) s3 u bA e0 w3 i.2.1 i.1 (by have:=i.2.2.1;omega) D.1.low) (λ_ _ h=>⟨u,false,h.1.ay.arr⟩) (λ_ ⟨_,h,_⟩=>⟨u,false,h.ay.arr⟩) false w3 ⟨D.1,eB.af aj,D.2.2.2.1,D.2.2.2.2.1⟩);have R:=D.1.eK.bZ.m16;have e5:=D.1.eK.cur.1;have I:=D.1.eK.bZ.gP;have j0:QQ.wrap ((u.cur:Int)+1)=((u.cur+1:Nat):Int):=by have e5:u.cur<a:=e5;have I:a<=256:=I;go_arith
 clear k0 f0 z0 a1 a2 a3 x1 x2 x3 k2 f2 z2 a4 a5 a6 m1 m2 m3 d8 c4 e2 v1;go_wp2_with(first
  |(go_at_call 113;refine g9.mono ?_;rintro e w4 ⟨rfl,b4,i4,l4,f4,v,B,g6⟩
    have z:=Fr.heap f4 D.2.2.2.2.2 rfl p.2.1;obtain⟨r1,r2,r3⟩:=cr v;obtain⟨r4,r5,r6⟩:=cr B;obtain⟨b3,r,Q⟩:=i4.ay.arr.aL;obtain⟨k4,l5,z4⟩:=cr Q;have x:=ad (ic Z ⟨c,d,a⟩ u false m w4 i4.ay.arr i.1 R);rw[show decide (u.st m≠2)=true by simp[i.out.2.1]]at x;have H4:=HQ i4 l4 f4 v B z g6 r Q;clear i4 l4 f4 v B z g6 Q)
  |(go_at_call 120;refine x.mono ?_;rintro e w5 ⟨rfl,rfl⟩))
 obtain⟨i4,l4,f4,v,B,z,g6,r,Q⟩:=H4.out;obtain⟨t1,t2,t4⟩:=i4.ay.set r Q 12 (ae ((u.cur+1:Nat):Int)) (u':={u with cur:=u.cur+1}) (yg':=false) rfl rfl;rw[show((u.cur+1:Nat):Int)=(u.cur:Int)+1 by omega]at t1 t2 t4;obtain⟨w5,e6⟩:=ah (w4.setCell ⟨Z.A,12,none⟩ (ae ((u.cur:Int)+1)));rw[e6]at t1 t2 t4|-;have E:=t2.hp v rfl;have F:=t2.hp B rfl;have S:=t2.hp z rfl;have f5:eB Z w3 w5:=f4.trans (Fr.DJ t2).a;have i0:(BB Z ⟨c,d,a⟩ {u with cur:=u.cur+1} b3 false)[12]?=some (ae ((u.cur:Int)+1)):=rfl;obtain⟨k5,l6,z5⟩:=cr t4;have h0:=(k5 12).trans i0;have h1:w5.cell? ⟨Z.A,7,none⟩=some (ae a):=k5 7;have h3:w5.cell? ⟨Z.A,11,none⟩=some (a_ Z.sb c b3):=k5 11;obtain⟨r7,r8,r9⟩:=cr E;obtain⟨s7,s8,s9⟩:=cr F;have H5:=eM t1 f5 E F S t4;clear i4 l4 f4 v B z g6 r Q t1 t2 t4 e6 E F S f5;clear r1 r2 r3 r4 r5 r6;clear k4 l5 z4 k5 i0;go_quiet(fail);have T:RH (ar w5 (w5.drewN nq)):=ct aj _;obtain⟨Y,e8⟩:=ah (w5.drewN nq);rw[e8]at T|-;clear e8;obtain⟨t1,f5,E,F,S,t4⟩:=H5.out;have U:=t1.below T;have J:=(T.block _ (Z_ E)).trans E;have a0:=(T.block _ (Z_ F)).trans F;have e9:=(T.block _ (Z_ S)).trans S;obtain⟨b5,t,n⟩:=U.arr.aL;clear h0 h1 h3 l6 z5 r7 r8 r9 s7 s8 s9 t1 E F S t4;obtain⟨k5,l6,z5⟩:=cr n;obtain⟨r7,r8,r9⟩:=cr J;obtain⟨s7,s8,s9⟩:=cr a0;obtain⟨j1,K,-⟩:=U.arr.uY;obtain⟨y1,y2,y3⟩:=cr K;have c1:=U.arr.st i.1;have H6:=jY U (f5.then T) J a0 e9 t n;have j2:=U.arr.ne;have n1:=fI J n ai;have n2:=fI a0 n ai;have n3:=fI J K ai;have n4:=fI a0 K ai;clear f5 U J a0 e9 t n y1 K;have j3:∀g:au,g=⟨c,d,a⟩->g.s=a:=λg e=>by rw[e]
 by_cases e:u.cur+1=a
 .have j4:(u.cur:Int)+1=(a:Int):=aa;have L:=ad e;clear e;go_wp2;go_region;obtain⟨x1,x2,x3,x4,x5,x6,x7⟩:=H6.out;obtain⟨g1,g2⟩:=x1.state m 1;obtain⟨i1,a7,f1⟩:=g1.arr.aL;obtain⟨q1,q2,q3⟩:=g1.set a7 f1 12 (ae ((0:Nat):Int)) (u':=u.dR ⟨c,d,a⟩ m) (yg':=false) (by rw[sV (show u.cur+1=a from L.out)];rfl) (by rw[sV (show u.cur+1=a from L.out)]);have O:RH (cY ((Y.setCell ⟨Z.sb,m,none⟩ (.int .u8 1)).setCell ⟨Z.A,12,none⟩ (ae 0)).drew Z ⟨c,d,a⟩ {s3 with b:=b4} (u.dR ⟨c,d,a⟩ m) false/\eB Z w3 ((Y.setCell ⟨Z.sb,m,none⟩ (.int .u8 1)).setCell ⟨Z.A,12,none⟩ (ae 0)).drew/\((Y.setCell ⟨Z.sb,m,none⟩ (.int .u8 1)).setCell ⟨Z.A,12,none⟩ (ae 0)).drew.heap[bA]?=some (ao #[aq Z.A] 71)/\((Y.setCell ⟨Z.sb,m,none⟩ (.int .u8 1)).setCell ⟨Z.A,12,none⟩ (ae 0)).drew.heap[e0]?=some (ao #[ae m] 3)/\((Y.setCell ⟨Z.sb,m,none⟩ (.int .u8 1)).setCell ⟨Z.A,12,none⟩ (ae 0)).drew.heap[o]?=some (ao #[aG 0] 35)):=
   ⟨q1.below (aV aj),((x2.trans ((Fr.JR g2).trans (Fr.DJ q2)).a)).then (aV aj),q2.hp (g2.hp x3 rfl) rfl,q2.hp (g2.hp x4 rfl) rfl,q2.hp (g2.hp x5 rfl) rfl⟩
  obtain⟨j6,f7⟩:=ah (((Y.setCell ⟨Z.sb,m,none⟩ (.int .u8 1)).setCell ⟨Z.A,12,none⟩ (ae 0)).drew);rw[f7]at O|-;clear f7 x1 x2 x3 x4 x5 x6 x7 g1 g2 a7 f1 q1 q2 q3;have y0:=(O.1).arr.aL;obtain⟨i2,-,h4⟩:=y0;clear k5 l6 z5 r7 r8 r9 s7 s8 s9 y2 y3 c1;obtain⟨r7,r8,r9⟩:=cr O.2.2.1;clear h4;have l:=H4.1;obtain⟨v1,v2,v3,v4⟩:=vr (g:=⟨c,d,a⟩) (u:=u) (m:=m);have a8:=i.2.2.1;have c8:=ad (sU (C:=C-20000-100) O.1 (D' i.1 i.2.1 D.1.ob D.1.only H4.2.2.2.2.2.2.1) (Su.D_ l.eK i.1 i.2.1 l.only) (vt l.only) H4.2.1 l.fit aa (by rw[v1];exact l.ev) ⟨v2.trans l.same.1,v3.trans l.same.2.1,v4.trans l.same.2.2⟩ ⟨v2.trans l.qv.1,v3.trans l.qv.2⟩ (λk f8=>by rw[l.ob k,al (Nat.not_lt.2 f8)]));have a9:(u.dR ⟨c,d,a⟩ m).told.st m=1:=by show(u.dR ⟨c,d,a⟩ m).st m=1;rw[sV L.out];exact ak rfl
  have X:=ad a9;clear l v1 v2 v3 v4 a8 a9;go_wp2_with(first
   |(go_at_call 121;refine c8.mono ?_;rintro e y ⟨rfl,b6,i6,l6,f6⟩
     have v:=Fr.heap f6 O.2.2.1 rfl p.1;have B:=Fr.heap f6 O.2.2.2.1 rfl p.2.2;have z:=Fr.heap f6 O.2.2.2.2 rfl p.2.1;obtain⟨r1,r2,r3⟩:=cr v;obtain⟨r4,r5,r6⟩:=cr B;obtain⟨r7,r8,r9⟩:=cr z;obtain⟨b5,t,n⟩:=i6.ay.arr.aL;obtain⟨k6,l7,z6⟩:=cr n;have c2:=i6.ay.arr.st i.1;rw[X.out]at c2;have x:=ad (ic Z ⟨c,d,a⟩ (u.dR ⟨c,d,a⟩ m).told false m y i6.ay.arr i.1 R);rw[show decide ((u.dR ⟨c,d,a⟩ m).told.st m≠2)=true by rw[X.out];decide]at x;have H7:=aS i6 l6 f6 z;clear i6 l6 f6 v B z n)
   |(go_at_call 120;refine x.mono ?_;rintro e w7 ⟨rfl,rfl⟩))
  go_region;have b0:w.heap.size<=o:=by have:=A.2.2.1;omega
  have c9:=QO i.2.2.2.2 b0;have f9:eB Z w y:=(((eB.af e3.2.1).trans D.2.2.1).trans O.2.1).trans H7.2.2.1;have h9:=heap_setCell_same y o 0 _ 35 (aG 0) H7.2.2.2;have G:SM (y.setCell ⟨o,0,none⟩ (aG 0)).heap.size (y.setCell ⟨o,0,none⟩ (aG 0)) (y.setCell ⟨o,0,none⟩ (aG 0)).drew:=aV aj;have a8:=i.2.2.1;have g0:RH (JW Z ⟨c,d,a⟩ m V (C-30000) u w (y.setCell ⟨o,0,none⟩ (aG 0)).drew):=by
   refine⟨_,_,((H7.1.cell H7.2.2.2 c9 rfl _).below G).less aa,H7.2.1,(f9.new b0 _).then G,?_⟩;rw[ak (show u.cur+1=a from L.out)];intro k f8;show(u.dR ⟨c,d,a⟩ m).st k=1;rw[sV (show u.cur+1=a from L.out)];show(if k=m then 1 else u.st k)=1;by_cases q:k=m
   .rw [ak q]
   .rw [al q];exact Su.one H4.1.only f8 q
  have h2:=(G.block _ (Z_ h9)).trans h9;have h5:decide (u.cur+1=a)=true:=by simp[L.out]
  obtain⟨W6,d0⟩:=ah ((y.setCell ⟨o,0,none⟩ (aG 0)).drew);rw[d0]at h2 g0|-;go_wp2;refine XI (f:=98) (args:= #[aq o]) aJ (by simp[go_sem]) ?_;refine(cM ⟨o,0,none⟩ _).mono ?_;rintro e u' w7 ⟨rfl,rfl,e7⟩;rw[e7];have c0:=(cr h2).1 0;simp[Leaves,settle,RV,results68,go_sem,c0];exact⟨L,g0⟩
 .have j4:¬(u.cur:Int)+1=(a:Int):=aa;have L:=ad e;clear e;have O:RH (cY Y Z ⟨c,d,a⟩ {s3 with b:=b4} (u.dR ⟨c,d,a⟩ m) false/\eB Z w3 Y/\Y.heap[bA]?=some (ao #[aq Z.A] 71)/\Y.heap[e0]?=some (ao #[ae m] 3)/\Y.heap[o]?=some (ao #[aG 0] 35)):=by obtain⟨x1,x2,x3,x4,x5,x6,x7⟩:=H6.out;rw[xB (show¬u.cur+1=a from L.out)];exact⟨x1,x2,x3,x4,x5⟩
  have l:=H4.1;obtain⟨v1,v2,v3,v4⟩:=vr (g:=⟨c,d,a⟩) (u:=u) (m:=m);have a8:=i.2.2.1;have c8:=ad (sU (C:=C-20000-100) O.1 (D' i.1 i.2.1 D.1.ob D.1.only H4.2.2.2.2.2.2.1) (Su.D_ l.eK i.1 i.2.1 l.only) (vt l.only) H4.2.1 l.fit aa (by rw[v1];exact l.ev) ⟨v2.trans l.same.1,v3.trans l.same.2.1,v4.trans l.same.2.2⟩ ⟨v2.trans l.qv.1,v3.trans l.qv.2⟩ (λk f8=>by rw[l.ob k,al (Nat.not_lt.2 f8)]));have a9:(u.dR ⟨c,d,a⟩ m).told.st m=3:=by show(u.dR ⟨c,d,a⟩ m).st m=3;rw[xB L.out];exact i.2.1
  have X:=ad a9;clear l v1 v2 v3 v4 a8 a9;go_wp2_with(first
   |(go_at_call 121;refine c8.mono ?_;rintro e y ⟨rfl,b6,i6,l6,f6⟩
     have v:=Fr.heap f6 O.2.2.1 rfl p.1;have B:=Fr.heap f6 O.2.2.2.1 rfl p.2.2;have z:=Fr.heap f6 O.2.2.2.2 rfl p.2.1;obtain⟨r1,r2,r3⟩:=cr v;obtain⟨r4,r5,r6⟩:=cr B;obtain⟨r7,r8,r9⟩:=cr z;obtain⟨b5,t,n⟩:=i6.ay.arr.aL;obtain⟨k6,l7,z6⟩:=cr n;have c2:=i6.ay.arr.st i.1;rw[X.out]at c2;have x:=ad (ic Z ⟨c,d,a⟩ (u.dR ⟨c,d,a⟩ m).told false m y i6.ay.arr i.1 R);rw[show decide ((u.dR ⟨c,d,a⟩ m).told.st m≠2)=true by rw[X.out];decide]at x;have H7:=aS i6 l6 f6 z;clear i6 l6 f6 v B z n)
   |(go_at_call 120;refine x.mono ?_;rintro e w7 ⟨rfl,rfl⟩))
  go_region;have b0:w.heap.size<=o:=by have:=A.2.2.1;omega
  have c9:=QO i.2.2.2.2 b0;have f9:eB Z w y:=(((eB.af e3.2.1).trans D.2.2.1).trans O.2.1).trans H7.2.2.1;have h9:=heap_setCell_same y o 0 _ 35 (aG 0) H7.2.2.2;have G:SM (y.setCell ⟨o,0,none⟩ (aG 0)).heap.size (y.setCell ⟨o,0,none⟩ (aG 0)) (y.setCell ⟨o,0,none⟩ (aG 0)).drew:=aV aj;have a8:=i.2.2.1;have g0:RH (JW Z ⟨c,d,a⟩ m V (C-30000) u w (y.setCell ⟨o,0,none⟩ (aG 0)).drew):=by refine⟨_,_,((H7.1.cell H7.2.2.2 c9 rfl _).below G).less aa,H7.2.1,(f9.new b0 _).then G,?_⟩;rw[al (show¬u.cur+1=a from L.out)];refine⟨X,?_⟩;show(u.dR ⟨c,d,a⟩ m).cur=u.cur+1;rw[xB (show¬u.cur+1=a from L.out)]
  have h2:=(G.block _ (Z_ h9)).trans h9;have h5:decide (u.cur+1=a)=false:=by simp[L.out]
  obtain⟨W6,d0⟩:=ah ((y.setCell ⟨o,0,none⟩ (aG 0)).drew);rw[d0]at h2 g0|-;go_wp2;refine XI (f:=98) (args:= #[aq o]) aJ (by simp[go_sem]) ?_;refine(cM ⟨o,0,none⟩ _).mono ?_;rintro e u' w7 ⟨rfl,rfl,e7⟩;rw[e7];have c0:=(cr h2).1 0;simp[Leaves,settle,RV,results68,go_sem,c0];exact⟨L,g0⟩
structure lJ(a:fL):Prop where
 fR:rA a.2
 ok:∀v:Dv,v.d.failed=false->(a.2 v).2=0
 dv:∀v:Dv,(a.2 v).1.d.n=v.d.n/\(a.2 v).1.d.cn<=v.d.cn+1
theorem hj(k a:Nat)(f:aO):lJ (k,aN a f):=⟨mN a f,λv h=>by show(aN a f v).2=0;rw[kF h],λv=>ey a f v⟩
theorem sW(k:Nat):lJ (di k):=⟨pA,λv h=>by show(ba v).2=0;rw[kG h],sF k⟩
structure Lv(b:By):Prop where
 fR:bh b
 bq:b.bq=false
 aY:b.aY=none
theorem Lv.op(h:Lv b){a:fL}(f:a.1<b.N)(c:lJ a):(b.op a.1 a.2).2=0/\Lv (b.op a.1 a.2).1:=by
 obtain⟨v,d,g,i⟩:=h.fR a.1 f;have e:b.out=false:=by unfold By.out;rw[h.bq,h.aY];rfl
 have j:v.use=v:=by unfold Dv.use;rw[g];rfl
 refine⟨?_,h.fR.op c.fR,?_,By.cX h.aY⟩
 .unfold By.op;rw[e,d];simp only[j];exact c.ok v i
 .unfold By.op;rw[e,d];exact h.bq
theorem Lv.run:∀(l:List fL) {b:By},Lv b->(∀a,a∈l->a.1<b.N/\lJ a)->(b.run l).2.2=0/\Lv (b.run l).1
 | [],_,h,_=>⟨rfl,h⟩
 |a::d,b,h,c=>by obtain⟨e,f⟩:=h.op (c a SO).1 (c a SO).2;simp only[By.run];rw[ak e];exact Lv.run d f λx g=>by rw[By.fp];exact c x (SY _ g)
theorem Lv.dq{b:By}(h:Lv b){J:Nat}(i:J<b.N){pl:aO}{sf:dj}:∀n,(b.dq J pl sf n).2=0/\Lv (b.dq J pl sf n).1/\(b.dq J pl sf n).1.N=b.N/\∀j v,(b.dq J pl sf n).1.dv j=some v->∃c,b.dv j=some c/\v.d.n=c.d.n/\v.d.cn<=c.d.cn+n
 |0=>⟨rfl,h,rfl,λj v d=>⟨v,d,rfl,QP _⟩⟩
 |n+1=>by
  obtain⟨m,o,k,l⟩:=Lv.dq h i n;obtain⟨p,q⟩:=o.op (a:=(J,aN (pl n) (sf n))) (by rw[k];exact i) (hj _ _ _);unfold By.dq;rw[ak m];refine⟨p,q,(By.fp ..).trans k,λj v d=>?_⟩;by_cases e:j=J
  .subst e;obtain⟨r,s,t,w⟩:=By.iA (ey _ _) d;obtain⟨c,f,g,u⟩:=l _ r s;exact⟨c,f,t.trans g,aa⟩
  .rw [By.dN _ e]at d;obtain⟨c,f,g,u⟩:=l j v d;exact⟨c,f,g,aa⟩
theorem Lv.ck(h:Lv b){J:Nat}(k:J<b.N):(b.ck J f).2=0/\Lv (b.ck J f).1/\(b.ck J f).1.N=b.N/\∀j v,(b.ck J f).1.dv j=some v->∃g,b.dv j=some g/\v.d.n=g.d.n/\v.d.cn<=g.d.cn+2:=by
 obtain⟨c,n⟩:=h.op (a:=(J,aN 1 f)) k (hj _ _ _);obtain⟨d,o⟩:=n.op (a:=(J,ba)) (by rw[By.fp];exact k) (sW J);have e:b.ck J f=(b.op J (aN 1 f)).1.op J ba:=ak c;have p:((b.op J (aN 1 f)).1.op J ba).1=(b.run [(J,aN 1 f),di J]).1:=by have c:(b.op J (aN 1 f)).2=0:=c;have d:((b.op J (aN 1 f)).1.op J ba).2=0:=d;simp only[By.run,c,di,d,if_true]
 rw[e];refine⟨d,o,(By.fp ..).trans (By.fp ..),λj v m=>?_⟩;rw[p]at m;exact By.gw (l:= [(J,aN 1 f),di J]) (λa i w=>by
  rcases UR.1 i with rfl|i
  .exact (hj _ _ _).dv w
  .rw [TC.1 i];exact(sW J).dv w) m
def rC(m n:Nat):List fL:=(UD n).map λr=>(m,aN (1+r) λ_=>0)
def eV(g:au)(n:Nat):List fL:=(UD n).flatMap λm=>rC m g.R
def jU(g:au):List Nat:=g.M::UD g.M
def qw(g:au)(b:By):By:=(b.run (eV g g.M)).1
def jV(g:au)(N:Nat)(b:By):By:=(((qw g b).dq g.M (λp=>2+p) (λ_ _=>0) N).1.ck g.M (aW 1 1 0)).1
def sX(g:au)(N:Nat)(u:Su)(b:By):By:=((jV g N b).run ((jU g).map (dw g u)++(jU g).map di)).1
theorem lK{a:fL}(h:a∈eV g n):a.1<n/\∃r,r<g.R/\a=(a.1,aN (1+r) λ_=>0):=by obtain⟨m,b,h⟩:=WS.1 h;obtain⟨r,c,rfl⟩:=SA.1 h;exact⟨UJ.1 b,r,UJ.1 c,rfl⟩
theorem rD(g:au)(n:Nat):eV g (n+1)=eV g n++rC n g.R:=by unfold eV;rw[UW,VI];simp
theorem Ed(m n:Nat):rC m (n+1)=rC m n++ [(m,aN (1+n) λ_=>0)]:=by unfold rC;rw[UW,SR];rfl
theorem lL(g:au):∀n,(eV g n).length=n*g.R
 |0=>by simp[eV]
 |n+1=>by rw[rD,RE,lL g n,YI];simp[rC]
theorem yX(h:k∈jU g):k<g.M+1:=by
 rcases UR.1 h with e|e
 .omega
 .have:=UJ.1 e;omega
section
def Su.born(N:Nat)(lz:Bool):Su:=⟨1,1,1,0,N,lz,false,λ_=>1,0⟩
theorem Su.sY{g:au}(a:g.ok){N:Nat}(h:5<=N/\N<=2048)(lz:Bool):(Su.born N lz).ok g:=by have:=a.s1;exact⟨a,by show 1<_;decide,⟨QP _,QP _,by show 1<=_;decide⟩,QX _,h,λ_ _=>.inl rfl,λ_ _ _ _ h=>absurd (show(1:Nat)=3 from h) ai,⟨by show 0<g.s;omega,λh=>absurd rfl h⟩⟩
def Ro.born(lz:Bool):Ro:=⟨lz,λ_=>none,[],false⟩
def qf(g:au)(N:Nat)(lz:Bool)(b:By):Rs:=⟨b,Wl.fresh N 1,(Ro.born lz).marks g (Su.born N lz) g.M⟩
section
variable {g:au} {N:Nat} {lz:Bool}
theorem Ee(b:By)(m:Nat):(qf g N lz b).ro.fr m=none:=by show(if m<g.M then dL g (Su.born N lz) m else none)=none;split<;>rfl
theorem Ef(b:By)(m r:Nat):(qf g N lz b).ro.down m r=false:=by unfold Ro.down;rw[Ee]
def rE:Nat->Nat->Nat->Nat:=λ_ _ _=>0
theorem Iz(p:Nat->Bool):∀n,xs p (λ_=>0) n=0
 |0=>rfl
 |n+1=>by unfold xs;rw[Iz p n];simp
theorem el.PZ{f:Ro}{b:Nat->Nat->Prop}{j a:Nat}{d:Dk}(h:el g f (λ_ _=>True) b rE (λ_=>True) j d):el g f (λ_ _=>True) b rE (λ_=>True) j (d.wr a λ_=>0):=by
 refine⟨λe=>⟨λr i k c=>?_,λr i k c=>absurd trivial c⟩,λ_=>trivial⟩;rw[Dk.eD];split
 .exact λ_ _=>rfl
 .exact (h.1 e).view r i k c
theorem Gt.runs{V:bW}{s:Rs}(h:Gt g none V s)(l:List fL)(c:∀a,a∈l->a.1<g.M+1/\eT (el g s.ro (λ_ _=>True) s.ro.eU V λ_=>True) (el g s.ro (λ_ _=>True) s.ro.eU V λ_=>True) a):(s.b.run l).2.2=0/\Gt g none V {s with b:=(s.b.run l).1}:=by
 have d:=Lit.run (aw:=none) l (λ_=>el g s.ro (λ_ _=>True) s.ro.eU V λ_=>True) s.b ⟨h.bq,h.gd.dev⟩ λi a e=>by rw[h.gd.N];exact c a (RF e)
 rcases d with⟨f,h1⟩|⟨-,h1,-⟩|⟨-,h1,-⟩
 .exact ⟨f,h.gd.set h1.dev (By.fU _ _),h1.bq,By.ec h.aY _⟩
 .cases h1
 .exact absurd h.aY h1
structure qx(g:au)(N:Nat)(b:By):Prop where
 bN:b.N=g.M+1
 dv:∀k,k<g.M+1->b.dv k=some ⟨Dk.fresh (if k=g.M then 2+N else 1+g.R),false,0⟩
 bq:b.bq=false
 aY:b.aY=none
theorem qx.lv{b:By}(h:qx g N b):Lv b:=⟨λk a=>⟨_,h.dv k (by rw[h.bN]at a;exact a),rfl,rfl⟩,h.bq,h.aY⟩
theorem qx.gt{b:By}(t:g.ok)(h:qx g N b)(lz:Bool):Gt g none rE (qf g N lz b):=by
 refine⟨⟨λk d=>?_,h.bN,λp o=>(by cases o),λm r e=>?_,λm e=>(by cases e),?_⟩,h.bq,h.aY⟩
 .have c:k<b.N:=d;rw[h.bN]at c;have f:(qf g N lz b).b.dv k=_:=h.dv k c;refine⟨λe=>(by rw[f]at e;cases e),λv j=>?_⟩;rw[f]at j;obtain rfl:=RT j;refine⟨⟨λa k _=>by show 0<256;decide,λi q=>absurd q (SD i)⟩,λ_=>⟨rfl,rfl⟩,λ_=>⟨λe=>⟨λr l s n=>λk _=>rfl,λr l s n=>absurd trivial n⟩,λ_=>trivial⟩⟩
 .rw [Ef]at e;cases e
 .exact ⟨λm r k _ _ _=>(by show 0<256;decide),λr k l d=>Iz _ _⟩
theorem vu{u:Su}{a:fL}(h:a∈(jU g).map (dw g u)++(jU g).map di):∃k,k<g.M+1/\(a=dw g u k\/a=di k):=by
 rcases TV.1 h with h|h
 .obtain ⟨k,b,rfl⟩:=SA.1 h;exact⟨k,yX b,.inl rfl⟩
 .obtain ⟨k,b,rfl⟩:=SA.1 h;exact⟨k,yX b,.inr rfl⟩
theorem pF{b:By}(n:g.ok)(h:qx g N b)(S:N<=2048)(lz:Bool):Gt g none rE (qf g N lz (sX g N (Su.born N lz) b))/\Lv (sX g N (Su.born N lz) b)
  /\∀j v,(sX g N (Su.born N lz) b).dv j=some v->∃i,b.dv j=some i/\v.d.n=i.d.n/\v.d.cn<=i.d.cn+100000:=by
 have l:∀a,a∈eV g g.M->a.1<g.M+1/\lJ a/\eT (el g (qf g N lz b).ro (λ_ _=>True) (qf g N lz b).ro.eU rE λ_=>True) (el g (qf g N lz b).ro (λ_ _=>True) (qf g N lz b).ro.eU rE λ_=>True) a:=λa c=>by obtain⟨o,r,T,u⟩:=lK c;rw[u];exact⟨by show a.1<_;omega,hj _ _ _,dO (λ_ _=>by show 0<256;decide) (λd e=>e.PZ) λ_ _ _ e=>e⟩
 obtain⟨-,w⟩:=(h.gt n lz).runs (eV g g.M) λa c=>⟨(l a c).1,(l a c).2.2⟩;obtain⟨-,x⟩:=h.lv.run (eV g g.M) λa c=>⟨by rw[h.bN];exact(l a c).1,(l a c).2.1⟩;have q:(b.run (eV g g.M)).1.N=g.M+1:=(By.fU _ _).trans h.bN;obtain⟨-,y⟩:=w.dq (pl:=λp=>2+p) (sf:=λ_ _=>0) N λ_ _ _ _=>(by show 0<256;decide);obtain⟨-,z,t,d2⟩:=x.dq (J:=g.M) (by rw[q];omega) (pl:=λp=>2+p) (sf:=λ_ _=>0) N;obtain⟨-,A⟩:=(y (Wl.fresh N 1)).ck (f:=aW 1 1 0) (hI _ _ _);obtain⟨-,B,C,d3⟩:=z.ck (J:=g.M) (by rw[t,q];omega) (f:=aW 1 1 0);have m:∀a,a∈(jU g).map (dw g (Su.born N lz))++(jU g).map di->a.1<g.M+1/\lJ a/\eT (el g (qf g N lz b).ro (λ_ _=>True) (qf g N lz b).ro.eU rE λ_=>True) (el g (qf g N lz b).ro (λ_ _=>True) (qf g N lz b).ro.eU rE λ_=>True) a:=λa c=>by
  obtain⟨k,o,rfl|rfl⟩:=vu c
  .exact ⟨o,hj _ _ _,dO (λj _=>nZ _ _ j) (λd s=>s.L_ _) λ_ _ _ e=>e⟩
  .exact ⟨o,sW _,e' (λd s=>s.fl) λ_ _ _ e=>e⟩
 obtain⟨-,D⟩:=(A (Wl.fresh N 1)).runs _ λa c=>⟨(m a c).1,(m a c).2.2⟩;obtain⟨-,E⟩:=B.run _ λa c=>⟨by rw[C,t,q];exact(m a c).1,(m a c).2.1⟩;refine⟨D,E,λj v F=>?_⟩;obtain⟨G,K,U,c3⟩:=By.gw (λa c=>(m a c).2.1.dv) F;obtain⟨L,O,V,W⟩:=d3 j G K;obtain⟨X,P,Z,H⟩:=d2 j L O;obtain⟨i,Q,M,R⟩:=By.gw (λa c=>(l a c).2.1.dv) P;have I:((jU g).map (dw g (Su.born N lz))++(jU g).map di).length<=34:=by have:=n.m16;simp[jU];omega
 have Y:=lL g g.M;have e3:g.M*g.R<=16*4096:=TJ n.m16 (au.g_ n);exact⟨i,Q,aa,aa⟩
theorem vv[Lo]{w:QL}{Z:bg}{b:By}(f:g.ok)(h:qx g N b)(j:5<=N/\N<=2048)(k:Z.N=N/\Z.lz=lz)(o:cY w Z g (qf g N lz (sX g N (Su.born N lz) b)) (Su.born N lz) false):
  Inv w Z g none rE 100000000000 (qf g N lz (sX g N (Su.born N lz) b)) (Su.born N lz):=by
 obtain⟨l,q,n⟩:=pF f h j.2 lz;refine⟨o,l,Su.sY f j lz,λm=>?_,λm _ e=>absurd rfl e,λ_=>q.fR,⟨f,l.gd.N,λm v t i=>?_,λv i=>?_,rfl,⟨(by show 1+100000000000<=4611686018427387904;decide),QP _,(by show 1+100000000000<=4611686018427387904;decide)⟩,QX _,λp r=>(by cases r),List.nodup_nil⟩,(by show 1+100000000000<=4611686018427387904;decide),⟨rfl,rfl,rfl⟩,k.1.symm,k.2.symm⟩
 .rw [Ee];split<;>rfl
 .obtain ⟨s,c,d,a⟩:=n m v i;rw[h.dv m J]at c;obtain rfl:=RT c;rw[al J]at d a;exact⟨by rw[d];exact QP _,by have:(Dk.fresh (1+g.R)).cn=0:=rfl;show v.d.cn+100000000000<_;have a:v.d.cn<=(Dk.fresh (1+g.R)).cn+100000:=a;omega⟩
 .obtain ⟨s,c,d,a⟩:=n g.M v i;rw[h.dv g.M J]at c;obtain rfl:=RT c;rw[ak rfl]at d a;exact⟨by rw[d];exact QP _,by have:(Dk.fresh (2+N)).cn=0:=rfl;show v.d.cn+100000000000<_;have a:v.d.cn<=(Dk.fresh (2+N)).cn+100000:=a;omega⟩
end
end
section
abbrev GY(Z:bg)(g:au)(u:Su)(a:Nat)(c d:QN):Array QN:= #[H Z.B,bj u.id,bj u.ev,bj u.sf,Y u.rl,Y g.M,Y g.c,Y g.s,Y u.N,.bool u.lz,.bool u.lost,a_ Z.sb g.M a,Y u.cur,c,d,.bool false,aG 0,.bool true,.bool false]
theorem JY{w:M}{b n a:Nat}{f:aO}(c:n<=a)(h:aZ w b (ao (br n λm=>.int .u8 (f m:Nat)) 122)):kh w (a_ b n a) n f:=
 ⟨b,0,a,_,_,rfl,c,h,λk d=>by rw[RQ,cf _ _ _ d]⟩
theorem Eg[Lo](Z:bg)(g:au)(u:Su)(a:Nat)(t x:QN)(b:By)(k:Nat)(w:QL)(f:g.M<=a)(p:aZ w Z.A (ao (GY Z g u a t x) 120))(q:aZ w Z.sb (ao (br g.M λm=>.int .u8 (u.st m:Nat)) 122))(y:aB w Z.B b)(z:(u.at k).ok g)(A:k<b.N)(B:∀v,b.dv k=some v->0<v.d.n/\v.d.cn<1000000000000):
  aD 55 #[aq Z.A,ae k] w (zM Z.B b k (aN 0 (fQ g (u.at k))) w):=by
 have C:=JY f q;obtain⟨U,f0,V⟩:=cr p;obtain⟨o,d⟩:=ah (w.alloc (ao (dr g (u.at k) (a_ Z.sb g.M a)) 117));have c:ar w o:=by rw[<-d];exact aI aj _
 have h:aZ o w.heap.size (ao (dr g (u.at k) (a_ Z.sb g.M a)) 117):=by rw[<-d];exact QM _ _
 obtain⟨D,i⟩:=ah w.heap.size;rw[i]at h;have j:=ad (kE g (u.at k) (a_ Z.sb g.M a) o (C.below c) z);have r:RH (∀(v:QN) W,ar o W->cN W v 128 (fQ g (u.at k))->aD 52 #[aq Z.B,ae k,ae 0,v] W (zM Z.B b k (aN 0 (fQ g (u.at k))) w)):=λv W l E=>(fo Z.B k 0 v (fQ g (u.at k)) b W ((y.below c).below l) A E B).mono λe X ⟨F,G,K⟩=>⟨F,G,((Fr.af c).then l).tr K⟩;have L:=aA c ((c.block _ (Z_ p)).trans p);obtain⟨d1,d2,d3⟩:=cr h;obtain⟨H,M,O⟩:=cr L.2;go_enter func55,ntmps55;go_wp2_with fail
 try simp only[d,i]
 go_wp2_with(first|(go_at_call 88;refine j.mono ?_;rintro e R ⟨I,Y,rfl,P,n⟩;obtain⟨J,p2,p3⟩:=kp n Z.A O;have s:=aA (yN P) n)|(go_at_call 52;refine(r _ _ s.2 s.1).mono ?_;rintro e w4 ⟨rfl,Q,S⟩;have T:=aA Q S));go_ret;exact⟨rfl,T⟩
def xC(g:au)(u:Su):List fL:=(jU g).map (dw g u)++(jU g).map di
theorem lM(g:au):(jU g).length=g.M+1:=by simp[jU]
theorem vw{g:au}{j:Nat}(h:j<g.M+1):(jU g)[j]?=some (if j=0 then g.M else j-1):=by
 unfold jU
 match j,h with
 |0,_=>rfl
 |j+1,h=>simp[SP (show j<g.M by omega)]
def en(g:au)(j:Nat):Nat:=if j=0 then g.M else j-1
theorem oc{g:au}{j:Nat}(a:g.ok)(h:j<g.M+1):en g j<g.M+1:=by unfold en;have:=a.m3;split<;>omega
theorem sZ{g:au}{u:Su}{i j:Nat}(a:j<g.M+1)(c:i<2):(xC g u)[i*(g.M+1)+j]?=some (if i=0 then dw g u (en g j)else di (en g j)):=by
 unfold xC
 match i,c with
 |0,_=>rw[WI,RQ,RN (by rw[RL,lM];exact a),RU,vw a];rfl
 |1,_=>rw[Nat.one_mul,RK (by rw[RL,lM];omega),RL,lM,VG,RU,vw a];rfl
theorem od(g:au)(u:Su):(xC g u).length=2*(g.M+1):=by unfold xC;rw[RE,RL,RL,lM];omega
section
variable {g:au} {N:Nat} {lz:Bool} {b:By}
theorem qx.Mc(h:qx g N b):∀a,a∈eV g g.M->a.1<b.N/\lJ a:=λa c=>by obtain⟨e,r,f,d⟩:=lK c;rw[d,h.bN];exact⟨by show a.1<_;omega,hj _ _ _⟩
theorem qx.zr(j:g.ok)(h:qx g N b){m r:Nat}(u:m<g.M)(w:r<g.R):((b.run (eV g m++rC m r)).1.op m (aN (1+r) λ_=>0)).2=0/\((b.run (eV g m++rC m r)).1.op m (aN (1+r) λ_=>0)).1=(b.run (eV g m++rC m (r+1))).1/\m<(b.run (eV g m++rC m r)).1.N/\∀v,(b.run (eV g m++rC m r)).1.dv m=some v->1+r<v.d.n/\v.d.cn<1000000000000:=by
 have c:∀a,a∈eV g m++rC m r->a.1<b.N/\lJ a:=λa d=>by
  rw[h.bN];rcases TV.1 d with d|d
  .obtain ⟨i,n,e,f⟩:=lK d;rw[f];exact⟨by show a.1<_;omega,hj _ _ _⟩
  .obtain ⟨n,e,rfl⟩:=SA.1 d;exact⟨by show m<_;omega,hj _ _ _⟩
 obtain⟨o,p⟩:=h.lv.run _ c;have k:(b.run (eV g m++rC m r)).1.N=b.N:=By.fU _ _;obtain⟨q,x⟩:=p.op (a:=(m,aN (1+r) λ_=>0)) (by show m<_;rw[k,h.bN];omega) (hj _ _ _);refine⟨q,?_,by rw[k,h.bN];omega,λv s=>?_⟩
 .rw [Ed,<-TK];exact(By.ji (a:=(m,aN (1+r) λ_=>0)) o).1.symm
 .obtain ⟨y,i,e,f⟩:=By.gw (λa d=>(c a d).2.dv) s;rw[h.dv m J]at i;obtain rfl:=RT i;rw[al J]at e f;have e:v.d.n=1+g.R:=e;have f:v.d.cn<=0+_:=f;have l:(eV g m++rC m r).length<=100000:=by
   rw[RE,lL];have z:(rC m r).length=r:=by simp[rC]
   have t:=au.g_ j;have A:=j.m16;have B:m*g.R<=16*4096:=TJ J t;omega
  exact⟨by rw[e];omega,J⟩
theorem qx.fmt(o:g.ok)(h:qx g N b)(F:N<=2048):(qw g b).N=g.M+1/\Lv (qw g b)/\(∀v,(qw g b).dv g.M=some v->2+N<=v.d.n/\v.d.cn+10000<1000000000000)/\(∀k,k<=N->((qw g b).dq g.M (λp=>2+p) (λ_ _=>0) k).2=0)/\(((qw g b).dq g.M (λp=>2+p) (λ_ _=>0) N).1.ck g.M (aW 1 1 0)).2=0
  /\(jV g N b).N=g.M+1/\Lv (jV g N b)/\∀j v,j<g.M+1->(jV g N b).dv j=some v->0<v.d.n/\v.d.cn<=90000:=by
 obtain⟨-,q⟩:=h.lv.run _ h.Mc;have d:(qw g b).N=g.M+1:=(By.fU _ _).trans h.bN;have G:(eV g g.M).length<=65536:=by rw[lL];exact TJ o.m16 (au.g_ o)
 have d1:∀j v,(qw g b).dv j=some v->j<g.M+1->v.d.n=(if j=g.M then 2+N else 1+g.R)/\v.d.cn<=65536:=λj v c i=>by obtain⟨K,e,r,s⟩:=By.gw (λa w=>(h.Mc a w).2.dv) c;rw[h.dv j i]at e;obtain rfl:=RT e;have s:v.d.cn<=0+_:=s;exact⟨r,aa⟩
 have t:=λn=>q.dq (J:=g.M) (by rw[show(b.run (eV g g.M)).1.N=_ from d];omega) (pl:=λp=>2+p) (sf:=λ_ _=>0) n;obtain⟨-,x,u,d2⟩:=t N;obtain⟨y,z,A,d3⟩:=x.ck (J:=g.M) (by rw[u,show(b.run (eV g g.M)).1.N=_ from d];omega) (f:=aW 1 1 0);refine⟨d,q,λv c=>?_,λk _=>(t k).1,y,by show(jV g N b).N=_;exact A.trans (u.trans d),z,λj v i c=>?_⟩
 .obtain ⟨e,r⟩:=d1 _ v c aa;rw[ak rfl]at e;omega
 .obtain ⟨B,C,L,O⟩:=d3 j v c;obtain⟨l,D,P,Q⟩:=d2 j B C;have m:(qw g b).dv j=some l:=D;obtain⟨E,S⟩:=d1 j l m i;have:0<l.d.n:=by rw[E];split<;>omega
  exact⟨aa,aa⟩
theorem qx.step(o:g.ok)(h:qx g N b)(s:5<=N/\N<=2048){i j:Nat}(t:i<2)(p:j<g.M+1):
  (((jV g N b).run ((xC g (Su.born N lz)).take (i*(g.M+1)+j))).1.op (en g j) (if i=0 then dw g (Su.born N lz) (en g j)else di (en g j)).2).2=0/\
  (((jV g N b).run ((xC g (Su.born N lz)).take (i*(g.M+1)+j))).1.op (en g j) (if i=0 then dw g (Su.born N lz) (en g j)else di (en g j)).2).1=((jV g N b).run ((xC g (Su.born N lz)).take (i*(g.M+1)+(j+1)))).1/\
  en g j<((jV g N b).run ((xC g (Su.born N lz)).take (i*(g.M+1)+j))).1.N/\
  ∀v,((jV g N b).run ((xC g (Su.born N lz)).take (i*(g.M+1)+j))).1.dv (en g j)=some v->0<v.d.n/\v.d.cn<1000000000000:=by
 obtain⟨-,-,-,-,-,m,w,d2⟩:=h.fmt o s.2;have c:∀a,a∈xC g (Su.born N lz)->a.1<(jV g N b).N/\lJ a:=λa e=>by
  obtain⟨k,n,rfl|rfl⟩:=vu e
  .exact ⟨by rw[m];exact n,hj _ _ _⟩
  .exact ⟨by rw[m];exact n,sW _⟩
 obtain⟨n,x⟩:=w.run ((xC g (Su.born N lz)).take (i*(g.M+1)+j)) λa e=>c a (List.mem_of_mem_take e);have q:=By.fU (jV g N b) ((xC g (Su.born N lz)).take (i*(g.M+1)+j));have f:=oc o p;have d:=sZ (u:=Su.born N lz) p t;obtain⟨a,e⟩:=ah (if i=0 then dw g (Su.born N lz) (en g j)else di (en g j));have l:a.1=en g j:=by rw[<-e];split<;>rfl
 rw[e]at d|-;obtain⟨r,B⟩:=x.op (a:=a) (by rw[q,m,l];exact f) (c a (RF d)).2;rw[l]at r;refine⟨r,?_,by rw[q,m];exact f,λv y=>?_⟩
 .rw [<-UZ,UQ,d];have:=(By.ji (a:=a) n).1.symm;rw[l]at this;exact this
 .obtain ⟨z,A,C,D⟩:=By.gw (λa e=>(c a (List.mem_of_mem_take e)).2.dv) y;obtain⟨E,F⟩:=d2 _ z f A;have G:((xC g (Su.born N lz)).take (i*(g.M+1)+j)).length<=34:=by rw[VN,od];have:=o.m16;omega
  exact⟨J,J⟩
end
end
def GZ(b:Int):Option QN:=if b=12 then some (.agg #[.func (.func 41) #[] #[],.bool true])else if b=11 then some (.agg #[.func (.func 40) #[] #[],.bool false])else if b=10 then some (.agg #[.func (.func 39) #[] #[],.bool false])else if b=9 then some (.agg #[.func (.func 38) #[] #[],.bool false])else if b=8 then some (.agg #[.func (.func 37) #[] #[],.bool false])else if b=7 then some (.agg #[.func (.func 36) #[] #[],.bool false])else if b=6 then some (.agg #[.func (.func 35) #[] #[],.bool true])else if b=5 then some (.agg #[.func (.func 34) #[] #[],.bool true])else if b=4 then some (.agg #[.func (.func 33) #[] #[],.bool false])else if b=3 then some (.agg #[.func (.func 32) #[] #[],.bool true])else if b=2 then some (.agg #[.func (.func 31) #[] #[],.bool true])else if b=1 then some (.agg #[.func (.func 30) #[] #[],.bool true])else none
theorem G_(w:QL):aD 20 #[] w λe q=>aK e (.map (some w.heap.size))/\UM q w.heap.size GZ/\ar w q:=by
 obtain⟨w1,S,r,_,_,s⟩:=bc (UM.made w) 68 5 66 WE UL 1 (.agg #[.func (.func 30) #[] #[],.bool true]);obtain⟨w2,T,t,_,_,u⟩:=bc r 68 5 66 WE UL 2 (.agg #[.func (.func 31) #[] #[],.bool true]);obtain⟨w3,U,u3,_,_,v⟩:=bc t 68 5 66 WE UL 3 (.agg #[.func (.func 32) #[] #[],.bool true]);obtain⟨w4,V,x,_,_,y⟩:=bc u3 68 5 66 WE UL 4 (.agg #[.func (.func 33) #[] #[],.bool false]);obtain⟨w5,W,z,_,_,A⟩:=bc x 68 5 66 WE UL 5 (.agg #[.func (.func 34) #[] #[],.bool true]);obtain⟨w6,X,B,_,_,C⟩:=bc z 68 5 66 WE UL 6 (.agg #[.func (.func 35) #[] #[],.bool true]);obtain⟨w7,Z,D,_,_,E⟩:=bc B 68 5 66 WE UL 7 (.agg #[.func (.func 36) #[] #[],.bool false]);obtain⟨w8,H,F,_,_,G⟩:=bc D 68 5 66 WE UL 8 (.agg #[.func (.func 37) #[] #[],.bool false]);obtain⟨w9,N,K,_,_,L⟩:=bc F 68 5 66 WE UL 9 (.agg #[.func (.func 38) #[] #[],.bool false]);obtain⟨M,m,d,_,_,f⟩:=bc K 68 5 66 WE UL 10 (.agg #[.func (.func 39) #[] #[],.bool false]);obtain⟨R,n,g,_,_,h⟩:=bc d 68 5 66 WE UL 11 (.agg #[.func (.func 40) #[] #[],.bool false]);obtain⟨I,p,i,_,_,j⟩:=bc g 68 5 66 WE UL 12 (.agg #[.func (.func 41) #[] #[],.bool true]);have O:ar w (w.alloc (.map #[] 0)):=aI aj _;have c:∀{a b:QL} {o:Obj},ar w a->b=a.putObj w.heap.size o->ar w b:=λ{a b o} P Y=>by rw[Y];exact P.grown (grownBy_putObj' _ _ _) P.size (λk e=>by cases e;exact QP _)
 have Q:=aA i (c (c (c (c (c (c (c (c (c (c (c (c O s) u) v) y) A) C) E) G) L) f) h) j);have J:=λw=>eN 68 w;obtain⟨a0,l⟩:=ah w.heap.size;rw[l]at Q S T U V W X Z H N m n p|-;clear r t u3 x z B D F K d g i s u v y A C E G L f h j O c;go_enter func20,ntmps20;go_wp2
 try simp only[l]
 go_ret;exact⟨rfl,Q⟩
abbrev cQ(a:Nat)(b:QN)(n:Int):QN:=.agg #[aG a,b,Y n]
theorem ik(a:Nat)(w:M):aD 21 #[aG a] w λe b=>aK e (cQ a aU 0)/\ar w b:=by
 obtain⟨g,c,d,f⟩:=nH w (N #[aG 0,aU,Y 0] 46);clear c;go_enter func21,ntmps21;go_wp2_with fail
 try simp only[HB.out.1]
 go_wp2;refine RB (v:=cQ a aU 0) (by simp[RV,results21,go_sem]) rfl ⟨rfl,aI aj _⟩
def cw(w:QL)(G:Nat)(Z:bg)(g:au):Prop:=w.heap[G]?=some (N #[H Z.B,H Z.A,Y g.R,Y g.M,Y g.c,Y g.s] 73)
abbrev fh(a:Nat)(b n c:Int)(pv d:QN):QN:=.agg #[bs a,Y b,Y n,Y c,pv,d]
theorem Eh[Lo](c G:Nat)(Z:bg)(g:au)(b:By)(w:M)(d:aZ w c (N #[H G] 40))(f:cw w G Z g)(a:aB w Z.B b):aD 42 #[H c] w λe h=>∃n:Int,aK e (Y n)/\ar w h:=by obtain⟨k,l,c3⟩:=cr d;obtain⟨d1,d2,d3⟩:=cr f;have i:=I (uj Z.B b w a);go_enter func42,ntmps42;go_wp2_with(go_at_call 43;refine i.mono ?_;rintro e m ⟨o,p,q,rfl,a⟩;have j:=I a);go_ret;exact⟨_,rfl,aI j _⟩
def TM:List Nat:=73::ed
structure Pm[Lo](w:M)(G fn:Nat)(act:QN)(Z0:bg)(g:au)(Q:Nat->QN->M->Prop):Prop where
 enters:∀args w,(UY fn args).run prog w= .ok (.enter fn args) w
 hn:cw w G Z0 g
 cg:∃b,aB w Z0.B b
 call:∀W,ar w W->aD fn #[H G,act] W fun e w'=>∃er a n c,aK e (cQ er (.slice a n c) 0)/\(∃Z,cw w' G Z g/\∃b,aB w' Z.B b)/\Fr TM aF W w'/\Q er (.slice a n c) w'
 below:∀er v W W',Q er v W->ar W W'->Q er v W'
 cell:∀er v W p o cs x,Q er v W->W.heap[p]? =some (N cs 46)->w.heap.size<=p->Q er v (W.setCell (R p o) x)
abbrev z46:Obj:= N #[aG 0,aU,Y 0] 46
theorem vx[Lo](w0 w:QL)(G d0 d4 b4 V a6:Nat)(a7 n a8:Int)(pv a9:QN)(Z0:bg)(g:au)(Q:Nat->QN->QL->Prop)(H:Pm w0 G d0 (fh a6 a7 n a8 pv a9) Z0 g Q)(b5:ar w0 w)(hF:aZ w d4 (ao #[.func (.func 42) #[] #[aq V]] 55))(d5:aZ w b4 (ao #[.func (.func d0) #[] #[]] 64))(d6:aZ w V (ao #[aq G] 40)):
  aD 44 #[fh a6 a7 n a8 pv a9,aq d4,aq b4,aq V] w λe d7=>∃s a n c b6,aK e (cQ s (.slice a n c) b6)/\Q s (.slice a n c) d7/\∀(k:Nat) (o:Obj),w.heap[k]?=some o->TM.contains (ty o)=false->d7.heap[k]?=some o:=by
 have e7:=H.enters;have d8:∀y w,(UY 42 y).run prog w=.ok (.enter 42 y) w:=RP func42 aE rfl;obtain⟨e0,b7⟩:=ah ((w.alloc (ao #[bs a6,ae a7,ae n,ae a8,pv,a9] 50)).alloc z46);obtain⟨b1,b3,d⟩:=kJ w (ao #[bs a6,ae a7,ae n,ae a8,pv,a9] 50) z46;rw[b7]at b1 b3 d;obtain⟨bA,l⟩:=ah w.heap.size;obtain⟨m,B⟩:=ah (w.heap.size+1);rw[l]at b1;rw[B]at b3;have b8:=(d.block _ (Z_ hF)).trans hF;have W:=(d.block _ (Z_ d5)).trans d5;have C:=(d.block _ (Z_ d6)).trans d6;obtain⟨y1,y2,y3⟩:=cr hF;obtain⟨d1,d2,d3⟩:=cr W;obtain⟨r1,r2,r3⟩:=cr C;obtain⟨a1,a2,a3⟩:=cr b1;obtain⟨e1,e2,e3⟩:=cr b3;obtain⟨b0,b9⟩:=H.cg;have D:=b5.trans (d.mono b5.size);have c3:=ad (Eh V G Z0 g b0 e0 C ((D.block _ (Z_ H.hn)).trans H.hn) (b9.below D));have u:=eM b8 W C b1 b3 D;have b:=aS b7 l B b5;have E:=ad H;have c4:=ad d;clear b7 l B;go_enter func44,ntmps44;go_wp2_with fail;rw[b.1,b.2.2.1,b.2.1];go_wp2_with(first
  |(go_at_call 42;refine c3.mono ?_;rintro e w1 ⟨z,rfl,f⟩
    have p:=ad f;obtain⟨p1,p2,p3⟩:=kp f b4 d3;obtain⟨p4,p5,p6⟩:=kp f V r3;obtain⟨p7,p8,p9⟩:=kp f bA a3;have e4:=ad (E.call w1 (u.2.2.2.2.2.trans (f.mono u.2.2.2.2.2.size)));clear f)
  |(refine e4.mono ?_;rintro e t ⟨s,a,F,c,rfl,⟨Z,K,b2,X⟩,i,N⟩
    have M:=i.hp ((p.block _ (Z_ u.1)).trans u.1) rfl;have L:=i.hp ((p.block _ (Z_ u.2.2.1)).trans u.2.2.1) rfl;have O:=i.hp ((p.block _ (Z_ u.2.2.2.2.1)).trans u.2.2.2.2.1) rfl;have R:=i.size;have c5:RH (∀(k:Nat) (o:Obj),aZ w1 k o->TM.contains (ty o)=false->aZ t k o):=λk o h c6=>i.hp h c6;have I:¬m=t.heap.size:=XQ (Z_ O);have e5:¬t.heap.size=m:=Ne.symm I;have q:ar t (t.alloc (ao #[aG s,.slice a F c,ae 0] 46)):=aI aj _;have Y:=QM t (ao #[aG s,.slice a F c,ae 0] 46);have J:=ad (Eh V G Z g b2 _ ((q.block _ (Z_ L)).trans L) ((q.block _ (Z_ K)).trans K) (X.below q));obtain⟨q1,q2,q3⟩:=cr M;have j:=bX N q Y O R;clear K X i N M L O R q Y)
  |(go_at_call 42;refine J.mono ?_;rintro e w4 ⟨A,rfl,x⟩
    have P:=(x.block _ (Z_ j.2.2.1)).trans j.2.2.1;have S:=(x.block _ (Z_ ((j.2.1.block _ (Z_ j.2.2.2.1)).trans j.2.2.2.1))).trans ((j.2.1.block _ (Z_ j.2.2.2.1)).trans j.2.2.2.1);obtain⟨t1,t2,t3⟩:=cr P;obtain⟨u1,u2,u3⟩:=cr S;have H4:=aM x P S;clear x P S))
 go_wp2;have T:w0.heap.size<=m:=by have h1:=b.2.2.1;have h2:=b.2.2.2.size;omega
 have c7:w0.heap.size<=t.heap.size:=by have h1:=u.2.2.2.2.2.size;have h2:=p.size;have h3:=j.2.2.2.2;omega
 have x2:=(RW w4 (ag t.heap.size 2) m (ae (XE (A-z))) I).trans H4.2.2;have x3:=heap_setCell_same _ m 0 _ 46 (aG s) x2;have x4:=heap_setCell_same _ m 1 _ 46 (.slice a F c) x3;have x5:=heap_setCell_same _ m 2 _ 46 (ae (XE (A-z))) x4;have q4:=E.below _ _ _ _ (E.below _ _ _ _ j.1 j.2.1) H4.1;have q5:=E.cell _ _ _ _ 2 _ (ae (XE (A-z))) q4 H4.2.1 c7;have q6:=E.cell _ _ _ _ 0 _ (aG s) q5 x2 T;have q7:=E.cell _ _ _ _ 1 _ (.slice a F c) q6 x3 T;have q8:=E.cell _ _ _ _ 2 _ (ae (XE (A-z))) q7 x4 T;have c0:=(cr x5).1 0;have c1:=(cr x5).1 1;have c2:=(cr x5).1 2;refine RB (v:=cQ s (.slice a F c) (XE (A-z))) (by simp[RV,results44,go_sem,c0,c1,c2]) rfl ⟨s,a,F,c,XE (A-z),rfl,q8,λk o d9 c6=>?_⟩;have c8:=Z_ d9;have e6:w.heap.size=bA:=b.2.1;have r:k≠m:=by have h1:=b.2.2.1;omega
 have a0:=(c4.block k c8).trans d9;have U:=c5.out k o ((p.block k (Z_ a0)).trans a0) c6;have a4:k≠t.heap.size:=XQ (Z_ U);have a5:=(j.2.1.block k (Z_ U)).trans U;have c9:=(H4.1.block k (Z_ a5)).trans a5;exact(RW _ (ag m 2) k (ae (XE (A-z))) r).trans ((RW _ (ag m 1) k (.slice a F c) r).trans ((RW _ (ag m 0) k (aG s) r).trans ((RW _ (ag t.heap.size 2) k (ae (XE (A-z))) a4).trans c9)))
theorem xD(G c:Nat)(w:M):aD 22 #[H G,.func (.func c) #[] #[]] w λe d=>∃i j h,aK e (.func (.func 44) #[] #[H i,H j,H h])/\d.heap[i]?=some (N #[.func (.func 42) #[] #[H h]] 55)/\d.heap[j]?=some (N #[.func (.func c) #[] #[]] 64)/\d.heap[h]?=some (N #[H G] 40)/\ar w d:=by
 obtain⟨f,g⟩:=ah ((w.alloc (N #[H G] 40)).alloc (N #[.func (.func c) #[] #[]] 64));obtain⟨k,l,b⟩:=kJ w (N #[H G] 40) (N #[.func (.func c) #[] #[]] 64);rw[g]at k l b;have m:∀o,ar f (f.alloc o):=λo=>aI aj o;have a:=aS k l b m;have n:=I g;have p:RH (w.heap.size+1+1=f.heap.size):=by show w.heap.size+1+1=f.heap.size;rw[<-g];simp
 clear g m;go_enter func22,ntmps22;go_wp2;rw[n.out];go_ret;rw[p.out];exact⟨_,_,_,rfl,QM _ _,((a.2.2.2 _).block _ (Z_ a.2.1)).trans a.2.1,((a.2.2.2 _).block _ (Z_ a.1)).trans a.1,a.2.2.1.trans ((a.2.2.2 _).mono a.2.2.1.size)⟩
theorem IA[Lo](w:QL)(G U:Nat)(a0:Bool)(i:Nat)(z n A:Int)(pv B:QN)(Z0:bg)(g:au)(Q:Nat->QN->QL->Prop)(H:Pm w G U (fh i z n A pv B) Z0 g Q)(b3:GZ (i:Nat)=some (.agg #[.func (.func U) #[] #[],.bool a0])):
  aD 11 #[aq G,fh i z n A pv B] w λe d=>∃C a m c f,aK e (cQ C (.slice a m c) f)/\Q C (.slice a m c) d:=by
 have a9:∀x w,(UY 44 x).run prog w=.ok (.enter 44 x) w:=RP func44 aE rfl;obtain⟨D,a4⟩:=ah ((w.alloc (ao #[bs i,ae z,ae n,ae A,pv,B] 50)).alloc z46);obtain⟨Y,a5,E⟩:=kJ w (ao #[bs i,ae z,ae n,ae A,pv,B] 50) z46;rw[a4]at Y a5 E;obtain⟨bA,j⟩:=ah w.heap.size;obtain⟨F,K⟩:=ah (w.heap.size+1);rw[j]at Y;rw[K]at a5;obtain⟨a1,a2,a3⟩:=cr Y;have X:=(E.block _ (Z_ H.hn)).trans H.hn;obtain⟨r1,r2,r3⟩:=cr X;have a6:=ad (λW=>(G_ W).mono λe d h=>And.intro h (show∀k o,W.heap[k]?=some o->d.heap[k]?=some o fromλk o q=>(h.2.2.block k (Z_ q)).trans q));have V:=aS Y a5 E X;have s:=aM a4 j K;have J:=ad H;have b0:=ad b3;clear a4 j K;go_enter func11,ntmps11;go_wp2_with fail;rw[s.1,s.2.2,s.2.1];go_cut [5,6] (λs5 s6 b1=>∃T:Nat,s5= aq T/\s6=.bool true/\RH (D.heap.size<=T/\b1.heap[T]?=some (ao #[.func (.func U) #[] #[],.bool a0] 66)/\ar D b1))
 case first=>
  go_region_held3(λd=>d.cell? ⟨bA,0,none⟩=some (bs i)) ((simp[*,go_sem];done)) (first
   |(go_at_call 20;refine(a6 _).mono ?_;rintro e w1 ⟨⟨rfl,L,r⟩,q⟩
     (try(have h7:=q _ _ (QM D (ao #[.nilFunc,.bool false] 66));obtain⟨c7,f7,z7⟩:=cr h7;have H7:=ad h7))
     obtain⟨p1,p2,p3⟩:=kp r bA dI;have O:RH (ar D w1):=via bC r;have Z:=dH L 68 5 66 (.agg #[.nilFunc,.bool false]) true WE UL (zeroValue66 _) (i:Nat);rw[b0.out]at Z;have N:=dH (L.out ((Out.af (S:=λ_=>False) (aI aj (ao #[.nilFunc,.bool false] 66)))) id) 68 5 66 (.agg #[.nilFunc,.bool false]) true WE UL (zeroValue66 _) (i:Nat);rw[b0.out]at N;simp at Z N;clear L r q))
  all_goals go_wp2
  all_goals go_meet
  all_goals first
   |exact⟨_,rfl,rfl,QP _,heap_setCell_same _ _ 1 _ 66 _ (heap_setCell_same w1 D.heap.size 0 _ 66 _ H7),(O.setCell (p:=⟨D.heap.size,0,none⟩) (QP _) _).setCell (p:=⟨D.heap.size,1,none⟩) (QP _) _⟩
   |exact⟨_,rfl,rfl,O.size,QM _ _,aI O _⟩
 case rest=>
  rename_i b4;refine b4 _ _ ?_;obtain⟨T,rfl,rfl,y⟩:=hcut;have M:=y.2.2;obtain⟨t1,t2,t3⟩:=cr y.2.1;obtain⟨p1,p2,p3⟩:=kp M bA a3;obtain⟨p4,p5,p6⟩:=kp M G r3;have a7:=ad (λW=>xD G U W);have l:=aM y.2.1 y.2.2 (V.2.2.1.trans (y.2.2.mono V.2.2.1.size));have b:RH (wc.heap[bA]?=some (ao #[bs i,ae z,ae n,ae A,pv,B] 50)/\wc.heap[F]?=some z46):=⟨(y.2.2.block _ (Z_ V.1)).trans V.1,(y.2.2.block _ (Z_ V.2.1)).trans V.2.1⟩;have P:w.heap.size<=F:=by have:=s.2.2;omega
  have b5:¬T=F:=fI y.2.1 b.2 ai;have b6:¬bA=F:=fI b.1 b.2 ai;cases a0
  all_goals
   go_wp2;go_region_held3(λd=>d.cell? ⟨T,0,none⟩=some (.func (.func U) #[] #[])/\d.cell? ⟨bA,0,none⟩=some (bs i)/\d.cell? ⟨bA,1,none⟩=some (ae z)/\d.cell? ⟨bA,2,none⟩=some (ae n)/\d.cell? ⟨bA,3,none⟩=some (ae A)/\d.cell? ⟨bA,4,none⟩=some pv/\d.cell? ⟨bA,5,none⟩=some B) ((simp[*,go_sem];done)) (first
    |(go_at_call 22;refine(a7 _).mono ?_;rintro e w3 ⟨b7,b8,b9,rfl,h1,h2,h3,R⟩
      have r:ar wc w3:=by first|exact R|exact via (ct aj _) R
      obtain⟨v1,v2,v3⟩:=kp r T t3;obtain⟨v4,v5,v6⟩:=kp r bA (Z_ b.1);have H3:=aS r h1 h2 h3;have I:=ad (λW (t:ar w3 W)=>vx w W G U b7 b8 b9 i z n A pv B Z0 g Q J ((l.2.2.trans (r.mono l.2.2.size)).trans (t.mono (QO l.2.2.size r.size))) ((t.block _ (Z_ h1)).trans h1) ((t.block _ (Z_ h2)).trans h2) ((t.block _ (Z_ h3)).trans h3));clear h1 h2 h3 r)
    |(go_at_call 44;refine(I _ (by first|exact aj|exact ct aj _)).mono ?_;rintro e w4 ⟨C,a,m,c,f,rfl,b2,q⟩
      have u:=H3.1;have g1:=q _ _ ((u.block _ (Z_ l.1)).trans l.1) rfl;have g2:=q _ _ ((u.block _ (Z_ b.1)).trans b.1) rfl;have g3:=q _ _ ((u.block _ (Z_ b.2)).trans b.2) rfl;obtain⟨x1,x2,x3⟩:=cr g1;obtain⟨x4,x5,x6⟩:=cr g2;obtain⟨x7,x8,x9⟩:=cr g3;have a8:=aA b2 g3;clear b2 q g1 g2 g3 u))
   go_wp2;have y1:=heap_setCell_same w4 F 0 _ 46 (aG C) a8.2;have y2:=heap_setCell_same _ F 1 _ 46 (.slice a m c) y1;have y3:=heap_setCell_same _ F 2 _ 46 (ae f) y2;have q5:=J.cell _ _ _ _ 0 _ (aG C) a8.1 a8.2 P;have q6:=J.cell _ _ _ _ 1 _ (.slice a m c) q5 y1 P;have q7:=J.cell _ _ _ _ 2 _ (ae f) q6 y2 P;have c0:=(cr y3).1 0;have c1:=(cr y3).1 1;have c2:=(cr y3).1 2;refine RB (v:=cQ C (.slice a m c) f) (by simp[RV,results11,go_sem,c0,c1,c2]) rfl ⟨C,a,m,c,f,rfl,q7⟩
theorem rF(R B:Nat)(b:Option TF)(g:au)(c:Nat)(a:Ro)(w:M)(h:ff w R B b g c a):aD 106 #[H R] w λe d=>aK e (.bool a.sl)/\w=d:=by obtain⟨i,l,j,-⟩:=h.aL;obtain⟨k,f,z⟩:=cr j;go_enter func106,ntmps106;go_wp2;go_ret;exact⟨rfl,rfl⟩
theorem vy[Lo](Z:bg)(g:au)(j:Option Nat)(V:bW)(C:Nat)(o:100000<=C):rB Z g j V C (λs=>s.x.sure=true) (λ_=>True) 112 cz where
 enters:=RP func112 aE rfl
 call:=λe W s b h hF=>ri Z.R Z.B Z.W Z.r g Z.fb s e W h hF J
 step:=λe s l k p b m hF f c=>by
  obtain⟨d,i,a⟩:=m.finish f c;refine⟨d,(pj hF J c).less J,?_,?_,by rw[i],λn=>n.finish c,?_⟩
  .rcases a with a|a<;>rw[a.2]
  .rcases a with a|a<;>rw[a.2]
  .rcases a with a|a
   .exact .inl ⟨a.1,trivial⟩
   .exact .inr ⟨a.1,by rw[i];exact f⟩
 cS:=λs l d _ _ h=>by rw[d];exact h
structure XH(g:au)(aw:Option Nat)(Bt:bp)(X0 X1:Rs->Su->Prop):Prop where
 go:∀s u s' k,X0 s u->gD g Bt s s' k 0->X1 s' u
 gV:∀s u s' k er,X0 s u->tC g aw s.ro s' k er->(bh s.b->bh s'.b)->s'.b.N=g.M+1->k<g.M->∀s u,X1 s u
 none:∀s u,Bt.n=0->X0 s u->X1 s u
def NW[Lo](Z:bg)(g:au)(a:Option Nat)(V:bW)(C b:Nat)(c d:Rs->Su->Prop)(w:M)(q:Bool)(W:M):Prop:=
 ∃s u,Inv W Z g a V (if q=true then C-70000 else C) s u/\s.x.N=b/\(q=true->ny a s/\∀s u,d s u)/\(q=false->c s u)/\eB Z w W
def Md[Lo](Z:bg)(g:au)(a:Option Nat)(V:bW)(C:Nat)(b:Rs->Su->Prop)(w W:M):Prop:=∃s u,Inv W Z g a V (C-250000) s u/\b s u/\eB Z w W
theorem G'[Lo](Z:bg)(g:au)(L:Option Nat)(V:bW)(C Q:Nat)(m:bp)(pv:QN)(w:QL)(a7:1000000<=C)(S:m.ok g)(a3:m.n<=256)(fX:1<=m.n)(T O:Rs->Su->Prop)(H:XH g L m T O)(q:Bool)(W:QL)(a4:NW Z g L V C Q T O w q W)(U:gQ W pv m)(j:2*m.dJ g+1<=Q):
  aD 105 #[aq Z.R,pv] W λe p=>∃k n,aK e (gV k n)/\Fr ed aF W p/\((n=0/\Md Z g L (m.dR g V) C O w p)\/
   (q=false/\nN n/\k<g.M/\(∀s u,O s u)/\∃X P,(∃a2,p.heap[Z.R]?=some (ao a2 164)/\a2[8]?=some (.bool X))/\(∃u,p.heap[Z.A]?=some (ao (BB Z g u P false) 120))/\(∃u,lY p Z g u false)/\
    (∀c,ar p c->aD 106 #[aq Z.R] c λe v=>aK e (.bool X)/\c=v)/\
    ∀c,ar p c->aD 111 #[aq Z.A,gV k n] c λe v=>aK e (.tuple #[])/\Fr ed aF p v/\if X=true then∃s u,Inv v Z g L (m.dR g V) (C-61000) s u/\s.x.sure=true/\eB Z w v else NW Z g L V C Q T O w true v)):=by
 obtain⟨s,u,f,N,M,R,hF⟩:=a4;subst N;obtain⟨x,r⟩:=ah (if q=true then C-70000 else C);rw[r]at f;have a5:C-70000<=x/\x<=C:=by rw[<-r];split<;>omega
 obtain⟨r1,r2,-,-⟩:=f.ay.rs.ring;refine(DF Z.R Z.B Z.W Z.r g Z.fb s x m pv W f.ay.rs f.fit aa S a3 fX j U (f.gt.NM f.fit aa S fX r2 j)).mono ?_;rintro e p ⟨K,k,n,y,rfl,I,z⟩;have o:=f.gt.write f.fit aa S fX r2 j y;refine⟨k,n,rfl,f.ay.wide (Fr.ra z),?_⟩;rcases o.res with⟨rfl,A⟩|⟨i,l,A⟩|⟨i,l,Y,A⟩
 .exact .inl ⟨rfl,K,u,(f.rows I z A o.fit o.fr o.lz o.N (λt=>t.write y) aa).less aa,(by cases q with|true=>exact(M rfl).2 _ _|false=>exact H.go s u K k (R rfl) y),hF.trans (Fr.ra z)⟩
 .have a:=f.rows I z A o.fit o.fr o.lz o.N (λt=>t.write y) aa;obtain⟨B,D⟩:=f.hit i;have E:q=false:=by
   cases q with
   |false=>rfl
   |true=>exact((M rfl).1.no i).elim
  subst E;have F:x=C:=by rw[<-r];rfl
  subst F;obtain⟨J,a6,a0,-⟩:=a.ay.rs.row.aL;obtain⟨P,-,a1⟩:=a.ay.arr.aL;have h:=H.gV s u K k n (R rfl) i (λt=>t.write y) A.gd.N B;have G:=i.slot;subst G;refine .inr ⟨rfl,i.gone,B,h,false,P,⟨_,a0,by rw[<-l];rfl⟩,⟨u,a1⟩,⟨u,a.ay.arr⟩,λc b=>by rw[<-l];exact rF _ _ _ _ _ _ c (a.ay.rs.row.below b),λc b=>?_⟩;refine(ig Z g k V (x-60000) n K u c (a.below b) B D aa i.gone).mono ?_;rintro e v ⟨rfl,s2,u2,d⟩;refine⟨rfl,a.ay.wide ((eB.af b).trans d.bU.a),?_⟩;rw[al ai];exact⟨s2,u2,d.inv.less (by rw[ak rfl];omega),by rw[d.x];exact o.N,λ_=>⟨d.inv.quiet d.down,h⟩,λe=>(by cases e),(hF.trans (Fr.ra z)).trans ((eB.af b).trans d.bU.a)⟩
 .have a:=f.rows I z A o.fit o.fr o.lz o.N (λt=>t.write y) aa;obtain⟨B,D⟩:=f.hit i;have E:q=false:=by
   cases q with
   |false=>rfl
   |true=>exact((M rfl).1.no i).elim
  subst E;have F:x=C:=by rw[<-r];rfl
  subst F;obtain⟨J,a6,a0,-⟩:=a.ay.rs.row.aL;obtain⟨P,-,a1⟩:=a.ay.arr.aL;have h:=H.gV s u K k n (R rfl) i (λt=>t.write y) A.gd.N B;have G:=i.slot;subst G;refine .inr ⟨rfl,i.gone,B,h,true,P,⟨_,a0,by rw[<-l];rfl⟩,⟨u,a1⟩,⟨u,a.ay.arr⟩,λc b=>by rw[<-l];exact rF _ _ _ _ _ _ c (a.ay.rs.row.below b),λc b=>?_⟩;refine(ig Z g k (m.dR g V) (x-60000) n K u c (a.below b) B D aa i.gone).mono ?_;rintro e v ⟨rfl,s2,u2,d⟩;refine⟨rfl,a.ay.wide ((eB.af b).trans d.bU.a),?_⟩;rw[ak rfl];exact⟨s2,u2,d.inv.less aa,by rw[d.x];exact Y,(hF.trans (Fr.ra z)).trans ((eB.af b).trans d.bU.a)⟩
open Classical in
noncomputable def NX (S:Bool->M->Prop)(w:M):Nat:=if S true w then 0 else 1
theorem vz(h:K.n=0)(V:bW):K.dR g V=V:=by
 funext m r;have a:K.gd g m r=false:=by unfold bp.gd;rw[h];rfl
 have b:aX g K K.n r=false:=by rw[h];rfl
 exact sO a λ_=>b
def NY[Lo](Z:bg)(g:au)(c:Option Nat)(V:bW)(C d:Nat)(f:Rs->Su->Prop)(a:bp)(w:M)(e:SG)(b:M):Prop:=
 if 2*a.dJ g+1>d then aK e (aG 122)/\ar w b else aK e (aG 0)/\Md Z g c (a.dR g V) C f w b
structure Fw[Lo](Z:bg)(g:au)(aw:Option Nat)(V:bW)(C N0:Nat)(X0 X1:Rs->Su->Prop)(Bt:bp)(pv:QN)(D:Nat)(w:M)(q:Bool)(W:M):Prop where
 st:NW Z g aw V C N0 X0 X1 w q W
 pv:gQ W pv Bt
 cell:∃v,W.heap[D]? =some (N #[.int .u16 v] 35)
theorem Ei[Lo](Z:bg)(g:au)(m:Option Nat)(V:bW)(C:Nat)(s:Rs)(u:Su)(a:bp)(pv:QN)(w:QL)(h:Inv w Z g m V C s u)(i0:1000000<=C)(h3:a.ok g)(h4:a.n<=256)(S:gQ w pv a)(x r:Rs->Su->Prop)(H:XH g m a x r)(i2:x s u):
  aD 60 #[aq Z.A,pv] w (NY Z g m V C u.N r a w):=by
 have i3:∀(h5:Fn) (first U:Array QN) (w:QL),(Instr.makeFunc h5 first U).run prog w=.ok (.func h5 first U) w:=λ_ _ _ _=>rfl;obtain⟨h6,D,i4,d6,B,a9⟩:=dQ w (ao #[aG 0] 35);have X:=h.below B;obtain⟨U,-,b0⟩:=X.ay.arr.aL;obtain⟨k0,f0,z0⟩:=cr b0;obtain⟨d1,d2,d3⟩:=cr a9;have i5:=h.eK.ring.2;have N:=ad (gF Z g u false h6 X.ay.arr);have y:=ad (yy g a pv h6 h.eK.bZ h3 h4 (S.below B));have d4:=aA H i2;have t:=bX X a9 B h.low (S.below B);have b1:=aM i0 h3 h4;have n:=aA i4 d6;have d7:=bp.yK h.eK.bZ a;obtain⟨i6,i9,A,-⟩:=id S;have d8:=ad A;rw[A];obtain⟨h7,b2⟩:=ah (a.dJ g);have d9:=ad b2;rw[b2]at y d7;rw[A]at y;obtain⟨p2,b3⟩:=ah (2*h7);obtain⟨a8,b4⟩:=ah (p2+1);have e1:QQ.wrap (2*(h7:Int))=((p2:Nat):Int):=by rw[<-b3];go_arith
 have e2:QQ.wrap ((p2:Int)+1)=((a8:Nat):Int):=by rw[<-b4];go_arith
 have b5:RH (2*a.dJ g+1=a8):=by rw[<-b4,<-b3,<-d9.out];rfl
 unfold NY;rw[b5.out];have j0:RH (g.M<=16):=t.1.eK.bZ.m16;by_cases j3:a8<=u.N
 .simp only[al (show¬a8>u.N by omega)];by_cases b6:a.n=0
  .rw [b6]at y|-;have b7:=ad b6;obtain⟨b,i,j⟩:=g
   go_enter_defers func60,ntmps60
   go_wp2_with fail
   try rw[n.1,n.2]
   go_wp2_with(first|(go_at_call 99;refine N.mono ?_;rintro e w1 ⟨rfl,rfl⟩)|(go_at_call 104;refine y.mono ?_;rintro e E ⟨rfl,c⟩;obtain⟨p1,p2,p3⟩:=kp c D d3;obtain⟨p4,p5,p6⟩:=kp c Z.A z0;have d:=aA c p6));refine XI (f:=98) (args:= #[aq D]) aJ (by simp[go_sem]) ?_;refine(cM (ag D 0) _).mono ?_;rintro e e6 M ⟨rfl,rfl,rfl⟩;have l:w.heap.size<=D:=RY n.2;have R:=QO t.2.2.2.1 l;have o:=(d.1.block D d3).trans t.2.1;have F:=heap_setCell_same E D 0 _ _ (aG 0) o;have I:=heap_setCell_same _ D 0 _ _ (aG 0) F;have Y:RH (Md Z ⟨b,i,j⟩ m (bp.dR ⟨b,i,j⟩ a V) C r w ((E.setCell (ag D 0) (aG 0)).setCell (ag D 0) (aG 0))):=by rw[vz b7.out];exact⟨s,u,(((t.1.below d.1).cell o R rfl _).cell F R rfl _).less aa,d4.1.none s u b7 d4.2,(((eB.af t.2.2.1).then d.1).new l _).new l _⟩
   have O:=(cr I).1 0;simp[Leaves,settle,RV,results60,go_sem,O];exact Y
  .have fX:¬(a.n:Int)=0:=aa;have l:w.heap.size<=D:=RY n.2;have v:=aA l (QO t.2.2.2.1 l);have e7:RH (∀q W,Fw Z g m V C u.N x r a pv D w q W->aD 105 #[aq Z.R,.slice i6 a.n i9] W _):=λq W h8=>by rw[<-d8.out];exact G' Z g m V C u.N a pv w b1.1 b1.2.1 b1.2.2 aa x r d4.1 q W h8.st h8.pv (by rw[b5.out];exact j3)
   have l0:=ad (show∃j4,j4=g from⟨g,rfl⟩);obtain⟨b,i,j⟩:=g
   go_enter_defers func60,ntmps60
   go_wp2_with fail
   try rw[n.1,n.2]
   go_wp2_with(first|(go_at_call 99;refine N.mono ?_;rintro e w1 ⟨rfl,rfl⟩)|(go_at_call 104;refine y.mono ?_;rintro e E ⟨rfl,c⟩;obtain⟨p1,p2,p3⟩:=kp c D d3;obtain⟨p4,p5,p6⟩:=kp c Z.A z0;have d:=aA c p6));have o:=(d.1.block D d3).trans t.2.1;have e8:RH (∃q,Fw Z ⟨b,i,j⟩ m V C u.N x r a pv D w q (E.setCell (ag D 0) (aG 0))):=⟨false,⟨s,u,(t.1.below d.1).cell o v.2 rfl _,t.1.same.1.symm,λe=>(by cases e),λ_=>d4.2,((eB.af t.2.2.1).then d.1).new v.1 _⟩,(t.2.2.2.2.below d.1).fr (T:= [35]) ((Fr.refl [35] aF E).set (p:=ag D 0) o rfl v.2 _) rfl rfl,0,heap_setCell_same E D 0 _ _ (aG 0) o⟩;have e9:decide (u.N<a8)=false:=aQ;have f1:((a.n:Int)==0)=false:=by rw[beq_eq_false_iff_ne];omega
   simp only[e9,f1];go_loopw [6] (λ_ wr=>RH (∃q,Fw Z ⟨b,i,j⟩ m V C u.N x r a pv D w q wr)) (λ_ wr=>NX (Fw Z ⟨b,i,j⟩ m V C u.N x r a pv D w) wr)
   case atStart=>exact e8
   case round=>
    obtain⟨q,b8⟩:∃q,RH (Fw Z ⟨b,i,j⟩ m V C u.N x r a pv D w q wr/\(q=false->¬Fw Z ⟨b,i,j⟩ m V C u.N x r a pv D w true wr)):=by
     by_cases e:Fw Z ⟨b,i,j⟩ m V C u.N x r a pv D w true wr
     .exact ⟨true,e,λh=>by cases h⟩
     .obtain ⟨q,j5⟩:=hrel.out;exact⟨q,j5,λ_=>e⟩
    obtain⟨s1,u1,i1,-⟩:=b8.1.st;obtain⟨h9,-,f2⟩:=i1.ay.arr.aL;obtain⟨k0,f0,z0⟩:=cr f2;have f3:=ad (e7 q wr b8.1);go_wp2_with fail;refine f3.mono ?_;rintro e G ⟨k,d5,rfl,b9,J⟩;obtain⟨v0,f4⟩:=b8.1.cell;have a0:=b9.hp f4 rfl;have K:=ad a0;have j6:=Z_ a0;have f6:=ad b9;rcases J with⟨rfl,j8⟩|⟨rfl,j9,k1,c3,k2,l1,-,⟨u5,a1⟩,⟨u6,f8⟩,f9,g0⟩
    .have k3:=ad j8;obtain⟨O,c1,c2⟩:=cr a0;rw[de];go_wp2;refine XI (f:=98) (args:= #[aq D]) aJ (by simp[go_sem]) ?_;refine(cM (ag D 0) _).mono ?_;rintro e e6 M ⟨rfl,rfl,rfl⟩;have c4:=heap_setCell_same G D 0 _ _ (aG 0) K;have a2:SM (G.setCell (ag D 0) (aG 0)).heap.size (G.setCell (ag D 0) (aG 0)) ((G.setCell (ag D 0) (aG 0)).alloc (ao #[ae 0,aG 0] 172)):=aI aj _;have O:=(cr ((a2.block D (Z_ c4)).trans c4)).1 0;have Y:RH (Md Z ⟨b,i,j⟩ m (bp.dR ⟨b,i,j⟩ a V) C r w ((G.setCell (ag D 0) (aG 0)).alloc (ao #[ae 0,aG 0] 172))):=by obtain⟨s2,u2,j1,k4,j2⟩:=k3.out;exact⟨s2,u2,(j1.cell K v.2 rfl _).below a2,k4,(j2.new v.1 _).then a2⟩
     simp[Leaves,settle,RV,results60,go_sem,O];exact Y
    .have P:d5≠0:=j9.ne;have c5:=ad c3;have l2:¬(d5:Int)=0:=aa;have a3:((k:Int)==(b:Int))=false:=by rw[beq_eq_false_iff_ne];have:k<b:=k1;omega
     obtain⟨c6,T,k6,g1,a4,g2⟩:=dQ G (ao #[ae k,aG d5] 172);have g3:=(a4.block _ (Z_ a1)).trans a1;obtain⟨k0,f0,z0⟩:=cr g3;obtain⟨k5,f5,z5⟩:=cr a1;obtain⟨t0,t1,t2⟩:=cr g2;have g4:=ad (f9 c6 a4);have k8:=ad (λW (b0:ar G W)=>eb Z ⟨b,i,j⟩ u6 false W (f8.fr (T:= []) (Fr.af b0) rfl rfl));have c7:RH (∀W,ar G W->aD 111 #[aq Z.A,.agg #[ae k,aG d5]] W _):=λW b0=>by rw[<-be k P];exact g0 W b0
     have L:=ad a4;have Q:=aA k6 g1;rw[be k P];go_wp2_with fail
     try rw[Q.1,Q.2]
     go_wp2_with(go_at_call 106;refine g4.mono ?_;rintro e w6 ⟨rfl,rfl⟩);go_quiet((go_at_call 107;exact Calls.quiet_of_same ((k8 _ (L.trans ((ct aj _).mono L.size))).mono λe l3 h=>⟨h.1,h.2.symm⟩)));have a5:RH (ar G (c6.drewN nq)):=L.trans ((ct aj _).mono L.size);have a3:ar c6 (c6.drewN nq):=ct aj _;obtain⟨e0,g5,g6⟩:=kp a3 T t2;obtain⟨e3,e4,e5⟩:=kp a3 Z.A z0;obtain⟨l4,g7⟩:=ah (c6.drewN nq);rw[g7]at a5 e0 g5 g6 e3 e4 e5|-;cases k2 with
     |true=>
      go_wp2_with(go_at_call 111;refine(c7 _ a5).mono ?_;rintro e w7 ⟨rfl,f7,z⟩;rw[ak rfl]at z;obtain⟨s7,u7,i7,j7,l7⟩:=z;have a6:=f7.hp K rfl;obtain⟨c8,-,a7⟩:=i7.ay.arr.aL;obtain⟨k7,g8,z7⟩:=cr a7;have H7:=aS i7 j7 l7 a6;have c9:RH (1000000<=C):=b1.1;have g9:=ad (pz Z ⟨b,i,j⟩ i7.eK.bZ.m16 112 _ _ _ _ _ (yU Z ⟨b,i,j⟩ m _ (C-61000) _ _ 112 _ (vy Z ⟨b,i,j⟩ m _ (C-61000) (by have:=c9.out;omega)) (by have:=c9.out;omega) w7) false w7 ⟨s7,u7,i7,j7,λe=>(by cases e),eB.af aj⟩));go_wp2_with(go_at_call 101;refine g9.mono ?_;rintro e w8 ⟨rfl,s8,u8,i8,-,l8⟩;have d0:=(H7.1.ay.wide l8).hp H7.2.2.2 rfl;obtain⟨x1,x2,x3⟩:=cr d0;have H8:=aM i8 l8 d0);refine XI (f:=98) (args:= #[aq D]) aJ (by simp[go_sem]) ?_;refine(cM (ag D 0) _).mono ?_;rintro e e6 M ⟨rfl,rfl,rfl⟩;have O:=(cr (heap_setCell_same w8 D 0 _ _ (aG 0) H8.2.2)).1 0;have k9:=b1.1;have Y:RH (Md Z ⟨b,i,j⟩ m (bp.dR ⟨b,i,j⟩ a V) C r w (w8.setCell (ag D 0) (aG 0))):=
       ⟨s8,u8,(H8.1.cell H8.2.2 v.2 rfl _).less aa,c5 _ _,(H7.2.2.1.trans H8.2.1).new v.1 _⟩
      simp[Leaves,settle,RV,results60,go_sem,O];exact Y
     |false=>
      go_wp2_with fail;refine(c7 _ a5).mono ?_;rintro e w7 ⟨rfl,f7,z⟩;rw[al Bool.false_ne_true]at z;have a6:=f7.hp K rfl;have h0:=(b8.1.pv.fr f6 rfl rfl).fr f7 rfl rfl;have H7:RH (Fw Z ⟨b,i,j⟩ m V C u.N x r a pv D w true w7):=⟨z,h0,_,a6⟩;obtain⟨s7,u7,i7,-⟩:=z;obtain⟨c8,-,a7⟩:=i7.ay.arr.aL;obtain⟨k7,g8,z7⟩:=cr a7;go_wp2;go_roundw
      case rel=>exact⟨true,H7⟩
      case measure=>have h1:NX (Fw Z ⟨b,i,j⟩ m V C u.N x r a pv D w) w7=0:=ak H7;have h2:NX (Fw Z ⟨b,i,j⟩ m V C u.N x r a pv D w) wr=1:=al (b8.2 trivial);rw[h1,h2];exact Nat.zero_lt_one
 .simp only[ak (show a8>u.N by omega)];obtain⟨b,i,j⟩:=g
  go_enter_defers func60,ntmps60
  go_wp2_with fail
  try rw[n.1,n.2]
  go_wp2_with(first|(go_at_call 99;refine N.mono ?_;rintro e w1 ⟨rfl,rfl⟩)|(go_at_call 104;refine y.mono ?_;rintro e E ⟨rfl,c⟩;obtain⟨p1,p2,p3⟩:=kp c D d3;obtain⟨p4,p5,p6⟩:=kp c Z.A z0;have d:=aA c p6));refine XI (f:=98) (args:= #[aq D]) aJ (by simp[go_sem]) ?_;refine(cM (ag D 0) _).mono ?_;rintro e e6 M ⟨rfl,rfl,rfl⟩;have l:w.heap.size<=D:=RY n.2;have R:=QO t.2.2.2.1 l;have o:=(d.1.block D d3).trans t.2.1;have F:=heap_setCell_same E D 0 _ _ (aG 0) o;have I:=heap_setCell_same _ D 0 _ _ (aG 122) F;have Y:RH (ar w ((E.setCell (ag D 0) (aG 0)).setCell (ag D 0) (aG 122))):=((t.2.2.1.trans (d.1.mono t.2.2.1.size)).setCell (p:=ag D 0) l _).setCell (p:=ag D 0) l _;have O:=(cr I).1 0;simp[Leaves,settle,RV,results60,go_sem,O];exact Y
theorem Fr.tm[Lo](h:Fr ed aF w W):Fr TM aF w W:=h.wide TM rfl
theorem pG(w:M)(b:Nat)(c n d:Int)(pv e:QN):∃a bA f,(w.alloc (N #[bs b,Y c,Y n,Y d,pv,e] 50)).alloc z46=a/\w.heap.size=bA/\w.heap.size+1=f/\a.heap[bA]?=some (N #[bs b,Y c,Y n,Y d,pv,e] 50)/\a.heap[f]?=some z46/\ar w a:=by obtain⟨g,h,i⟩:=kJ w (N #[bs b,Y c,Y n,Y d,pv,e] 50) z46;exact⟨_,_,_,rfl,rfl,rfl,g,h,i⟩
theorem qy[Lo](h:aZ W n (N A 46))(i:A.size=3)(d:w.heap.size<=n)(j:Lo.lo<=w.heap.size)(x y z:QN):
  ((W.setCell (R n 0) x).setCell (R n 1) y|>.setCell (R n 2) z).heap[n]?=some (N #[x,y,z] 46)/\Fr [46] aF W ((W.setCell (R n 0) x).setCell (R n 1) y|>.setCell (R n 2) z)/\(∀{T:List Nat} {S:Nat->Prop},Fr T S w W->Fr T S w ((W.setCell (R n 0) x).setCell (R n 1) y|>.setCell (R n 2) z)):=by
 obtain⟨a,b,c,rfl⟩:∃a b c,A= #[a,b,c]:=by
  match A,i with
  |⟨[a,b,c]⟩,_=>exact⟨a,b,c,rfl⟩
 have e:=QO j d;have f:=heap_setCell_same W n 0 _ 46 x h;have g:=heap_setCell_same _ n 1 _ 46 y f;have k:=heap_setCell_same _ n 2 _ 46 z g;exact⟨k,(((Fr.refl [46] aF W).set (p:=R n 0) h rfl e x).set (p:=R n 1) f rfl e y).set (p:=R n 2) g rfl e z,λl=>((l.new (p:=R n 0) d x).new (p:=R n 1) d y).new (p:=R n 2) d z⟩
theorem Ej[Lo](Z:bg)(g:au)(y:Option Nat)(V:bW)(C G:Nat)(s:Rs)(u:Su)(L k n:Nat)(O:Int)(pv P:QN)(w:QL)(h:Inv w Z g y V C s u)(z:cw w G Z g)(N:1000<=C)(M:k+n<=g.B):
  aD 30 #[aq G,fh L O n k pv P] w λe b=>∃a c,aK e (cQ 0 (.slice a (n*128) c) 0)/\cN b (.slice a (n*128) c) (n*128) (λj=>eL g V (k+j/128) (j%128))/\Fr ed aF w b/\∃s u,Inv b Z g y V (C-1000) s u:=by
 obtain⟨Q,bA,R,S,p,r,A,T,d⟩:=pG w L O n k pv P;have l:=h.below d;have m:=(d.block _ (Z_ z)).trans z;obtain⟨a1,a2,a3⟩:=cr A;obtain⟨r1,r2,r3⟩:=cr m;have B:=ad (λW (D:ar Q W)=>(GW Z g y V C s u k n W (l.below D) N M).mono λe b U=>And.intro U (show Fr ed aF Q b from by obtain⟨_,_,_,_,q,a0,a4,_,_,i,_⟩:=U;exact(Fr.af D).tr ((l.below D).ay.wide i.a)));have o:=bX A T m h.low d;have f:=aM S p r;clear h z S p r A T d l m;go_enter func30,ntmps30;go_wp2_with fail;rw[f.1,f.2.2,f.2.1];go_region_held3(λb=>b.cell? (ag G 1)=some (aq Z.A)/\b.cell? (ag bA 3)=some (ae k)/\b.cell? (ag bA 2)=some (ae n)) ((simp[*,go_sem];done)) (first|(go_at_call 59;refine(B _ (by first|exact aj|exact ct aj _)).mono ?_;rintro e w2 ⟨⟨a,c,rfl,t,q,I,Y,X,j2,f2,-⟩,i⟩;have v1:=(cr (i.hp o.2.2.1 rfl)).1 1;have v2:=(cr (i.hp o.1 rfl)).1 3;have v3:=(cr (i.hp o.1 rfl)).1 2;have E:=i.hp o.2.1 rfl;obtain⟨x1,x2,x3⟩:=cr E;have x:=aS t X i E;clear t X i E));go_wp2;have F:w.heap.size<=R:=by have:=f.2.2;omega
 obtain⟨K,H,J⟩:=qy (w:=w) x.2.2.2 rfl F o.2.2.2.1 (aG 0) (.slice a (n*128) c) (ae 0);have c0:=(cr K).1 0;have c1:=(cr K).1 1;have c2:=(cr K).1 2;refine RB (v:=cQ 0 (.slice a (n*128) c) 0) (by simp[RV,results30,go_sem,c0,c1,c2]) rfl ⟨a,c,rfl,x.1.fr H rfl,J ((Fr.af o.2.2.2.2).tr x.2.2.1),I,Y,(x.2.1.fr H rfl).less (by split<;>omega)⟩
section
theorem JZ(w:QL)(A B C:Obj):(((w.alloc A).alloc B).alloc C).heap[w.heap.size]?=some A/\(((w.alloc A).alloc B).alloc C).heap[w.heap.size+1]?=some B/\(((w.alloc A).alloc B).alloc C).heap[w.heap.size+1+1]?=some C/\ar w (((w.alloc A).alloc B).alloc C):=by obtain⟨a,b,c⟩:=kJ w A B;have d:((w.alloc A).alloc B).heap.size=w.heap.size+1+1:=aJ;refine⟨(YN _ _ J).trans a,(YN _ _ J).trans b,?_,aI c _⟩;rw[<-d];exact QM _ _
def AJ[Lo](Z:bg)(g:au)(m:Nat)(V:bW)(C:Nat)(w:QL)(k:Nat)(W:QL):Prop:=
 eB Z w W/\match k with
  |0=>∃s u,kH W Z g (some m) V C s u
  |1=>∃s u,Inv W Z g (some m) V (C-1000) s u/\u.st m=2/\u_ s.b m
  |_=>∃s u,Inv W Z g (some m) V (C-1000) s u/\u.st m=2/\bh s.b
theorem AJ.below[Lo]{Z:bg}{g:au}{m:Nat}{V:bW}{C:Nat}{w W c:QL}{k:Nat}(h:AJ Z g m V C w k W)(a:ar W c):AJ Z g m V C w k c:=by
 refine⟨h.1.then a,?_⟩
 match k,h.2 with
 |0,⟨s,u,h⟩=>exact⟨s,u,h.below a⟩
 |1,⟨s,u,h,b⟩=>exact⟨s,u,h.below a,b⟩
 |_+2,⟨s,u,h,b⟩=>exact⟨s,u,h.below a,b⟩
section
variable [Lo] (Z:bg) (g:au) (m:Nat) (V:bW) (C G bR bA kd:Nat) (n bk:Int) (pv kv:QN) (w W:QL) (hm:m<g.M) (hC:1000<=C) (hR:W.heap[bR]? =some (ao #[aq G] 40)) (hA:W.heap[bA]? =some (ao #[bs kd,ae m,ae n,ae bk,pv,kv] 50)) (hr:cw W G Z g)
include hm hC hR hA hr
theorem Ha(h:AJ Z g m V C w 0 W):aD 64 #[H bR,H bA] W λe a=>aK e (aG 0)/\AJ Z g m V C w 1 a/\Fr ed aF W a:=by obtain⟨b,s,u,i⟩:=h;obtain⟨y,z,A⟩:=cr hA;obtain⟨B,D,E⟩:=cr hR;obtain⟨F,K,L⟩:=cr hr;have l:=I (λo (c:ar W o)=>(yV m (i.below c) hm hC).mono λe a d=>show aK e (aG 0)/\AJ Z g m V C w 1 a/\Fr ed aF W a from by obtain⟨p,q,r,t,v,x,j⟩:=d;exact⟨p,⟨(b.then c).trans j,q,r,t,v,x⟩,(Fr.af c).tr ((i.below c).ay.wide j)⟩);have f:=aM hA hR hr;go_enter func64,ntmps64;go_wp2;go_region_held3(λa=>a.cell? (R bR 0)=some (H G)/\a.cell? (R G 1)=some (H Z.A)/\a.cell? (R bA 1)=some (Y m)) ((simp[*,go_sem];done)) (first|(go_at_call 63;refine(l _ (by first|exact aj|exact ct aj _)).mono ?_;rintro e O ⟨rfl,d,b⟩;have P:=(cr (b.hp f.2.1 rfl)).1 0;have Q:=(cr (b.hp f.2.2 rfl)).1 1;have S:=(cr (b.hp f.1 rfl)).1 1;have k:=aA d b));go_wp2;go_ret;exact⟨rfl,k.1,k.2⟩
theorem Hb(h:AJ Z g m V C w 1 W):aD 65 #[aq bR,aq bA] W λe d=>aK e (aG 0)/\AJ Z g m V C w 2 d/\Fr ed aF W d:=by
 have _:=hC;obtain⟨f,s,u,a,y,F⟩:=h;obtain⟨Y,J,a3⟩:=cr hA;obtain⟨b1,b2,b3⟩:=cr hR;obtain⟨K,r2,r3⟩:=cr hr;have q:=au.g_ a.eK.bZ;have L:1<=g.R:=by have z:=a.eK.bZ.s1;have O:=a.eK.bZ.c1;exact TJ z O
 have P:=a.gt.gd.N;obtain⟨Q,A⟩:=a.gt.swap (k:=m) (n:=1+g.R) rfl λr=>a.down hm y r;have S:∃v,s.b.dv g.M=some v:=by
  cases i:s.b.dv g.M with
  |none=>exact absurd (a.gt.gd.nw _ ((a.gt.gd.dev g.M aa).1 i)) (UA _)
  |some v=>exact⟨v,rfl⟩
 have j:Fit g (C-1000) {s with b:=s.b.put m ⟨Dk.fresh (1+g.R),false,0⟩}:=by
  refine⟨a.fit.bZ,P,λk v T c=>?_,λv c=>?_,a.fit.bad,a.fit.cA,a.fit.iG,a.fit.wt,a.fit.mB⟩
  .have c:(if k=m then some _ else s.b.dv k)=some v:=c;by_cases e:k=m
   .rw [ak e]at c;cases c;obtain⟨U,X⟩:=S;have z:=(a.fit.gB U X).2;exact⟨QP _,by show 0+(C-1000)<_;omega⟩
   .rw [al e]at c;exact a.fit.mem k v T c
  .have c:(if g.M=m then some _ else s.b.dv g.M)=some v:=c;rw[al aa]at c;exact a.fit.gB v c
 have B:=ad (λD (o:ar W D)=>(Cy Z.B m (1+g.R) s.b D (a.below o).ay.rs.cg aa F aa aa).mono λe d i=>show aK e (aG 0)/\AJ Z g m V C w 2 d/\Fr ed aF W d from by obtain⟨H,N,t⟩:=i;exact⟨H,⟨(f.then o).trans (Fr.ra t.rb),_,u,((a.below o).DM.cg N t Q j).up λ_=>A,y,A⟩,((Fr.af o).tr t).wide ed rfl⟩);have p:=aM hA hR hr;obtain⟨R,l⟩:=ah g.R;rw[l]at K B q;have e1:QQ.wrap (1+(R:Int))=((1+R:Nat):Int):=bf;have x:=ad l;go_enter func65,ntmps65;go_wp2;go_region_held3(λd=>d.cell? (ag bR 0)=some (aq G)/\d.cell? (ag G 0)=some (aq Z.B)/\d.cell? (ag G 2)=some (ae R)/\d.cell? (ag bA 1)=some (ae m)) ((simp[*,go_sem];done)) (first|(go_at_call 66;refine(B _ (by first|exact aj|exact ct aj _)).mono ?_;rintro e w2 ⟨rfl,i,f⟩;have v1:=(cr (f.hp p.2.1 rfl)).1 0;have v2:=(cr (f.hp p.2.2 rfl)).1 0;have I:=(cr (f.hp p.2.2 rfl)).1 2;rw[x.out]at I;have v3:=(cr (f.hp p.1 rfl)).1 1;have E:=aA i f));go_wp2;go_ret;exact⟨rfl,E.1,E.2⟩
end
theorem vB[Lo](Z:bg)(g:au)(m:Nat)(V:bW)(C G:Nat)(s:Rs)(u:Su)(kd:Nat)(n bk:Int)(pv kv:QN)(w:QL)(h:Inv w Z g (some m) V C s u)(hr:cw w G Z g)(hm:m<g.M)(hC:200000<=C):
  aD 34 #[aq G,fh kd m n bk pv kv] w λe p=>aK e (cQ 0 aU 0)/\Fr ed aF w p/\GR Z g m V (C-40000) w p:=by
 have X:∀a w,(UY 64 a).run prog w=.ok (.enter 64 a) w:=RP func64 aE rfl;have H:∀a w,(UY 65 a).run prog w=.ok (.enter 65 a) w:=RP func65 aE rfl;obtain⟨a6,hA⟩:=ah (((w.alloc (ao #[aq G] 40)).alloc (ao #[bs kd,ae m,ae n,ae bk,pv,kv] 50)).alloc z46);obtain⟨z,N,a7,j⟩:=JZ w (ao #[aq G] 40) (ao #[bs kd,ae m,ae n,ae bk,pv,kv] 50) z46;rw[hA]at z N a7 j;obtain⟨bR,F⟩:=ah w.heap.size;obtain⟨bA,q⟩:=ah (w.heap.size+1);obtain⟨U,K⟩:=ah (w.heap.size+1+1);rw[F]at z;rw[q]at N;rw[K]at a7;have L:=(j.block _ (Z_ hr)).trans hr;obtain⟨a1,a2,a3⟩:=cr N;obtain⟨b1,b2,b3⟩:=cr z;obtain⟨r1,r2,r3⟩:=cr L;have h0:RH (AJ Z g m V C w 0 a6):=⟨eB.af j,s,u,(h.below j).DM⟩;have d1:decide ((m:Int)<0)=false:=aJ;have d2:decide ((g.M:Int)<=(m:Nat))=false:=aQ;have d3:¬g.M<=m:=aa;have r:=aS hA F q K;have t:=eM z N a7 L h.low j;have R:=aA hm hC;clear h hr hA F q K z N a7 L j hC;go_enter func34,ntmps34;go_wp2_with fail;rw[r.1,r.2.2.2,r.2.2.1,r.2.1];go_quiet(fail);obtain⟨a8,O⟩:=ah (a6.drewN nq);have I:ar a6 a8:=by rw[<-O];exact ct aj _
 rw[O];obtain⟨A,B⟩:=ah (a8.alloc (ao #[.func (.func 64) #[] #[aq bR,aq bA],.func (.func 65) #[] #[aq bR,aq bA]] 63));have b:ar a6 A:=by rw[<-B];exact aI I _
 have P:A.heap[a8.heap.size]?=some (ao #[.func (.func 64) #[] #[aq bR,aq bA],.func (.func 65) #[] #[aq bR,aq bA]] 63):=by rw[<-B];exact QM _ _
 obtain⟨D2,Q⟩:=ah a8.heap.size;rw[Q]at P;have Y:=aA b P;have J:RH (AJ Z g m V C w 0 A/\Fr ed aF A A):=⟨h0.out.below b,Fr.refl _ _ _⟩;have D:RH (A.heap[bR]?=some (ao #[aq G] 40)/\A.heap[bA]?=some (ao #[bs kd,ae m,ae n,ae bk,pv,kv] 50)/\A.heap[U]?=some z46/\cw A G Z g):=⟨(b.block _ (Z_ t.1)).trans t.1,(b.block _ (Z_ t.2.1)).trans t.2.1,(b.block _ (Z_ t.2.2.1)).trans t.2.2.1,(b.block _ (Z_ t.2.2.2.1)).trans t.2.2.2.1⟩;have a0:=aA B Q;clear O I b P B Q a1 b1 r1;go_wp2;rw[a0.1,a0.2];go_loopw [26] (λi wr=>∃k:Nat,i= ae k/\k<=2/\RH (AJ Z g m V C w k wr/\Fr ed aF A wr)) (λi _=>2-(intOf i).toNat)
 case atStart=>exact⟨0,rfl,aa,J⟩
 case round=>
  clear J;obtain⟨k,rfl,c5,x⟩:=hrel;have c:=x.2.hp D.1 rfl;have d:=x.2.hp D.2.1 rfl;have l:=x.2.hp D.2.2.1 rfl;have f:cw wr G Z g:=x.2.hp D.2.2.2 rfl;obtain⟨x1,x2,x3⟩:=cr (x.2.hp Y.2 rfl);have a4:1000<=C:=by have:=R.2;omega
  by_cases b4:k<2
  .have S:∃a5,wr.cell? ⟨D2,k,none⟩=some (.func (.func a5) #[] #[aq bR,aq bA])/\(∀a w,(UY a5 a).run prog w=.ok (.enter a5 a) w)/\aD a5 #[aq bR,aq bA] wr λe p=>aK e (aG 0)/\AJ Z g m V C w (k+1) p/\Fr ed aF wr p:=by
    rcases(show k=0\/k=1 by omega)with rfl|rfl
    .exact ⟨64,x1 0,X,Ha Z g m V C G bR bA kd n bk pv kv w wr R.1 a4 c d f x.1⟩
    .exact ⟨65,x1 1,H,Hb Z g m V C G bR bA kd n bk pv kv w wr R.1 a4 c d f x.1⟩
   obtain⟨a5,y1,y2,y3⟩:=S;have c6:=ad y3;have c7:(k:Int)<2:=aa;clear y3 x1 c d l f c5;go_wp2_with(refine c6.mono ?_;rintro e w4 ⟨rfl,a9,E⟩;have H4:=aA a9 E;clear a9 E);go_roundw
   case rel=>exact⟨k+1,by go_num,aa,H4.1,x.2.tr H4.2⟩
   case measure=>simp[intOf];omega
  .obtain rfl:k=2:=aa;obtain⟨s2,u2,i2,j2,l2⟩:=x.1.2;have b5:=ad (λW (z:ar wr W)=>(xz Z g m V (C-1000) s2 u2 W (i2.below z) R.1 j2 l2 (by have:=R.2;omega)).mono λe p a9=>show aK e (aG 0)/\Fr ed aF wr p/\GR Z g m V (C-40000) w p from by obtain⟨q1,c8,c9,q2,q3,q4,q5⟩:=a9;exact⟨q1,(Fr.af z).tr ((i2.below z).ay.wide q5),c8,c9,q2.less aa,q3,q4,(x.1.1.then z).trans q5⟩);have d0:=ad ik;have b0:=aS c d l f;obtain⟨c1,c2,c3⟩:=cr c;obtain⟨a1,a2,a3⟩:=cr d;obtain⟨r1,r2,r3⟩:=cr f;have d4:¬G=U:=fI f l ai;have d5:¬bA=U:=fI d l ai;have d6:¬bR=U:=fI c l ai;clear c d l f i2 j2 l2 x1 b4 c5;go_wp2;go_region_held3(λp=>p.cell? ⟨bR,0,none⟩=some (aq G)/\p.cell? ⟨G,1,none⟩=some (aq Z.A)/\p.cell? ⟨bA,1,none⟩=some (ae m)) ((simp[*,go_sem];done)) (first
    |(go_at_call 67;refine(b5 _ (by first|exact aj|exact ct aj _)).mono ?_;rintro e w5 ⟨rfl,E,hR⟩
      obtain⟨v1,v2,v3⟩:=cr (E.hp b0.1 rfl);obtain⟨v4,v5,v6⟩:=cr (E.hp b0.2.1 rfl);have T:=E.hp b0.2.2.1 rfl;obtain⟨v7,v8,v9⟩:=cr T;obtain⟨d7,d8,b6⟩:=cr (E.hp b0.2.2.2 rfl);have H5:=aM E hR T;clear E hR T)
    |(go_at_call 21;refine(d0 0 _).mono ?_;rintro e w6 ⟨rfl,y⟩
      have o:ar w5 w6:=by first|exact y|exact via (ct aj _) y
      obtain⟨u1,u2,u3⟩:=kp o bR v3;obtain⟨u4,u5,u6⟩:=kp o bA v6;obtain⟨u7,u8,u9⟩:=kp o U v9;obtain⟨d9,e0,e1⟩:=kp o G b6;have H6:=ad o;clear o y))
   go_wp2;have b7:w.heap.size<=U:=by have:=r.2.2.2;omega
   have b8:=(H6.block _ (Z_ H5.2.2)).trans H5.2.2;obtain⟨y1,y2,y3⟩:=qy (w:=w) b8 rfl b7 t.2.2.2.2.1 (aG 0) aU (ae 0);have c0:=(cr y1).1 0;have c1:=(cr y1).1 1;have c2:=(cr y1).1 2;have b9:Fr ed aF w w6:=(((Fr.af (t.2.2.2.2.2.trans (Y.1.mono t.2.2.2.2.2.size))).tr x.2).tr H5.1).then H6;obtain⟨s7,c4,i7,j7,l7,f7⟩:=H5.2.1;refine RB (v:=cQ 0 aU 0) (by simp[RV,results34,go_sem,c0,c1,c2]) rfl ⟨rfl,y3 b9,s7,c4,(i7.below H6).fr y2 rfl,j7,l7,y3 (f7.then H6)⟩
end
theorem vC{f:Nat->QN}(h:w.ownsRow m t 1 (a_ k n n) n (bM n f))(l:0<n):w.heap[k]?=some (.cells (br n f) t (0,0)):=by
 rcases h.2 with⟨e,-⟩|⟨b,c,a,e,-,d,-,-,o,g⟩
 .cases e
 .cases e;rw[d];have i:a.toList=bM n f:=by rw[<-g,YR (by rw[Array.length_toList];omega)]
  have j:a=br n f:=by apply Array.ext';rw[i];simp[br,bM]
  rw[j]
def Me(E n:Nat)(v:QN)(w:M)(e:SG)(a:M):Prop:=
 ∃g,aK e (a_ g n n)/\a.heap[g]?=some (.cells (br n λ_=>v) E (0,0))/\w.heap.size<=g/\ar w a
theorem AK(n b:Nat)(c:Int)(w:QL)(U:0<n)(a3:n<=4096)(o:w.cell? (ag b 0)=some (ae c)):
  aD 92 #[a_ b 1 1,ae n] w (Me 3 n (ae c) w):=by
 obtain⟨V,W,x,y,z⟩:=SN wz;have A:∀w,(TL 82 (ae (n:Int)) (ae (n:Int))).run prog w=.ok (a_ w.heap.size n n) (w.alloc (ao (br n λ_=> ae 0) 3)):=λw=>by have:=run_make (P:=prog) w 82 3 V (ae 0) YM W x .i64 .i64 n n aa aa (by rw[z];omega) aa;rw[this,y,UI,iS];simp
 have e2:(n:Int)%18446744073709551616=n:=aa;have e3:¬(9223372036854775807:Int)<n:=aa;have e4:¬(n:Int)<0:=aa;have X:=ad (λw=>mul_one n w aa);have C:=QY w _ o;go_enter func92,ntmps92;go_wp2_with fail;refine(X _).mono ?_;rintro e r ⟨rfl,rfl⟩;have s:=ad (iT (w:=w.alloc (ao (br n λ_=> ae 0) 3)) (B:=w.heap.size) (QM w _) (QP _) (by unfold UT;omega));have G:(w.alloc (ao (br n λ_=> ae 0) 3)).cell? (ag b 0)=some (ae c):=by rw[(aI aj _).cell (p:=ag b 0) C];exact o
 go_wp2_with(refine ef _ rfl (.tmp 31) (.tmp 32) 82 82 rfl 3 w.heap.size w.heap.size n n 0 n n (bM n λ_=> ae 0) s (ag b 0) 1 1 [ae c] YM BW rfl rfl (by show 1=Nat.min 1 n;exact(WV aa).symm) aQ (λj v d=>by cases j with|zero=>simp at d;subst d;rw[iK];exact G|succ j=>simp at d) (by simp[Value.oneCell']) ?_);intro K t a;have L:RH (K.ownsRow w.heap.size 3 1 (a_ w.heap.size n n) n (bM n λk=>if k<1 then ae c else ae 0)/\SM w.heap.size w K):=by refine⟨?_,((Out.af (S:=λk=>k=w.heap.size) (aI (SV w.heap.size w) _)).tr a).below (λk _ e=>aa) (QP _)⟩;rw[ku _ _ _ aa]at t;exact t
 obtain⟨g,D⟩:=ah w.heap.size;have O:=ad D;rw[D]at L|-;clear s G D A;go_wp2;go_loopw [8] (λE wr=>∃m:Nat,1<=m/\m<=n/\E= ae m/\RH (wr.ownsRow g 3 1 (a_ g n n) n (bM n λk=>if k<m then ae c else ae 0)/\SM g w wr)) (λE _=>n-(intOf E).toNat)
 case atStart=>exact⟨1,aa,aa,rfl,L⟩
 case round=>
  obtain⟨m,Z,H,rfl,f⟩:=hrel;by_cases N:m<n
  .obtain ⟨q,h⟩:=ah (Nat.min m (n-m));have M:1<=q:=by subst h;exact Nat.le_min.2 ⟨aa,aa⟩
   have R:q<=m:=by subst h;exact ZS _ _
   have I:q<=n-m:=by subst h;exact Nat.min_le_right _ _
   have Y:=ad h;have J:RH (YQ (bM n λk=>if k<m then ae c else ae 0) m (bM q λ_=> ae c)=bM n λk=>if k<m+q then ae c else ae 0):=hU n m q _ _ aa;have a0:RH (∀r,SM wr.heap.size wr r->∀j u,(bM q λ_=>.int .i64 c)[j]?=some u->r.cell? (((ag g 0):TF).add j)=some u):=λr o j u d=>by
    by_cases F:j<q
    .rw [cc _ _ _ F]at d;rw[iK,RQ];have i:=(bx f.1 (k:=j) (u:= ae c) (by rw[cc _ _ _ aa,ak aa])).1;rw[o.cell (p:=ag g j) (QY wr _ i),i,d]
    .rw [RO (by rw[bF];omega)]at d;cases d
   have a1:QQ.wrap ((m:Int)+q)=((m+q:Nat):Int):=bf;have j1:¬n=m:=aa;have i1:(0:Int)<=m:=aa;have i2:(m:Int)<=n:=aa;clear h;go_wp2
   go_region_law (refine gq _ rfl (.tmp 41) (.tmp 44) 82 82 rfl 3 g g n n m (n-m) (n-m) (bM n λk=>if k<m then ae c else ae 0) (aP (w:=wr) bC f.1) (ag g 0) m n (bM q λ_=> ae c) YM BW (by simp[WH,SC, *]) (by simp[WH,SC, *]) (by rw[bF];exact Y.symm) (by rw[bF];omega) (a0 _ bC) (oA λ_ _=>rfl) ?_;intro Q t a;rw[bF];have s:=ad t;have l:=ad a)
   all_goals(try simp only[QU,QS,QT])
   all_goals go_frame
   all_goals go_roundw
   all_goals(
    have T:RH (Q.ownsRow g 3 1 (a_ g n n) n (bM n λk=>if k<m+q then ae c else ae 0)/\SM g w Q):=by refine⟨by rw[<-J.out];exact s,f.2.trans (((Out.af (S:=λk=>k=g) (aV (SV wr.heap.size wr))).tr l).below (λk _ e=>aa) ?_)⟩;have:=(f.1.lt g rfl).2;omega)
   all_goals first
    |exact⟨m+q,aa,aa,by go_num,T⟩
    |((repeat apply Exists.intro);exact⟨⟨m+q,aa,aa,by go_num,T⟩,rfl⟩)
    |(simp[intOf];omega)
  .obtain rfl:m=n:=aa;go_wp2;go_ret;have i:=f.1;rw[oz (g:=λ_=> ae c) λk a2=>ak a2]at i;exact⟨_,rfl,vC i U,RY O,(O▸f.2:SM w.heap.size w wr)⟩
theorem AL(n b:Nat)(c:Int)(w:QL)(U:0<n)(a3:n<=4096)(o:w.cell? (ag b 0)=some (.int .u8 c)):
  aD 54 #[a_ b 1 1,ae n] w (Me 122 n (.int .u8 c) w):=by
 obtain⟨V,W,x,y,z⟩:=SN oB;have A:∀w,(TL 115 (ae (n:Int)) (ae (n:Int))).run prog w=.ok (a_ w.heap.size n n) (w.alloc (ao (br n λ_=>.int .u8 0) 122)):=λw=>by have:=run_make (P:=prog) w 115 122 V (.int .u8 0) underlying115 W x .i64 .i64 n n aa aa (by rw[z];omega) aa;rw[this,y,UI,iS];simp
 have e2:(n:Int)%18446744073709551616=n:=aa;have e3:¬(9223372036854775807:Int)<n:=aa;have e4:¬(n:Int)<0:=aa;have X:=ad (λw=>mul_one n w aa);have C:=QY w _ o;go_enter func54,ntmps54;go_wp2_with fail;refine(X _).mono ?_;rintro e r ⟨rfl,rfl⟩;have s:=ad (iT (w:=w.alloc (ao (br n λ_=>.int .u8 0) 122)) (B:=w.heap.size) (QM w _) (QP _) (by unfold UT;omega));have G:(w.alloc (ao (br n λ_=>.int .u8 0) 122)).cell? (ag b 0)=some (.int .u8 c):=by rw[(aI aj _).cell (p:=ag b 0) C];exact o
 go_wp2_with(refine ef _ rfl (.tmp 31) (.tmp 32) 115 115 rfl 122 w.heap.size w.heap.size n n 0 n n (bM n λ_=>.int .u8 0) s (ag b 0) 1 1 [.int .u8 c] underlying115 tU rfl rfl (by show 1=Nat.min 1 n;exact(WV aa).symm) aQ (λj v d=>by cases j with|zero=>simp at d;subst d;rw[iK];exact G|succ j=>simp at d) (by simp[Value.oneCell']) ?_);intro K t a;have L:RH (K.ownsRow w.heap.size 122 1 (a_ w.heap.size n n) n (bM n λk=>if k<1 then .int .u8 c else .int .u8 0)/\SM w.heap.size w K):=by refine⟨?_,((Out.af (S:=λk=>k=w.heap.size) (aI (SV w.heap.size w) _)).tr a).below (λk _ e=>aa) (QP _)⟩;rw[ku _ _ _ aa]at t;exact t
 obtain⟨g,D⟩:=ah w.heap.size;have O:=ad D;rw[D]at L|-;clear s G D A;go_wp2;go_loopw [8] (λE wr=>∃m:Nat,1<=m/\m<=n/\E= ae m/\RH (wr.ownsRow g 122 1 (a_ g n n) n (bM n λk=>if k<m then .int .u8 c else .int .u8 0)/\SM g w wr)) (λE _=>n-(intOf E).toNat)
 case atStart=>exact⟨1,aa,aa,rfl,L⟩
 case round=>
  obtain⟨m,Z,H,rfl,f⟩:=hrel;by_cases N:m<n
  .obtain ⟨q,h⟩:=ah (Nat.min m (n-m));have M:1<=q:=by subst h;exact Nat.le_min.2 ⟨aa,aa⟩
   have R:q<=m:=by subst h;exact ZS _ _
   have I:q<=n-m:=by subst h;exact Nat.min_le_right _ _
   have Y:=ad h;have J:RH (YQ (bM n λk=>if k<m then SU .u8 c else .int .u8 0) m (bM q λ_=>.int .u8 c)=bM n λk=>if k<m+q then .int .u8 c else .int .u8 0):=hU n m q _ _ aa;have a0:RH (∀r,SM wr.heap.size wr r->∀j u,(bM q λ_=>SU .u8 c)[j]?=some u->r.cell? (((ag g 0):TF).add j)=some u):=λr o j u d=>by
    by_cases F:j<q
    .rw [cc _ _ _ F]at d;rw[iK,RQ];have i:=(bx f.1 (k:=j) (u:=.int .u8 c) (by rw[cc _ _ _ aa,ak aa])).1;rw[o.cell (p:=ag g j) (QY wr _ i),i,d]
    .rw [RO (by rw[bF];omega)]at d;cases d
   have a1:QQ.wrap ((m:Int)+q)=((m+q:Nat):Int):=bf;have j1:¬n=m:=aa;have i1:(0:Int)<=m:=aa;have i2:(m:Int)<=n:=aa;clear h;go_wp2
   go_region_law (refine gq _ rfl (.tmp 41) (.tmp 44) 115 115 rfl 122 g g n n m (n-m) (n-m) (bM n λk=>if k<m then .int .u8 c else .int .u8 0) (aP (w:=wr) bC f.1) (ag g 0) m n (bM q λ_=>.int .u8 c) underlying115 tU (by simp[WH,SC, *]) (by simp[WH,SC, *]) (by rw[bF];exact Y.symm) (by rw[bF];omega) (a0 _ bC) (oA λ_ _=>rfl) ?_;intro Q t a;rw[bF];have s:=ad t;have l:=ad a)
   all_goals(try simp only[QU,QS,QT])
   all_goals go_frame
   all_goals go_roundw
   all_goals(
    have T:RH (Q.ownsRow g 122 1 (a_ g n n) n (bM n λk=>if k<m+q then .int .u8 c else .int .u8 0)/\SM g w Q):=by refine⟨by rw[<-J.out];exact s,f.2.trans (((Out.af (S:=λk=>k=g) (aV (SV wr.heap.size wr))).tr l).below (λk _ e=>aa) ?_)⟩;have:=(f.1.lt g rfl).2;omega)
   all_goals first
    |exact⟨m+q,aa,aa,by go_num,T⟩
    |((repeat apply Exists.intro);exact⟨⟨m+q,aa,aa,by go_num,T⟩,rfl⟩)
    |(simp[intOf];omega)
  .obtain rfl:m=n:=aa;go_wp2;go_ret;have i:=f.1;rw[oz (g:=λ_=>.int .u8 c) λk a2=>ak a2]at i;exact⟨_,rfl,vC i U,RY O,(O▸f.2:SM w.heap.size w wr)⟩
def IB(B:Nat)(c:Option TF)(g:au)(d:Bool)(w:M)(e:SG)(a:M):Prop:=
 ∃R b,aK e (.tuple #[H R,aG 0])/\ff a R B c g b ⟨d,λ_=>none,[],false⟩/\w.heap.size<=R/\w.heap.size<=b/\ar w a
theorem yY[Lo](B:Nat)(s:Option TF)(g:au)(t:Bool)(b:By)(w:QL)(P:aB w B b)(n:g.ok)(Q:b.N=g.M+1):
  aD 57 #[aq B,g.V,.pointer s,.bool t] w (IB B s g t w):=by
 obtain⟨o,D,C,u,h,i⟩:=dQ w (ao #[ae g.M,ae g.c,ae g.s] 39);obtain⟨d1,d2,d3⟩:=cr i;have p:=aA h i;have E:=ad (eI n o);have v:=ad (λW (x:ar o W)=>(by obtain⟨S,T,R,I,r,wc,f,U⟩:=(P.below h).below x;exact lj U:aD 49 #[aq B] W λe a=>aK e (ae b.N)/\W=a));rw[Q]at v;have y:=n.m3;have j:=n.m16;have F:=ad (λW G (V:W.cell? (ag G 0)=some (ae (-1)))=>AK g.M G (-1) W aa aa V);have X:=ad n;obtain⟨M,K,L⟩:=g;simp only at d1 p v F C j y E;have Y:QQ.wrap ((M:Int)+1)=((M+1:Nat):Int):=bf;go_enter func57,ntmps57;go_wp2_with fail
 try simp only[C,u]
 go_wp2_with(go_at_call 26;refine E.mono ?_;rintro e J ⟨rfl,k⟩;obtain⟨k0,f0,z0⟩:=kp k D d3;have c:=ad k);go_region_held3(λa=>a.cell? (ag D 0)=some (ae M)) ((simp[*,go_sem];done)) (first|(go_at_call 49;refine(v _ (via c bC)).mono ?_;rintro e d ⟨rfl,rfl⟩));go_wp2;go_region_held3(λa=>a.cell? (ag D 0)=some (ae M)/\a.cell? (ag D 1)=some (ae K)/\a.cell? (ag D 2)=some (ae L)) ((simp[*,go_sem];done)) (first|(go_at_call 92;refine(F _ _ aJ).mono ?_;rintro e d ⟨q,rfl,Z,H,N⟩;have l:RH (ar o d):=via (via c bC) N;obtain⟨p1,p2,p3⟩:=kp l D d3;have O:=ad Z;have z:RH (o.heap.size<=q):=QO (via c bC).size H));go_wp2;have m:ar w d:=p.1.trans (l.mono p.1.size);have A:=aI (SV d.heap.size d) (ao #[aq B,ae M,ae K,ae L,.pointer s,.bool t,a_ q M M,aU,.bool false] 164);go_ret2;exact⟨d.heap.size,q,rfl,⟨⟨M,aU,QM _ _,fc.nil _⟩,(A.block q (Z_ O)).trans O⟩,m.size,QO p.1.size z,aI m _⟩
section
structure KR[Lo](B:Nat)(g:au)(b:By)(m r:Nat)(w W:M):Prop where
 cg:aB W B (b.run (eV g m++rC m r)).1
 bU:Fr TB aF w W
theorem Hc{g:au}(a:g.ok){N:Nat}(h:5<=N/\N<=2048)(lz:Bool){k:Nat}(m:k<g.M+1):((Su.born N lz).at k).ok g:=by obtain⟨c,d,e,n,f,i,j,l⟩:=Su.sY a h lz;exact⟨c,d,e,by show k<=g.M;omega,f,i,j,l⟩
structure Ek[Lo](B:Nat)(g:au)(N:Nat)(lz:Bool)(b:By)(w W:M)(n:Nat):Prop where
 cg:aB W B ((jV g N b).run ((xC g (Su.born N lz)).take n)).1
 bU:Fr TB aF w W
section
variable [Lo] {B:Nat} {g:au} {N:Nat} {lz:Bool} {b:By} {w W:QL}
theorem Ek.tell(Z:bg)(d f:QN)(c:g.ok)(H:qx g N b)(a:5<=N/\N<=2048)(m:aZ w Z.A (ao (GY Z g (Su.born N lz) g.M d f) 120))(o:aZ w Z.sb (ao (br g.M λ_=>.int .u8 1) 122))(p:Z.B=B){j:Nat}(k:j<g.M+1)(h:Ek B g N lz b w W (0*(g.M+1)+j)):
  aD 55 #[aq Z.A,Y (en g j:Nat)] W λe l=>aK e (aG 0)/\Ek B g N lz b w l (0*(g.M+1)+(j+1)):=by
 obtain⟨q,r,s,t⟩:=H.step c a (lz:=lz) (i:=0) (j:=j) ai k;subst p;refine(Eg Z g (Su.born N lz) g.M d f _ (en g j) W (QP _) (h.bU.hp m rfl) (h.bU.hp o rfl) h.cg (Hc c a lz (oc c k)) s t).mono ?_;rintro e l ⟨u,v,x⟩;exact⟨by rw[u];exact congrArg (λn:Nat=>Ending.returned (aG n)) q,by rw[<-r];exact v,h.bU.tr x⟩
theorem Ek.flush(d:g.ok)(H:qx g N b)(a:5<=N/\N<=2048){j:Nat}(f:j<g.M+1)(h:Ek B g N lz b w W (1*(g.M+1)+j)):
  aD 56 #[aq B,Y (en g j:Nat)] W λe c=>aK e (aG 0)/\Ek B g N lz b w c (1*(g.M+1)+(j+1)):=by
 obtain⟨k,l,m,r⟩:=H.step d a (lz:=lz) (i:=1) (j:=j) ai f;refine(gu B (en g j) _ W h.cg m).mono ?_;rintro e c ⟨o,p,q⟩;exact⟨by rw[o];exact congrArg (λn:Nat=>Ending.returned (aG n)) k,by rw[<-l];exact p,h.bU.tr q⟩
end
theorem AM[Lo](B:Nat)(g:au)(N:Nat)(lz:Bool)(b:By)(w:QL)(h:aB w B b)(c8:g.ok)(z:5<=N/\N<=2048)(H:qx g N b)(h0:Lo.lo<=w.heap.size):
  aD 29 #[aq B,.int .u64 1,g.V,ae N,.bool lz] w λe C=>∃Z:bg,aK e (.tuple #[aq Z.A,aG 0])/\Z.B=B/\Z.N=N/\Z.lz=lz/\Fr fT aF w C/\cY C Z g (qf g N lz (sX g N (Su.born N lz) b)) (Su.born N lz) false:=by
 obtain⟨t0,s0,l4,l5,l6⟩:=SN wz;have t1:∀w:QL,(TL 41 (ae 128) (ae 128)).run prog w=.ok (a_ w.heap.size 128 128) (w.alloc (ao (cB 128 λ_=>0) 5)):=λw=>nX w 128 ai;obtain⟨a3,D,t2,l7,h4,h5⟩:=dQ w (ao #[ae g.M,ae g.c,ae g.s] 39);obtain⟨d1,d2,d3⟩:=cr h5;have U:=h.below h4;have l8:=ad (eI c8);have d8:=ad (λW (b5:ar a3 W)=>uW (U.below b5));have b7:=ad (jn c8);have h6:=ad (λW (b5:ar a3 W) k (X:k<g.M+1)=>show aD 50 #[aq B,ae k] W λe C=>aK e dU/\∃q,C=W.drewN q by obtain⟨S,l9,t3,t4,r,wc,f,m0⟩:=U.below b5;exact Cq m0 k (by rw[H.bN];exact X) _ (H.dv k X));have d9:=ad (λW (b5:ar a3 W) k (X:k<g.M+1)=>show aD 51 #[aq B,ae k] W λe C=>aK e (ae ((if k=g.M then 2+N else 1+g.R:Nat):Nat))/\W=C by obtain⟨S,l9,t3,t4,r,wc,f,m0⟩:=U.below b5;exact sA m0 k (by rw[H.bN];exact X) _ (H.dv k X));have m1:=c8.m3;have h7:=c8.m16;have t5:=au.g_ c8;have J:=bX U h5 h4 H c8;have h8:=aA t2 l7;obtain⟨d,a,c⟩:=g;obtain⟨R,h9⟩:=ah (au.R ⟨d,a,c⟩);rw[h9]at b7 t5 d9;have m2:b.N=d+1:=H.bN;rw[m2]at d8;have f1:QQ.wrap ((d:Int)+1)=((d+1:Nat):Int):=by have:d<=16:=h7;go_arith
 have f2:decide ((N:Int)<5)=false:=aQ;have f3:decide ((2048:Int)<(N:Nat))=false:=aQ;have f4:QQ.wrap (1+(R:Int))=((1+R:Nat):Int):=bf;have f5:QQ.wrap (2+(N:Int))=((2+N:Nat):Int):=by have:N<=2048:=z.2;go_arith
 have f6:decide (N<5)=false:=aQ;have f7:decide (2048<N)=false:=aQ;have i0:=ad h9;go_enter func29,ntmps29;go_wp2_with fail
 try simp only[h8.out.1,h8.out.2]
 go_wp2_with(first|(go_at_call 26;refine(l8 _).mono ?_;rintro e w1 ⟨rfl,i6⟩;obtain⟨k0,k1,k2⟩:=kp i6 D d3;have e0:=ad i6));go_region_held3(λC=>C.cell? (ag D 0)=some (ae d)) ((simp[*,go_sem];done)) (first|(go_at_call 49;refine(d8 _ (by first|exact e0|exact ct e0 _)).mono ?_;rintro e w2 ⟨rfl,rfl⟩));have b8:RH (ar a3 w1.drew):=ct e0 1;obtain⟨w2,m3⟩:=ah w1.drew;rw[m3]at b8|-;obtain⟨k0,k1,k2⟩:=kp b8 D d3;go_wp2_with(first|(go_at_call 49;refine(d8 _ b8).mono ?_;rintro e w3 ⟨rfl,i7⟩;subst i7));go_loopw [13,14,47] (λt6 t7 e1 wr=>∃k:Nat,k<=d+1/\e1= ae k/\RH (ar a3 wr)) (λ_ _ e1 _=>d+1-(intOf e1).toNat)
 case atStart=>exact⟨0,QX _,rfl,b8⟩
 case round=>
  obtain⟨k,X,rfl,a4⟩:=hrel;obtain⟨k0,k1,k2⟩:=kp a4 D d3;by_cases L:k<d+1
  .have i1:(k:Int)<((d+1:Nat):Int):=aa;have i2:(k:Int)<(d:Int)+1:=aa;by_cases e2:k=d
   .subst e2;have a5:=ad (λW b5=>d9.out W b5 k L);simp only[ak]at a5;have i3:¬((2+N:Nat):Int)<((2+N:Nat):Int):=aa;go_wp2_with(first|(go_at_call 27;refine(b7 _).mono ?_;rintro e w3 ⟨rfl,E⟩;have P:=ad (via a4 E);obtain⟨p0,p1,p2⟩:=kp E D k2)|(go_at_call 50;refine(h6 _ P k (TX k)).mono ?_;rintro e w4 ⟨rfl,q,rfl⟩)|(go_at_call 51;refine(a5 _ (ct P _)).mono ?_;rintro e w5 ⟨rfl,i7⟩;subst i7));exact⟨⟨k+1,QP _,rfl,ct P _⟩,by first|(simp[intOf];done)|(simp[intOf];omega)⟩
   .have a5:=ad (λW b5=>d9.out W b5 k L);have s1:¬(⟨d,a,c⟩:au).M=k:=λe=>e2 e.symm;simp only[show¬k=(⟨d,a,c⟩:au).M from e2,if_false]at a5;have i3:¬((1+R:Nat):Int)<((1+R:Nat):Int):=aa;have i5:¬(k:Int)=(d:Int):=aa;go_wp2_with(first|(go_at_call 27;refine(b7 _).mono ?_;rintro e w3 ⟨rfl,E⟩;have P:=ad (via a4 E);obtain⟨p0,p1,p2⟩:=kp E D k2)|(go_at_call 50;refine(h6 _ P k L).mono ?_;rintro e w4 ⟨rfl,q,rfl⟩)|(go_at_call 51;refine(a5 _ (ct P _)).mono ?_;rintro e w5 ⟨rfl,i7⟩;subst i7));exact⟨⟨k+1,L,rfl,ct P _⟩,by first|(simp[intOf];done)|(simp[intOf];omega)⟩
  .obtain rfl:k=d+1:=aa;have m4:RH (KR B ⟨d,a,c⟩ b 0 0 a3 wr):=⟨J.1.below a4,Fr.af a4⟩;obtain⟨v4,m5⟩:=ah wr;subst m5;go_wp2_with fail;go_loopw [15,73] (λt8 e3 wr=>∃m:Nat,m<=d/\e3= ae m/\RH (KR B ⟨d,a,c⟩ b m 0 a3 wr)) (λ_ e3 _=>d-(intOf e3).toNat)
   case atStart=>exact⟨0,QX _,rfl,m4⟩
   case round=>
    obtain⟨m,s2,rfl,M⟩:=hrel;obtain⟨m6,m7⟩:=ah wr;subst m7;have s3:=M.bU.hp J.2.1 rfl;obtain⟨k0,k1,k2⟩:=cr s3;by_cases L:m<d
    .have i1:(m:Int)<(d:Int):=aa;go_wp2_with(first|(go_at_call 27;refine(b7 _).mono ?_;rintro e w3 ⟨rfl,E⟩;have m8:RH (KR B ⟨d,a,c⟩ b m 0 a3 w3):=⟨M.cg.below E,M.bU.then E⟩));go_loopw [16,17,78] (λt9 u0 e4 wr=>∃r:Nat,r<=R/\e4= ae r/\RH (KR B ⟨d,a,c⟩ b m r a3 wr)) (λ_ _ e4 _=>R-(intOf e4).toNat)
     case atStart=>exact⟨0,QX _,rfl,m8⟩
     case round=>
      obtain⟨r,s4,rfl,e5⟩:=hrel;by_cases a6:r<R
      .have i2:(r:Int)<(R:Int):=aa;have f8:QQ.wrap (1+(r:Int))=((1+r:Nat):Int):=bf;obtain⟨z1,z2,z3,z4⟩:=J.2.2.2.1.zr J.2.2.2.2 (m:=m) (r:=r) L (by rw[i0.out];exact a6);have m9:RH (aD 52 #[aq B,ae m,ae (1+r:Nat),a_ wr.heap.size 128 128] (wr.alloc (ao (cB 128 λ_=>0) 5)) λe C=>aK e (aG 0)/\KR B ⟨d,a,c⟩ b m (r+1) a3 C):=(fo B m (1+r) (a_ wr.heap.size 128 128) (λ_=>0) _ (wr.alloc (ao (cB 128 λ_=>0) 5)) (e5.cg.below (aI aj _)) z3 (qW _ _ _) z4).mono λe C ⟨q1,q2,q3⟩=>⟨by rw[q1,z1];rfl,by rw[<-z2];exact q2,(e5.bU.then (aI aj _)).tr q3⟩;go_wp2_with(first|(go_at_call 52;refine m9.mono ?_;rintro e w4 ⟨rfl,n0⟩;have n1:=ad n0));exact⟨⟨r+1,a6,rfl,n1⟩,by first|(simp[intOf];done)|(simp[intOf];omega)⟩
      .obtain rfl:r=R:=aa;have n2:RH (KR B ⟨d,a,c⟩ b (m+1) 0 a3 wr):=by
        have e:eV ⟨d,a,c⟩ (m+1)++rC (m+1) 0=eV ⟨d,a,c⟩ m++rC m r:=by rw[rD,i0.out];exact UK _
        obtain⟨q1,q2⟩:=e5.out;exact⟨by rw[e];exact q1,q2⟩
       go_wp2_with fail;go_roundw
       case rel=>((repeat apply Exists.intro);exact⟨⟨m+1,L,rfl,n2⟩,rfl⟩)
       case measure=>first|(simp[intOf];done)|(simp[intOf];omega)
    .obtain rfl:m=d:=aa;have n3:RH (aB wr B (qw ⟨m,a,c⟩ b)):=by have q1:=M.cg;have e:eV ⟨m,a,c⟩ m++rC m 0=eV ⟨m,a,c⟩ m:=UK _;rw[e]at q1;exact q1
     obtain⟨x1,x2,x3,x4,x5,x6,x7,x8⟩:=J.2.2.2.1.fmt J.2.2.2.2 z.2;have v5:=aM x6 x7 x8;have n4:=ad (Ab B m N 1 _ wr n3 (QO (QO h0 J.2.2.1.size) M.bU.size) (by rw[x1];exact TX _) z.1 z.2 ai x3 x4 x5);have e6:=ad (M.bU);go_wp2_with fail;refine n4.mono ?_;rintro e w5 ⟨W,r,rfl,n5,n6,i8,i9,s4⟩;have n7:RH (aB w5 B (jV ⟨m,a,c⟩ N b)):=n5;have b9:=aS n6 i8 i9 s4;have j0:=i8.hp s3 rfl;obtain⟨k0,k1,k2⟩:=cr j0;go_wp2_with fail;obtain⟨A,c0⟩:=ah w5.heap.size;obtain⟨v6,u1⟩:=ah (SF none 0 0);obtain⟨w6,a7⟩:=ah ((w5.alloc (ao #[aq B,.int .u64 1,.int .u64 1,.int .u64 1,ae 0,ae m,ae a,ae c,ae N,.bool lz,.bool false,aU,ae 0,.pointer none,aq W,.bool false,aG 0,.bool true,.bool false] 120)).alloc (ao #[.int .u8 1] 122));have e7:ar w5 w6:=by rw[<-a7];exact aI (aI aj _) _
     have j1:aZ w6 A (ao #[aq B,.int .u64 1,.int .u64 1,.int .u64 1,ae 0,ae m,ae a,ae c,ae N,.bool lz,.bool false,aU,ae 0,.pointer none,aq W,.bool false,aG 0,.bool true,.bool false] 120):=by rw[<-a7,<-c0];exact fX _ _ _
     have n8:aZ w6 (A+1) (ao #[.int .u8 1] 122):=by rw[<-a7,<-c0];exact fg _ _ _
     have s5:=aA c0 a7;simp only[a7,c0];have n9:=AL m (A+1) 1 w6 (by have:=m1;show 0<m;omega) aa ((cr n8).1 0);refine n9.mono ?_;rintro e w7 ⟨V,rfl,o0,o1,e8⟩;have j2:=(e8.block _ (Z_ j1)).trans j1;have j3:=((e7.trans (e8.mono e7.size)).block _ k2).trans j0;have H7:=bX e7 e8 o0 o1 j2;obtain⟨k0,k1,k2⟩:=cr j3;obtain⟨a0,a1,a2⟩:=cr j2;have e9:=ad j3;go_wp2_with fail;obtain⟨O,l2⟩:=ah w7.heap.size;obtain⟨w8,a8⟩:=ah ((w7.setCell (ag A 11) (a_ V m m)).alloc (ao #[ae m] 3));have c9:(w7.setCell (ag A 11) (a_ V m m)).heap.size=O:=by rw[SE];exact l2
     have j4:aZ w8 A (ao (GY ⟨A,B,0,W,r,0,V,N,lz⟩ ⟨m,a,c⟩ (Su.born N lz) m (.pointer none) (aq W)) 120):=by rw[<-a8];refine(RG _ _ _ (by rw[c9];omega)).trans ?_;exact heap_setCell_same w7 A 11 _ 120 _ H7.2.2.2.2
     have o2:aZ w8 O (ao (br 1 λk=> ae (en ⟨m,a,c⟩ k:Nat)) 3):=by rw[<-a8,<-c9];exact QM _ _
     have o3:Out (λk=>k=A) w7 w8:=by rw[<-a8];exact((Out.refl (λk=>k=A) w7).setCell (p:=ag A 11) (λ_=>rfl) _).then (aI aj _)
     have I:=bX j4 o2 o3 l2 (Z_ j4);have u2:=aA a8 l2;simp only[a8,l2];have j5:=(I.2.2.1.heap e9 (λe=>by have s:=H7.2.2.2.2;rw[<-e,e9.out]at s;cases s));obtain⟨k0,k1,k2⟩:=cr j5;have o4:=ad j5;go_loopw [19,125] (λo5 a9 wr=>∃j:Nat,j<=m/\a9= ae j/\RH (wr.ownsRow O 3 1 o5 (j+1) (bM (j+1) λk=> ae (en ⟨m,a,c⟩ k:Nat))/\SM O w8 wr)) (λ_ a9 _=>m-(intOf a9).toNat)
     case atStart=>exact⟨0,QX _,rfl,iT I.2.1 (QP _) (by unfold UT;omega),aj⟩
     case round=>
      obtain⟨j,v7,rfl,b6⟩:=hrel;by_cases o6:j<m
      .have i1:(j:Int)<(m:Int):=aa;obtain⟨s6,j6,f0,-⟩:=av b6.1;subst f0;have j7:O<=(wr.alloc (ao #[ae j] 3)).heap.size:=by rw[TG];have s:=b6.2.size;have h2:=Z_ I.2.1;omega
       go_wp2_with(first|(at_builtin;refine aT _ rfl _ _ 82 rfl O 3 t0 (ae 0) 1 8 YM s0 l4 l5 l6 rfl ai (.slice s6 (j+1) j6) (j+1) (bM (j+1) λk=> ae (en ⟨m,a,c⟩ k:Nat)) rfl (b6.1.alloc _) (ag wr.heap.size 0) 1 1 [ae j] rfl rfl (SI (cs:= #[ae j]) (t:=3) (fr:=(0,0)) (QM wr _)) (by intro u u3;rw[TC.1 u3];rfl) aa (by unfold UT;omega) aa j7 ?_));intro v8 C b0 j8;have u4:(bM (j+1) λk=>.int .i64 (en ⟨m,a,c⟩ k:Nat))++ [ae j] =bM (j+1+1) λk=> ae (en ⟨m,a,c⟩ k:Nat):=by unfold bM;rw[UW (n:=j+1),SR];rfl
       rw[u4]at b0;have o7:=j8.below (B:=O) (b6.2.trans ((aI aj _:ar wr (wr.alloc (ao #[ae j] 3))).mono (QO (TY (Z_ I.2.1)) b6.2.size))) j7 λk X=>(b6.1.lt k X).1;obtain⟨v9,u5,o8,-⟩:=av b0;subst o8;have u6:=aA b0 o7;go_wp2_with fail;exact⟨⟨j+1,o6,rfl,u6⟩,by first|(simp[intOf];done)|(simp[intOf];omega)⟩
      .obtain rfl:j=m:=aa;obtain⟨s6,j6,f0,o9⟩:=av b6.1;obtain⟨g9,rfl⟩:=o9.resolve_left aa;subst f0;go_wp2_with fail;obtain⟨w9,u7⟩:=ah wr;obtain⟨Q,f9⟩:=ah (wr.alloc (ao #[Ix 55 A,Ix 56 B] 123));obtain⟨F,hF⟩:=ah wr.heap.size;rw[f9,hF];have j9:ar wr Q:=by rw[<-f9];exact aI aj _
       have p3:aZ Q F (ao #[Ix 55 A,Ix 56 B] 123):=by rw[<-f9,<-hF];exact QM _ _
       have p4:A<O:=by have:=I.2.2.2.2;have s:=Z_ H7.2.2.2.2;rw[I.2.2.2.1]at s;exact s
       have u8:=J.2.2.2.1;have p5:=J.2.2.2.2;have b1:SM O w8 Q:=b6.2.trans (j9.mono (QO (TY (Z_ I.2.1)) b6.2.size));have p6:aZ Q A (ao (GY ⟨A,B,0,W,r,0,V,N,lz⟩ ⟨j,a,c⟩ (Su.born N lz) j (.pointer none) (aq W)) 120):=(b1.block _ p4).trans I.1;have k3:aZ w8 V (ao (br j λ_=>.int .u8 1) 122):=I.2.2.1.heap H7.2.2.1 (λe=>by have h2:=H7.2.2.2.2;rw[<-e,H7.2.2.1]at h2;have h3:=congrArg ty (RT h2);exact absurd (show(122:Nat)=120 from h3) ai);have p7:V<O:=by rw[<-I.2.2.2.1];exact Z_ H7.2.2.1
       have p8:aZ Q V (ao (br j λ_=>.int .u8 1) 122):=(b1.block _ p7).trans k3;have p9:D<O:=by rw[<-I.2.2.2.1];exact Z_ e9
       have q0:=(b1.block _ p9).trans o4;have g0:=aP j9 b6.1;have g1:ar w5 Q:=by
        have s:ar w5 w7:=H7.1.trans (H7.2.1.mono H7.1.size);have h2:SM w5.heap.size w7 w8:=I.2.2.1.below (λk _ e=>by have e:k=A:=e;have:=s5.1;omega) s.size;have h3:w5.heap.size<=O:=by rw[<-I.2.2.2.1];exact s.size
        exact(s.trans h2).trans (b1.mono h3)
       have g2:aB Q B (jV ⟨j,a,c⟩ N b):=n7.below g1;have g3:=aA g1 (b9.1.fr (T:= []) (Fr.af g1) rfl rfl rfl rfl);have q4:RH (Ek B ⟨j,a,c⟩ N lz b Q Q 0):=⟨g2,Fr.refl _ _ _⟩;have G:=eM p6 p8 q0 g0 p3 b1;have K:=aA u8 p5;have q5:∀l w,(UY 55 l).run prog w=.ok (.enter 55 l) w:=λ_ _=>rfl;have q6:∀l w,(UY 56 l).run prog w=.ok (.enter 56 l) w:=λ_ _=>rfl;go_loopw [10,22,139] (λg4 u9 b2 wr=>∃i:Nat,i<=2/\b2= ae i/\g4= aq A/\RH (Ek B ⟨j,a,c⟩ N lz b Q wr (i*(j+1)))) (λ_ _ b2 _=>2-(intOf b2).toNat)
       case atStart=>exact⟨0,ai,rfl,rfl,by rw[WI];exact q4⟩
       case round=>
        obtain⟨i,s0,rfl,rfl,o⟩:=hrel;by_cases c3:i<2
        .have g5:∃k4 x,wr.cell? (ag F i)=some (.func (.func k4) #[x] #[])/\(∀l w,(UY k4 l).run prog w=.ok (.enter k4 l) w)/\∀k l3,k<j+1->Ek B ⟨j,a,c⟩ N lz b Q l3 (i*(j+1)+k)->aD k4 #[x,ae (en ⟨j,a,c⟩ k:Nat)] l3 λe C=>aK e (aG 0)/\Ek B ⟨j,a,c⟩ N lz b Q C (i*(j+1)+(k+1)):=by
          obtain⟨c1,-,-⟩:=cr (o.bU.hp G.2.2.2.2.1 rfl)
          match i,c3,o with
          |0,_,o=>exact⟨55,_,c1 0,q5,λk l3 X i9=>i9.tell ⟨A,B,0,W,r,0,V,N,lz⟩ _ _ K.2 K.1 z G.1 G.2.1 rfl X⟩
          |1,_,o=>exact⟨56,_,c1 1,q6,λk l3 X i9=>i9.flush K.2 K.1 z X⟩
         obtain⟨k4,x,c1,w0,v0⟩:=g5;have q7:=ad v0;have v1:(i:Int)<2:=aa;have s7:(0:Int)<=(i:Int):=aa;obtain⟨m6,rfl⟩:∃m6:QL,m6=wr:=⟨_,rfl⟩;go_wp2_with fail;go_loopw [10,24,145] (λg4 v2 b3 wr=>∃k:Nat,k<=j+1/\b3= ae k/\g4= aq A/\RH (Ek B ⟨j,a,c⟩ N lz b Q wr (i*(j+1)+k))) (λ_ _ b3 _=>j+1-(intOf b3).toNat)
         case atStart=>exact⟨0,QX _,rfl,rfl,o⟩
         case round=>
          obtain⟨k,X,rfl,rfl,b4⟩:=hrel;by_cases g6:k<j+1
          .have i1:(k:Int)<((j+1:Nat):Int):=aa;have i2:(k:Int)<(j:Int)+1:=aa;have i3:(0:Int)<=(k:Int):=aa;have c2:wr.cell? (ag g9 k)=some (ae (en ⟨j,a,c⟩ k:Nat)):=by
            obtain⟨c4,d0⟩:∃c4,aZ Q g9 (ao c4 3):=by
             rcases G.2.2.2.1.2 with⟨q8,_⟩|⟨x0,s8,c4,q8,b5,c8,i1,i2,i3,i4⟩
             .cases q8
             .cases q8;exact⟨c4,c8⟩
            have s:=(bx G.2.2.2.1 (k:=k) (by rw[cc _ _ _ g6])).1;rw[QZ ((b4.bU.hp d0 rfl).trans d0.symm)];exact s
           have s9:=ad (q7 k wr g6 b4);obtain⟨y,v3⟩:=ah (en ⟨j,a,c⟩ k);rw[v3]at c2 s9;go_wp2_with fail;refine s9.mono ?_;rintro e w4 ⟨rfl,n0⟩;have q9:=ad n0;go_wp2_with fail;exact⟨⟨k+1,g6,rfl,rfl,q9⟩,by first|(simp[intOf];done)|(simp[intOf];omega)⟩
          .obtain rfl:k=j+1:=aa;go_wp2_with fail;go_roundw
           case rel=>first|exact⟨i+1,c3,rfl,rfl,by rw[YI];exact b4⟩|exact⟨_,⟨i+1,c3,rfl,rfl,by rw[YI];exact b4⟩,rfl⟩|exact⟨_,_,⟨i+1,c3,rfl,rfl,by rw[YI];exact b4⟩,rfl⟩
           case measure=>first|(simp[intOf];done)|(simp[intOf];omega)
        .obtain rfl:i=2:=aa;have k5:aB wr B (sX ⟨j,a,c⟩ N (Su.born N lz) b):=by have s:=o.cg;rw[YR (by rw[od];exact QP _)]at s;exact s
         have k6:=o.bU.hp G.1 rfl;have r0:=o.bU.hp G.2.2.1 rfl;have r1:=o.bU.hp G.2.1 rfl;have r2:=ad (yY B (some (ag W 0)) ⟨j,a,c⟩ lz _ wr k5 K.2 (pF K.2 K.1 z.2 lz).1.gd.N);obtain⟨k0,k1,k2⟩:=cr r0;obtain⟨a0,a1,a2⟩:=cr k6;have Y:=aM k5 k6 r1;go_wp2_with fail;refine r2.mono ?_;rintro e c5 ⟨R1,k7,rfl,r3,r4,r5,d4⟩;have d5:=(d4.block _ (Z_ Y.2.1)).trans Y.2.1;have v:=bX r3 r4 r5 d4 d5;obtain⟨a0,a1,a2⟩:=cr d5;go_wp2_with fail;obtain⟨g7,c6⟩:=ah (c5.setCell (ag A 13) (aq R1));have d6:=s5.1;have k8:Lo.lo<=A:=by rw[<-d6];exact QO (QO (QO h0 J.2.2.1.size) e6.size) b9.2.1.size
         have d7:Lo.lo<=V:=by have s:=H7.2.2.2.1;have h2:=H7.1.size;omega
         have c7:Fr [120] aF c5 g7:=by rw[<-c6];exact(Fr.refl _ _ _).set (p:=ag A 13) v.2.2.2.2 rfl k8 _
         have r6:aZ g7 A (ao (BB ⟨A,B,R1,W,r,k7,V,N,lz⟩ ⟨j,a,c⟩ (Su.born N lz) j false) 120):=by rw[<-c6];exact heap_setCell_same c5 A 13 _ 120 _ v.2.2.2.2
         have k9:bG g7 W r B j (Wl.fresh N 1):=((g3.2.fr o.bU rfl rfl rfl rfl).fr (T:= []) (Fr.af v.2.2.2.1) rfl rfl rfl rfl).fr c7 rfl rfl rfl rfl;have r7:aZ g7 V (ao (br j λ_=>.int .u8 1) 122):=c7.hp ((v.2.2.2.1.block _ (Z_ Y.2.2)).trans Y.2.2) rfl;have a6:Lo.lo<=wr.heap.size:=QO d7 (TY (Z_ Y.2.2));have l0:cY g7 ⟨A,B,R1,W,r,k7,V,N,lz⟩ ⟨j,a,c⟩ ⟨sX ⟨j,a,c⟩ N (Su.born N lz) b,Wl.fresh N 1,Ro.born lz⟩ (Su.born N lz) false:=
          ⟨⟨⟨j,QP _,r6⟩,⟨_,r7,λm s2=>cf _ _ _ s2⟩,k8,d7⟩,⟨v.1.fr c7 rfl rfl rfl rfl,(Y.1.below v.2.2.2.1).fn c7 rfl,k9,QO a6 v.2.1,QO a6 v.2.2.1⟩⟩
         have r8:=ad (nY _ _ _ _ _ g7 l0 (Su.sY K.2 z lz));have g8:Fr fT aF w g7:=by
          have s:Fr fT aF w w5:=((Fr.af J.2.2.1).tr (e6.wide fT rfl)).tr b9.2.1;have r9:w.heap.size<=A:=by rw[<-d6];exact s.size
          have h2:Fr fT aF w Q:=s.low g3.1 s.size;have h3:Fr fT aF w c5:=(h2.tr (o.bU.wide fT rfl)).then v.2.2.2.1;rw[<-c6];exact h3.low (Below.setCell aj (p:=ag A 13) (QP A) _) r9
         have l1:=aS l0 g8 v.2.2.1 c6;simp only[l1.out.2.2.2];go_wp2_with fail;refine r8.mono ?_;rintro e C ⟨rfl,q1,q2⟩;have q9:RH (Fr fT aF w C/\cY C ⟨A,B,R1,W,r,k7,V,N,lz⟩ ⟨j,a,c⟩ (qf ⟨j,a,c⟩ N lz (sX ⟨j,a,c⟩ N (Su.born N lz) b)) (Su.born N lz) false):=by obtain⟨y1,y2,y3,-⟩:=l1.out;have s:w.heap.size<=wr.heap.size:=QO (QO (QO J.2.2.1.size e6.size) b9.2.1.size) (QO g3.1.size o.bU.size);exact⟨y2.low (q2.below (B:=w.heap.size) (λk _ e=>by have e:k=k7:=e;omega) y2.size) (QP _),⟨y1.arr.out q2 y1.rs.row.fy y1.rs.lo.2,y1.rs.mark q1 q2⟩⟩
         go_wp2_with fail;go_ret2;exact⟨⟨A,B,R1,W,r,k7,V,N,lz⟩,rfl,rfl,rfl,rfl,q9⟩
end
def He(g:au)(N k:Nat):Nat:=if k=g.M then 2+N else 1+g.R
theorem lN:qx g n (By.part (g.M+1) (He g n) (g.M+1)):=
 ⟨rfl,λk a=>ak a,rfl,rfl⟩
def yZ[Lo](g:au)(N:Nat)(a:Bool)(w:QL)(e:SG)(b:QL):Prop:=
 ∃G Z,aK e (.tuple #[H G,aG 0])/\cw b G Z g/\Z.N=N/\Z.lz=a/\w.heap.size<=G/\Fr fT aF w b/\
  cY b Z g (qf g N a (sX g N (Su.born N a) (By.part (g.M+1) (He g N) (g.M+1)))) (Su.born N a) false
theorem vD[Lo](g:au)(N:Nat)(e7:Bool)(w:QL)(Q:g.ok)(b6:5<=N/\N<=2048)(f9:Lo.lo<=w.heap.size):
  aD 16 #[g.V,ae N,.bool e7] w (yZ g N e7 w):=by
 obtain⟨t,D,g9,b7,b8,S⟩:=dQ w (ao #[ae g.M,ae g.c,ae g.s] 39);obtain⟨d1,d2,d3⟩:=cr S;have g0:=ad (eI Q);have b9:=ad (jn Q);have h3:=Q.m3;have C:=Q.m16;have h4:=au.g_ Q;obtain⟨c,U⟩:=ah (g.M+1);have g1:=ad (λv W (h5:Ints W v (g.M+1) (He g N)) (g2:Lo.lo<=W.heap.size)=>FQ v (g.M+1) (He g N) W h5 g2 aa aa (λk h7=>by unfold He;split<;>omega));have g3:=ad (λB b W (e8:aB W B b) (h8:qx g N b) (g2:Lo.lo<=W.heap.size)=>AM B g N e7 b W e8 Q b6 h8 g2);have q:=aM S b8 f9;have c3:=aA g9 b7;obtain⟨a,r,s⟩:=g;obtain⟨R,V⟩:=ah (au.R ⟨a,r,s⟩);rw[V]at b9 h4;obtain⟨h9,e9,c4,c5,c6⟩:=SN wz;have i0:∀w,(TL 82 (ae (c:Int)) (ae (c:Int))).run prog w=.ok (a_ w.heap.size c c) (w.alloc (ao (br c λ_=> ae 0) 3)):=λw=>by
  have i6:c<=17:=by rw[<-U];show a+1<=17;have:a<=16:=C;omega
  have:=run_make (P:=prog) w 82 3 h9 (ae 0) YM e9 c4 .i64 .i64 c c aa aa (by rw[c6];omega) aa;rw[this,c5,UI,iS];simp
 have f1:QQ.wrap ((a:Int)+1)=((c:Nat):Int):=by have:a<=16:=C;have:a+1=c:=U;go_arith
 have f2:decide ((N:Int)<5)=false:=aQ;have f3:decide ((2048:Int)<(N:Nat))=false:=aQ;have f4:QQ.wrap (1+(R:Int))=((1+R:Nat):Int):=bf;have f5:QQ.wrap (2+(N:Int))=((2+N:Nat):Int):=by have:N<=2048:=b6.2;go_arith
 have f6:decide (N<5)=false:=aQ;have f7:decide (2048<N)=false:=aQ;have X:=aA V U;clear g9 b7 S b8 V e9 c4 c5 c6 Q;go_enter func16,ntmps16;go_wp2_with fail
 try simp only[c3.out.1,c3.out.2]
 go_wp2_with(first|(go_at_call 26;refine(g0 _).mono ?_;rintro e w1 ⟨rfl,H⟩;obtain⟨k0,k1,k2⟩:=kp H D d3;have c7:=ad H;clear H));go_region_held3(λE=>E.cell? (ag D 0)=some (ae a)/\E.cell? (ag D 1)=some (ae r)/\E.cell? (ag D 2)=some (ae s)) ((simp[*,go_sem];done)) (first|(go_at_call 27;refine(b9 _).mono ?_;rintro e w2 ⟨rfl,M⟩;have I:RH (SM t.heap.size t w2):=via (via c7 bC) M;obtain⟨p0,p1,p2⟩:=kp M D dI;clear M));obtain⟨G,f0⟩:=ah w2.heap.size;obtain⟨F,u⟩:=ah (w2.alloc (ao #[.pointer none,.pointer none,ae R,ae a,ae r,ae s] 73));have c8:F.heap[G]?=some (ao #[.pointer none,.pointer none,ae R,ae a,ae r,ae s] 73):=by rw[<-u,<-f0];exact QM _ _
 have Y:SM t.heap.size t F:=by rw[<-u];exact aI I _
 have c9:t.heap.size<=G:=by rw[<-f0];exact I.size
 simp only[u,f0];have d:=aM c8 Y c9;clear u f0 k0 k2 p0 p1 p2 c7 I;obtain⟨k0,k1,k2⟩:=kp Y D d3;clear Y c8 c9;obtain⟨L,f8⟩:=ah F.heap.size;obtain⟨w4,x⟩:=ah (F.alloc (ao (br c λ_=> ae 0) 3));have d0:w4.heap[L]?=some (ao (br c λ_=> ae 0) 3):=by rw[<-x,<-f8];exact QM _ _
 have d4:SM L F w4:=by rw[<-x,<-f8];exact aI aj _
 have j:=aS x f8 d0 d4;clear x f8 d0 d4;go_wp2_with fail
 try simp only[j.out.1,j.out.2.1]
 go_loopw [11,34] (λi3 J wr=>∃k:Nat,k<=c/\J= ae k/\RH (wr.heap[L]?=some (ao (br c λi=>if i<k then ae (1+R:Nat)else ae 0) 3)/\SM L F wr)) (λ_ J _=>c-(intOf J).toNat)
 case atStart=>exact⟨0,QX _,rfl,by rw[j.2.2.1];rfl,j.2.2.2⟩
 case round=>
  obtain⟨k,h7,rfl,a3⟩:=hrel;have d5:=j.2.1;have a4:G<L:=by rw[<-d5];exact Z_ d.1
  have d6:D<L:=by rw[<-d5];exact k2
  have a5:=(a3.2.block G a4).trans d.1;have a6:=(a3.2.block D d6).trans ((d.2.1.block D d3).trans q.1);obtain⟨a0,a1,a2⟩:=cr a5;obtain⟨b0,b1,b2⟩:=cr a3.1;by_cases d7:k<c
  .have i1:(k:Int)<(c:Int):=aa;have i2:(0:Int)<=(k:Int):=aa;have b3:wr.cell? (ag L k)=some (ae 0):=by rw[b0,cf _ _ _ d7,al (UA k)]
   clear b0 a5 a6;go_wp2_with fail;have h:=heap_setCell_same wr L k _ 3 (ae (1+R:Nat)) a3.1;rw[eY]at h;rw[show(1:Int)+(R:Int)=((1+R:Nat):Int)by omega];refine⟨⟨k+1,d7,rfl,?_,a3.2.setCell (p:=ag L k) (QP L) _⟩,by first|(simp[intOf];done)|(simp[intOf];omega)⟩;rw[h];congr 2;refine kU λi e9=>?_;by_cases e:i=k
   .rw [ak e,ak aa]
   .rw [al e];by_cases e2:i<k
    .rw [ak e2,ak aa]
    .rw [al e2,al aa]
  .obtain rfl:k=c:=aa;have g4:a+1=k:=X.2;have i1:(a:Int)<(k:Int):=aa;have i2:(0:Int)<=(a:Int):=aa;have b3:wr.cell? (ag L a)=some (ae (1+R:Nat)):=by rw[b0,cf _ _ _ aa,ak aa]
   obtain⟨c0,c1,c2⟩:=cr a6;have h:=heap_setCell_same wr L a _ 3 (ae (2+N:Nat)) a3.1;rw[eY]at h;have l:SM L F (wr.setCell (ag L a) (ae (2+N:Nat))):=a3.2.setCell (p:=ag L a) (QP L) _;obtain⟨w5,a7⟩:=ah (wr.setCell (ag L a) (ae (2+N:Nat)));rw[a7]at h l;have h0:Ints w5 (a_ L (a+1) (a+1)) (a+1) (He ⟨a,r,s⟩ N):=by
    refine⟨_,_,rfl,.inr ⟨L,0,_,_,rfl,h,λi e9=>?_⟩⟩;rw[RQ,cf _ _ _ aa];unfold He;by_cases e:i=a
    .rw [ak e,ak e]
    .rw [al e,al e,ak aa,X.1]
   have a8:Lo.lo<=w5.heap.size:=QO (QO (QO q.2.2 q.2.1.size) d.2.1.size) l.size;have y:=aS l a8 a4 d6;have m:=(l.block G a4).trans d.1;have d8:=g1.out _ w5 h0 a8;have d9:RH (aD 28 #[a_ L k k] w5 (HX (a+1) (He ⟨a,r,s⟩ N) w5)):=by rw[<-g4];exact d8
   have e0:=ad a7;clear b0 a5 a6 a0 h l a7 h0 a8 d8;have g5:=Z_ m;clear m;go_wp2_with fail;rw[show(2:Int)+(N:Int)=((2+N:Nat):Int)by omega,e0.out];refine d9.mono ?_;rintro e w6 ⟨B,rfl,K,a9⟩;have m:w5.heap[G]?=some (ao #[.pointer none,.pointer none,ae R,ae a,ae r,ae s] 73):=(y.1.block G y.2.2.1).trans d.1;have z:=(a9.block _ g5).trans m;have h6:=heap_setCell_same w6 G 0 _ 73 (aq B) z;obtain⟨w7,n⟩:=ah (w6.setCell (ag G 0) (aq B));rw[n]at h6;have b4:Lo.lo<=G:=QO (QO q.2.2 q.2.1.size) d.2.2;have o:aB w7 B (By.part (a+1) (He ⟨a,r,s⟩ N) (a+1)):=by rw[<-n];exact K.fn (T:= [73]) ((Fr.refl _ _ _).set (p:=ag G 0) z rfl b4 _) rfl
   have A:SM t.heap.size t w7:=by have h:=d.2.1;have h2:SM t.heap.size F w5:=y.1.mono (QO d.2.2 (TY y.2.2.1));rw[<-n];exact((h.trans h2).trans (a9.mono (h.trans h2).size)).setCell (p:=ag G 0) d.2.2 _
   have e1:=(A.block D d3).trans q.1;have g6:=ad (λW (e8:SM w7.heap.size w7 W)=>g3.out B _ W (o.below e8) lN (QO (QO q.2.2 q.2.1.size) (QO A.size e8.size)));have H7:=aS h6 A b4 e1;have e3:=ad n;obtain⟨q0,q1,q2⟩:=cr z;clear K a9 m z b1 b3 c0 h6 n o A b4 e1;go_wp2_with fail;rw[e3.out];obtain⟨a0,a1,a2⟩:=cr H7.1;obtain⟨b0,b1,b2⟩:=cr H7.2.2.2;clear q0 q1;have i4:¬D=G:=by have:=d.2.2;omega
   have g7:¬G=D:=by have:=d.2.2;omega
   go_region_held3(λE=>E.cell? (ag G 0)=some (aq B)/\E.cell? (ag D 0)=some (ae a)/\E.cell? (ag D 1)=some (ae r)/\E.cell? (ag D 2)=some (ae s)) ((simp[*,go_sem];done)) (first|(go_at_call 29;refine(g6 _ bC).mono ?_;rintro e w8 ⟨Z,rfl,z1,z2,z3,z4,z5⟩;have b5:RH (Fr fT aF w7 w8):=(Fr.af bC).tr z4;have f:=b5.hp H7.1 rfl;have e4:=b5.hp H7.2.2.2 rfl;have H8:=bX z1 z2 z3 z5 f;obtain⟨p0,p1,p2⟩:=cr f;obtain⟨r0,r1,r2⟩:=cr e4;clear z1 z2 z3 z4 z5 f e4));have O:yZ ⟨a,r,s⟩ N e7 w (.returned (.tuple #[aq G,aG 0])) (w8.setCell (ag G 1) (aq Z.A)):=by
    obtain⟨z1,z2,z3,z5,f⟩:=H8.out;have g8:w.heap.size<=t.heap.size:=q.2.1.size;have e5:w.heap.size<=G:=QO g8 d.2.2;have i5:=heap_setCell_same w8 G 1 _ 73 (aq Z.A) f;refine⟨G,Z,rfl,?_,z2,z3,e5,?_,z5.fr (T:= [73]) ((Fr.refl _ _ _).set (p:=ag G 1) f rfl H7.2.2.1 _) rfl⟩
    .unfold cw;rw[i5,z1,X.1];rfl
    .have h:Fr fT aF w w7:=(Fr.af q.2.1).tr (Fr.af H7.2.1);exact(h.tr b5).low (Below.setCell aj (p:=ag G 1) (QP G) _) e5
   have e6:=ad O;clear O p0 p1 p2 r0 g7;go_wp2_with fail;go_ret2;exact e6
structure Hf[Lo](w:M)(f:Nat)(args:Array QN)(R:Nat->M->Prop):Prop where
 call:∀W,ar w W->aD f args W fun e w'=>∃er:Nat,aK e (.int .u16 er)/\Fr ed aF W w'/\R er w'
 stay:∀er W W',R er W->Fr [46] aF W W'->R er W'
 low:Lo.lo<=w.heap.size
theorem AN[Lo](G:Nat)(Z:bg)(g:au)(t:Nat)(u n x:Int)(pv y:QN)(w:QL)(R:Nat->QL->Prop)(z:cw w G Z g)(H:Hf w 60 #[aq Z.A,pv] R):
  aD 31 #[aq G,fh t u n x pv y] w λe i=>∃a:Nat,aK e (cQ a aU 0)/\Fr ed aF w i/\R a i:=by
 obtain⟨A,bA,m,L,o,p,q,r,b⟩:=pG w t u n x pv y;have c:=(b.block _ (Z_ z)).trans z;obtain⟨a1,a2,a3⟩:=cr q;obtain⟨s1,s2,s3⟩:=cr c;have B:=ad H;have Q:RH (∀W,ar A W->aD 60 #[aq Z.A,pv] W λe i=>∃a:Nat,aK e (.int .u16 a)/\Fr ed aF A i/\R a i):=λW O=>(H.call W (b.trans (O.mono b.size))).mono λe i ⟨a,S,T,U⟩=>⟨a,S,(Fr.af O).tr T,U⟩;have V:=ad ik;have C:RH (∀k,Fr ed aF A k->k.heap[G]?=some (ao #[aq Z.B,aq Z.A,ae g.R,ae g.M,ae g.c,ae g.s] 73)/\k.heap[bA]?=some (ao #[bs t,ae u,ae n,ae x,pv,y] 50)/\k.heap[m]?=some z46):=λk l=>⟨l.hp c rfl,l.hp q rfl,l.hp r rfl⟩;have X:=aS q r c b;have j:=aM L o p;have N:¬G=m:=fI c r ai;have M:¬bA=m:=fI q r ai;clear z H L o p q r b c;go_enter func31,ntmps31;go_wp2_with fail;rw[j.1,j.2.2,j.2.1];go_region_held3(λi=>i.cell? ⟨G,1,none⟩=some (aq Z.A)/\i.cell? ⟨bA,4,none⟩=some (pv)) ((simp[*,go_sem];done)) (first
  |(go_at_call 60;refine(Q _ (by first|exact aj|exact ct aj _)).mono ?_;rintro e k ⟨a,rfl,l,P⟩
    have d:=C.out k l;obtain⟨v1,v2,I⟩:=cr d.1;obtain⟨v4,v5,Y⟩:=cr d.2.1;obtain⟨v7,v8,J⟩:=cr d.2.2;have s:=aM l P d;clear l P d)
  |(go_at_call 21;refine(V a _).mono ?_;rintro e w3 ⟨rfl,f⟩
    have h:ar k w3:=by first|exact f|exact via (ct aj _) f
    obtain⟨u1,u2,u3⟩:=kp h G I;obtain⟨u4,u5,u6⟩:=kp h bA Y;obtain⟨u7,u8,u9⟩:=kp h m J;have D:=ad h;clear h f))
 go_wp2;have E:w.heap.size<=m:=by have:=j.2.2;omega
 have F:=(D.block _ (Z_ s.2.2.2.2)).trans s.2.2.2.2;obtain⟨K,y2,y3⟩:=qy (w:=w) F rfl E B.low (aG a) aU (ae 0);have c0:=(cr K).1 0;have c1:=(cr K).1 1;have c2:=(cr K).1 2;refine RB (v:=cQ a aU 0) (by simp[RV,results31,go_sem,c0,c1,c2]) rfl ⟨a,rfl,y3 (((Fr.af X.2.2.2).tr s.1).then D),B.stay a _ _ (B.stay a _ _ s.2.1 (Fr.af D)) y2⟩
theorem AO[Lo](G:Nat)(Z:bg)(g:au)(r:Nat)(s n t:Int)(pv u:QN)(w:QL)(R:Nat->QL->Prop)(p:cw w G Z g)(H:Hf w 61 #[aq Z.A] R):
  aD 32 #[aq G,fh r s n t pv u] w λe l=>∃a:Nat,aK e (cQ a aU 0)/\Fr ed aF w l/\R a l:=by
 obtain⟨x,bA,y,L,m,o,z,A,b⟩:=pG w r s n t pv u;have i:=(b.block _ (Z_ p)).trans p;obtain⟨r1,r2,r3⟩:=cr p;have B:=ad H;have Q:RH (∀W,ar x W->aD 61 #[aq Z.A] W λe l=>∃a:Nat,aK e (.int .u16 a)/\Fr ed aF x l/\R a l):=λW O=>(H.call W (b.trans (O.mono b.size))).mono λe l ⟨a,S,T,U⟩=>⟨a,S,(Fr.af O).tr T,U⟩;have V:=ad ik;have C:RH (∀h,Fr ed aF x h->aZ h G (ao #[aq Z.B,aq Z.A,ae g.R,ae g.M,ae g.c,ae g.s] 73)/\aZ h bA (ao #[bs r,ae s,ae n,ae t,pv,u] 50)/\aZ h y z46):=λh j=>⟨j.hp i rfl,j.hp z rfl,j.hp A rfl⟩;have X:=aS z A i b;have f:=aM L m o;clear p H L m o z A b i;go_enter func32,ntmps32;go_wp2_with fail;rw[f.1,f.2.2,f.2.1];go_wp2_with(first
  |(go_at_call 61;refine(Q _ (by first|exact aj|exact ct aj _)).mono ?_;rintro e h ⟨a,rfl,j,P⟩
    have c:=C.out h j;obtain⟨v1,v2,v3⟩:=cr c.1;obtain⟨v4,v5,v6⟩:=cr c.2.1;obtain⟨v7,v8,N⟩:=cr c.2.2;have q:=aM j P c;clear j P c)
  |(go_at_call 21;refine(V a _).mono ?_;rintro e M ⟨rfl,d⟩
    have k:ar h M:=by first|exact d|exact via (ct aj _) d
    obtain⟨u7,u8,u9⟩:=kp k y N;have D:=ad k;clear k d))
 have E:w.heap.size<=y:=by have:=f.2.2;omega
 have F:=(D.block _ (Z_ q.2.2.2.2)).trans q.2.2.2.2;obtain⟨K,I,Y⟩:=qy (w:=w) F rfl E B.low (aG a) aU (ae 0);have J:=(cr K).1 0;have c1:=(cr K).1 1;have c2:=(cr K).1 2;refine RB (v:=cQ a aU 0) (by simp[RV,results32,go_sem,J,c1,c2]) rfl ⟨a,rfl,Y (((Fr.af X.2.2.2).tr q.1).then D),B.stay a _ _ (B.stay a _ _ q.2.1 (Fr.af D)) I⟩
theorem El[Lo](G:Nat)(Z:bg)(g:au)(x:Nat)(m n y:Int)(pv z:QN)(w:QL)(R:Nat->QL->Prop)(t:cw w G Z g)(H:Hf w 63 #[aq Z.A,ae m] R):
  aD 33 #[aq G,fh x m n y pv z] w λe i=>∃a:Nat,aK e (cQ a aU 0)/\Fr ed aF w i/\R a i:=by
 obtain⟨A,bA,o,L,p,q,r,s,b⟩:=pG w x m n y pv z;have c:=(b.block _ (Z_ t)).trans t;obtain⟨a1,a2,a3⟩:=cr r;obtain⟨r1,r2,r3⟩:=cr t;obtain⟨s1,s2,s3⟩:=cr c;have B:=ad H;have Q:RH (∀W,ar A W->aD 63 #[aq Z.A,ae m] W λe i=>∃a:Nat,aK e (.int .u16 a)/\Fr ed aF A i/\R a i):=λW O=>(H.call W (b.trans (O.mono b.size))).mono λe i ⟨a,S,T,U⟩=>⟨a,S,(Fr.af O).tr T,U⟩;have V:=ad ik;have C:RH (∀k,Fr ed aF A k->k.heap[G]?=some (ao #[aq Z.B,aq Z.A,ae g.R,ae g.M,ae g.c,ae g.s] 73)/\k.heap[bA]?=some (ao #[bs x,ae m,ae n,ae y,pv,z] 50)/\k.heap[o]?=some z46):=λk l=>⟨l.hp c rfl,l.hp r rfl,l.hp s rfl⟩;have X:=aS r s c b;have j:=aM L p q;have N:¬G=o:=fI c s ai;have M:¬bA=o:=fI r s ai;clear t H L p q r s b c;go_enter func33,ntmps33;go_wp2_with fail;rw[j.1,j.2.2,j.2.1];go_region_held3(λi=>i.cell? ⟨G,1,none⟩=some (aq Z.A)/\i.cell? ⟨bA,1,none⟩=some (ae m)) ((simp[*,go_sem];done)) (first
  |(go_at_call 63;refine(Q _ (by first|exact aj|exact ct aj _)).mono ?_;rintro e k ⟨a,rfl,l,P⟩
    have d:=C.out k l;obtain⟨v1,v2,I⟩:=cr d.1;obtain⟨v4,v5,Y⟩:=cr d.2.1;obtain⟨v7,v8,J⟩:=cr d.2.2;have u:=aM l P d;clear l P d)
  |(go_at_call 21;refine(V a _).mono ?_;rintro e w3 ⟨rfl,f⟩
    have h:ar k w3:=by first|exact f|exact via (ct aj _) f
    obtain⟨u1,u2,u3⟩:=kp h G I;obtain⟨u4,u5,u6⟩:=kp h bA Y;obtain⟨u7,u8,u9⟩:=kp h o J;have D:=ad h;clear h f))
 go_wp2;have E:w.heap.size<=o:=by have:=j.2.2;omega
 have F:=(D.block _ (Z_ u.2.2.2.2)).trans u.2.2.2.2;obtain⟨K,y2,y3⟩:=qy (w:=w) F rfl E B.low (aG a) aU (ae 0);have c0:=(cr K).1 0;have c1:=(cr K).1 1;have c2:=(cr K).1 2;refine RB (v:=cQ a aU 0) (by simp[RV,results33,go_sem,c0,c1,c2]) rfl ⟨a,rfl,y3 (((Fr.af X.2.2.2).tr u.1).then D),B.stay a _ _ (B.stay a _ _ u.2.1 (Fr.af D)) y2⟩
theorem Em[Lo](G:Nat)(Z:bg)(g:au)(u:Nat)(m n x:Int)(pv y:QN)(w:QL)(R:Nat->QL->Prop)(z:cw w G Z g)(H:Hf w 70 #[aq Z.B,ae m,ae n] R):
  aD 37 #[aq G,fh u m n x pv y] w λe i=>∃a:Nat,aK e (cQ a aU 0)/\Fr ed aF w i/\R a i:=by
 obtain⟨A,bA,o,L,p,q,r,s,b⟩:=pG w u m n x pv y;have c:=(b.block _ (Z_ z)).trans z;obtain⟨a1,a2,a3⟩:=cr r;obtain⟨s1,s2,s3⟩:=cr c;have B:=ad H;have Q:RH (∀W,ar A W->aD 70 #[aq Z.B,ae m,ae n] W λe i=>∃a:Nat,aK e (.int .u16 a)/\Fr ed aF A i/\R a i):=λW O=>(H.call W (b.trans (O.mono b.size))).mono λe i ⟨a,S,T,U⟩=>⟨a,S,(Fr.af O).tr T,U⟩;have V:=ad ik;have C:RH (∀k,Fr ed aF A k->k.heap[G]?=some (ao #[aq Z.B,aq Z.A,ae g.R,ae g.M,ae g.c,ae g.s] 73)/\k.heap[bA]?=some (ao #[bs u,ae m,ae n,ae x,pv,y] 50)/\k.heap[o]?=some z46):=λk l=>⟨l.hp c rfl,l.hp r rfl,l.hp s rfl⟩;have X:=aS r s c b;have j:=aM L p q;have N:¬G=o:=fI c s ai;have M:¬bA=o:=fI r s ai;clear z H L p q r s b c;go_enter func37,ntmps37;go_wp2_with fail;rw[j.1,j.2.2,j.2.1];go_region_held3(λi=>i.cell? ⟨G,0,none⟩=some (aq Z.B)/\i.cell? ⟨bA,1,none⟩=some (ae m)/\i.cell? ⟨bA,2,none⟩=some (ae n)) ((simp[*,go_sem];done)) (first
  |(go_at_call 70;refine(Q _ (by first|exact aj|exact ct aj _)).mono ?_;rintro e k ⟨a,rfl,l,P⟩
    have d:=C.out k l;obtain⟨v1,v2,I⟩:=cr d.1;obtain⟨v4,v5,Y⟩:=cr d.2.1;obtain⟨v7,v8,J⟩:=cr d.2.2;have t:=aM l P d;clear l P d)
  |(go_at_call 21;refine(V a _).mono ?_;rintro e w3 ⟨rfl,f⟩
    have h:ar k w3:=by first|exact f|exact via (ct aj _) f
    obtain⟨u1,u2,u3⟩:=kp h G I;obtain⟨u4,u5,u6⟩:=kp h bA Y;obtain⟨u7,u8,u9⟩:=kp h o J;have D:=ad h;clear h f))
 go_wp2;have E:w.heap.size<=o:=by have:=j.2.2;omega
 have F:=(D.block _ (Z_ t.2.2.2.2)).trans t.2.2.2.2;obtain⟨K,y2,y3⟩:=qy (w:=w) F rfl E B.low (aG a) aU (ae 0);have c0:=(cr K).1 0;have c1:=(cr K).1 1;have c2:=(cr K).1 2;refine RB (v:=cQ a aU 0) (by simp[RV,results37,go_sem,c0,c1,c2]) rfl ⟨a,rfl,y3 (((Fr.af X.2.2.2).tr t.1).then D),B.stay a _ _ (B.stay a _ _ t.2.1 (Fr.af D)) y2⟩
structure NZ[Lo](w:M)(A:Nat)(R:Bool->Nat->M->Prop):Prop where
 call:∀W,ar w W->aD 68 #[H A] W fun e w'=>∃(dn:Bool) (er:Nat),aK e (.tuple #[.bool dn,.int .u16 er])/\Fr ed aF W w'/\R dn er w'
 stay:∀dn er W W',R dn er W->Fr [46] aF W W'->R dn er W'
 low:Lo.lo<=w.heap.size
theorem En[Lo](G:Nat)(Z:bg)(g:au)(V:Nat)(X n N:Int)(pv M:QN)(w:QL)(R:Bool->Nat->QL->Prop)(L:cw w G Z g)(H:NZ w Z.A R):
  aD 35 #[aq G,fh V X n N pv M] w λe s=>∃(d:Bool) (b:Nat),Fr ed aF w s/\R d b s/\((b≠0/\aK e (cQ b aU 0))\/(b=0/\∃a c,aK e (cQ 0 (.slice a 1 c) 0)/\cN s (.slice a 1 c) 1 λ_=>if d=true then 1 else 0)):=by
 obtain⟨I,bA,r,Y,C,D,a1,J,h⟩:=pG w V X n N pv M;have O:=(h.block _ (Z_ L)).trans L;obtain⟨r1,r2,r3⟩:=cr L;have o:=ad H;have a2:RH (∀W,ar I W->aD 68 #[aq Z.A] W λe s=>∃(d:Bool) (b:Nat),aK e (.tuple #[.bool d,.int .u16 b])/\Fr ed aF I s/\R d b s):=λW l=>(H.call W (h.trans (l.mono h.size))).mono λe s ⟨d,b,h1,h2,h3⟩=>⟨d,b,h1,(Fr.af l).tr h2,h3⟩;have a3:=ad ik;have a4:=ad J;have P:=ad h;have p:=aM Y C D;clear L H Y C D a1 J h O;go_enter func35,ntmps35;go_wp2_with fail;rw[p.1,p.2.2,p.2.1];have t:w.heap.size<=r:=by have:=p.2.2;omega
 refine(a2 _ aj).mono ?_;rintro e f ⟨d,b,rfl,Q,a0⟩;have u:=Q.hp a4 rfl;have m:=aM Q a0 u;obtain⟨v7,v8,v9⟩:=cr u;clear Q a0 u;by_cases h0:b=0
 .subst h0;cases d
  .go_wp2;obtain⟨i,x,y⟩:=qy (w:=w) m.2.2 rfl t o.low (aG 0) (a_ f.heap.size 1 1) (ae 0);obtain⟨q,j⟩:=ah (((f.setCell (ag r 0) (aG 0)).setCell (ag r 1) (a_ f.heap.size 1 1)).setCell (ag r 2) (ae 0));have S:q.heap.size=f.heap.size:=by rw[<-j];simp
   rw[j]at i x y|-;have l:ar q (q.alloc (ao #[.int .u8 0] 5)):=aI aj _;have z:=(l.block _ (Z_ i)).trans i;have E:=(cr z).1 0;have F:=(cr z).1 1;have K:=(cr z).1 2;have A:cN (q.alloc (ao #[.int .u8 0] 5)) (a_ f.heap.size 1 1) 1 λ_=>0:=⟨_,_,rfl,.inr ⟨_,_,_,_,rfl,by rw[<-S];exact QM _ _,λk a5=>by obtain rfl:k=0:=aa;rfl⟩⟩;refine RB (v:=cQ 0 (a_ f.heap.size 1 1) 0) (by simp[RV,results35,go_sem,E,F,K]) rfl ⟨_,0,(y ((Fr.af P).tr m.1)).then l,o.stay _ 0 _ _ (o.stay _ 0 _ _ m.2.1 x) (Fr.af l),.inr ⟨rfl,_,_,rfl,A⟩⟩
  .go_wp2;obtain⟨i,x,y⟩:=qy (w:=w) m.2.2 rfl t o.low (aG 0) (a_ f.heap.size 1 1) (ae 0);obtain⟨q,j⟩:=ah (((f.setCell (ag r 0) (aG 0)).setCell (ag r 1) (a_ f.heap.size 1 1)).setCell (ag r 2) (ae 0));have S:q.heap.size=f.heap.size:=by rw[<-j];simp
   rw[j]at i x y|-;have l:ar q (q.alloc (ao #[.int .u8 1] 5)):=aI aj _;have z:=(l.block _ (Z_ i)).trans i;have E:=(cr z).1 0;have F:=(cr z).1 1;have K:=(cr z).1 2;have A:cN (q.alloc (ao #[.int .u8 1] 5)) (a_ f.heap.size 1 1) 1 λ_=>1:=⟨_,_,rfl,.inr ⟨_,_,_,_,rfl,by rw[<-S];exact QM _ _,λk a5=>by obtain rfl:k=0:=aa;rfl⟩⟩;refine RB (v:=cQ 0 (a_ f.heap.size 1 1) 0) (by simp[RV,results35,go_sem,E,F,K]) rfl ⟨_,0,(y ((Fr.af P).tr m.1)).then l,o.stay _ 0 _ _ (o.stay _ 0 _ _ m.2.1 x) (Fr.af l),.inr ⟨rfl,_,_,rfl,A⟩⟩
 .have a6:¬(b:Int)=0:=aa;go_wp2_with(go_at_call 21;refine(a3 b _).mono ?_;rintro e w3 ⟨rfl,B⟩;obtain⟨u7,u8,u9⟩:=kp B r v9;have T:=ad B;clear B);have U:=(T.block _ (Z_ m.2.2)).trans m.2.2;obtain⟨i,x,y⟩:=qy (w:=w) U rfl t o.low (aG b) aU (ae 0);have E:=(cr i).1 0;have F:=(cr i).1 1;have K:=(cr i).1 2;refine RB (v:=cQ b aU 0) (by simp[RV,results35,go_sem,E,F,K]) rfl ⟨d,b,y (((Fr.af P).tr m.1).then T),o.stay d b _ _ (o.stay d b _ _ m.2.1 (Fr.af T)) x,.inl ⟨h0,rfl⟩⟩
theorem pH(h:n=30\/n=31\/n=32\/n=33\/n=34\/n=35\/n=36\/n=37\/n=38\/n=39):∀a w,(UY n a).run prog w=.ok (.enter n a) w:=by
 rcases h with rfl|rfl|rfl|rfl|rfl|rfl|rfl|rfl|rfl|rfl
 .exact RP func30 aE rfl
 .exact RP func31 aE rfl
 .exact RP func32 aE rfl
 .exact RP func33 aE rfl
 .exact RP func34 aE rfl
 .exact RP func35 aE rfl
 .exact RP func36 aE rfl
 .exact RP func37 aE rfl
 .exact RP func38 aE rfl
 .exact RP func39 aE rfl
theorem pI[Lo](w:M)(G f:Nat)(z:Bool)(k:Nat)(r n s:Int)(pv t:QN)(Z:bg)(g:au)(R:Nat->QN->M->Prop)(u:f=30\/f=31\/f=32\/f=33\/f=34\/f=35\/f=36\/f=37\/f=38\/f=39)(K:GZ (k:Nat)=some (.agg #[.func (.func f) #[] #[],.bool z]))(A:cw w G Z g)(l:∃b,aB w Z.B b)(L:∀W,ar w W->aD f #[H G,fh k r n s pv t] W λe i=>∃d a m c,aK e (cQ d (.slice a m c) 0)/\Fr ed aF W i/\R d (.slice a m c) i)(O:∀d v W,R d v W->∃b,aB W Z.B b)(B:∀d v W q,R d v W->Fr [46] aF W q->R d v q)(P:Lo.lo<=w.heap.size):
  aD 11 #[H G,fh k r n s pv t] w λe i=>∃d a m c y,aK e (cQ d (.slice a m c) y)/\Fr ed aF w i/\R d (.slice a m c) i:=by
 refine(IA w G f z k r n s pv t Z g (λd v W=>Fr ed aF w W/\R d v W) ⟨pH u,A,l,λW C=>?_,λd v W q h l=>⟨h.1.then l,B d v W q h.2 (Fr.af l)⟩,λd v W p o T x h Q j=>⟨h.1.new j x,B d v W _ h.2 ((Fr.refl [46] aF W).set (p:=ag p o) Q rfl (QO P j) x)⟩⟩ K).mono λe i h=>h;refine(L W C).mono ?_;rintro e i ⟨d,a,m,c,S,D,E⟩;have F:=(Fr.af C).tr D;exact⟨d,a,m,c,S,⟨Z,F.hp A rfl,O d _ i E⟩,D.tm,F,E⟩
theorem rG(x:Nat)(w:M):aD 17 #[bs x] w λe q=>∃b,aK e (a_ b 128 128)/\w.heap.size<=b/\q.heap[b]?=some (N (cB 128 λ_=>x) 5)/\ar w q:=by
 have s:∀w:M,(TL 41 (Y 128) (Y 128)).run prog w=.ok (a_ w.heap.size 128 128) (w.alloc (N (cB 128 λ_=>0) 5)):=λw=>nX w 128 ai;obtain⟨h,j⟩:=ah (w.alloc (N (cB 128 λ_=>0) 5));have f:ar w h:=by rw[<-j];exact aI aj _
 have c:h.heap[w.heap.size]?=some (N (cB 128 λ_=>0) 5):=by rw[<-j];exact QM _ _
 obtain⟨D,d⟩:=ah w.heap.size;rw[d]at c;have l:RH (h.heap[D]?=some (N (cB 128 λi=>if i<0 then x else 0) 5)/\ar w h):=⟨c,f⟩;have a:=aA j d;clear f c j d;go_enter func17,ntmps17;go_wp2_with fail
 try simp only[a.out.1,a.out.2]
 go_wp2;go_loopw [4] (λi wr=>∃k:Nat,i= Y k/\k<=128/\RH (wr.heap[D]?=some (N (cB 128 λi=>if i<k then x else 0) 5)/\ar w wr)) (λi _=>128-(intOf i).toNat)
 case atStart=>exact⟨0,rfl,J,l⟩
 case round=>
  obtain⟨k,rfl,v,g⟩:=hrel;obtain⟨m,n,c3⟩:=cr g.1;by_cases o:k<128
  .have t:(k:Int)<128:=J;have c4:=(m k).trans (eu 128 _ k o);have c5:=n k;have u:RH ((wr.setCell (R D k) (bs x)).heap[D]?=some (N (cB 128 λi=>if i<k+1 then x else 0) 5)/\ar w (wr.setCell (R D k) (bs x))):=by
    refine⟨?_,g.2.setCell (p:=R D k) (by rw[a.2];exact QP _) _⟩;rw[heap_setCell_same wr D k _ 5 _ g.1,tE];congr 2;exact ko _ _ _ λy _=>by
     by_cases e:y=k
     .simp [e]
     .simp only[al e];by_cases r:y<k
      .rw [ak r,ak J]
      .rw [al r,al J]
   clear m n;go_wp2;go_roundw
   case rel=>exact⟨k+1,by go_num,J,u⟩
   case measure=>simp[intOf];omega
  .obtain rfl:k=128:=J;clear m n;go_wp2;go_ret;refine⟨D,rfl,RY a.2,?_,g.2⟩;rw[g.1];congr 2
def AP(w:M)(v:QN)(L:Nat)(d e:aO):Prop:=
 ∃a c,v=.slice a L c/\(L=0\/∃b o,a=some (R b o)/\∀i,i<L->w.cell? ⟨b,o+i*2,none⟩=some (.int .u16 (d i:Nat))/\w.cell? ⟨b,o+i*2+1,none⟩=some (.int .u8 (e i:Nat)))
def cD(g:au)(L:Nat)(a b:aO):bp:=⟨min L 100,λi=>a i%g.B,λi _=>b i⟩
def fJ(f:dj)(k:Nat):Nat:=f (k/128) (k%128)
def IC:QN->Prop
 | .slice _ n c=>n<=c
 |_=>False
structure Mf(w:QL)(P G:Nat)(g:au)(N:Nat)(lz:Bool)(f:dj)(aw:Int)(wn:Bool):Prop where
 aL:∃wv bv uv la,w.heap[P]? =some (ao #[Y g.M,Y g.c,Y g.s,Y N,.bool lz,H G,wv,bv,uv,Y g.B,Y aw,.bool wn,.bool true,.int .u16 la,.bool false] 44)/\cN w wv (g.B*128) (fJ f)/\IC wv
section
theorem xE(n:Nat)(f:aO)(i v:Nat):(az n f).set i (bs v)=az n λj=>if j=i then v else f j:=by
 apply TZ;intro j;rw[List.getElem?_set];by_cases a:j<n
 .rw [a' _ _ _ a,a' _ _ _ a,aH];by_cases e:i=j
  .subst e;simp[a]
  .rw [al e,al (Ne.symm e)]
 .rw [RO (l:=az n _) (by rw[aH];omega),RO (l:=az n _) (by rw[aH];omega),aH];by_cases e:i=j
  .rw [ak e,al J]
  .rw [al e]
def nP(n:Nat)(a sb:aO):List QN:=(UD n).flatMap λj=> [Y (a j:Nat),.slice (some ⟨sb j,0,none⟩) 128 128]
theorem hO(n:Nat)(a sb:aO):nP (n+1) a sb=nP n a sb++ [Y (a n:Nat),.slice (some ⟨sb n,0,none⟩) 128 128]:=by unfold nP;rw[UW,VI];rfl
theorem pJ{a sb sb':aO}:∀{n:Nat},(∀j,j<n->sb j=sb' j)->nP n a sb=nP n a sb'
 |0,_=>rfl
 |n+1,h=>by rw[hO,hO,pJ λj b=>h j J,h n J]
structure Eo(g:au)(B:bp)(f:dj)(bn n rn ab ac hb rb L0:Nat)(w:M)(i:Nat)(pl:QN)(sb:aO)(W:M):Prop where
 du:ar w W
 base:w.heap.size<=ab/\ab<L0/\hb<L0/\rb<L0/\w.heap.size<=hb/\w.heap.size<=rb/\hb≠rb/\L0<=W.heap.size
 all:W.ownsRow w.heap.size 5 1 (a_ ab n ac) n (az n (fJ (ij B f i)))
 has:W.heap[hb]? =some (N (br bn fun b=> .bool (gL B i b)) 4)
 rows:W.heap[rb]? =some (N (br rn fun r=> .bool (aX g B i r)) 4)
 put:W.ownsRow L0 61 2 pl i (nP i B.aL sb)
 sec:∀j,j<i->L0<=sb j/\∃x,(∀k,B.da j k=x)/\W.heap[sb j]? =some (N (cB 128 fun _=>x) 5)
theorem Eo.below{g:au}{B:bp}{f:dj}{bn n rn ab ac hb rb L0:Nat}{w:M}{i:Nat}{pl:QN}{sb:aO}{W b:M}(h:Eo g B f bn n rn ab ac hb rb L0 w i pl sb W)(a:ar W b):Eo g B f bn n rn ab ac hb rb L0 w i pl sb b:=
 ⟨h.du.trans (a.mono h.du.size),⟨h.base.1,h.base.2.1,h.base.2.2.1,h.base.2.2.2.1,h.base.2.2.2.2.1,h.base.2.2.2.2.2.1,h.base.2.2.2.2.2.2.1,QO h.base.2.2.2.2.2.2.2 a.size⟩,aP a h.all,(a.block _ (Z_ h.has)).trans h.has,(a.block _ (Z_ h.rows)).trans h.rows,aP a h.put,λj c=>⟨(h.sec j c).1,(h.sec j c).2.imp λ_ q=>⟨q.1,(a.block _ (Z_ q.2)).trans q.2⟩⟩⟩
structure MO(g:au)(B:bp)(f:dj)(bn n rn ab ac hb rb L0:Nat)(w:M)(i:Nat)(pl:QN)(sb:aO)(W:M):Prop where
 du:ar w W
 base:w.heap.size<=ab/\ab<L0/\hb<L0/\rb<L0/\w.heap.size<=hb/\w.heap.size<=rb/\hb≠rb/\L0<=W.heap.size
 all:W.ownsRow w.heap.size 5 1 (a_ ab n ac) n (az n (fJ (ij B f i)))
 has:W.heap[hb]? =some (N (br bn fun b=> .bool (gL B i b)) 4)
 rows:W.heap[rb]? =some (N (br rn fun r=> .bool (aX g B i r)) 4)
 put:W.ownsRow L0 61 2 pl (i+1) (nP (i+1) B.aL sb)
 sec:∀j,j<i+1->L0<=sb j/\∃x,(∀k,B.da j k=x)/\W.heap[sb j]? =some (N (cB 128 fun _=>x) 5)
section
variable {g:au} {B:bp} {f:dj} {bn n rn ab ac hb rb L0 k sg x s:Nat} {w w4 w4' w5 W:QL} {pa:Option TF} {pc:Nat} {v' pl:QN} {sb:aO}
theorem Eo.take(h:Eo g B f bn n rn ab ac hb rb L0 w k (.slice pa k pc) sb w4)(p:L0<=sg)(q:w4.heap[sg]?=some (N (cB 128 λ_=>x) 5))(A:∀j,B.da k j=x)(d:ar w4 w4')(i:w5.ownsRow L0 61 2 v' (k+1) (nP k B.aL sb++ [Y (B.aL k:Nat),a_ sg 128 128]))(a:nI s w4' (.slice pa k pc) k 1 v' w5):MO g B f bn n rn ab ac hb rb L0 w k v' (λj=>if j=k then sg else sb j) w5:=by
 have b:=h.below d;have c:∀{x T:Nat} {C:Array QN} {D:Nat × Nat},w4'.heap[x]?=some (.cells C T D)->T≠61->(SF pa k pc).ownBlock≠some x:=λl r e=>by obtain⟨-,E,F,t⟩:=fu b.put e;rw[l]at t;exact r (VF (RT t)).2.1
 have G:w.heap.size<=L0:=by have:=b.base;omega
 have m:ar w w5:=a.below b.du b.du.size λz o=>QO G (fu b.put o).1;have K:w4'.heap.size<=w5.heap.size:=(a.below (SV L0 w4') b.base.2.2.2.2.2.2.2 λz o=>(fu b.put o).1).size;refine⟨m,?_,a.cS b.all λz o e=>?_,a.heap b.has (c b.has ai),a.heap b.rows (c b.rows ai),?_,λj u=>?_⟩
 .have:=b.base;exact⟨this.1,this.2.1,this.2.2.1,this.2.2.2.1,this.2.2.2.2.1,this.2.2.2.2.2.1,this.2.2.2.2.2.2.1,J⟩
 .have l:=(fu b.put e).1;have r:ab=z:=RT o;have:=b.base;omega
 .rw [hO,ak rfl,pJ (sb':=sb) λj u=>al (XQ u)];exact i
 .by_cases e:j=k
  .subst e;rw[ak rfl];have l:=(d.block _ (Z_ q)).trans q;exact⟨p,x,A,a.heap l (c l ai)⟩
  .rw [al e];obtain⟨L,y,O,v⟩:=b.sec j J;exact⟨L,y,O,a.heap v (c v ai)⟩
theorem MO.fin(h:MO g B f bn n rn ab ac hb rb L0 w k pl sb w5)(d:Out (λz=>z=ab) w5 W)(i:W.ownsRow w.heap.size 5 1 (a_ ab n ac) n (az n (fJ (ij B f (k+1)))))(A:B.aL k<bn)(C:g.row (B.aL k)<rn):
  Eo g B f bn n rn ab ac hb rb L0 w (k+1) pl sb ((W.setCell ⟨hb,B.aL k,none⟩ dU).setCell ⟨rb,g.row (B.aL k),none⟩ dU)/\W.heap[hb]?=some (N (br bn λb=>.bool (gL B k b)) 4)/\W.heap[rb]?=some (N (br rn λr=>.bool (aX g B k r)) 4):=by
 have a:=h.base;have q:hb≠ab:=λe=>by have l:=h.has;rw[e]at l;obtain⟨-,D,E,c⟩:=fu h.all (show(a_ ab n ac).ownBlock=some ab from rfl);rw[l]at c;exact absurd (VF (RT c)).2.1 ai
 have t:rb≠ab:=λe=>by have l:=h.rows;rw[e]at l;obtain⟨-,D,E,c⟩:=fu h.all (show(a_ ab n ac).ownBlock=some ab from rfl);rw[l]at c;exact absurd (VF (RT c)).2.1 ai
 have u:=d.heap h.has q;have v:=d.heap h.rows t;have F:=heap_setCell_same W hb (B.aL k) _ 4 dU u;have G:=(RW W ⟨hb,B.aL k,none⟩ rb dU (Ne.symm a.2.2.2.2.2.2.1)).trans v;have K:=heap_setCell_same _ rb (g.row (B.aL k)) _ 4 dU G;have x4:=(RW _ ⟨rb,g.row (B.aL k),none⟩ hb dU a.2.2.2.2.2.2.1).trans F;have m:Out (λz=>z=hb\/z=rb) W ((W.setCell ⟨hb,B.aL k,none⟩ dU).setCell ⟨rb,g.row (B.aL k),none⟩ dU):=((Out.refl (λz=>z=hb\/z=rb) W).setCell (p:=⟨hb,B.aL k,none⟩) (λ_=>.inl rfl) _).setCell (p:=⟨rb,g.row (B.aL k),none⟩) (λ_=>.inr rfl) _;refine⟨⟨?_,⟨a.1,a.2.1,a.2.2.1,a.2.2.2.1,a.2.2.2.2.1,a.2.2.2.2.2.1,a.2.2.2.2.2.2.1,QO (QO a.2.2.2.2.2.2.2 d.size) m.size⟩,m.own i λz o e=>?_,?_,?_,?_,λj L=>?_⟩,u,v⟩
 .refine ((h.du.trans (d.below (λz _ e=>?_) h.du.size))).trans (m.below (λz _ e=>?_) (QO h.du.size d.size))
  .rw [e];exact a.1
  .rcases e with e|e<;>rw[e]
   .exact a.2.2.2.2.1
   .exact a.2.2.2.2.2.1
 .have c:ab=z:=RT o;rcases e with e|e
  .exact q (e.symm.trans c.symm)
  .exact t (e.symm.trans c.symm)
 .rw [x4,eY];congr 2;apply congrArg;funext b;rw[gL];by_cases e:b=B.aL k
  .rw [ak e,e];simp
  .rw [al e,show(B.aL k==b)=false from beq_eq_false_iff_ne.2 (Ne.symm e),Bool.false_or]
 .rw [K,eY];congr 2;apply congrArg;funext r;rw[aX];by_cases e:r=g.row (B.aL k)
  .rw [ak e,e];simp
  .rw [al e,show(g.row (B.aL k)==r)=false from beq_eq_false_iff_ne.2 (Ne.symm e),Bool.false_or]
 .refine m.own (d.own h.put λz o e=>?_) λz o e=>?_
  .have:=(fu h.put o).1;omega
  .have:=(fu h.put o).1;rcases e with e|e<;>omega
 .obtain ⟨O,y,P,Q⟩:=h.sec j L;exact⟨O,y,P,m.heap (d.heap Q J) (λe=>by rcases e with e|e<;>omega)⟩
end
theorem Ep(n:Nat)(a sb:aO){j:Nat}(d:j<n):(nP n a sb)[j*2]?=some (Y (a j:Nat))/\(nP n a sb)[j*2+1]?=some (.slice (some ⟨sb j,0,none⟩) 128 128):=by
 have b:∀n,(nP n a sb).length=n*2:=λn=>by
  induction n with
  |zero=>rfl
  |succ n c=>rw[hO,RE,c];simp;omega
 induction n with
 |zero=>omega
 |succ n c=>
  rw[hO];by_cases e:j=n
  .subst e;rw[RK (by rw[b];omega),RK (by rw[b];omega),b,Nat.sub_self,show j*2+1-j*2=1 by omega];exact⟨rfl,rfl⟩
  .rw [RN (by rw[b];omega),RN (by rw[b];omega)];exact c J
theorem Eo.N_{g:au}{B:bp}{f:dj}{bn n rn ab ac hb rb L0 i:Nat}{w W:M}{pl:QN}{sb:aO}(h:Eo g B f bn n rn ab ac hb rb L0 w i pl sb W)(o:i=B.n):gQ W pl B:=by
 subst o;rcases h.put.2 with⟨e,d⟩|⟨p,b,a,e,-,q,r,A,C,t⟩
 .exact ⟨none,0,by rw[e,d],J,.inl d⟩
 .refine ⟨_,b,e,r,.inr ⟨p,0,a,_,rfl,q,λj l=>?_⟩⟩;have m:∀k,k<B.n*2->a[k]?=(nP B.n B.aL sb)[k]?:=λk c=>by rw[<-t,TT,ak c];simp
  obtain⟨u,v⟩:=Ep B.n B.aL sb l;obtain⟨-,x,y,z⟩:=h.sec j l;rw[RQ];refine⟨(m _ J).trans u,_,(m _ J).trans v,sb j,0,128,_,_,rfl,QP _,z,λk c=>?_⟩;rw[RQ,eu _ _ _ c,y k]
theorem vE(w:M)(n:Nat)(h:n<=1000000):(TL 56 (Y (n:Int)) (Y (n:Int))).run prog w=.ok (a_ w.heap.size n n) (w.alloc (N (br n λ_=>.bool false) 4)):=by
 obtain⟨d,j,a,b,c⟩:=SN Ig;have:=run_make (P:=prog) w 56 4 d iD underlying56 j a .i64 .i64 n n J J (by rw[c];omega) J;rw[this,b,UI];show ZE _ (w.alloc (N (UB #[.bool false] n) 4))=_;have e:UB #[.bool false] n=br n λ_=>.bool false:=by
  apply Array.ext
  .simp [UB,br]
  .intro i l m;have:i%1=0:=YP i;simp[UB,br,this]
 rw[e];rfl
theorem au.J_{g:au}(h:g.ok):g.B<=65536:=by have a:=h.m16;unfold au.B au.E;exact QO (TJ h.gP (TJ (show g.M-1<=16 by omega) h.qd)) ai
theorem au.Er{g:au}(h:g.ok):1<=g.B:=by have a:=h.m3;unfold au.B au.E;exact TJ h.s1 (TJ (show 1<=g.M-1 by omega) h.c1)
theorem pK(g:au)(B:bp):∀n,n<=100->fW g B n<=2*n
 |0,_=>QP _
 |n+1,h=>by have:=pK g B n J;unfold fW;split<;>split<;>omega
theorem J':(prog.info? 61).map (λi=>(i.zero,i.size,i.bytes))=some (some (.agg #[Y 0,aU]),2,32):=aE
theorem Hg(P G:Nat)(g:au)(N:Nat)(n6:Bool)(f:dj)(n7:Int)(n8:Bool)(m0:QN)(L:Nat)(m l:aO)(w:QL)(h:Mf w P G g N n6 f n7 n8)(h8:g.ok)(h9:AP w m0 L m l)(m1:L<=20000)(i0:∀i,i<L->m i<65536):
  aD 23 #[aq P,m0] w λe i1=>∃pv i2,aK e (.tuple #[pv,i2,ae (2*fW g (cD g L m l) (cD g L m l).n+1:Nat)])/\gQ i1 pv (cD g L m l)/\cN i1 i2 (g.B*128) (fJ (ij (cD g L m l) f (cD g L m l).n))/\ar w i1/\IC i2:=by
 obtain⟨n9,i3,i4,a0,i5⟩:=SN j';obtain⟨s0,s1,s2,s3,d8,a1,o0⟩:=h.aL;obtain⟨s4,wc,rfl,m2⟩:=a1;have i6:=au.Er h8;have i7:=au.J_ h8;obtain⟨b5,o5,i8,i9,rfl,e0,a2⟩:=m2.resolve_left aa;obtain⟨B,j0⟩:=ah g.B;obtain⟨n,j1⟩:=ah (B*128);rw[j0]at d8 a2 i6 i7;rw[j1]at d8 a2;have j2:RH (∀j u,(az n (fJ f))[j]?=some u->w.cell? (((ag b5 o5):TF).add j)=some u):=λj u b3=>by
  by_cases f0:j<n
  .rw [a' _ _ _ f0]at b3;rw[iK,<-b3];exact(RD w b5 (o5+j) i8 5 i9 e0).trans (a2 j f0)
  .rw [RO (by rw[aH];omega)]at b3;cases b3
 obtain⟨p1,p2,p3⟩:=cr d8;have o1:∀w:QL,(TL 56 (ae (B:Int)) (ae (B:Int))).run prog w=.ok (a_ w.heap.size B B) (w.alloc (ao (br B λ_=>.bool false) 4)):=λw=>vE w B aa;have j3:=au.g_ h8;obtain⟨R,b7⟩:=ah g.R;rw[b7]at j3;have m3:∀w:QL,(TL 56 (ae (R:Int)) (ae (R:Int))).run prog w=.ok (a_ w.heap.size R R) (w.alloc (ao (br R λ_=>.bool false) 4)):=λw=>vE w R aa;have s5:QQ.wrap ((g.s:Int)*(g.c:Nat))=((R:Nat):Int):=by rw[show(g.s:Int)*(g.c:Nat)=((R:Nat):Int)by rw[<-b7];unfold au.R;rw[TS]];go_arith
 have K:=jY d8 h8 h9 m1 j0 j1 b7;obtain⟨j4,o2,U,f1⟩:=id h9;rw[U];have o3:=ad U;have b8:=ad (Z_ d8);have f2:RH (∀wr,ar w wr->∀i,i<L->∃b o,j4=some (ag b o)/\wr.cell? ⟨b,o+i*2,none⟩=some (.int .u16 (m i:Nat))/\wr.cell? ⟨b,o+i*2+1,none⟩=some (.int .u8 (l i:Nat))):=λwr hb i m4=>by obtain⟨b,o,e,q⟩:=f1.resolve_left aa;exact⟨b,o,e,(Out.af (S:=λ_=>False) hb).cell (q i m4).1 id,(Out.af (S:=λ_=>False) hb).cell (q i m4).2 id⟩
 clear f1;have m5:n<=8388608:=aa;have o4:0<n:=aa;clear h m2 e0 a2 d8 h9 m1 U j1 b7 j0;obtain⟨c,a,d⟩:=g;go_enter func23,ntmps23;go_wp2_with(first
  |(at_builtin;refine aT _ rfl _ _ 41 rfl w.heap.size 5 n9 (.int .u8 0) 1 1 UX i3 i4 a0 i5 rfl ai aU 0 [] rfl (SS _ _ _ _) (ag b5 o5) n _ (az n (fJ f)) rfl (by rw[aH,UI]) j2 (df _ _) aa (by unfold UT;omega) aa (QP _) ?_;intro v' w1 v A
    simp only[RQ,VE]at v A;have a3:ar w w1:=A.below aj (QP _) (λk j5=>by cases j5);obtain⟨⟨ac,rfl⟩,-⟩:=A.resolve_left (by rintro⟨s6,o6,e,-⟩;cases e);simp only[RQ]at v;obtain⟨Q,q2,q3⟩:=kp a3 P p3;have H1:=aA v a3;have j6:RH (aZ w1 P _):=(a3.block P p3).trans K.1;clear v A a3))
 obtain⟨w2,V⟩:=ah (w1.alloc (ao (br B λ_=>.bool false) 4));have a4:ar w1 w2:=by rw[<-V];exact aI aj _
 have f3:aZ w2 w1.heap.size (ao (br B λ_=>.bool false) 4):=by rw[<-V];exact QM _ _
 have f4:w2.heap.size=w1.heap.size+1:=by rw[<-V];simp
 rw[V];clear V Q q2;obtain⟨Q,q2,q4⟩:=kp a4 P q3;have b9:=(a4.block P q3).trans j6;obtain⟨r1,r2,r3⟩:=cr b9;have H2:=aS a4 f3 f4 b9;clear a4 f3 f4 b9 Q q2 q3 q4 p1 p3;go_region;obtain⟨w3,X⟩:=ah ((w2.alloc (ao (br R λ_=>.bool false) 4)).drew);have c0:ar w2 w3:=by rw[<-X];exact aV (aI aj _)
 have f5:aZ w3 w2.heap.size (ao (br R λ_=>.bool false) 4):=by rw[<-X];exact QM _ _
 have j7:w3.heap.size=w2.heap.size+1:=by rw[<-X];simp
 rw[X];have a0:=Z_ H2.2.1;have f6:=H1.2.size;have Z:=H2.1.trans (c0.mono H2.1.size);obtain⟨ab,a5⟩:=ah w.heap.size;obtain⟨hb,c1⟩:=ah w1.heap.size;obtain⟨rb,c2⟩:=ah w2.heap.size;have f7:ab<w1.heap.size:=by obtain⟨-,cs,fr,q⟩:=fu H1.1 (show(a_ w.heap.size n ac).ownBlock=some w.heap.size from rfl);rw[<-a5];exact Z_ q
 have c3:RH (Eo ⟨c,a,d⟩ (cD ⟨c,a,d⟩ L m l) f B n R ab ac hb rb w3.heap.size w 0 aU (λ_=>0) w3):=by
  refine⟨H1.2.trans (Z.mono f6),⟨aa,aa,aa,aa,aa,aa,aa,QP _⟩,?_,?_,?_,SS _ _ _ _,λj b3=>aa⟩
  .rw [<-a5];exact aP Z H1.1
  .rw [<-c1];exact(c0.block _ a0).trans H2.2.1
  .rw [<-c2];exact f5
 simp only[a5,c1,c2];obtain⟨L0,f8⟩:=ah w3.heap.size;rw[f8]at c3;clear c0 f5 j7 X a0 f6 Z c1 c2 f7 r1 f8 a5;have m6:RH ((cD ⟨c,a,d⟩ L m l).n=min L 100):=rfl;go_wp2;go_loopw [7,11,12] (λpl o7 i wr=>∃(k:Nat) (sb:aO),i= ae k/\k<=min L 100/\o7= ae (fW ⟨c,a,d⟩ (cD ⟨c,a,d⟩ L m l) k:Nat)/\RH (Eo ⟨c,a,d⟩ (cD ⟨c,a,d⟩ L m l) f B n R ab ac hb rb L0 w k pl sb wr)) (λ_ _ i _=>min L 100-(intOf i).toNat)
 case atStart=>exact⟨0,λ_=>0,rfl,QX _,rfl,c3⟩
 case round=>
  clear c3;obtain⟨k,sb,rfl,j5,rfl,c4⟩:=hrel;have a6:=(c4.du.block P b8).trans K.1;obtain⟨p1,p2,p3⟩:=cr a6;by_cases c5:k<min L 100
  .have a7:k<L:=aa;have o8:(k:Int)<(L:Int):=aa;have o9:(k:Int)<100:=aa;obtain⟨s7,s8,rfl,x1,x2⟩:=f2.out wr c4.du k a7;have p0:XE ((m k:Nat):Int)=((m k:Nat):Int):=by have:=i0 k a7;go_arith
   obtain⟨r,a8⟩:=ah (m k%B);have c6:r<B:=by rw[<-a8];exact SB _ aa
   have f9:RH ((cD ⟨c,a,d⟩ L m l).aL k=r):=by show m k%au.B ⟨c,a,d⟩=_;rw[K.2.2.2.2.1,a8]
   have g0:RH (B*128=n):=K.2.2.2.2.2.1;have p5:((m k:Nat):Int).tmod (B:Nat)=((r:Nat):Int):=by rw[<-a8];exact SK _ _
   have m7:=aM c5 a7 a6;clear a6 c5 a8;go_wp2;go_quiet(fail);have a9:ar wr (wr.drewN nq):=ct aj _;obtain⟨m8,g1⟩:=ah (wr.drewN nq);rw[g1]at a9|-;have b0:=ad (c4.below a9);obtain⟨y1,y2,y3⟩:=kp a9 P p3;obtain⟨p6,p7,j8,x3,x4⟩:=f2.out m8 b0.du k a7;cases j8;have j9:=ad (rG (l k) m8);obtain⟨pa,pc,rfl,-⟩:=av b0.put;clear g1 a9 p1 p3 x1;obtain⟨p8,k0,l0,l1,l2⟩:=SN J';go_wp2_with(first
    |(go_at_call 17;refine j9.mono ?_;rintro e w4 ⟨sg,rfl,g2,g3,c7⟩
      have H4:=aS g2 g3 c7 (b0.below c7);clear g2 g3 c7)
    |(at_builtin;refine aT _ rfl _ _ 48 rfl L0 61 p8 (.agg #[ae 0,aU]) 2 32 underlying48 k0 l0 l1 l2 rfl ai (.slice pa k pc) k _ rfl (aP (aI aj _) H4.2.2.2.put) (ag w4.heap.size 0) 1 1 [ae r,a_ sg 128 128] rfl rfl (SI (cs:= #[ae r,a_ sg 128 128]) (t:=61) (fr:=(0,0)) (QM w4 _)) (by intro u m9;simp at m9;rcases m9 with rfl|rfl<;>rfl) ai (by unfold UT;omega) aa (QO H4.2.2.2.base.2.2.2.2.2.2.2 (aI aj _).size) ?_;intro v' w5 v A
      obtain⟨s9,t0,rfl,-⟩:=av v;rw[<-f9.out]at v;have d9:=Eo.take H4.2.2.2 (QO b0.base.2.2.2.2.2.2.2 H4.1) H4.2.1 (λ_=>rfl) (aI aj _) v A;have H5:=ad d9;have c8:=(d9.du.block P b8).trans K.1;obtain⟨p1,p2,p3⟩:=cr c8;have l3:=ad c8;clear v A d9 c8 y3 x3 x4))
   obtain⟨n0,rfl⟩:∃n0:QL,n0=wr:=⟨_,rfl⟩;have g4:RH (Out (λz=>z=ab) w5 w5/\w5.ownsRow w.heap.size 5 1 (a_ ab n ac) n (az n λj=>if r*128<=j/\j<r*128+0 then l k else fJ (ij (cD ⟨c,a,d⟩ L m l) f k) j)):=by refine⟨Out.refl _ _,?_⟩;rw[ee (g:=fJ (ij (cD ⟨c,a,d⟩ L m l) f k)) λj b3=>al aa];exact H5.all
   clear p5 p0 p1;go_loopw [15] (λj g5=>∃q:Nat,j= ae q/\q<=128/\RH (Out (λz=>z=ab) w5 g5/\g5.ownsRow w.heap.size 5 1 (a_ ab n ac) n (az n λj=>if r*128<=j/\j<r*128+q then l k else fJ (ij (cD ⟨c,a,d⟩ L m l) f k) j))) (λj _=>128-(intOf j).toNat)
   case atStart=>exact⟨0,rfl,aa,g4⟩
   case round=>
    clear g4;obtain⟨q,rfl,p9,c9⟩:=hrel;by_cases T:q<128
    .have b1:(q:Int)<128:=aa;obtain⟨-,q0,l4,H⟩:=H5.sec k (TX k);rw[ak rfl]at H;have l5:q0=l k:=(l4 0).symm;rw[l5]at H;have l6:=c9.1.heap H (by have h1:=H5.base;have h2:=(H5.sec k (TX k)).1;rw[ak rfl]at h2;show¬sg=ab;omega);have z1:=((cr l6).1 q).trans (eu 128 _ q T);obtain⟨M,q5⟩:=ah (r*128+q);have l7:M<n:=by have:=g0.out;omega
     have d0:=oj c9.2 (k:=M) (u:=_) (a' n _ M l7);obtain⟨z2,z3⟩:=d0;have e1:QQ.wrap ((r:Int)*128)=((r*128:Nat):Int):=by have:=g0.out;go_arith
     have e2:QQ.wrap (((r*128:Nat):Int)+(q:Nat))=((M:Nat):Int):=by rw[show(((r*128:Nat):Int)+(q:Nat))=((M:Nat):Int)by omega];go_arith
     have m6:RH (Out (λz=>z=ab) w5 (wr.setCell (ag ab M) (.int .u8 (l k:Nat)))/\(wr.setCell (ag ab M) (.int .u8 (l k:Nat))).ownsRow w.heap.size 5 1 (a_ ab n ac) n (az n λj=>if r*128<=j/\j<r*128+(q+1)then l k else fJ (ij (cD ⟨c,a,d⟩ L m l) f k) j)):=by
      refine⟨c9.1.setCell (p:=ag ab M) (λ_=>rfl) _,?_⟩;have:=Fy c9.2 M (.int .u8 (l k:Nat));rw[xE]at this;rw[ee (g:=λj=>if j=M then l k else if r*128<=j/\j<r*128+q then l k else fJ (ij (cD ⟨c,a,d⟩ L m l) f k) j) λj b3=>?_]
      .exact this
      .by_cases e:j=M
       .rw [ak e,ak aa]
       .rw [al e];by_cases e2:r*128<=j/\j<r*128+q
        .rw [ak e2,ak aa]
        .rw [al e2,al aa]
     go_wp2;exact⟨⟨q+1,by go_num,aa,m6⟩,by simp[intOf];omega⟩
    .obtain rfl:q=128:=aa;clear T p9;have y:(cD ⟨c,a,d⟩ L m l).aL k=r:=f9.out;have b4:wr.ownsRow w.heap.size 5 1 (a_ ab n ac) n (az n (fJ (ij (cD ⟨c,a,d⟩ L m l) f (k+1)))):=by
      rw[ee (g:=λj=>if r*128<=j/\j<r*128+128 then l k else fJ (ij (cD ⟨c,a,d⟩ L m l) f k) j) λj b3=>?_]
      .exact c9.2
      .unfold fJ;rw[ij,y];by_cases e:r=j/128
       .rw [ak e,ak aa];rfl
       .rw [al e,al aa]
     have I:au.B ⟨c,a,d⟩=B:=K.2.2.2.2.1;have g6:au.R ⟨c,a,d⟩=R:=K.2.2.2.2.2.2;have g7:au.row ⟨c,a,d⟩ r<R:=by rw[<-g6];exact au.iN K.2.1 (by rw[I];exact c6)
     obtain⟨D,O⟩:=ah (au.row ⟨c,a,d⟩ r);rw[O]at g7;have C:=aS b4 y g7 O;have g8:=c9.1.heap l3 (by have h1:=H5.base;have h2:=b8.out;show¬P=ab;omega);obtain⟨p1,p2,p4⟩:=cr g8;have l8:=H5.base.2.2.2.2.2.2.1;have n1:=Ne.symm l8;have g9:=K.2.1.m16;have b6:=K.2.1.qd;have l9:=K.2.1.m3;have h0:=K.2.1.c1;clear b4 I g6 g8 y;simp only at g9 b6 l9 h0;obtain⟨E,h3⟩:=ah ((c-1)*a);have q6:1<=E:=by rw[<-h3];exact TJ (show 1<=c-1 by omega) h0
     have q7:E<=240:=by rw[<-h3];exact TJ (show c-1<=15 by omega) b6
     have e3:QQ.wrap ((c:Int)-1)=((c-1:Nat):Int):=by rw[show(c:Int)-1=((c-1:Nat):Int)by omega];go_arith
     have e4:QQ.wrap (((c-1:Nat):Int)*(a:Nat))=((E:Nat):Int):=by rw[show(((c-1:Nat):Int)*(a:Nat))=((E:Nat):Int)by rw[<-h3,TS]];go_arith
     have h4:r/E*a+r%E%a=D:=by rw[<-O,<-h3];rfl
     obtain⟨Q,b2⟩:=ah (r/E);obtain⟨q2,T⟩:=ah (r%E);obtain⟨q3,b1⟩:=ah (q2%a);obtain⟨q4,d1⟩:=ah (Q*a);rw[b2,T,b1,d1]at h4;have e5:((r:Nat):Int).tdiv (E:Nat)=((Q:Nat):Int):=by rw[<-b2];exact Int.ofNat_tdiv _ _
     have e6:((r:Nat):Int).tmod (E:Nat)=((q2:Nat):Int):=by rw[<-T];exact SK _ _
     have e7:((q2:Nat):Int).tmod (a:Nat)=((q3:Nat):Int):=by rw[<-b1];exact SK _ _
     have n2:Q<=65536:=by rw[<-b2];exact QO (Nat.div_le_self _ _) aa
     have n3:D<=4096:=aa;have e8:QQ.wrap (((Q:Nat):Int)*(a:Nat))=((q4:Nat):Int):=by rw[show(((Q:Nat):Int)*(a:Nat))=((q4:Nat):Int)by rw[<-d1,TS]];go_arith
     have e9:QQ.wrap (((q4:Nat):Int)+(q3:Nat))=((D:Nat):Int):=by rw[show(((q4:Nat):Int)+(q3:Nat))=((D:Nat):Int)by omega];go_arith
     have q8:QQ.wrap ((Q:Nat):Int)=((Q:Nat):Int):=bf;have q9:¬(E:Int)=0:=aa;have r0:¬(a:Int)=0:=aa;clear b2 T b1 d1 h4 h3 O;go_wp2;go_quiet(fail);obtain⟨wc,d2⟩:=ah (wr.drewN nq);have d3:ar wr wc:=by rw[<-d2];exact ct aj _
     rw[d2];obtain⟨r1,r2,r3⟩:=kp d3 P p4;clear d2;go_wp2;go_quiet(fail);obtain⟨r4,d4⟩:=ah (wc.drewN nq);have d5:ar wr r4:=by rw[<-d4];exact via d3 (ct aj _)
     rw[d4];have y:=C.2.1;obtain⟨hF,d9,b7⟩:=MO.fin H5 (c9.1.then d5) (aP d5 C.1) (by rw[y];exact c6) (by rw[y,C.2.2.2];exact C.2.2.1);rw[y,C.2.2.2]at hF;have r5:=ad hF;obtain⟨k1,k2,k3⟩:=cr d9;obtain⟨k4,k5,k6⟩:=cr b7;have k7:=(k1 r).trans (cf _ _ _ c6);have k8:=(k4 D).trans (cf _ _ _ C.2.2.1);have k9:=k2 r;have r6:=k5 D;have fI:fW ⟨c,a,d⟩ (cD ⟨c,a,d⟩ L m l) (k+1)=fW ⟨c,a,d⟩ (cD ⟨c,a,d⟩ L m l) k+(if gL (cD ⟨c,a,d⟩ L m l) k r=true then 0 else 1)+if aX ⟨c,a,d⟩ (cD ⟨c,a,d⟩ L m l) k D=true then 0 else 1:=by rw[fW,y,C.2.2.2]
     have h5:=ad fI;have h6:fW ⟨c,a,d⟩ (cD ⟨c,a,d⟩ L m l) k<=200:=QO (pK _ _ _ aa) aa;obtain⟨Y,F⟩:=ah (fW ⟨c,a,d⟩ (cD ⟨c,a,d⟩ L m l) k);rw[F]at h6 h5;simp only[F];have r7:QQ.wrap ((Y:Int)+1)=((Y+1:Nat):Int):=bf;have r8:QQ.wrap (((Y+1:Nat):Int)+1)=((Y+2:Nat):Int):=bf;clear d4 d3 d5 hF d9 b7 k1 k2 k4 k5 y fI F r1;cases d6:gL (cD ⟨c,a,d⟩ L m l) k r<;>cases d7:aX ⟨c,a,d⟩ (cD ⟨c,a,d⟩ L m l) k D
     all_goals
      rw[d6]at k7;rw[d7]at k8;have n4:=aA d6 d7;clear d6 d7;go_wp2
     all_goals exact⟨⟨k+1,_,by go_num,m7.1,by rw[h5.out,n4.1,n4.2];simp<;>omega,r5⟩,by have:=m7.1;simp[intOf];omega⟩
  .obtain rfl:k=min L 100:=aa;obtain⟨Y,F⟩:=ah (fW ⟨c,a,d⟩ (cD ⟨c,a,d⟩ L m l) (min L 100));have h6:Y<=200:=by rw[<-F];exact QO (pK _ _ _ aa) aa
   have r9:QQ.wrap (2*(Y:Int))=((2*Y:Nat):Int):=by rw[show 2*(Y:Int)=((2*Y:Nat):Int)by omega];go_arith
   have a1:cN wr (a_ ab n ac) n (fJ (ij (cD ⟨c,a,d⟩ L m l) f (min L 100))):=fY c4.all;have I:au.B ⟨c,a,d⟩*128=n:=by rw[show au.B ⟨c,a,d⟩=B from K.2.2.2.2.1];exact K.2.2.2.2.2.1
   have n5:RH (gQ wr u7 (cD ⟨c,a,d⟩ L m l)/\cN wr (a_ ab n ac) (au.B ⟨c,a,d⟩*128) (fJ (ij (cD ⟨c,a,d⟩ L m l) f (cD ⟨c,a,d⟩ L m l).n))/\ar w wr/\IC (a_ ab n ac)):=⟨c4.N_ rfl,by rw[I];exact a1,c4.du,by obtain⟨t1,o6,Q,q2,-⟩:=eX c4.all;cases Q;exact q2⟩;have h7:RH (fW ⟨c,a,d⟩ (cD ⟨c,a,d⟩ L m l) (cD ⟨c,a,d⟩ L m l).n=Y):=F;rw[F];clear a1 I a6 F c5 j5 p1;by_cases e:L<=100
   .have J:min L 100=L:=WV e;simp only[J];clear J e;go_wp2;go_ret3;rw[h7.out];exact⟨_,_,rfl,n5⟩
   .have J:min L 100=100:=Nat.min_eq_right aa;have h1:(100:Int)<(L:Int):=aa;have h2:100<L:=aa;simp only[J];clear J e;go_wp2;go_ret3;rw[h7.out];exact⟨_,_,rfl,n5⟩
end
def Mg:Option Nat->Int
 |none=> -1
 |some m=>(m:Nat)
def TP:List Nat:=44::ed
structure kS[Lo](w:M)(P G:Nat)(Z:bg)(g:au)(a:Int)(aw:Option Nat)(V:bW)(C:Nat)(wn:Bool):Prop where
 pl:Mf w P G g Z.N Z.lz (eL g V) a wn
 hn:cw w G Z g
 inv:∃s u,Inv w Z g aw V C s u
 lo:Lo.lo<=P
theorem Mf.fr[Lo]{a:Bool}(h:Mf w n m g k d F c a)(b:Fr T aF w W)(e:T.contains 44=false)(f:T.contains 5=false):Mf W n m g k d F c a:=by obtain⟨i,j,l,o,p,q,r⟩:=h.aL;exact⟨i,j,l,o,b.hp p e,q.fr b f,r⟩
abbrev gM[Lo](w:M)(P G:Nat)(Z:bg)(g:au)(a:Option Nat)(V:bW)(C:Nat)(b:Bool):Prop:=kS w P G Z g (Mg a) a V C b
theorem kS.below[Lo]{Z:bg}{b:Option Nat}{V:bW}(h:kS w n m Z g c b V C d)(a:ar w W):kS W n m Z g c b V C d:=
 ⟨h.pl.fr (T:= []) (Fr.af a) rfl rfl,(a.block _ (Z_ h.hn)).trans h.hn,by obtain⟨s,u,q⟩:=h.inv;exact⟨s,u,q.below a⟩,h.lo⟩
def AQ[Lo](Z:bg)(g:au)(a:Option Nat)(V:bW)(C:Nat)(d e:Rs->Su->Prop)(b:bp)(c:Nat)(W:M):Prop:=
 if 2*b.dJ g+1>Z.N then c=122/\∃s u,Inv W Z g a V (C-250000) s u/\d s u else c=0/\∃s u,Inv W Z g a (b.dR g V) (C-250000) s u/\e s u
theorem AQ.stay[Lo]{Z:bg}{c:Option Nat}{V:bW}{d f:Rs->Su->Prop}(h:AQ Z g c V C d f K n W)(i:Fr [46] aF W w):AQ Z g c V C d f K n w:=by
 unfold AQ at h|-;split
 .rename_i e;rw[ak e]at h;obtain⟨b,s,u,a⟩:=h;exact⟨b,s,u,a.1.fr i rfl,a.2⟩
 .rename_i e;rw[al e]at h;obtain⟨b,s,u,a⟩:=h;exact⟨b,s,u,a.1.fr i rfl,a.2⟩
theorem AQ.cg[Lo]{Z:bg}{c:Option Nat}{V:bW}{d e:Rs->Su->Prop}(h:AQ Z g c V C d e K n W):∃b,aB W Z.B b:=by
 unfold AQ at h;split at h
 .obtain ⟨-,s,u,a⟩:=h;exact⟨_,a.1.ay.rs.cg⟩
 .obtain ⟨-,s,u,a⟩:=h;exact⟨_,a.1.ay.rs.cg⟩
theorem Es[Lo]{Z:bg}{k:Option Nat}{V:bW}(A:cw w n Z g)(o:Inv w Z g k V C s u){l p:Rs->Su->Prop}(H:XH g k K l p)(G:l s u)(O:1000000<=C)(P:K.ok g)(Q:K.n<=256)(B:gQ w x K):
  aD 11 #[aq n,fh 2 0 0 0 x aU] w λe q=>∃b f,aK e (cQ b aU f)/\Fr ed aF w q/\AQ Z g k V C l p K b q:=by
 refine(pI w n 31 true 2 0 0 0 x aU Z g (λb v W=>v= aU/\AQ Z g k V C l p K b W) aJ rfl A ⟨_,o.ay.rs.cg⟩ (λW z=>?_) (λb v W h=>h.2.cg) (λb v W L h D=>⟨h.1,h.2.stay D⟩) o.low).mono ?_
 .refine (AN n Z g 2 0 0 0 x aU W (λb W=>AQ Z g k V C l p K b W) ((z.block _ (Z_ A)).trans A) ⟨λL r=>?_,λb X N h D=>h.stay D,QO o.low z.size⟩).mono λe q ⟨b,i,d,t⟩=>⟨b,none,0,0,i,d,rfl,t⟩;have j:=(o.below z).below r;refine(Ei Z g k V C s u K x L j O P Q ((B.below z).below r) l p H G).mono ?_;intro e q y;unfold NY at y;rw[o.qv.1]at y;unfold AQ;split at y
  .rename_i E;obtain⟨i,d⟩:=y;exact⟨122,i,Fr.af d,by rw[ak E];exact⟨rfl,s,u,(j.below d).less (ZH _ _),G⟩⟩
  .rename_i E;obtain⟨i,S,T,d,F,t⟩:=y;exact⟨0,i,j.ay.wide t,by rw[al E];exact⟨rfl,S,T,d,F⟩⟩
 .rintro e q ⟨b,a,m,c,f,i,d,t,U⟩;exact⟨b,f,by rw[i,t],d,U⟩
theorem Et(b:g.ok){L:Nat}{bk a:aO}(c:∀i,i<L->a i<256):(cD g L bk a).ok g/\(cD g L bk a).n<=100:=
 ⟨⟨λi _=>SB _ (au.Er b),λi d k _=>c i (RS d (ZS _ _))⟩,Nat.min_le_right _ _⟩
theorem gM.vF[Lo]{Z:bg}{b:Option Nat}{V:bW}{e:Int}(f:cw w m Z g)(i:∃s u,Inv w Z g b V C s u)(a:Fr [44] aF w W)(j:aZ W n (ao #[Y g.M,Y g.c,Y g.s,Y Z.N,.bool Z.lz,H m,v,x,y,Y g.B,Y c,.bool d,.bool true,.int .u16 e,.bool false] 44))(k:cN w v (g.B*128) (fJ (eL g V)))(l:IC v)(o:Lo.lo<=n):kS W n m Z g c b V C d:=
 ⟨⟨v,x,y,e,j,k.fr a rfl,l⟩,a.hp f rfl,by obtain⟨s,u,h⟩:=i;exact⟨s,u,h.fr a rfl⟩,o⟩
theorem gM.vG[Lo]{Z:bg}{a:Option Nat}{V:bW}{b:Int}(e:cw w m Z g)(f:∃s u,Inv w Z g a V C s u)(h:aZ w n (ao #[Y g.M,Y g.c,Y g.s,Y Z.N,.bool Z.lz,H m,v,x,y,Y g.B,Y c,.bool d,.bool true,.int .u16 b,.bool false] 44))(i:cN w v (g.B*128) (fJ (eL g V)))(j:IC v)(k:Lo.lo<=n):kS w n m Z g c a V C d:=gM.vF e f (Fr.refl _ _ _) h i j k
theorem gM.y_[Lo]{X:Rs->Su->Prop}{Z:bg}{a:Option Nat}{V:bW}{e:Int}(f:cw w m Z g)(i:∃s u,Inv w Z g a V C s u/\X s u)(b:Fr [44] aF w W)(j:aZ W n (ao #[Y g.M,Y g.c,Y g.s,Y Z.N,.bool Z.lz,H m,v,x,y,Y g.B,Y c,.bool d,.bool true,.int .u16 e,.bool false] 44))(k:cN w v (g.B*128) (fJ (eL g V)))(l:IC v)(o:Lo.lo<=n):kS W n m Z g c a V C d/\∃s u,Inv W Z g a V C s u/\X s u:=by obtain⟨s,u,h,p⟩:=i;exact⟨gM.vF f ⟨s,u,h⟩ b j k l o,s,u,h.fr b rfl,p⟩
theorem s_[Lo](P G:Nat)(Z:bg)(g:au)(a:Int)(E:Option Nat)(V:bW)(C:Nat)(a7:Bool)(a8:QN)(L:Nat)(bk U:aO)(w:QL)(h:kS w P G Z g a E V C a7)(c7:1000000<=C)(c8:AP w a8 L bk U)(c9:L<=20000)(a9:∀i,i<L->bk i<65536)(b0:∀i,i<L->U i<256)(K X:Rs->Su->Prop)(H:XH g E (cD g L bk U) K X)(d0:∃s u,Inv w Z g E V C s u/\K s u):
  aD 12 #[aq P,a8] w λe b1=>aK e dU/\Fr TP aF w b1/\∃c3,kS b1 P G Z g a E c3 (C-250000) a7/\∃s u,Inv b1 Z g E c3 (C-250000) s u/\(K s u\/X s u):=by
 obtain⟨s0,u0,F,b2⟩:=d0;have M:=F.eK.bZ;have b3:=F.low;have t:=ad (λW (O:ar w W)=>Hg P G g Z.N Z.lz (eL g V) a a7 a8 L bk U W (h.below O).pl M (by obtain⟨a,b4,rfl,q⟩:=c8;refine⟨a,b4,rfl,q.imp id ?_⟩;rintro⟨b,o,R,q3⟩;exact⟨b,o,R,λi r=>⟨(Out.af (S:=λ_=>False) O).cell (q3 i r).1 id,(Out.af (S:=λ_=>False) O).cell (q3 i r).2 id⟩⟩) c9 a9);obtain⟨b5,d3⟩:=Et (L:=L) (bk:=bk) M b0;obtain⟨k,b6⟩:=ah (cD g L bk U);rw[b6]at t b5 d3 H;rw[AH M b5]at t;obtain⟨a4,I⟩:=ah (k.dJ g);obtain⟨N,Y⟩:=ah Z.N;have d4:=ad (λW pv (O:ar w W) (b7:gQ W pv k)=>Es ((O.block _ (Z_ h.hn)).trans h.hn) (F.below O) H b2 c7 b5 aa b7);rw[I]at t;obtain⟨e1,e2,e3,e4,c4,b8,b9⟩:=h.pl.aL;obtain⟨J,wc,rfl,d5⟩:=b8;have f:=eM c4 h b3 (show cN w (.slice J (g.B*128) wc) (g.B*128) (fJ (eL g V))from⟨J,wc,rfl,d5⟩) M (show IC (.slice J (g.B*128) wc)from b9);obtain⟨p1,p2,p3⟩:=cr c4;have c0:=aA I Y;rw[Y]at p1;go_enter func12,ntmps12;go_wp2_with(first
  |(go_at_call 23;refine(t _ (by first|exact aj|exact ct aj _)).mono ?_;rintro e w1 ⟨pv,e5,rfl,h1,h2,h3,h4⟩
    obtain⟨e6,e7,rfl⟩:∃a c,pv=.slice a k.n c:=by obtain⟨a,c,q,_⟩:=h1;exact⟨a,c,q⟩
    obtain⟨a5,a6,rfl⟩:=h2.form;obtain⟨k1,k2,k3⟩:=kp h3 P p3;have v:=aS h1 h2 h3 h4))
 refine(d4 w1 _ v.2.2.1 v.1).mono ?_;rintro e x ⟨c5,l,rfl,a0,m⟩;have y:=a0.hp ((v.2.2.1.block _ (Z_ f.1)).trans f.1) rfl;have d6:(c5=122/\∃s u,Inv x Z g E V (C-250000) s u/\(K s u\/X s u))/\N<2*a4+1\/(c5=0/\∃s u,Inv x Z g E (k.dR g V) (C-250000) s u/\(K s u\/X s u))/\2*a4+1<=N:=by
  unfold AQ at m;rw[c0.1,c0.2]at m;split at m
  .obtain ⟨y1,s,u,y2,y3⟩:=m;exact .inl ⟨⟨y1,s,u,y2,.inl y3⟩,aa⟩
  .obtain ⟨y1,s,u,y2,y3⟩:=m;exact .inr ⟨⟨y1,s,u,y2,.inr y3⟩,aa⟩
 have z:=ad a0;rcases d6 with⟨⟨rfl,r⟩,d7⟩|⟨⟨rfl,r⟩,d7⟩
 .have d1:decide (2*(a4:Int)+1<=(N:Int))=false:=aQ;have j:ar x (x.alloc (ao #[aG 122,aU,ae l] 46)):=aI aj _;have A:=QM x (ao #[aG 122,aU,ae l] 46);have n:=(j.block _ (Z_ y)).trans y;obtain⟨t1,t2,t3⟩:=cr A;obtain⟨R,q2,q3⟩:=cr n;rw[c0.2]at R;have d:=aS r j n A;rw[d1];go_wp2_with fail;go_ret;refine⟨rfl,?_,V,?_⟩
  .exact ((((Fr.af (T:=TP) v.2.2.1).tr (z.wide TP rfl)).then d.2.1).set (p:=ag P 13) d.2.2.1 rfl f.2.1.lo _)
  .have B:=((Fr.af (T:=ed) v.2.2.1).tr z).then d.2.1;exact gM.y_ (B.hp f.2.1.hn rfl) (by obtain⟨s,u,r,c1⟩:=d.1;exact⟨s,u,r.below d.2.1,c1⟩) ((Fr.refl [44] aF _).set (p:=ag P 13) d.2.2.1 rfl f.2.1.lo _) (heap_setCell_same _ P 13 _ 44 _ d.2.2.1) (f.2.2.2.1.fr B rfl) f.2.2.2.2.2 f.2.1.lo
 .have d1:decide (2*(a4:Int)+1<=(N:Int))=true:=aQ;have j:ar x (x.alloc (ao #[aG 0,aU,ae l] 46)):=aI aj _;have A:=QM x (ao #[aG 0,aU,ae l] 46);have n:=(j.block _ (Z_ y)).trans y;obtain⟨t1,t2,t3⟩:=cr A;obtain⟨R,q2,q3⟩:=cr n;have B:=((Fr.af (T:=ed) v.2.2.1).tr z).then j;have c2:∃s u,Inv (x.alloc (ao #[aG 0,aU,ae l] 46)) Z g E (k.dR g V) (C-250000) s u/\(K s u\/X s u):=by obtain⟨s,u,r,c1⟩:=r;exact⟨s,u,r.below j,c1⟩
  have D:=v.2.1.fr (z.then j) rfl;have d:=aS c2 B n D;rw[d1];rcases Nat.eq_zero_or_pos k.n with e0|e0
  .rw [e0];go_wp2_with fail;go_ret;have c6:=(Fr.refl [44] aF _).set (p:=ag P 13) d.2.2.1 rfl f.2.1.lo (aG 0);have a1:=f.2.2.2.1.fr d.2.1 rfl;rw[<-vz (g:=g) e0 V]at a1;exact⟨rfl,(d.2.1.wide TP rfl).tr (c6.wide TP rfl),_,gM.y_ (d.2.1.hp f.2.1.hn rfl) d.1 c6 (heap_setCell_same _ P 13 _ 44 _ d.2.2.1) a1 f.2.2.2.2.2 f.2.1.lo⟩
  .have d2:decide ((0:Int)<(k.n:Nat))=true:=aQ;have D:=d.2.2.2;rw[show ij k (eL g V) k.n=eL g (k.dR g V)from funext λb=>(yW M k V b).symm]at D;have a2:=ad D;have x1:=heap_setCell_same _ P 13 _ 44 (aG 0) d.2.2.1;have f1:=(Fr.refl [44] aF _).set (p:=ag P 13) d.2.2.1 rfl f.2.1.lo (aG 0);have x2:=heap_setCell_same _ P 7 _ 44 aU x1;have f2:=f1.set (p:=ag P 7) x1 rfl f.2.1.lo aU;have Q:=aA x2 f2;obtain⟨d8,a3⟩:=ah Z.lz;rw[a3]at R;have d9:=ad a3;cases d8
   .go_wp2_with fail;go_ret;have x3:=heap_setCell_same _ P 6 _ 44 (.slice a5 (g.B*128) a6) Q.1;have f3:=Q.2.set (p:=ag P 6) Q.1 rfl f.2.1.lo (.slice a5 (g.B*128) a6);exact⟨rfl,(d.2.1.wide TP rfl).tr (f3.wide TP rfl),_,gM.y_ (d.2.1.hp f.2.1.hn rfl) d.1 f3 x3 a2 v.2.2.2 f.2.1.lo⟩
   .go_wp2_with fail;go_ret;have x3:=heap_setCell_same _ P 7 _ 44 (.slice J (g.B*128) wc) Q.1;have f3:=Q.2.set (p:=ag P 7) Q.1 rfl f.2.1.lo (.slice J (g.B*128) wc);have x4:=heap_setCell_same _ P 6 _ 44 (.slice a5 (g.B*128) a6) x3;have f4:=f3.set (p:=ag P 6) x3 rfl f.2.1.lo (.slice a5 (g.B*128) a6);exact⟨rfl,(d.2.1.wide TP rfl).tr (f4.wide TP rfl),_,gM.y_ (d.2.1.hp f.2.1.hn rfl) d.1 f4 x4 a2 v.2.2.2 f.2.1.lo⟩
theorem XH.any(g:au)(a:Option Nat)(b:bp):XH g a b (λ_ _=>True) λ_ _=>True:=⟨λ_ _ _ _ _ _=>trivial,λ_ _ _ _ _ _ _ _ _ _ _ _=>trivial,λ_ _ _ _=>trivial⟩
theorem AR[Lo](P G:Nat)(Z:bg)(g:au)(a:Option Nat)(V:bW)(C:Nat)(b:Bool)(c:QN)(L:Nat)(d f:aO)(w:M)(h:gM w P G Z g a V C b)(n:1000000<=C)(o:AP w c L d f)(p:L<=20000)(j:∀i,i<L->d i<65536)(k:∀i,i<L->f i<256):
  aD 12 #[H P,c] w λe l=>aK e dU/\Fr TP aF w l/\∃m,gM l P G Z g a m (C-250000) b:=by
 obtain⟨s,u,q⟩:=h.inv;exact(s_ P G Z g (Mg a) a V C b c L d f w h n o p j k _ _ (XH.any _ _ _) ⟨s,u,q,trivial⟩).mono λe l ⟨r,t,m,v,_⟩=>⟨r,t,m,v⟩
theorem Eu[Lo]{Z:bg}{q:Option Nat}{V:bW}(t:cw w i Z g)(x:Inv w Z g q V C s u)(D:1000<=C)(E:k+n<=g.B):
  aD 11 #[H i,fh 1 0 n k aU aU] w λe f=>∃a c b,aK e (cQ 0 (.slice a (n*128) c) b)/\Fr ed aF w f/\cN f (.slice a (n*128) c) (n*128) (λj=>eL g V (k+j/128) (j%128))/\∃s u,Inv f Z g q V (C-1000) s u:=by
 refine(pI w i 30 true 1 0 n k aU aU Z g (λr v W=>r=0/\∃a c,v=.slice a (n*128) c/\cN W v (n*128) (λj=>eL g V (k+j/128) (j%128))/\∃s u,Inv W Z g q V (C-1000) s u) aJ rfl t ⟨_,x.ay.rs.cg⟩ (λW y=>?_) (λr v W h=>?_) (λr v W K h z=>?_) x.low).mono ?_
 .refine (Ej Z g q V C i s u 1 k n 0 aU aU W (x.below y) ((y.block _ (Z_ t)).trans t) D E).mono λe f ⟨a,c,l,o,p,d⟩=>⟨0,a,n*128,c,l,p,rfl,a,c,rfl,o,d⟩
 .obtain ⟨-,a,c,-,-,A,B,d⟩:=h;exact⟨_,d.ay.rs.cg⟩
 .obtain ⟨l,a,c,o,p,A,B,d⟩:=h;exact⟨l,a,c,o,p.fr z rfl,A,B,d.fr z rfl⟩
 .rintro e f ⟨r,a,m,c,b,l,o,p,L,O,d,F,G⟩;cases d;subst p;exact⟨_,_,b,l,o,F,G⟩
theorem Hh{n a lo hi:Nat}(h:cN w (.slice P n a) n f)(k:lo<=hi)(l:hi<=n)(m:n<=a):cN w (.slice (if a=lo then P else P.map λx=>x.add lo) (hi-lo) (a-lo)) (hi-lo) λj=>f (lo+j):=by
 obtain⟨p,q,e,h⟩:=h;cases e;refine⟨_,_,rfl,?_⟩;by_cases e:hi=lo
 .exact .inl J
 rw[al J];rcases h with h|⟨b,o,c,d,g,i,h⟩
 .exact absurd h J
 refine .inr ⟨b,o+lo,c,d,by rw[g];simp[Addr.add],i,λj r=>?_⟩;rw[UZ];exact h _ J
theorem Ev(j:Nat):fJ F (k*128+j)=F (k+j/128) (j%128):=by unfold fJ;rw[show(k*128+j)/128=k+j/128 by omega,show(k*128+j)%128=j%128 by omega]
theorem xF[Lo](P G:Nat)(Z:bg)(g:au)(a:Int)(I:Option Nat)(V:bW)(C:Nat)(Y:Bool)(k n:Nat)(w:QL)(h:kS w P G Z g a I V C Y)(a3:1000<=C)(a4:k+n<=g.B):
  aD 10 #[aq P,ae k,ae n] w λe p=>aK e (.tuple #[.bool true,aG 0])/\Fr TP aF w p/\kS p P G Z g a I V (C-1000) Y:=by
 obtain⟨s0,u0,r⟩:=h.inv;have J:=r.eK.bZ;have T:=r.low;have a5:=ad (λW (a0:ar w W)=>Eu ((a0.block _ (Z_ h.hn)).trans h.hn) (r.below a0) a3 a4);have a6:=au.J_ J;obtain⟨b0,b1,b2,b3,a1,U,l⟩:=h.pl.aL;obtain⟨y,wc,rfl,a7⟩:=U;have l:g.B*128<=wc:=l;have A:=eM a1 h T (show cN w (.slice y (g.B*128) wc) (g.B*128) (fJ (eL g V))from⟨y,wc,rfl,a7⟩) J (show IC (.slice y (g.B*128) wc)from l);obtain⟨p1,p2,p3⟩:=cr a1;obtain⟨Q,B⟩:=ah (k+n);obtain⟨lo,D⟩:=ah (k*128);obtain⟨hi,X⟩:=ah (Q*128);have e1:QQ.wrap ((k:Int)*128)=((lo:Nat):Int):=by rw[show(k:Int)*128=((lo:Nat):Int)by omega];go_arith
 have e2:QQ.wrap ((k:Int)+n)=((Q:Nat):Int):=by rw[<-B];go_arith
 have e3:QQ.wrap ((Q:Int)*128)=((hi:Nat):Int):=by rw[show(Q:Int)*128=((hi:Nat):Int)by omega];go_arith
 have s0:(0:Int)<=lo:=aa;have s1:(lo:Int)<=hi:=aa;have s2:(hi:Int)<=wc:=aa;have b:=aM D X B;go_enter func10,ntmps10;go_wp2_with fail;refine(a5 w aj).mono ?_;rintro e m ⟨q,c,d,rfl,t,E,H⟩;have F:=t.hp A.1 rfl;have i:ar m (m.alloc (ao #[aG 0,.slice q (n*128) c,ae d] 46)):=aI aj _;have N:=QM m (ao #[aG 0,.slice q (n*128) c,ae d] 46);have K:=(i.block _ (Z_ F)).trans F;obtain⟨t1,t2,t3⟩:=cr N;obtain⟨q1,q2,q3⟩:=cr K;have L:=t.then i;have O:=A.2.2.2.1.fr L rfl;have z:=jY L (E.below i) H K O i t;have S:RH (∀W,SM (m.alloc (ao #[aG 0,.slice q (n*128) c,ae d] 46)).heap.size (m.alloc (ao #[aG 0,.slice q (n*128) c,ae d] 46)) W->aD 18 #[.slice q (n*128) c,.slice (if wc=lo then y else y.map λx=>x.add lo) (hi-lo) (wc-lo)] W λe p=>aK e dU/\SM (m.alloc (ao #[aG 0,.slice q (n*128) c,ae d] 46)).heap.size (m.alloc (ao #[aG 0,.slice q (n*128) c,ae d] 46)) p):=λW M=>by
  have a8:n*128=hi-lo:=by have:=b.1;have:=b.2.1;have:=b.2.2;omega
  have a9:=(E.below i).below M;have a2:=Hh (lo:=lo) (hi:=hi) ((O).below M) aa (by have:=b.2.1;have:=b.2.2;omega) l;rw[show(λj=>fJ (eL g V) (lo+j))=λj=>eL g V (k+j/128) (j%128)from funext λj=>by rw[<-b.1];exact Ev j]at a2;refine(BY _ _ _ _ _ _ W a9.BH a2.BH (by have:=b.2.1;have:=b.2.2;omega)).mono λe p ⟨h1,h2⟩=>⟨by rw[h1,show∀f,qG (n*128) (hi-lo) f f=true fromλf=>by rw[a8];exact iZ λ_ _=>rfl],via M h2⟩
 have R:RH (wc=lo\/¬wc=lo):=Decidable.em _;rcases R.out with o|o
 all_goals
  first|(rw[ak o]at S;subst o;rw[Nat.sub_self]at S)|rw[al o]at S
  go_wp2_with fail;go_region_held3(λp=>p.cell? (ag m.heap.size 1)=some (.slice q (n*128) c)/\p.cell? (ag P 6)=some (.slice y (g.B*128) wc)) ((simp[*,go_sem];done)) (first|(go_at_call 18;refine(S _ (by first|exact aj|exact ct aj _)).mono ?_;rintro e w4 ⟨rfl,v⟩;obtain⟨k1,k2,k3⟩:=kp v P q3;obtain⟨k4,k5,k6⟩:=kp v m.heap.size t3;have H4:=ad v));go_wp2;go_ret2;refine⟨rfl,(z.1.wide TP rfl).then H4,?_⟩;exact(gM.vG (z.1.hp A.2.1.hn rfl) (by obtain⟨s,u,hi⟩:=z.2.2.1;exact⟨s,u,hi.below z.2.2.2.2.2.1⟩) z.2.2.2.1 z.2.2.2.2.1 A.2.2.2.2.2 A.2.1.lo).below H4
theorem Ew[Lo](P G:Nat)(Z:bg)(g:au)(a:Option Nat)(V:bW)(C:Nat)(b:Bool)(k n:Nat)(w:M)(h:gM w P G Z g a V C b)(d:1000<=C)(f:k+n<=g.B):
  aD 10 #[H P,Y k,Y n] w λe c=>aK e (.tuple #[.bool true,aG 0])/\Fr TP aF w c/\gM c P G Z g a V (C-1000) b:=xF P G Z g (Mg a) a V C b k n w h d f
theorem Ex[Lo]{Z:bg}{o:Option Nat}{V:bW}(x:cw w n Z g)(t:Inv w Z g o V C s u)(E:1000000<=C):
  aD 11 #[H n,fh 3 0 0 0 aU aU] w λe p=>∃i,aK e (cQ 0 aU i)/\Fr ed aF w p/\∃s u,Inv p Z g o V (C-250000) s u:=by
 refine(pI w n 32 true 3 0 0 0 aU aU Z g (λb v W=>b=0/\v= aU/\∃s u,Inv W Z g o V (C-250000) s u) aJ rfl x ⟨_,t.ay.rs.cg⟩ (λW y=>?_) (λb v W h=>?_) (λb v W B h z=>?_) t.low).mono ?_
 .refine (AO n Z g 3 0 0 0 aU aU W (λb W=>b=0/\∃s u,Inv W Z g o V (C-250000) s u) ((y.block _ (Z_ x)).trans x) ⟨λB A=>?_,λb F G h z=>?_,QO t.low y.size⟩).mono λe p ⟨b,d,f,j⟩=>⟨b,none,0,0,d,f,j.1,rfl,j.2⟩
  .have q:=(t.below y).below A;refine(DP Z g o V C s u B q J).mono ?_;rintro e p ⟨d,k,l,f,-,j⟩;exact⟨0,d,q.ay.wide j,rfl,k,l,f.less J⟩
  .obtain ⟨d,k,l,f⟩:=h;exact⟨d,k,l,f.fr z rfl⟩
 .obtain ⟨-,-,k,l,r⟩:=h;exact⟨_,r.ay.rs.cg⟩
 .obtain ⟨d,f,k,l,r⟩:=h;exact⟨d,f,k,l,r.fr z rfl⟩
 .rintro e p ⟨b,a,m,c,i,d,f,j,r,D⟩;exact⟨i,by rw[d,j,r],f,D⟩
theorem AS[Lo](P G:Nat)(Z:bg)(g:au)(l:Option Nat)(V:bW)(C:Nat)(x:Bool)(w:QL)(h:gM w P G Z g l V C x)(D:1000000<=C):
  aD 19 #[aq P] w λe y=>aK e (aG 0)/\Fr TP aF w y/\gM y P G Z g l V (C-250000) x:=by
 obtain⟨L,O,m⟩:=h.inv;have E:=ad (λW (z:ar w W)=>Ex ((z.block _ (Z_ h.hn)).trans h.hn) (m.below z) D);obtain⟨Q,S,T,U,A,n,o⟩:=h.pl.aL;obtain⟨B,wc,rfl,F⟩:=n;have c:=aS A h (show cN w (.slice B (g.B*128) wc) (g.B*128) (fJ (eL g V))from⟨B,wc,rfl,F⟩) o;obtain⟨X,H,N⟩:=cr A;go_enter func19,ntmps19;go_wp2_with fail;refine(E w aj).mono ?_;rintro e k ⟨a,rfl,f,q⟩;have i:=f.hp c.1 rfl;have b:ar k (k.alloc (ao #[aG 0,aU,Y a] 46)):=aI aj _;have r:=QM k (ao #[aG 0,aU,Y a] 46);have j:=(b.block _ (Z_ i)).trans i;obtain⟨t1,t2,t3⟩:=cr r;obtain⟨M,R,I⟩:=cr j;have t:=f.then b;have v:∃s u,Inv (k.alloc (ao #[aG 0,aU,Y a] 46)) Z g l V (C-250000) s u:=by obtain⟨s,u,K⟩:=q;exact⟨s,u,K.below b⟩
 have d:=aM t v j;go_wp2_with fail;go_ret;have f1:=(Fr.refl [44] aF _).set (p:=ag P 7) d.2.2 rfl c.2.1.lo aU;exact⟨rfl,(d.1.wide TP rfl).tr (f1.wide TP rfl),gM.vF (d.1.hp c.2.1.hn rfl) d.2.1 f1 (heap_setCell_same _ P 7 _ 44 _ d.2.2) (c.2.2.1.fr d.1 rfl) c.2.2.2 c.2.1.lo⟩
theorem Inv.nO[Lo]{Z:bg}{V:bW}(h:Inv w Z g none V C s u)(a:m<g.M):Inv w Z g (some m) V C s u:=
 ⟨h.ay,h.gt.nO a,h.eK,h.ob,λk b e=>absurd (h.only k b e) (by intro e;cases e),h.fR,h.fit,h.ev,h.same,h.qv⟩
theorem Inv.whole[Lo]{Z:bg}{c:Option Nat}{V:bW}(h:Inv w Z g c V C s u)(a:bh s.b)(b:∀k,k<g.M->u.st k=1):Inv w Z g none V C s u:=
 ⟨h.ay,h.gt.whole a λm r=>by
  have d:=h.ob m;have f:s.ro.fr m=none:=by
   rw[d];split
   .rename_i e;unfold dL;rw[ak (b m e)]
   .rfl
  unfold Ro.down;rw[f],h.eK,h.ob,λk i e=>absurd (b k i) e,λ⟨_,_⟩=>a,h.fit,h.ev,h.same,h.qv⟩
structure Ka[Lo](Z:bg)(Q:M->Prop):Prop where
 cg:∀W,Q W->∃b,aB W Z.B b
 stay:∀W W',Q W->Fr [46] aF W W'->Q W'
theorem Kb[Lo](w:M)(G d:Nat)(s:Bool)(j:Nat)(l n:Int)(Z:bg)(g:au)(Q:M->Prop)(H:Ka Z Q)(o:d=30\/d=31\/d=32\/d=33\/d=34\/d=35\/d=36\/d=37\/d=38\/d=39)(t:GZ (j:Nat)=some (.agg #[.func (.func d) #[] #[],.bool s]))(u:cw w G Z g)(x:∃b,aB w Z.B b)(y:Lo.lo<=w.heap.size)(z:∀W,ar w W->aD d #[aq G,fh j l n 0 aU aU] W λe f=>aK e (cQ 0 aU 0)/\Fr ed aF W f/\Q f):
  aD 11 #[aq G,fh j l n 0 aU aU] w λe f=>∃i,aK e (cQ 0 aU i)/\Fr ed aF w f/\Q f:=by
 refine(pI w G d s j l n 0 aU aU Z g (λk v W=>k=0/\v= aU/\Q W) o t u x (λW A=>?_) (λk v W h=>H.cg W h.2.2) (λk v W B h C=>⟨h.1,h.2.1,H.stay W B h.2.2 C⟩) y).mono ?_
 .exact (z W A).mono λe f ⟨p,q,r⟩=>⟨0,none,0,0,p,q,rfl,rfl,r⟩
 .rintro e f ⟨k,a,m,c,i,p,q,r,D,E⟩;exact⟨i,by rw[p,r,D],q,E⟩
theorem y'[Lo](Z:bg)(g:au)(a:Option Nat)(V:bW)(C:Nat):Ka Z (λW=>∃s u,Inv W Z g a V C s u):=
 ⟨λ_ ⟨_,_,h⟩=>⟨_,h.ay.rs.cg⟩,λ_ _ ⟨s,u,h⟩ b=>⟨s,u,h.fr b rfl⟩⟩
theorem Ey[Lo]{Z:bg}{V:bW}(j:cw w i Z g)(b:Inv w Z g none V C s u)(m n:Nat)(y:m<g.M)(E:n<=1000):
  aD 11 #[H i,fh 8 m n 0 aU aU] w λe f=>∃l,aK e (cQ 0 aU l)/\Fr ed aF w f/\∃s u,Inv f Z g (some m) V C s u:=by
 refine Kb w i 37 false 8 m n Z g _ (y' Z g (some m) V C) aJ rfl j ⟨_,b.ay.rs.cg⟩ b.low λW o=>?_;refine(Em i Z g 8 m n 0 aU aU W (λp W=>p=0/\∃s u,Inv W Z g (some m) V C s u) ((o.block _ (Z_ j)).trans j) ⟨λz q=>?_,λp F G ⟨c,s,u,d⟩ A=>⟨c,s,u,d.fr A rfl⟩,QO b.low o.size⟩).mono λe f ⟨p,c,d,h,B⟩=>⟨by rw[c,h],d,B⟩;have a:=(((b.below o).below q).nO y);have D:=a.gt.gd.N;obtain⟨v,r⟩:=GS (k:=m) b.gt.gd.dev.fR (by rw[D];omega);refine(Cu Z.B m n s.b v z a.ay.rs.cg J r J).mono ?_;rintro e f ⟨c,d,h⟩;have t:∀k,k<g.M->u.st k=1:=λk x=>Decidable.by_contra λe=>by have:=b.only k x e;cases this
 exact⟨0,c,h.wide ed rfl,rfl,_,u,(a.DM.cg d h (a.gt.fO rfl r) (a.fit.put r ⟨rfl,QP _⟩)).up λ⟨k,x,e⟩=>by rw[t k x]at e;cases e⟩
theorem pL[Lo]{Z:bg}{V:bW}(m:Nat)(h:cw w n Z g)(d:Inv w Z g (some m) V C s u)(p:m<g.M)(q:1000<=C):
  aD 11 #[H n,fh 4 m 0 0 aU aU] w λe f=>∃i,aK e (cQ 0 aU i)/\Fr ed aF w f/\∃s u,Inv f Z g (some m) V (C-1000) s u:=by
 refine Kb w n 33 false 4 m 0 Z g _ (y' Z g (some m) V (C-1000)) aJ rfl h ⟨_,d.ay.rs.cg⟩ d.low λW j=>?_;refine(El n Z g 4 m 0 0 aU aU W (λk W=>k=0/\∃s u,Inv W Z g (some m) V (C-1000) s u) ((j.block _ (Z_ h)).trans h) ⟨λy l=>?_,λk z A ⟨a,s,u,b⟩ r=>⟨a,s,u,b.fr r rfl⟩,QO d.low j.size⟩).mono λe f ⟨k,a,b,o,t⟩=>⟨by rw[a,o],b,t⟩;have c:=(d.below j).below l;refine(yV m c.DM p q).mono ?_;rintro e f ⟨a,v,x,b,-,-,o⟩;exact⟨0,a,c.ay.wide o,rfl,v,x,b⟩
theorem Ez[Lo](Z:bg)(g:au)(a:Option Nat)(V:bW)(C:Nat)(X:Rs->Su->Prop):Ka Z (λW=>∃s u,Inv W Z g a V C s u/\X s u):=
 ⟨λW ⟨s,u,h,_⟩=>⟨_,h.ay.rs.cg⟩,λW d ⟨s,u,h,b⟩ c=>⟨s,u,h.fr c rfl,b⟩⟩
theorem vH[Lo]{Z:bg}{V:bW}(m:Nat)(a:cw w n Z g)(b:Inv w Z g (some m) V C s u)(h:m<g.M)(i:200000<=C):
  aD 11 #[H n,fh 5 m 0 0 aU aU] w λe c=>∃d,aK e (cQ 0 aU d)/\Fr ed aF w c/\∃s u,Inv c Z g (some m) V (C-40000) s u/\u.st m=3/\u.cur=0:=by
 refine Kb w n 34 true 5 m 0 Z g _ (Ez Z g (some m) V (C-40000) λs u=>u.st m=3/\u.cur=0) aJ rfl a ⟨_,b.ay.rs.cg⟩ b.low λW f=>?_;refine(vB Z g m V C n s u 5 0 0 aU aU W (b.below f) ((f.block _ (Z_ a)).trans a) h i).mono ?_;rintro e c ⟨j,k,l,o,p,q,r,-⟩;exact⟨j,k,l,o,p,q,r⟩
theorem Hi[Lo]{Z:bg}{V:bW}(m:Nat)(c:cw w n Z g)(d:Inv w Z g (some m) V C s u)(f:m<g.M)(h:200000<=C):
  aD 11 #[H n,fh 5 m 0 0 aU aU] w λe b=>∃a,aK e (cQ 0 aU a)/\Fr ed aF w b/\∃s u,Inv b Z g (some m) V (C-40000) s u:=
 (vH m c d f h).mono λe b ⟨a,i,j,s,u,k,_⟩=>⟨a,i,j,s,u,k⟩
def AT[Lo](Z:bg)(g:au)(d:Option Nat)(V:bW)(C:Nat)(b:Su)(a:Bool)(c:Nat)(W:QL):Prop:=
 ((c=160/\a=false)\/c=0)/\∃s u,Inv W Z g d V C s u/\(a=true->bh s.b/\∀k,k<g.M->u.st k=1)/\∀m,m<g.M->b.st m=3->c=0/\a=decide (b.cur+1=g.s)/\bh s.b/\(a=false->u.st m=3/\u.cur=b.cur+1)
theorem AT.fr[Lo]{Z:bg}{a:Option Nat}{V:bW}{b:Su}(h:AT Z g a V C b d n W)(c:Fr T aF W w)(e:(120::122::TA).all (λt=> !T.contains t)=true):AT Z g a V C b d n w:=by obtain⟨f,s,u,i,j⟩:=h;exact⟨f,s,u,i.fr c e,j⟩
theorem vI[Lo]{Z:bg}{t:Option Nat}{V:bW}(D:cw w n Z g)(z:Inv w Z g t V C s u)(Q:200000<=C):
  aD 11 #[aq n,fh 6 0 0 0 aU aU] w λe q=>∃(f:Bool) (b:Nat) (a:Option TF) (m c:Nat) (r:Int),aK e (cQ b (.slice a m c) r)/\Fr ed aF w q/\AT Z g t V (C-30000) u f b q/\((b=160/\m=0)\/(b=0/\m=1/\cN q (.slice a 1 c) 1 λ_=>if f=true then 1 else 0)):=by
 refine(pI w n 35 true 6 0 0 0 aU aU Z g (λb v W=>∃f,AT Z g t V (C-30000) u f b W/\((b=160/\v= aU)\/(b=0/\∃a c,v=.slice a 1 c/\cN W v 1 λ_=>if f=true then 1 else 0))) aJ rfl D ⟨_,z.ay.rs.cg⟩ (λW E=>?_) (λb v W h=>?_) (λb v W F h A=>?_) z.low).mono ?_
 .refine (En n Z g 6 0 0 0 aU aU W (λf b W=>AT Z g t V (C-30000) u f b W) ((E.block _ (Z_ D)).trans D) ⟨λF G=>?_,λf b T U h A=>h.fr A rfl,QO z.low E.size⟩).mono ?_
  .have j:=(z.below E).below G;by_cases i:∃m,m<g.M/\u.st m=3
   .obtain ⟨m,L,i⟩:=i;obtain rfl:=j.only m L (by rw[i];decide);refine(GX Z g m V C s u F j L i Q).mono ?_;rintro e q ⟨l,O,P,d,o,x,B⟩;refine⟨_,0,l,j.ay.wide x,.inr rfl,O,P,d,λK=>⟨o,?_⟩,λk y S=>⟨rfl,rfl,o,λK=>?_⟩⟩
    .rw [ak (of_decide_eq_true K)]at B;exact B
    .rw [al (of_decide_eq_false K)]at B;have:=j.only k y (by rw[S];decide);cases this;exact B
   .refine (AI Z g t V C s u F j λk y e=>i ⟨k,y,e⟩).mono ?_;rintro e q ⟨l,p,d⟩;exact⟨false,160,l,j.ay.wide d,.inl ⟨rfl,rfl⟩,s,u,p.less (ZH _ _),(λe=>by cases e),λk y e=>absurd ⟨k,y,e⟩ i⟩
  .rintro e q ⟨f,b,l,p,i⟩;rcases i with⟨i,d⟩|⟨i,a,c,d,o⟩
   .have x:b=160:=by
     rcases p.1 with h|h
     .exact h.1
     .exact absurd h i
    exact⟨b,none,0,0,d,l,f,p,.inl ⟨x,rfl⟩⟩
   .exact ⟨0,a,1,c,d,l,f,i▸p,.inr ⟨rfl,a,c,rfl,o⟩⟩
 .obtain ⟨f,⟨-,O,P,d,-⟩,-⟩:=h;exact⟨_,d.ay.rs.cg⟩
 .obtain ⟨f,l,p⟩:=h;refine⟨f,l.fr A rfl,p.imp id ?_⟩;rintro⟨i,a,c,d,o⟩;exact⟨i,a,c,d,o.fr A rfl⟩
 .rintro e q ⟨b,a,m,c,r,l,p,f,i,d⟩;refine⟨f,b,a,m,c,r,l,p,i,?_⟩;rcases d with⟨d,o⟩|⟨d,X,H,o,x⟩
  .cases o;exact .inl ⟨d,rfl⟩
  .cases o;exact .inr ⟨d,rfl,x⟩
section
@[reducible] def tc (kd x y:Nat)(la:Option TF)(L lc:Nat)(ra:Option TF)(rn rc:Nat):QN:=.agg #[bs kd,bs x,bs y,.slice la L lc,.slice ra rn rc]
theorem kS.less[Lo]{w:M}{P G:Nat}{Z:bg}{g:au}{a:Int}{aw:Option Nat}{V:bW}{C b:Nat}{wn:Bool}(h:kS w P G Z g a aw V C wn)(c:b<=C):kS w P G Z g a aw V b wn:=
 ⟨h.pl,h.hn,by obtain⟨s,u,q⟩:=h.inv;exact⟨s,u,q.less c⟩,h.lo⟩
theorem gM.less[Lo]{w:M}{P G:Nat}{Z:bg}{g:au}{aw:Option Nat}{V:bW}{C a:Nat}{wn:Bool}(h:gM w P G Z g aw V C wn)(b:a<=C):gM w P G Z g aw V a wn:=kS.less h b
def td[Lo](P G:Nat)(Z:bg)(g:au)(C:Nat)(w:M)(e:SG)(a:M):Prop:=aK e dU/\Fr TP aF w a/\∃aw V wn,gM a P G Z g aw V (C-250000) wn
theorem oe[Lo]{w:M}{T:Nat}(h:aZ w T z46)(c:Lo.lo<=T)(b:Nat)(v:QN)(a:Int):
  (((w.setCell (R T 0) (.int .u16 b)).setCell (R T 1) v).setCell (R T 2) (Y a)).heap[T]?=some (N #[.int .u16 b,v,Y a] 46)/\Fr [46] aF w (((w.setCell (R T 0) (.int .u16 b)).setCell (R T 1) v).setCell (R T 2) (Y a)):=by
 have d:=heap_setCell_same w T 0 _ 46 (.int .u16 b) h;have e:=heap_setCell_same _ T 1 _ 46 v d;have f:=heap_setCell_same _ T 2 _ 46 (Y a) e;exact⟨f,(((Fr.refl [46] aF w).set (p:=R T 0) h rfl c _).set (p:=R T 1) d rfl c _).set (p:=R T 2) e rfl c _⟩
section
variable [Lo] (P G:Nat) (Z:bg) (g:au) (aw:Option Nat) (V:bW) (C:Nat) (wn:Bool) (kd x y L lc rn rc:Nat) (la ra:Option TF) (w:QL) (h:gM w P G Z g aw V C wn) (hC:1000000<=C) (hkd:kd<256) (hx:x<256) (hy:y<256)
include h hC hkd hx hy
theorem AU(c d:aO)(z:AP w (.slice la L lc) L c d)(A:L<=20000)(f:∀i,i<L->c i<65536)(j:∀i,i<L->d i<256)(B:kd%12<5):
  aD 9 #[aq P,tc kd x y la L lc ra rn rc] w (td P G Z g C w):=by
 have _:=hkd;have _:=hx;have _:=hy;have k:ar w (w.alloc (ao #[bs kd,bs x,bs y,.slice la L lc,.slice ra rn rc] 34)):=aI aj _;have D:=QM w (ao #[bs kd,bs x,bs y,.slice la L lc,.slice ra rn rc] 34);have E:=ad (λW (l:ar w W)=>AR P G Z g aw V C wn (.slice la L lc) L c d W (h.below l) hC (by obtain⟨a,m,e,q⟩:=z;refine⟨a,m,e,q.imp id ?_⟩;rintro⟨b,o,F,r⟩;exact⟨b,o,F,λi s=>⟨(Out.af (S:=λ_=>False) l).cell (r i s).1 id,(Out.af (S:=λ_=>False) l).cell (r i s).2 id⟩⟩) A f j);obtain⟨Q,T,U⟩:=cr D;obtain⟨q,t⟩:=ah (kd%12);rw[t]at B;have X:((kd:Nat):Int).tmod 12=((q:Nat):Int):=by rw[<-t];exact SK _ _
 have H:ZN.wrap ((q:Nat):Int)=((q:Nat):Int):=bf;have n:=ad k;go_enter func9,ntmps9;go_wp2_with(first|(go_at_call 12;refine(E _ (by first|exact n|exact ct n _)).mono ?_;rintro e N ⟨rfl,K,O,u⟩;have v:=aA K u;obtain⟨M,R,I,Y,p,-,-⟩:=u.pl.aL;obtain⟨J,p2,p3⟩:=cr p));go_ret;exact⟨rfl,(Fr.af n).tr v.1,aw,O,wn,v.2⟩
theorem EA(r:kd%12=5\/kd%12=6):
  aD 9 #[aq P,tc kd x y la L lc ra rn rc] w (td P G Z g C w):=by
 have _:=hkd;have c:ar w (w.alloc (ao #[bs kd,bs x,bs y,.slice la L lc,.slice ra rn rc] 34)):=aI aj _;have A:=QM w (ao #[bs kd,bs x,bs y,.slice la L lc,.slice ra rn rc] 34);have s:=ad (λW k n (j:k+n<=g.B) (l:ar w W)=>Ew P G Z g aw V C wn k n W (h.below l) aa j);obtain⟨T,U,d⟩:=h.inv;have f:=au.Er d.eK.bZ;have m:=au.J_ d.eK.bZ;obtain⟨X,H,N,M,o,-,-⟩:=(h.below c).pl.aL;obtain⟨D,R,I⟩:=cr o;obtain⟨Y,J,a3⟩:=cr A;obtain⟨B,E⟩:=ah g.B;rw[E]at D f m s;obtain⟨k,j⟩:=ah (x%B);have F:k<B:=by rw[<-j];exact SB _ f
 obtain⟨i,K⟩:=ah (B-k);obtain⟨a,O⟩:=ah (i+1);obtain⟨n,t⟩:=ah (y%a);have fX:n<a:=by rw[<-t];exact SB _ aa
 have m1:((x:Nat):Int).tmod (B:Nat)=((k:Nat):Int):=by rw[<-j];exact SK _ _
 have m2:((y:Nat):Int).tmod (a:Nat)=((n:Nat):Int):=by rw[<-t];exact SK _ _
 have z1:¬(B:Int)=0:=aa;have z2:¬B=0:=aa;have z3:¬(a:Int)=0:=aa;have z4:¬a=0:=aa;have v1:QQ.wrap ((x:Nat):Int)=((x:Nat):Int):=bf;have v2:QQ.wrap ((y:Nat):Int)=((y:Nat):Int):=bf;have v3:QQ.wrap ((B:Int)-k)=((i:Nat):Int):=by rw[show(B:Int)-k=((i:Nat):Int)by omega];go_arith
 have v4:QQ.wrap ((i:Int)+1)=((a:Nat):Int):=by rw[show(i:Int)+1=((a:Nat):Int)by omega];go_arith
 have v5:QQ.wrap ((k:Nat):Int)=((k:Nat):Int):=bf;have v6:QQ.wrap ((n:Nat):Int)=((n:Nat):Int):=bf;have p:=ad (λW (l:ar w W)=>(s W k n aa l).mono λe u b=>show aK e (.tuple #[.bool true,aG 0])/\Fr TP aF w u/\gM u P G Z g aw V (C-1000) wn from⟨b.1,(Fr.af l).tr b.2.1,b.2.2⟩);have v:=ad c;obtain⟨q,b⟩:=ah (kd%12);rw[b]at r;have e1:((kd:Nat):Int).tmod 12=((q:Nat):Int):=by rw[<-b];exact SK _ _
 rcases r with rfl|rfl
 all_goals
  go_enter func9,ntmps9;go_wp2_with fail;go_quiet(fail);go_wp2_with fail;go_quiet(fail);go_wp2_with(first|(go_at_call 10;refine(p _ (by first|exact v|exact ct v _)).mono ?_;rintro e w2 ⟨rfl,Q,S⟩;have z:=aA Q S));go_ret;exact⟨rfl,z.1,aw,V,wn,z.2.less aa⟩
theorem AV(j:kd%12=7):
  aD 9 #[H P,tc kd x y la L lc ra rn rc] w (td P G Z g C w):=by
 have _:=hkd;have _:=hx;have _:=hy;have a:ar w (w.alloc (N #[bs kd,bs x,bs y,.slice la L lc,.slice ra rn rc] 34)):=aI aj _;have k:=QM w (N #[bs kd,bs x,bs y,.slice la L lc,.slice ra rn rc] 34);have l:=I (λW (c:ar w W)=>(AS P G Z g aw V C wn W (h.below c) hC).mono λe d b=>show aK e (aG 0)/\Fr TP aF w d/\gM d P G Z g aw V (C-250000) wn from⟨b.1,(Fr.af c).tr b.2.1,b.2.2⟩);obtain⟨o,p,q⟩:=cr k;have r:((kd:Nat):Int).tmod 12=((7:Nat):Int):=by rw[<-j];exact SK _ _
 have f:=I a;go_enter func9,ntmps9;go_wp2_with(first|(go_at_call 19;refine(l _ (by first|exact f|exact ct f _)).mono ?_;rintro e s ⟨rfl,m,n⟩;have i:=aA m n));go_ret;exact⟨rfl,i.1,aw,V,wn,i.2⟩
theorem EB(N:kd%12=9):
  aD 9 #[aq P,tc kd x y la L lc ra rn rc] w (td P G Z g C w):=by
 have _:=hkd;have _:=hx;have _:=hy;have b:ar w (w.alloc (ao #[bs kd,bs x,bs y,.slice la L lc,.slice ra rn rc] 34)):=aI aj _;have M:=QM w (ao #[bs kd,bs x,bs y,.slice la L lc,.slice ra rn rc] 34);obtain⟨a1,a2,a3⟩:=cr M;have e1:((kd:Nat):Int).tmod 12=((9:Nat):Int):=by rw[<-N];exact SK _ _
 obtain⟨b4,b5,b6,b7,c,f,i⟩:=(h.below b).pl.aL;obtain⟨p1,p2,p3⟩:=cr c;have a0:=ad b;have U:=aS c f i h;obtain⟨s0,u0,d⟩:=h.inv;cases aw with
 |none=>clear M N b h hC c f i;go_enter func9,ntmps9;go_wp2_with fail;go_ret;exact⟨rfl,Fr.af a0,none,V,wn,(U.2.2.2.below a0).less (ZH _ _)⟩
 |some m=>
  have a5:=d.gt.gd.nw m rfl;have a6:=ad (λW (R:ar w W)=>(Hi m ((R.block _ (Z_ h.hn)).trans h.hn) (d.below R) a5 aa).mono λe r t=>show∃a,aK e (cQ 0 aU a)/\Fr ed aF W r/\Fr ed aF w r/\∃s u,Inv r Z g (some m) V (C-40000) s u from t.imp λ_ t=>⟨t.1,t.2.1,(Fr.af R).tr t.2.1,t.2.2⟩);have d2:¬(m:Int)<0:=aa;have B:=d.low;obtain⟨a7,a8,a9,b0,D,E,F⟩:=h.pl.aL;have K:=ad D;have O:=aA E F;clear D E F;obtain⟨v,j⟩:=ah (w.alloc (ao #[bs kd,bs x,bs y,.slice la L lc,.slice ra rn rc] 34));have k:=c;have l:=b;rw[j]at k l;have X:=cr k;have q5:v.cell? (ag P 5)=some (aq G):=X.1 5;have b1:v.cell? (ag P 10)=some (ae m):=X.1 10;have q3:=X.2.2;have n:=ad l;have b2:=ad j;clear M N b h hC c f i d X k l j;go_enter func9,ntmps9;go_wp2_with fail;simp only[b2.out];clear p1 a1;go_cut [12] (λI Y=>∃(T:Nat) (a:Int),I= aq T/\RH (w.heap.size<=T/\aZ Y T (ao #[.int .u16 (0:Nat),aU,ae a] 46)/\Fr ed aF w Y/\∃s u,Inv Y Z g (some m) V (C-40000) s u))
  case first=>
   go_region_held3(λr=>r.cell? (ag P 5)=some (aq G)/\r.cell? (ag P 10)=some (ae m)) ((simp[*,go_sem];done)) (first
    |(go_at_call 11;refine(a6 _ (via n bC)).mono ?_;rintro e w2 ⟨a,rfl,a4,o,z⟩
      (try(have J:=a4.hp (QM v z46) rfl;obtain⟨c7,f7,z7⟩:=cr J;have H7:=ad J;clear J))
      have H:=cr (o.hp K rfl);have c1:w2.cell? (ag P 5)=some (aq G):=H.1 5;have c2:w2.cell? (ag P 10)=some (ae m):=H.1 10;have c4:=H.2.2;have Q:=aA o z;clear a4 o z H))
   all_goals go_wp2
   all_goals go_meet
   all_goals first
    |exact⟨_,a,rfl,n.size,(oe H7 (QO B n.size) 0 aU a).1,((Q.1.new (p:=ag v.heap.size 0) n.size _).new (p:=ag v.heap.size 1) n.size _).new (p:=ag v.heap.size 2) n.size _,by obtain⟨s,u,z⟩:=Q.2;exact⟨s,u,z.fr (oe H7 (QO B n.size) 0 aU a).2 rfl⟩⟩
    |exact⟨_,a,rfl,Q.1.size,QM _ _,Q.1.then (aI aj _),by obtain⟨s,u,z⟩:=Q.2;exact⟨s,u,z.below (aI aj _)⟩⟩
  case rest=>rename_i b3;refine b3 _ _ ?_;obtain⟨T,a,rfl,A⟩:=hcut;have q:=A.2.2.1.hp K rfl;obtain⟨t1,t2,t3⟩:=cr A.2.1;obtain⟨r1,r2,r3⟩:=cr q;have S:=ad q;clear q;go_wp2_with fail;go_ret;have f1:=(Fr.refl [44] aF wc).set (p:=ag P 11) S rfl U.2.2.2.lo iD;exact⟨rfl,(A.2.2.1.wide TP rfl).tr (f1.wide TP rfl),some m,V,false,gM.less (gM.vF (A.2.2.1.hp U.2.2.2.hn rfl) A.2.2.2 f1 (heap_setCell_same _ P 11 _ 44 _ S) (O.1.fr A.2.2.1 rfl) O.2 U.2.2.2.lo) aa⟩
end
end
section
section
variable [Lo] (P G:Nat) (Z:bg) (g:au) (aw:Option Nat) (V:bW) (C:Nat) (wn:Bool) (kd x y L lc rn rc:Nat) (la ra:Option TF) (w:QL) (h:gM w P G Z g aw V C wn) (hC:1000000<=C)
include h hC
theorem EC(a0:kd%12=10\/kd%12=11):
  aD 9 #[aq P,tc kd x y la L lc ra rn rc] w (td P G Z g C w):=by
 have t:ar w (w.alloc (ao #[bs kd,bs x,bs y,.slice la L lc,.slice ra rn rc] 34)):=aI aj _;have a7:=QM w (ao #[bs kd,bs x,bs y,.slice la L lc,.slice ra rn rc] 34);obtain⟨s0,u0,S⟩:=h.inv;have a8:=ad (λW (a4:ar w W)=>vI ((a4.block _ (Z_ h.hn)).trans h.hn) (S.below a4) (by omega:200000<=C));obtain⟨a1,a2,a3⟩:=cr a7;obtain⟨b4,b5,b6,b7,v,U,X⟩:=(h.below t).pl.aL;obtain⟨p1,p2,p3⟩:=cr v;have H:=ad t;have d:=aS v U X h;obtain⟨q,Q⟩:=ah (kd%12);rw[Q]at a0;have e1:((kd:Nat):Int).tmod 12=((q:Nat):Int):=by rw[<-Q];exact SK _ _
 have a9:=ad a0;rcases a9.out with e|e
 all_goals
  rw[e]at e1;go_enter func9,ntmps9;go_wp2_with fail;refine(a8 _ H).mono ?_;rintro e l ⟨a5,a6,a,m,c,z,rfl,j,A,Q⟩;have k:ar l (l.alloc (ao #[aG a6,.slice a m c,ae z] 46)):=aI aj _;have N:=QM l (ao #[aG a6,.slice a m c,ae z] 46);have i:=j.hp d.1 rfl;have B:=(k.block _ (Z_ i)).trans i;have D:=(d.2.1.fr j rfl).below k;have M:=((Fr.af (T:=ed) H).tr j).then k;have E:=A.fr (T:= []) (Fr.af k) rfl;obtain⟨t1,t2,t3⟩:=cr N;obtain⟨r1,r2,r3⟩:=cr B;obtain⟨j1,j2,j3⟩:=cr i;have f:=aS B D M E;have r:=aS ((Fr.af (T:=ed) H).tr j) i (d.2.1.fr j rfl) A;rcases Q with⟨rfl,rfl⟩|⟨rfl,rfl,F⟩
  .clear j k;go_wp2_with fail;go_ret;obtain⟨-,s,u,n,-⟩:=f.2.2.2;exact⟨rfl,f.2.2.1.wide TP rfl,aw,V,wn,(gM.vG (f.2.2.1.hp d.2.2.2.hn rfl) ⟨s,u,n⟩ f.1 f.2.1 d.2.2.1 d.2.2.2.lo).less aa⟩
  .obtain ⟨b8,b9,b0,F⟩:=F;cases b0;rcases F with F|⟨b,o,b1,b2,rfl,K,R⟩
   .cases F
   have c0:=Z_ K;have O:l.cell? (ag b o)=some (.int .u8 ((if a5=true then 1 else 0:Nat):Nat)):=(RD _ b o b1 5 b2 K).trans (R 0 aa);cases a5
   .have I:l.cell? (ag b o)=some (.int .u8 0):=O;go_wp2_with fail;go_ret;obtain⟨-,s,u,n,-⟩:=f.2.2.2;exact⟨rfl,f.2.2.1.wide TP rfl,aw,V,wn,(gM.vG (f.2.2.1.hp d.2.2.2.hn rfl) ⟨s,u,n⟩ f.1 f.2.1 d.2.2.1 d.2.2.2.lo).less aa⟩
   .have I:l.cell? (ag b o)=some (.int .u8 1):=O;cases wn
    .go_wp2_with fail;go_ret;have f1:=(Fr.refl [44] aF l).set (p:=ag P 10) r.2.1 rfl d.2.2.2.lo (ae (-1));obtain⟨-,s,u,n,b3,-⟩:=r.2.2.2;obtain⟨Y,J⟩:=b3 rfl;exact⟨rfl,((r.1.wide TP rfl).tr (f1.wide TP rfl)).then (aI aj _),none,V,false,(gM.less (gM.vF (r.1.hp d.2.2.2.hn rfl) ⟨s,u,n.whole Y J⟩ f1 (heap_setCell_same _ P 10 _ 44 _ r.2.1) r.2.2.1 d.2.2.1 d.2.2.2.lo) aa).below (aI aj _)⟩
    .go_wp2_with fail;go_ret;obtain⟨-,s,u,n,-⟩:=f.2.2.2;exact⟨rfl,f.2.2.1.wide TP rfl,aw,V,true,(gM.vG (f.2.2.1.hp d.2.2.2.hn rfl) ⟨s,u,n⟩ f.1 f.2.1 d.2.2.1 d.2.2.2.lo).less aa⟩
end
end
section
section
variable [Lo] (P G:Nat) (Z:bg) (g:au) (aw:Option Nat) (V:bW) (C:Nat) (wn:Bool) (kd x y L lc rn rc:Nat) (la ra:Option TF) (w:QL) (h:gM w P G Z g aw V C wn) (hC:1000000<=C) (hx:x<256) (hy:y<256)
include h hC hx hy
theorem ED(e:Nat)(n:kd%12=8)(s:aw=some e)(o:e≠x%g.M):
  aD 9 #[aq P,tc kd x y la L lc ra rn rc] w (td P G Z g C w):=by
 have _:=hC;have _:=hy;subst s;have b:ar w (w.alloc (ao #[bs kd,bs x,bs y,.slice la L lc,.slice ra rn rc] 34)):=aI aj _;have p:=QM w (ao #[bs kd,bs x,bs y,.slice la L lc,.slice ra rn rc] 34);obtain⟨z,A,c⟩:=h.inv;have l:=c.eK.bZ.m3;have f:=c.eK.bZ.m16;obtain⟨B,D,E⟩:=cr p;obtain⟨F,K,O,Q,d,i,j⟩:=(h.below b).pl.aL;obtain⟨k,S,T⟩:=cr d;have q:=ad b;have t:=aS d i j h;obtain⟨M,r⟩:=ah g.M;rw[r]at o k l f;obtain⟨m,a⟩:=ah (x%M);rw[a]at o;have u:m<M:=by rw[<-a];exact SB _ J
 have U:((x:Nat):Int).tmod (M:Nat)=((m:Nat):Int):=by rw[<-a];exact SK _ _
 have W:¬(M:Int)=0:=J;have X:¬M=0:=J;have H:QQ.wrap ((x:Nat):Int)=((x:Nat):Int):=bf;have N:QQ.wrap ((m:Nat):Int)=((m:Nat):Int):=bf;have R:((kd:Nat):Int).tmod 12=((8:Nat):Int):=by rw[<-n];exact SK _ _
 have d1:(0:Int)<=(e:Int):=J;have d2:¬(e:Int)=m:=J;have v:=k 0;have I:(w.alloc (ao #[bs kd,bs x,bs y,.slice la L lc,.slice ra rn rc] 34)).cell? (ag P 10)=some (Y e):=k 10;have v:(w.alloc (ao #[bs kd,bs x,bs y,.slice la L lc,.slice ra rn rc] 34)).cell? (ag P 0)=some (Y M):=k 0;clear p b h c d i j n a r k;go_enter func9,ntmps9;go_wp2_with fail;go_quiet(fail);go_wp2_with fail;go_ret;exact⟨rfl,(Fr.af q).then (ct aj _),some e,V,wn,((t.2.2.2.below q).below (ct aj _)).less (ZH _ _)⟩
end
end
section
section
variable [Lo] (P G:Nat) (Z:bg) (g:au) (aw:Option Nat) (V:bW) (C:Nat) (wn:Bool) (kd x y L lc rn rc:Nat) (la ra:Option TF) (w:QL) (h:gM w P G Z g aw V C wn) (hC:1000000<=C) (hx:x<256) (hy:y<256)
include h hC hx hy
theorem vJ(T:kd%12=8)(U:aw=none/\y%2=0\/aw=some (x%g.M)):
  aD 9 #[aq P,tc kd x y la L lc ra rn rc] w (td P G Z g C w):=by
 have _:=hy;have r:ar w (w.alloc (ao #[bs kd,bs x,bs y,.slice la L lc,.slice ra rn rc] 34)):=aI aj _;have I:=QM w (ao #[bs kd,bs x,bs y,.slice la L lc,.slice ra rn rc] 34);obtain⟨Y,J,d⟩:=h.inv;have z:Inv w Z g (some (x%g.M)) V C Y J:=by
  have h3:=d.eK.bZ.m3;rcases U with⟨rfl,-⟩|rfl
  .exact d.nO (SB _ aa)
  .exact d
 have X:=ad (λW (a7:Fr TP aF w W) (T:cw W G Z g) (A:Inv W Z g (some (x%g.M)) V C Y J)=>pL (x%g.M) T A (SB _ (by have:=d.eK.bZ.m3;omega)) aa);have a0:=ad z;have H:=d.eK.bZ.m3;have B:=d.eK.bZ.m16;obtain⟨a1,a2,a3⟩:=cr I;obtain⟨a8,a9,b0,b1,a,D,E⟩:=(h.below r).pl.aL;obtain⟨v,p2,p3⟩:=cr a;have a4:=ad r;have b:=aS a D E h;obtain⟨M,N⟩:=ah g.M;have K:=ad N;rw[N]at v H B U X;obtain⟨m,k⟩:=ah (x%M);have a6:m<M:=by rw[<-k];exact SB _ aa
 rw[k]at U X;have a5:=ad k;have m1:((x:Nat):Int).tmod (M:Nat)=((m:Nat):Int):=by rw[<-k];exact SK _ _
 have z2:¬M=0:=aa;have v1:QQ.wrap ((x:Nat):Int)=((x:Nat):Int):=bf;have v2:QQ.wrap ((m:Nat):Int)=((m:Nat):Int):=bf;have e1:((kd:Nat):Int).tmod 12=((8:Nat):Int):=by rw[<-T];exact SK _ _
 have q1:(w.alloc (ao #[bs kd,bs x,bs y,.slice la L lc,.slice ra rn rc] 34)).cell? (ag P 0)=some (ae M):=v 0;clear r h hC d z a D E T k N I;rcases U with⟨rfl,R⟩|rfl
 .have y1:((y:Nat):Int).tmod 2=((0:Nat):Int):=by rw[<-R];exact SK _ _
  go_enter func9,ntmps9;go_wp2_with fail;go_quiet(fail);go_wp2_with fail;have O:=heap_setCell_same ((w.alloc (ao #[bs kd,bs x,bs y,.slice la L lc,.slice ra rn rc] 34)).drewN nq) P 10 _ 44 (ae m) b.1;have f0:Fr [44] aF w (((w.alloc (ao #[bs kd,bs x,bs y,.slice la L lc,.slice ra rn rc] 34)).drewN nq).setCell (ag P 10) (ae m)):=(Fr.af (ct a4 nq)).set (p:=ag P 10) b.1 rfl b.2.2.2.lo (ae m);have l:SM (w.alloc (ao #[bs kd,bs x,bs y,.slice la L lc,.slice ra rn rc] 34)).heap.size (w.alloc (ao #[bs kd,bs x,bs y,.slice la L lc,.slice ra rn rc] 34)) ((w.alloc (ao #[bs kd,bs x,bs y,.slice la L lc,.slice ra rn rc] 34)).drewN nq):=ct aj nq;have Q:Fr [44] aF (w.alloc (ao #[bs kd,bs x,bs y,.slice la L lc,.slice ra rn rc] 34)) ((w.alloc (ao #[bs kd,bs x,bs y,.slice la L lc,.slice ra rn rc] 34)).drewN nq|>.setCell (ag P 10) (ae m)):=(Fr.af l).set (p:=ag P 10) b.1 rfl b.2.2.2.lo (ae m);refine(X _ (f0.wide TP rfl) (f0.hp b.2.2.2.hn rfl) (by have S:=a0.fr f0 rfl;rw[K.out,a5.out]at S;exact S)).mono ?_;rintro e t ⟨n,rfl,f,o⟩;have a:=f.hp O rfl;have i:ar t (t.alloc (ao #[aG 0,aU,ae n] 46)):=aI aj _;have q:=QM t (ao #[aG 0,aU,ae n] 46);have j:=(i.block _ (Z_ a)).trans a;obtain⟨t1,t2,t3⟩:=cr q;obtain⟨r1,r2,r3⟩:=cr j;have c:=eM (f0.wide TP rfl) f o i j Q;clear l Q O f0 f o a i q j v p2 q1;go_wp2_with fail;go_ret;have f1:=(Fr.refl [44] aF _).set (p:=ag P 11) c.2.2.2.2.1 rfl b.2.2.2.lo iD;have F:=(c.1.tr (c.2.1.wide TP rfl)).then c.2.2.2.1;exact⟨rfl,F.tr (f1.wide TP rfl),some m,V,false,gM.less (gM.vF (F.hp b.2.2.2.hn rfl) (by obtain⟨s,u,A⟩:=c.2.2.1;exact⟨s,u,A.below c.2.2.2.1⟩) f1 (heap_setCell_same _ P 11 _ 44 _ c.2.2.2.2.1) (((b.2.1.fr c.2.2.2.2.2 rfl).fr c.2.1 rfl).below c.2.2.2.1) b.2.2.1 b.2.2.2.lo) aa⟩
 .have d1:(0:Int)<=(m:Int):=aa;have q2:(w.alloc (ao #[bs kd,bs x,bs y,.slice la L lc,.slice ra rn rc] 34)).cell? (ag P 10)=some (ae m):=v 10;have q5:(w.alloc (ao #[bs kd,bs x,bs y,.slice la L lc,.slice ra rn rc] 34)).cell? (ag P 5)=some (aq G):=v 5;clear v;go_enter func9,ntmps9;go_wp2_with fail;go_quiet(fail);go_wp2_with fail;have O:=heap_setCell_same ((w.alloc (ao #[bs kd,bs x,bs y,.slice la L lc,.slice ra rn rc] 34)).drewN nq) P 10 _ 44 (ae m) b.1;have f0:Fr [44] aF w (((w.alloc (ao #[bs kd,bs x,bs y,.slice la L lc,.slice ra rn rc] 34)).drewN nq).setCell (ag P 10) (ae m)):=(Fr.af (ct a4 nq)).set (p:=ag P 10) b.1 rfl b.2.2.2.lo (ae m);have l:SM (w.alloc (ao #[bs kd,bs x,bs y,.slice la L lc,.slice ra rn rc] 34)).heap.size (w.alloc (ao #[bs kd,bs x,bs y,.slice la L lc,.slice ra rn rc] 34)) ((w.alloc (ao #[bs kd,bs x,bs y,.slice la L lc,.slice ra rn rc] 34)).drewN nq):=ct aj nq;have Q:Fr [44] aF (w.alloc (ao #[bs kd,bs x,bs y,.slice la L lc,.slice ra rn rc] 34)) ((w.alloc (ao #[bs kd,bs x,bs y,.slice la L lc,.slice ra rn rc] 34)).drewN nq|>.setCell (ag P 10) (ae m)):=(Fr.af l).set (p:=ag P 10) b.1 rfl b.2.2.2.lo (ae m);refine(X _ (f0.wide TP rfl) (f0.hp b.2.2.2.hn rfl) (by have S:=a0.fr f0 rfl;rw[K.out,a5.out]at S;exact S)).mono ?_;rintro e t ⟨n,rfl,f,o⟩;have a:=f.hp O rfl;have i:ar t (t.alloc (ao #[aG 0,aU,ae n] 46)):=aI aj _;have q:=QM t (ao #[aG 0,aU,ae n] 46);have j:=(i.block _ (Z_ a)).trans a;obtain⟨t1,t2,t3⟩:=cr q;obtain⟨r1,r2,r3⟩:=cr j;have c:=eM (f0.wide TP rfl) f o i j Q;clear l Q O f0 f o a i q j p2 q1 q2 q5;go_wp2_with fail;go_ret;have f1:=(Fr.refl [44] aF _).set (p:=ag P 11) c.2.2.2.2.1 rfl b.2.2.2.lo iD;have F:=(c.1.tr (c.2.1.wide TP rfl)).then c.2.2.2.1;exact⟨rfl,F.tr (f1.wide TP rfl),some m,V,false,gM.less (gM.vF (F.hp b.2.2.2.hn rfl) (by obtain⟨s,u,A⟩:=c.2.2.1;exact⟨s,u,A.below c.2.2.2.1⟩) f1 (heap_setCell_same _ P 11 _ 44 _ c.2.2.2.2.1) (((b.2.1.fr c.2.2.2.2.2 rfl).fr c.2.1 rfl).below c.2.2.2.1) b.2.2.1 b.2.2.2.lo) aa⟩
end
end
section
section
variable [Lo] (P G:Nat) (Z:bg) (g:au) (aw:Option Nat) (V:bW) (C:Nat) (wn:Bool) (kd x y L lc rn rc:Nat) (la ra:Option TF) (w:QL) (h:gM w P G Z g aw V C wn) (hC:1000000<=C) (hx:x<256) (hy:y<256)
include h hC hx hy
theorem EE(D:kd%12=8)(a6:aw=none/\y%2=1):
  Calls VW 9 #[.pointer (some ⟨P,0,none⟩),tc kd x y la L lc ra rn rc] w (td P G Z g C w):=by
 have o:SM w.heap.size w (w.alloc (.cells #[.int .u8 (kd:Nat),.int .u8 (x:Nat),.int .u8 (y:Nat),.slice la L lc,.slice ra rn rc] 34)):=aI (SV _ _) _;have a7:=QM w (.cells #[.int .u8 (kd:Nat),.int .u8 (x:Nat),.int .u8 (y:Nat),.slice la L lc,.slice ra rn rc] 34);obtain⟨s0,u0,i⟩:=h.inv;obtain⟨rfl,O⟩:=a6;have Q:=RI (λW (U:Fr TP aF w W) (D:cw W G Z g) (q:Inv W Z g none V C s0 u0)=>(Ey D q (x%g.M) y (SB _ (by have:=i.eK.bZ.m3;omega)) (by omega)).mono λe f b=>show∃a,e=.returned (cQ 0 aU a)/\Fr ed aF W f/\Fr TP aF w f/\∃s u,Inv f Z g (some (x%g.M)) V C s u from b.imp λ_ b=>⟨b.1,b.2.1,U.tr (b.2.1.wide TP rfl),b.2.2⟩);have X:=i;have a8:=RI X;have H:=i.eK.bZ.m3;have t:=i.eK.bZ.m16;obtain⟨a1,a2,a3⟩:=cr a7;obtain⟨b3,b4,b5,b6,v,N,R⟩:=(h.below o).pl.aL;obtain⟨p1,p2,p3⟩:=cr v;have a9:=RI o;have c:=RI (And.intro v (And.intro N (And.intro R h)));obtain⟨M,a5⟩:∃M,g.M=M:=⟨_,rfl⟩;rw[a5]at p1 H t Q;obtain⟨m,j⟩:∃m,x%M=m:=⟨_,rfl⟩;have b0:m<M:=by rw[<-j];exact SB _ (by omega)
 rw[j]at Q;have m1:((x:Nat):Int).tmod (M:Nat)=((m:Nat):Int):=by rw[<-j];exact SK _ _
 have z2:¬M=0:=by omega
 have v1:QQ.wrap ((x:Nat):Int)=((x:Nat):Int):=by go_arith
 have e1:((kd:Nat):Int).tmod 12=((8:Nat):Int):=by rw[<-D];exact SK _ _
 clear o D j a5;have y1:((y:Nat):Int).tmod 2=((1:Nat):Int):=by rw[<-O];exact SK _ _
 have v3:QQ.wrap ((y:Nat):Int)=((y:Nat):Int):=by go_arith
 go_enter Tryz.func9,Tryz.ntmps9;go_wp2_with fail;go_quiet(fail);go_wp2_with fail;have z:SM (w.alloc (.cells #[.int .u8 (kd:Nat),.int .u8 (x:Nat),.int .u8 (y:Nat),.slice la L lc,.slice ra rn rc] 34)).heap.size (w.alloc (.cells #[.int .u8 (kd:Nat),.int .u8 (x:Nat),.int .u8 (y:Nat),.slice la L lc,.slice ra rn rc] 34)) ((w.alloc (.cells #[.int .u8 (kd:Nat),.int .u8 (x:Nat),.int .u8 (y:Nat),.slice la L lc,.slice ra rn rc] 34)).drewN nq):=ct (SV _ _) nq;have I:=heap_setCell_same ((w.alloc (.cells #[.int .u8 (kd:Nat),.int .u8 (x:Nat),.int .u8 (y:Nat),.slice la L lc,.slice ra rn rc] 34)).drewN nq) P 10 _ 44 (.int .i64 (m:Nat)) c.out.1;have E:=heap_setCell_same _ P 11 _ 44 dU I;have f0:=((Fr.af (T:= [44]) (S:=aF) (ct a9.out nq)).set (p:=⟨P,10,none⟩) c.out.1 rfl c.out.2.2.2.lo (.int .i64 (m:Nat))).set (p:=⟨P,11,none⟩) I rfl c.out.2.2.2.lo dU;have F:=((Fr.af (T:= [44]) (S:=aF) z).set (p:=⟨P,10,none⟩) c.out.1 rfl c.out.2.2.2.lo (.int .i64 (m:Nat))).set (p:=⟨P,11,none⟩) I rfl c.out.2.2.2.lo dU;have k:=F.hp (QM w (.cells #[.int .u8 (kd:Nat),.int .u8 (x:Nat),.int .u8 (y:Nat),.slice la L lc,.slice ra rn rc] 34)) rfl;obtain⟨d,Y⟩:∃d,(((w.alloc (.cells #[.int .u8 (kd:Nat),.int .u8 (x:Nat),.int .u8 (y:Nat),.slice la L lc,.slice ra rn rc] 34)).drewN nq).setCell ⟨P,10,none⟩ (.int .i64 (m:Nat))).setCell ⟨P,11,none⟩ dU=d:=⟨_,rfl⟩;rw[Y]at E f0 F k|-;have J:=a8.out.fr f0 rfl;have l:=RI (λW (K:SM d.heap.size d W)=>Q.out W ((f0.wide TP rfl).then K) ((f0.then K).hp c.out.2.2.2.hn rfl) (J.below K)|>.mono λe f b=>show∃a,e=.returned (cQ 0 aU a)/\Fr ed aF W f/\Fr ed aF d f/\∃s u,Inv f Z g (some m) V C s u from b.imp λ_ b=>⟨b.1,b.2.1,(Fr.af K).tr b.2.1,b.2.2.2⟩);have q5:d.cell? ⟨P,5,none⟩=some (.pointer (some ⟨G,0,none⟩)):=(cr E).1 5;have q7:=(cr E).2.2;have q8:d.cell? ⟨w.heap.size,2,none⟩=some (.int .u8 (y:Nat)):=(cr k).1 2;have b1:=(cr k).2.2;have n:=RI (And.intro E (And.intro f0 (And.intro F k)));have A:=c.out.2.2.2.inv.choose_spec.choose_spec.low;clear z f0 F;go_cut [10] (λa0 a4=>∃(T:Nat) (a:Int),a0=.pointer (some ⟨T,0,none⟩)/\RH (d.heap.size<=T/\a4.heap[T]?=some (.cells #[.int .u16 (0:Nat),aU,.int .i64 a] 46 (0,0))/\Fr ed aF d a4/\∃s u,Inv a4 Z g (some m) V C s u))
 case first=>
  go_region_held3(λf=>f.cell? ⟨P,5,none⟩=some (.pointer (some ⟨G,0,none⟩))/\f.cell? ⟨w.heap.size,2,none⟩=some (.int .u8 (y:Nat))) ((simp[*,go_sem];done)) (first
   |(go_at_call 11;refine(l.out _ (by go_grown)).mono ?_;rintro e w2 ⟨a,rfl,U,r,q⟩
     (try(have h7:=U.hp (QM d z46) rfl;obtain⟨c7,f7,z7⟩:=cr h7;have H7:=RI h7))
     have c0:=cr (r.hp n.out.1 rfl);have c1:w2.cell? ⟨P,5,none⟩=some (.pointer (some ⟨G,0,none⟩)):=c0.1 5;have c4:=c0.2.2;have c5:=cr (r.hp n.out.2.2.2 rfl);have c6:w2.cell? ⟨w.heap.size,2,none⟩=some (.int .u8 (y:Nat)):=c5.1 2;have c9:=c5.2.2;have B:=RI (And.intro r q)))
  all_goals go_wp2
  all_goals go_meet
  all_goals first
   |exact⟨_,a,rfl,QP _,(oe H7.out (QO A n.out.2.1.size) 0 aU a).1,((B.out.1.new (p:=⟨d.heap.size,0,none⟩) (QP _) _).new (p:=⟨d.heap.size,1,none⟩) (QP _) _).new (p:=⟨d.heap.size,2,none⟩) (QP _) _,by obtain⟨s,u,q⟩:=B.out.2;exact⟨s,u,q.fr (oe H7.out (QO A n.out.2.1.size) 0 aU a).2 rfl⟩⟩
   |exact⟨_,a,rfl,B.out.1.size,QM _ _,B.out.1.then (aI (SV _ _) _),by obtain⟨s,u,q⟩:=B.out.2;exact⟨s,u,q.below (aI (SV _ _) _)⟩⟩
 case rest=>rename_i b2 _;refine b2 _ _ ?_;obtain⟨T,a,rfl,l⟩:=hcut;obtain⟨t1,t2,t3⟩:=cr l.out.2.1;go_wp2_with fail;go_ret;exact⟨rfl,(n.out.2.1.wide TP rfl).tr (l.out.2.2.1.wide TP rfl),some m,V,true,gM.less (gM.vG (l.out.2.2.1.hp (n.out.2.1.hp c.out.2.2.2.hn rfl) rfl) l.out.2.2.2 (l.out.2.2.1.hp n.out.1 rfl) ((c.out.2.1.fr n.out.2.2.1 rfl).fr l.out.2.2.1 rfl) c.out.2.2.1 c.out.2.2.2.lo) (by omega)⟩
end
end
theorem Kc[Lo](P G:Nat)(Z:bg)(g:au)(p:Option Nat)(V:bW)(C:Nat)(d:Bool)(a x y L b f j:Nat)(c k:Option TF)(w:QL)(h:gM w P G Z g p V C d)(l:1000000<=C)(m:a<256)(n:x<256)(o:y<256)(u v:aO)(D:AP w (.slice c L b) L u v)(E:L<=20000)(z:∀i,i<L->u i<65536)(A:∀i,i<L->v i<256):
  aD 9 #[H P,tc a x y c L b k f j] w (td P G Z g C w):=by
 have F:a%12<12:=SB _ ai;rcases ZJ (a%12) 5 with e|e
 .exact AU P G Z g p V C d a x y L b f j c k w h l m n o u v D E z A e
 rcases ZJ (a%12) 7 with K|K
 .exact EA P G Z g p V C d a x y L b f j c k w h l m n o J
 by_cases O:a%12=7
 .exact AV P G Z g p V C d a x y L b f j c k w h l m n o O
 by_cases r:a%12=8
 .cases B:p with
  |none=>
   subst B;rcases Nat.mod_two_eq_zero_or_one y with q|q
   .exact vJ P G Z g none V C d a x y L b f j c k w h l n o r (.inl ⟨rfl,q⟩)
   .exact EE P G Z g none V C d a x y L b f j c k w h l n o r ⟨rfl,q⟩
  |some s=>
   subst B;by_cases t:s=x%g.M
   .exact vJ P G Z g (some s) V C d a x y L b f j c k w h l n o r (.inr (by rw[t]))
   .exact ED P G Z g (some s) V C d a x y L b f j c k w h l n o s r rfl t
 by_cases t:a%12=9
 .exact EB P G Z g p V C d a x y L b f j c k w h l m n o t
 .exact EC P G Z g p V C d a x y L b f j c k w h l J
@[reducible] def KS (a b c d:Nat)(e:Bool)(f:Option TF)(L g:Nat):QN:=.agg #[bs a,bs b,bs c,aG d,.bool e,.slice f L g]
abbrev KT(a b c d:Nat)(e:Bool)(f:Option TF)(L g:Nat):Array QN:= #[bs a,bs b,bs c,aG d,.bool e,.slice f L g]
def mQ(a b c:Nat):au:=⟨3+a%14,1+b%16,1+c⟩
def nz(a:Nat):Nat:=5+a%2044
theorem te{z0 z1 a:Nat}(h:a<256):(mQ z0 z1 a).ok:=by have b:=SB z0 (show 0<14 by decide);have c:=SB z1 (show 0<16 by decide);exact⟨by show 3<=3+z0%14;omega,by show 3+z0%14<=16;omega,by show 1<=1+z1%16;omega,by show 1+z1%16<=16;omega,by show 1<=1+a;omega,by show 1+a<=256;omega⟩
theorem pM(a:Nat):5<=nz a/\nz a<=2048:=by have b:=SB a (show 0<2044 by decide);unfold nz;omega
theorem nA(d f c k:Nat)(l:Bool)(m:Option TF)(L n:Nat)(w:M)(q:d<256)(r:f<256)(s:c<256):aD 14 #[KS d f c k l m L n] w λe o=>aK e (mQ d f c).V/\ar w o:=by
 obtain⟨a,g⟩:=ah (d%14);obtain⟨b,h⟩:=ah (f%16);have t:((d:Nat):Int).tmod 14=(a:Nat):=by rw[<-g];exact SK _ _
 have u:((f:Nat):Int).tmod 16=(b:Nat):=by rw[<-h];exact SK _ _
 have x:QQ.wrap (d:Int)=(d:Nat):=bf;have y:QQ.wrap (f:Int)=(f:Nat):=bf;have z:QQ.wrap (c:Int)=(c:Nat):=bf;have i:a<14:=by rw[<-g];exact SB _ ai
 have j:b<16:=by rw[<-h];exact SB _ ai
 have A:QQ.wrap (3+(a:Int))=((3+a:Nat):Int):=bf;have B:QQ.wrap (1+(b:Int))=((1+b:Nat):Int):=bf;have C:QQ.wrap (1+(c:Int))=((1+c:Nat):Int):=bf;have p:RH ((mQ d f c).V=.agg #[Y (3+a:Nat),Y (1+b:Nat),Y (1+c:Nat)]):=by rw[<-g,<-h];rfl
 rw[p.out];go_enter func14,ntmps14;go_wp2;refine RB (v:=.agg #[Y (3+a:Nat),Y (1+b:Nat),Y (1+c:Nat)]) (by simp[RV,results14,go_sem]) rfl ⟨rfl,aI (aI aj _) _⟩
theorem za(f g i b:Nat)(j:Bool)(k:Option TF)(L l:Nat)(w:M)(h:b<65536):aD 15 #[KS f g i b j k L l] w λe m=>aK e (Y (nz b:Nat))/\ar w m:=by
 unfold nz;obtain⟨a,c⟩:=ah (b%2044);have n:((b:Nat):Int).tmod 2044=(a:Nat):=by rw[<-c];exact SK _ _
 have o:QQ.wrap (b:Int)=(b:Nat):=bf;have d:a<2044:=by rw[<-c];exact SB _ ai
 have p:QQ.wrap (5+(a:Int))=((5+a:Nat):Int):=bf;rw[c];go_enter func15,ntmps15;go_wp2;go_ret;exact⟨by simp[*],aI aj _⟩
def EF[Lo](b c d f:Nat)(w:M)(e:SG)(a:M):Prop:=
 ∃P G Z,aK e (H P)/\gM a P G Z (mQ b c d) none rE 100000000000 false/\Fr fT aF w a/\w.heap.size<=P
theorem EG(w:M)(n:Nat)(h:n<=100000000):(TL 41 (Y (n:Int)) (Y (n:Int))).run prog w=.ok (a_ w.heap.size n n) (w.alloc (N (cB n λ_=>0) 5)):=by
 obtain⟨d,f,a,b,c⟩:=SN j';have:=run_make (P:=prog) w 41 5 d (.int .u8 0) UX f a .i64 .i64 n n J J (by rw[c];omega) J;rw[this,b,UI];show ZE _ (w.alloc (N (UB #[.int .u8 0] n) 5))=_;have e:UB #[.int .u8 0] n=cB n λ_=>0:=by
  apply Array.ext
  .simp [UB,cB]
  .intro i g j;have:i%1=0:=YP i;simp[UB,cB,this]
 rw[e];rfl
theorem EH[Lo](z0 z1 j b:Nat)(l:Bool)(r:Option TF)(L s:Nat)(w:QL)(h0:z0<256)(h1:z1<256)(h2:j<256)(h3:b<65536)(a4:Lo.lo<=w.heap.size):
  aD 7 #[KS z0 z1 j b l r L s] w (EF z0 z1 j b w):=by
 have a5:=te (z0:=z0) (z1:=z1) h2;have O:=ad (λW=>nA z0 z1 j b l r L s W h0 h1 h2);have t:=ad (λW=>za z0 z1 j b l r L s W h3);have u:=ad (λW d0=>vD (mQ z0 z1 j) (nz b) l W a5 (pM b) d0);unfold EF;obtain⟨g,Q⟩:=ah (mQ z0 z1 j);obtain⟨N,T⟩:=ah (nz b);have c4:=pM b;rw[T]at c4;simp only[Q]at O u;simp only[T]at t u;rw[Q]at a5|-;obtain⟨a6,a7⟩:=ah (w.alloc (ao (KT z0 z1 j b l r L s) 25));have a8:ar w a6:=by rw[<-a7];exact aI aj _
 have v:a6.heap[w.heap.size]?=some (ao (KT z0 z1 j b l r L s) 25):=by rw[<-a7];exact QM _ _
 obtain⟨D,U⟩:=ah w.heap.size;rw[U]at v;obtain⟨d1,d2,d3⟩:=cr v;have V:=aM v a8 a4;have X:=aA a7 U;have H:=ad a5;obtain⟨h,c,i⟩:=g;go_enter func7,ntmps7;go_wp2_with fail
 try simp only[X.out.1,X.out.2]
 go_wp2_with(first|(go_at_call 14;refine(O _).mono ?_;rintro e w1 ⟨rfl,a9⟩;have b3:=ad a9));obtain⟨E,c5⟩:=ah w1.heap.size;obtain⟨C,z⟩:=ah (w1.alloc (ao #[ae h,ae c,ae i] 39));have M:C.heap[E]?=some (ao #[ae h,ae c,ae i] 39):=by rw[<-z,<-c5];exact QM _ _
 have A:ar a6 C:=by rw[<-z];exact aI b3 _
 have R:=(A.block D d3).trans V.1;have b4:Lo.lo<=C.heap.size:=QO (QO V.2.2 V.2.1.size) A.size;have F:=aS M A R b4;rw[z,c5];obtain⟨a0,a1,a2⟩:=cr M;obtain⟨b0,b1,b2⟩:=cr R;go_region_held3(λa=>a.cell? (ag E 0)=some (ae h)/\a.cell? (ag E 1)=some (ae c)/\a.cell? (ag E 2)=some (ae i)/\a.cell? (ag D 0)=some (bs z0)/\a.cell? (ag D 1)=some (bs z1)/\a.cell? (ag D 2)=some (bs j)/\a.cell? (ag D 3)=some (aG b)/\a.cell? (ag D 4)=some (.bool l)/\a.cell? (ag D 5)=some (.slice r L s)) ((simp[*,go_sem];done)) (first|(go_at_call 15;refine(t _).mono ?_;rintro e w3 ⟨rfl,b5⟩;have d:RH (ar C w3):=via bC b5;obtain⟨p0,p1,p2⟩:=kp d D b2;obtain⟨q0,q1,q2⟩:=kp d E a2)|(go_at_call 16;refine(u _ (QO F.2.2.2 (by first|exact d.size|exact(via d bC:ar C _).size))).mono ?_;rintro e o ⟨G,Z,rfl,g1,g2,g3,g4,g5,g6⟩;have m:RH (Fr fT aF C o):=(by first|exact(Fr.af d).tr g5|exact(Fr.af (via d bC)).tr g5);have b6:=m.hp F.1 rfl;have b7:=m.hp F.2.2.1 rfl;have H4:=aS g1 g2 g3 g6;obtain⟨r0,r1,r2⟩:=cr b6;obtain⟨s0,s1,s2⟩:=cr b7));have d4:3<=h:=H.m3;have c6:h<=16:=H.m16;have I:c<=16:=H.qd;have B:i<=256:=H.gP;obtain⟨x,b8⟩:=ah (i*c);have b9:x<=4096:=by rw[<-b8];exact TJ B I
 obtain⟨y,c7⟩:=ah (h-1);obtain⟨n,c0⟩:=ah (x*y);have c8:n<=61440:=by rw[<-c0];exact TJ b9 (show y<=15 by omega)
 have c9:(⟨h,c,i⟩:au).B=n:=by show i*((h-1)*c)=n;rw[<-c0,<-b8,<-c7,Nat.mul_assoc,VL c]
 have e1:QQ.wrap ((i:Int)*(c:Int))=((x:Nat):Int):=by rw[show(i:Int)*(c:Int)=((x:Nat):Int)by rw[<-b8,TS]];go_arith
 have e2:QQ.wrap ((h:Int)-1)=((y:Nat):Int):=by rw[<-c7];go_arith
 have e3:QQ.wrap ((x:Int)*(y:Int))=((n:Nat):Int):=by rw[show(x:Int)*(y:Int)=((n:Nat):Int)by rw[<-c0,TS]];go_arith
 obtain⟨p,Y⟩:=ah (n*128);have e4:QQ.wrap ((n:Int)*128)=((p:Nat):Int):=by rw[<-Y];go_arith
 have d5:=λw=>EG w p aa;have d6:w.heap.size<=o.heap.size/\Lo.lo<=o.heap.size:=by have h1:=V.2.1.size;have h2:=F.2.1.size;have h3:=m.size;have h4:=F.2.2.2;omega
 have c1:RH (Fr fT aF w o):=((Fr.af V.2.1).tr (Fr.af F.2.1)).tr m;have q:RH (∀K P S,ar o K->o.heap.size<=P->K.heap[P]?=some (ao #[ae h,ae c,ae i,ae N,.bool l,aq G,a_ S p p,aU,aU,ae n,ae (-1),.bool false,.bool true,aG 0,.bool false] 44)->K.heap[S]?=some (ao (cB p λ_=>0) 5)->∃c2 G Z,Ending.returned (aq P)=.returned (aq c2)/\gM K c2 G Z ⟨h,c,i⟩ none rE 100000000000 false/\Fr fT aF w K/\w.heap.size<=c2):=λK P S c3 e0 d7 d8=>by
  obtain⟨g1,g2,g3,g6⟩:=H4.out;refine⟨P,G,Z,rfl,⟨⟨a_ S p p,aU,aU,0,?_,?_,QP p⟩,(c3.block _ (Z_ g1)).trans g1,⟨_,_,vv H lN c4 ⟨g2,g3⟩ (g6.below c3)⟩,aa⟩,c1.then c3,aa⟩
  .rw [d7,g2,g3,c9];rfl
  .rw [c9,Y];exact⟨_,_,rfl,.inr ⟨S,0,_,_,rfl,d8,λk d9=>by rw[RQ];exact cf _ _ _ d9⟩⟩
 go_wp2_with fail;go_region_held3(λa=>a.cell? (ag E 0)=some (ae h)/\a.cell? (ag E 1)=some (ae c)/\a.cell? (ag E 2)=some (ae i)/\a.cell? (ag D 0)=some (bs z0)/\a.cell? (ag D 1)=some (bs z1)/\a.cell? (ag D 2)=some (bs j)/\a.cell? (ag D 3)=some (aG b)/\a.cell? (ag D 4)=some (.bool l)/\a.cell? (ag D 5)=some (.slice r L s)) ((simp[*,go_sem];done)) (first|(go_at_call 15;refine(t _).mono ?_;rintro e w5 ⟨rfl,J⟩;have f:RH (ar o w5):=via bC J;have a3:=ad J;obtain⟨p0,p1,p2⟩:=kp f D s2;obtain⟨q0,q1,q2⟩:=kp f E r2))
 .clear p0 p2 q0 q2;go_wp2_with fail;go_ret;refine q _ _ w5.heap.size (aI (aI f _) _) ?_ ?_ ?_
  .have:=f.size;omega
  .exact fg _ _ _
  .exact fX _ _ _
 .clear p0 p2 q0 q2;go_wp2_with fail;go_ret;refine q _ _ o.heap.size (aI f _) f.size (QM _ _) ?_;rw[RG _ _ _ (by have:=a3.size;simp at this;omega)];rw[a3.block _ aJ];exact QM _ _
structure lO where
 kd:Nat
 x:Nat
 y:Nat
 la:Option TF
 L:Nat
 lc:Nat
 ra:Option TF
 rn:Nat
 rc:Nat
 bk:Nat->Nat
 fl:Nat->Nat
 kn:Nat->Nat
structure lO.fit(a:lO):Prop where
 u8:a.kd<256/\a.x<256/\a.y<256
 len:a.L<=140737488351232/\a.rn<=140737488351232
 kn:∀k,k<a.rn->a.kn k<=140737488351232
 bk:∀k,k<a.L->a.bk k<65536
 fl:∀k,k<a.L->a.fl k<256
structure jw[Lo](w:M)(pa:Option TF)(L:Nat)(A:Nat->lO):Prop where
 l:L=0\/∃b o,pa=some (R b o)/\b<Lo.lo/\∀i,i<L->w.cell? ⟨b,o+i*5,none⟩=some (.int .u8 ((A i).kd:Nat))/\w.cell? ⟨b,o+i*5+1,none⟩=some (.int .u8 ((A i).x:Nat))/\w.cell? ⟨b,o+i*5+2,none⟩=some (.int .u8 ((A i).y:Nat))/\w.cell? ⟨b,o+i*5+3,none⟩=some (.slice (A i).la (A i).L (A i).lc)/\w.cell? ⟨b,o+i*5+4,none⟩=some (.slice (A i).ra (A i).rn (A i).rc)
 aL:∀i,i<L->(A i).L=0\/∃b o,(A i).la=some (R b o)/\b<Lo.lo/\∀k,k<(A i).L->w.cell? ⟨b,o+k*2,none⟩=some (.int .u16 ((A i).bk k:Nat))/\w.cell? ⟨b,o+k*2+1,none⟩=some (.int .u8 ((A i).fl k:Nat))
 kp:∀i,i<L->(A i).rn=0\/∃b o,(A i).ra=some (R b o)/\b<Lo.lo/\∀k,k<(A i).rn->∃a c,w.cell? ⟨b,o+k,none⟩=some (.slice a ((A i).kn k) c)
 fit:∀i,i<L->(A i).fit
 lo:Lo.lo<=w.heap.size
theorem jw.fr[Lo]{A:Nat->lO}(h:jw w P n A)(f:Fr T aF w W):jw W P n A:=by
 refine⟨h.l.imp id ?_,λi g=>(h.aL i g).imp id ?_,λi g=>(h.kp i g).imp id ?_,h.fit,QO h.lo f.size⟩
 .rintro ⟨b,o,e,d,q⟩;exact⟨b,o,e,d,λi g=>by obtain⟨m,l,p,r,s⟩:=q i g;exact⟨f.fN h.lo d m,f.fN h.lo d l,f.fN h.lo d p,f.fN h.lo d r,f.fN h.lo d s⟩⟩
 .rintro ⟨b,o,e,d,q⟩;exact⟨b,o,e,d,λk j=>⟨f.fN h.lo d (q k j).1,f.fN h.lo d (q k j).2⟩⟩
 .rintro ⟨b,o,e,d,q⟩;exact⟨b,o,e,d,λk j=>by obtain⟨a,c,l⟩:=q k j;exact⟨a,c,f.fN h.lo d l⟩⟩
theorem jw.below[Lo]{A:Nat->lO}(h:jw w P n A)(a:ar w W):jw W P n A:=h.fr (T:= []) (Fr.af a)
def N'(L:Nat)(A:Nat->lO)(w:M)(e:SG)(a:M):Prop:=∃r:Bool,aK e (.bool r)/\ar w a/\(r=false->L<=200/\∀i,i<L->(A i).L<=20000)
theorem Kd[Lo](z0 z1 V v:Nat)(b4:Bool)(Z:Option TF)(L b5:Nat)(A:Nat->lO)(w:QL)(h0:z0<256)(h1:z1<256)(h2:V<256)(h3:v<65536)(g4:jw w Z L A)(g8:L<=140737488351232):
  aD 6 #[KS z0 z1 V v b4 Z L b5] w (N' L A w):=by
 have e0:=te (z0:=z0) (z1:=z1) h2;have b7:=ad (λW=>nA z0 z1 V v b4 Z L b5 W h0 h1 h2);have b8:=ad (λW=>za z0 z1 V v b4 Z L b5 W h3);obtain⟨g,H⟩:=ah (mQ z0 z1 V);obtain⟨N,M⟩:=ah (nz v);have g9:=pM v;rw[M]at g9;simp only[H]at b7;simp only[M]at b8;rw[H]at e0;clear H M;obtain⟨b6,z⟩:=ah (w.alloc (ao (KT z0 z1 V v b4 Z L b5) 25));have b9:ar w b6:=by rw[<-z];exact aI aj _
 have B:aZ b6 w.heap.size (ao (KT z0 z1 V v b4 Z L b5) 25):=by rw[<-z];exact QM _ _
 obtain⟨D,R⟩:=ah w.heap.size;rw[R]at B;obtain⟨d1,d2,d3⟩:=cr B;have h:=aS B b9 g4 g8;have c0:=aA z R;have e7:=ad e0;clear z R B b9 e0 g4;obtain⟨I,Y,J⟩:=g;go_enter func6,ntmps6;go_wp2_with fail
 try simp only[c0.out.1,c0.out.2]
 go_wp2_with(first|(go_at_call 14;refine(b7 _).mono ?_;rintro e w1 ⟨rfl,a3⟩;obtain⟨k0,k1,k2⟩:=kp a3 D d3;have c1:=ad a3;clear a3));obtain⟨E,e8⟩:=ah w1.heap.size;obtain⟨w2,C⟩:=ah (w1.alloc (ao #[ae I,ae Y,ae J] 39));have a4:aZ w2 E (ao #[ae I,ae Y,ae J] 39):=by rw[<-C,<-e8];exact QM _ _
 have a5:ar b6 w2:=by rw[<-C];exact aI c1 _
 have a6:=(a5.block D d3).trans h.1;have H2:=aM a4 a5 a6;rw[C,e8];clear C e8 k2 c1 a5;obtain⟨a0,a1,a2⟩:=cr a4;obtain⟨b0,b1,b2⟩:=cr a6;clear a4 a6;have c2:I<=16:=e7.m16;have c3:Y<=16:=e7.qd;have a7:J<=256:=e7.gP;obtain⟨x,e9⟩:=ah (I*Y);have f0:x<=256:=by rw[<-e9];exact TJ c2 c3
 obtain⟨y,f1⟩:=ah (x*J);have h4:y<=65536:=by rw[<-f1];exact TJ f0 a7
 have e1:QQ.wrap ((I:Int)*(Y:Int))=((x:Nat):Int):=by rw[show(I:Int)*(Y:Int)=((x:Nat):Int)by rw[<-e9,TS]];go_arith
 have e2:QQ.wrap ((x:Int)*(J:Int))=((y:Nat):Int):=by rw[show(x:Int)*(J:Int)=((y:Nat):Int)by rw[<-f1,TS]];go_arith
 have e3:QQ.wrap ((y:Int)+(N:Int))=((y+N:Nat):Int):=bf;obtain⟨m,h5⟩:=ah (min L 1000);have h6:m<=1000:=aa;have e4:min (L:Int) 1000=((m:Nat):Int):=aa;have e5:QQ.wrap ((m:Int)+4)=((m+4:Nat):Int):=bf;obtain⟨p,f2⟩:=ah ((y+N)*(m+4));have h7:p<=67584*1004:=by rw[<-f2];exact TJ aa aa
 have e6:QQ.wrap (((y+N:Nat):Int)*((m+4:Nat):Int))=((p:Nat):Int):=by rw[show((y+N:Nat):Int)*((m+4:Nat):Int)=((p:Nat):Int)by rw[<-f2,TS]];go_arith
 obtain⟨i4,c4⟩:=ah (y+N);obtain⟨m4,c5⟩:=ah (m+4);rw[c4]at e3 e6;rw[c5]at e5 e6;clear e9 f1 h5 f2 c4 c5;go_wp2_with fail;go_region_held3(λF=>F.cell? (ag E 0)=some (ae I)/\F.cell? (ag E 1)=some (ae Y)/\F.cell? (ag E 2)=some (ae J)/\F.cell? (ag D 0)=some (bs z0)/\F.cell? (ag D 1)=some (bs z1)/\F.cell? (ag D 2)=some (bs V)/\F.cell? (ag D 3)=some (aG v)/\F.cell? (ag D 4)=some (.bool b4)/\F.cell? (ag D 5)=some (.slice Z L b5)) ((simp[*,go_sem];done)) (first|(go_at_call 15;refine(b8 _).mono ?_;rintro e w3 ⟨rfl,c6⟩;have G:RH (ar w2 w3):=via bC c6;obtain⟨p0,p1,p2⟩:=kp G D b2;obtain⟨q0,q1,q2⟩:=kp G E a2;clear c6))
 all_goals
  clear a0 a2 q0;by_cases c7:131072<p
  .have j1:(131072:Int)<(p:Int):=aa;clear b0 b1 b2 p0;have d7:RH (ar w w3):=h.2.1.trans ((H2.2.1.trans (G.mono H2.2.1.size)).mono h.2.1.size);go_wp2_with fail;go_ret;exact⟨true,rfl,d7,λe=>by cases e⟩
  have j1:¬(131072:Int)<(p:Int):=aa;have d7:RH (ar b6 w3):=H2.2.1.trans (G.mono H2.2.1.size);clear c7 b0 b1 b2 p0 e1 e2 e3 e4 e5 e6;have f3:=(d7.block D d3).trans h.1;obtain⟨b0,b1,b2⟩:=cr f3;go_wp2_with fail;go_loopw [4,5] (λs4 s5 wr=>∃i n:Nat,i<=L/\s5= ae i/\s4= ae n/\RH (ar b6 wr/\L<=n/\n<=600000000000000/\∀j,j<i->(A j).L<=n)) (λ_ s5 _=>L-(intOf s5).toNat)
  case atStart=>exact⟨0,L,QX _,rfl,rfl,d7,QP _,aa,λj d8=>absurd d8 (SD j)⟩
  case round=>
   obtain⟨i,n,i5,rfl,rfl,K⟩:=hrel;have c8:=(K.1.block D d3).trans h.1;have d:=h.2.2.1.below (h.2.1.trans (K.1.mono h.2.1.size));clear b0 b1 b2;obtain⟨b0,b1,b2⟩:=cr c8;by_cases q:i<L
   .by_cases d9:n<=20000
    .have f4:=d.fit i q;obtain⟨b,o,f5,f6,g5⟩:=d.l.resolve_left aa;obtain⟨-,-,-,q3,q4⟩:=g5 i q;subst f5;have j2:(i:Int)<(L:Int):=aa;have j3:(n:Int)<=20000:=aa;have j4:(0:Int)<=(i:Int):=aa;obtain⟨l1,O⟩:=ah ((A i).L);obtain⟨l,P⟩:=ah ((A i).rn);obtain⟨i6,f⟩:=ah ((A i).ra);have r:=f4.len;have h8:=ad (d.kp i q);have h9:=ad f4;rw[O]at q3;rw[P,f]at q4;rw[O,P]at r;have s:=aM O P f;have e1:QQ.wrap ((l1:Int)+(l:Int))=((l1+l:Nat):Int):=bf;have e2:QQ.wrap ((n:Int)+((l1+l:Nat):Int))=((n+(l1+l):Nat):Int):=bf;obtain⟨i0,a8⟩:=ah (l1+l);rw[a8]at e1 e2;obtain⟨n2,fg⟩:=ah (n+i0);rw[fg]at e2;have f7:=aS q3 q4 f6 q;have Q:=aS a8 fg r d9;clear g5 f4 O P f a8 fg r d q d9;go_wp2_with fail;go_quiet(fail);go_wp2_with fail;obtain⟨f8,rfl⟩:∃f8:QL,f8=wr:=⟨_,rfl⟩;go_loopw [4,6] (λs4 s6 ws=>∃k c:Nat,k<=l/\s6= ae k/\s4= ae c/\RH (ar f8 ws/\n2<=c/\c<=600000000000000)) (λ_ s6 _=>l-(intOf s6).toNat)
     case atStart=>have:=Q.out;exact⟨0,n2,QX _,rfl,rfl,ct aj _,QP _,aa⟩
     case round=>
      obtain⟨k,c,i1,rfl,rfl,a⟩:=hrel;have f9:=(a.1.block D b2).trans c8;have g6:l<=140737488351232:=Q.2.2.1.2;have g0:k<l->QQ.wrap ((k:Int)+1)=((k+1:Nat):Int):=λi1=>bf;have i2:=(Out.af (S:=λ_=>False) a.1).cell f7.2.1 id;clear q3 q4 b0 b1;obtain⟨b0,b1,b3⟩:=cr f9;have c9:RH (ar b6 wr):=via K.1 a.1;have d0:RH (∀j,j<i+1->(A j).L<=c):=λj d8=>by
       have h1:=Q.out;have h2:=a.2.1;by_cases e:j=i
       .rw [e,s.1];omega
       .have:=K.2.2.2 j aa;omega
      have a9:RH (L<=c):=by have h1:=Q.out;have h2:=a.2.1;have h3:=K.2.1;show L<=c;omega
      by_cases T:k<l
      .have k2:(k:Int)<(l:Int):=aa;have k3:(0:Int)<=(k:Int):=aa;by_cases i3:c<=20000
       .have k4:(c:Int)<=20000:=aa;obtain⟨i7,i8,f,g7,d4⟩:=h8.resolve_left (by rw[s.2.1];omega);rw[s.2.2]at f;subst f;obtain⟨i9,j0,t⟩:=d4 k (by rw[s.2.1];exact T);have U:=(Out.af (S:=λ_=>False) a.1).cell t id;have g1:=h9.kn k (by rw[s.2.1];exact T);obtain⟨g2,X⟩:=ah ((A i).kn k);rw[X]at U g1;have e3:QQ.wrap ((c:Int)+(g2:Int))=((c+g2:Nat):Int):=bf;have e4:=g0 T;clear X t d4;go_wp2_with fail;exact⟨⟨k+1,c+g2,T,rfl,rfl,a.1,by have:=a.2.1;omega,aa⟩,by first|(simp[intOf];done)|(simp[intOf];omega)⟩
       .have k4:¬(c:Int)<=20000:=aa;go_wp2_with fail;exact⟨⟨i+1,c,f7.2.2.2,rfl,rfl,c9,a9,a.2.2,d0⟩,by first|(simp[intOf];done)|(simp[intOf];omega)⟩
      .have k2:¬(k:Int)<(l:Int):=aa;go_wp2_with fail;exact⟨⟨i+1,c,f7.2.2.2,rfl,rfl,c9,a9,a.2.2,d0⟩,by first|(simp[intOf];done)|(simp[intOf];omega)⟩
    .have j2:(i:Int)<(L:Int):=aa;have j3:¬(n:Int)<=20000:=aa;have j5:(20000:Int)<(n:Int):=aa;clear d;have u:RH (ar w wr):=h.2.1.trans (K.1.mono h.2.1.size);go_wp2_with fail;go_ret;exact⟨true,rfl,u,λe=>by cases e⟩
   .have j2:¬(i:Int)<(L:Int):=aa;have d5:i=L:=aa;have u:RH (ar w wr):=h.2.1.trans (K.1.mono h.2.1.size);have g3:RH (∀j,j<L->(A j).L<=n):=by rw[<-d5];exact K.2.2.2
    have a9:RH (L<=n):=K.2.1;clear d d5;by_cases d9:n<=20000
    .have j3:¬(20000:Int)<(n:Int):=aa;by_cases d6:L<=200
     .have j4:¬(200:Int)<(L:Int):=aa;go_wp2_with fail;go_ret;exact⟨false,rfl,u,λ_=>⟨d6,λj d8=>QO (g3 j d8) d9⟩⟩
     .have j4:(200:Int)<(L:Int):=aa;go_wp2_with fail;go_ret;exact⟨true,rfl,u,λe=>by cases e⟩
    .have j3:(20000:Int)<(n:Int):=aa;go_wp2_with fail;go_ret;exact⟨true,rfl,u,λe=>by cases e⟩
section
open Go.ChangeShapes Go.WideShapes Go.ChangeAt
theorem ZU:laidOutB prog=true:=aE
theorem own:ownKnob prog.godebug=none:=aE
theorem c3:prog.cellsOf 3=1:=aE
theorem c4:prog.cellsOf 4=1:=aE
theorem c5:prog.cellsOf 5=1:=aE
theorem Pn:prog.cellsOf 22=1:=aE
theorem P_:prog.cellsOf 23=1:=aE
theorem P':prog.cellsOf 25=6:=aE
theorem Qa:prog.cellsOf 31=1:=aE
theorem Qb:prog.cellsOf 32=1:=aE
theorem Qc:prog.cellsOf 34=5:=aE
theorem Qd:prog.cellsOf 56=1:=aE
theorem Qe:prog.cellsOf 92=2:=aE
theorem Qg:prog.bytesOf 4=1:=aE
theorem Oa:prog.bytesOf 34=56:=aE
theorem Ob:prog.bytesOf 56=24:=aE
theorem Oc:prog.bytesOf 92=4:=aE
theorem vK{H:Type}{enc:TI × QN->H}{P:Program}(o:laidOutB P=true){W p:M}(q:ar W p):∀(c:List TI) (g:List QN) (i:List (DataW H)) (f:List MemPlace),
  (∀t∈c,P.readableRec t=true/\t<P.types.size)->DataW.TrodAll enc P W 0 (λ_=>true) true c g i f->(∀x∈f,x.block<W.heap.size)->
  DataW.TrodAll enc P p 0 (λb=>decide (b<W.heap.size)) true c g i f
 | [],_,_,_,_,h,_=>by obtain⟨rfl,rfl,rfl⟩:=trodAll_nil h;exact trodAll_mk0
 |t::c,g,i,f,j,h,e=>by
  obtain⟨v,k,d,l,a,b,rfl,rfl,rfl,r,s⟩:=trodAll_cons h;exact trodAll_cons_mk (Below.trod o (j t aJ).1 (j t aJ).2 r q (λx m=>e x (by simp[m])))
   (vK o q c k l b (λu n=>j u (by simp[n])) s (λx m=>e x (by simp[m])))
theorem jx{H:Type}{P:Program}{e:TI}{x:DataW H}{k:Nat}:∀{b:List (DataW H)} {i:Nat},b[i]?=some x->k∈x.weights P e->k∈DataW.weightsAll P e b
 |y::r,0,h,a=>by simp only[List.getElem?_cons_zero,SZ]at h;subst h;simp only[DataW.weightsAll,TV];exact .inl a
 |y::r,i+1,h,a=>by simp only[List.getElem?_cons_succ]at h;simp only[DataW.weightsAll,TV];exact .inr (jx h a)
def nQ{H:Type}(t:TI)(d:DataW H):Prop:=∀k∈d.weights prog t,k<=140737488351232
theorem EI{H:Type}{b:List TI}{c:List (DataW H)}{t:TI}{d:DataW H}{j:Nat}(a:(DataW.weightsEach prog b c).all (· <=reachBytes)=true)(e:b[j]?=some t)(f:c[j]?=some d):nQ t d:=λk g=>by have:=of_decide_eq_true (WO.1 a _ (DataW.weights_mem_each e f _ g));simpa only[reachBytes]using this
theorem vL{H:Type}{t e:TI}{a b:List (DataW H)}{x:DataW H}{i:Nat}(h:nQ t (.slice a b))(c:prog.underlying t=some (.slice e))(d:a[i]?=some x):nQ e x:=λk f=>
 h k (by simp only[DataW.weights,c,UR,TV];exact .inr (.inl (jx d f)))
theorem og{H:Type}{t e:TI}{a b:List (DataW H)}(h:nQ t (.slice a b))(c:prog.underlying t=some (.slice e)):(a.length+b.length)*prog.bytesOf e<=140737488351232:=
 h _ (by simp only[DataW.weights,c];exact SO)
theorem pN{H:Type}{t:TI}{a:Array Field}{b:List (DataW H)}{x:DataW H}{j:Nat}{f:Field}(h:nQ t (.agg b))(c:prog.underlying t=some (.struct a))(d:a[j]?=some f)(e:b[j]?=some x):nQ f.type x:=λk g=>
 h k (by simp only[DataW.weights,c];exact DataW.weights_mem_each (by simp[d]) e _ g)
section
variable {H:Type} {enc:TI × QN->H} {W:QL}
theorem gh{a:Nat}{v:QN}{x:DataW H × List MemPlace}(h:YV enc prog W 0 (λ_=>true) true a 5 [v] =some x):∃z:Nat,v= bs z/\z<256:=by obtain⟨z,b,_,c⟩:=DataW.trod_int UL h;simp only[UO,and_true]at b;have d:ZN.min=0:=rfl;have e:ZN.max=255:=rfl;simp only[Lit.wf,VX,decide_eq_true_eq]at c;exact⟨z.toNat,by rw[b,Int.toNat_of_nonneg J],J⟩
theorem vM{a:Nat}{v:QN}{x:DataW H × List MemPlace}(h:YV enc prog W 0 (λ_=>true) true a 22 [v] =some x):∃z:Nat,v= aG z/\z<65536:=by obtain⟨z,b,_,c⟩:=DataW.trod_int underlying22 h;simp only[UO,and_true]at b;have d:IntKind.u16.min=0:=rfl;have e:IntKind.u16.max=65535:=rfl;simp only[Lit.wf,VX,decide_eq_true_eq]at c;exact⟨z.toNat,by rw[b,Int.toNat_of_nonneg J],J⟩
theorem zb{a:Nat}{v:QN}{x:DataW H × List MemPlace}(h:YV enc prog W 0 (λ_=>true) true a 4 [v] =some x):∃b:Bool,v=.bool b:=by obtain⟨b,c,_⟩:=DataW.trod_bool underlying4 h;simp only[UO,and_true]at c;exact⟨b,c⟩
theorem jO{a:TF}{v:QN}(h:W.cell? (a.add 0)=some v):∃b o,a=R b o/\b<W.heap.size:=by
 obtain⟨b,o,c⟩:=a;have d:c=none:=by simpa[Addr.add]using World.cell?_spot h
 subst d;exact⟨b,o,rfl,QY W _ h⟩
theorem rH{p:Nat}{v:QN}{x:DataW H × List MemPlace}(h:YV enc prog W 0 (λ_=>true) true p 31 [v] =some x)(P:nQ 31 x.1):
  ∃(a:Option TF) (L c:Nat) (F G:aO),v=.slice a L c/\L<=140737488351232/\(L=0\/∃b o,a=some (ag b o)/\b<W.heap.size/\∀k,k<L->W.cell? ⟨b,o+k*2,none⟩=some (.int .u16 (F k:Nat))/\W.cell? ⟨b,o+k*2+1,none⟩=some (.int .u8 (G k:Nat)))/\(∀k,k<L->F k<65536)/\∀k,k<L->G k<256:=by
 rcases Deep.open_slice underlying31 h with⟨d,z⟩|⟨a,g,Q,m,n,D,Pl,d,_,M,R,r,rfl,z⟩
 .simp only[UO,and_true]at d;subst d;exact⟨none,0,0,λ_=>0,λ_=>0,rfl,QX _,.inl rfl,λ_ h=>absurd h (SD _),λ_ h=>absurd h (SD _)⟩
 .simp only[UO,and_true]at d;subst d;simp only[if_true]at r;subst r;rw[Qe]at z;have s:∀i,i<g->∃q:Nat × Nat,W.cell? (a.add (i*2))=some (aG q.1)/\W.cell? (a.add (i*2+1))=some (bs q.2)/\q.1<65536/\q.2<256:=λi l=>by
   obtain⟨A,u,w⟩:=z i aa;obtain⟨_,j,e⟩:=World.cells?_some u;obtain⟨xs,k,I,S,_,B,t⟩:=DataW.trod_struct underlying92 w;have C:=e 0 aa;have E:=e 1 aa;have K:=t 0 _ rfl;have O:=t 1 _ rfl;rw[Deep.add_add]at C E
   match xs,B,A,j with
   | [Y,J],_,[v0,v1],_=>simp[Pn,c5]at K O;simp at C E;obtain⟨T,rfl,U⟩:=vM K;obtain⟨V,rfl,X⟩:=gh O;exact⟨(T,V),C,E,U,X⟩
  obtain⟨q,y⟩:=Deep.choose_lt (α:=Nat × Nat) s;have f:=og P underlying31;rw[Oc]at f;simp at f;refine⟨some a,g,m,λi=>(q i).1,λi=>(q i).2,rfl,aa,?_,λi l=>(y i l).2.2.1,λi l=>(y i l).2.2.2⟩;by_cases Z:g=0
  .exact .inl Z
  .obtain ⟨b,o,rfl,N⟩:=jO (a:=a) (by have:=(y 0 aa).1;rwa[WI]at this);refine .inr ⟨b,o,rfl,N,λi l=>?_⟩;obtain⟨u,w,-⟩:=y i l;rw[iK]at u w;exact⟨u,by rw[UZ];exact w⟩
theorem xG{g:Nat}{v:QN}{x:DataW H × List MemPlace}(h:YV enc prog W 0 (λ_=>true) true g 56 [v] =some x)(t:nQ 56 x.1):
  ∃(a:Option TF) (n c:Nat) (u:Nat->Bool),v=.slice a n c/\n<=140737488351232/\(n=0\/∃b o,a=some (R b o)/\b<W.heap.size/\∀k,k<n->W.cell? ⟨b,o+k,none⟩=some (.bool (u k))):=by
 rcases Deep.open_slice1 underlying56 c4 h with⟨d,r⟩|⟨a,f,w,m,n,V,D,Pl,d,_,C,E,j,rfl,r⟩
 .simp only[UO,and_true]at d;subst d;exact⟨none,0,0,λ_=>false,rfl,QX _,.inl rfl⟩
 .simp only[UO,and_true]at d;subst d;simp only[if_true]at j;subst j;obtain⟨q,s⟩:=Deep.choose_lt (α:=Bool) (p:=λi b=>W.cell? (a.add i)=some (.bool b)) (n:=f) λi F=>by obtain⟨y,z⟩:=r i J;obtain⟨b,l⟩:=zb z;exact⟨b,by rw[y,l]⟩
  have e:=og t underlying56;rw[Qg]at e;simp at e;refine⟨some a,f,m,q,rfl,J,?_⟩;by_cases A:f=0
  .exact .inl A
  .obtain ⟨b,o,rfl,l⟩:=jO (a:=a) (s 0 J);exact .inr ⟨b,o,rfl,l,λk B=>by rw[<-iK];exact s k B⟩
theorem xH{j:Nat}{v:QN}{x:DataW H × List MemPlace}(h:YV enc prog W 0 (λ_=>true) true j 32 [v] =some x)(u:nQ 32 x.1):
  ∃(a:Option TF) (n c:Nat) (r:aO) (A:Nat->Nat->Bool),v=.slice a n c/\n<=140737488351232/\(∀k,k<n->r k<=140737488351232)/\(n=0\/∃b o,a=some (R b o)/\b<W.heap.size/\∀k,k<n->∃w B,W.cell? ⟨b,o+k,none⟩=some (.slice w (r k) B)/\
   (r k=0\/∃t y,w=some (R t y)/\t<W.heap.size/\∀i,i<r k->W.cell? ⟨t,y+i,none⟩=some (.bool (A k i)))):=by
 rcases Deep.open_slice1 underlying32 Qd h with⟨d,z⟩|⟨a,f,C,m,n,V,D,Pl,d,_,X,Z,l,rfl,z⟩
 .simp only[UO,and_true]at d;subst d;exact⟨none,0,0,λ_=>0,λ_ _=>false,rfl,QX _,λ_ h=>absurd h (SD _),.inl rfl⟩
 .simp only[UO,and_true]at d;subst d;simp only[if_true]at l;subst l;obtain⟨q,s⟩:=Deep.choose_lt (α:=Option TF × Nat × Nat × (Nat->Bool)) (p:=λi q=>W.cell? (a.add i)=some (.slice q.1 q.2.1 q.2.2.1)/\q.2.1<=140737488351232/\(q.2.1=0\/∃b o,q.1=some (R b o)/\b<W.heap.size/\∀k,k<q.2.1->W.cell? ⟨b,o+k,none⟩=some (.bool (q.2.2.2 k)))) (n:=f) λi g=>by obtain⟨E,F⟩:=z i J;obtain⟨G,K,L,O,P,Q,S⟩:=xG F (vL u underlying32 (i:=i) (by simp[g]));exact⟨(G,K,L,O),by rw[E,P],Q,S⟩
  have e:=og u underlying32;rw[Ob]at e;simp at e;refine⟨some a,f,m,λi=>(q i).2.1,λi=>(q i).2.2.2,rfl,J,λi g=>(s i g).2.1,?_⟩;by_cases T:f=0
  .exact .inl T
  .obtain ⟨b,o,rfl,U⟩:=jO (a:=a) (s 0 J).1;exact .inr ⟨b,o,rfl,U,λi g=>⟨(q i).1,(q i).2.2.1,(by have:=(s i g).1;rw[iK]at this;exact this),(s i g).2.2⟩⟩
theorem AW{t:Nat}{v:QN}{x:DataW H × List MemPlace}(h:YV enc prog W 0 (λ_=>true) true t 23 [v] =some x)(U:nQ 23 x.1):
  letI:Lo:=⟨W.heap.size⟩
  ∃(a:Option TF) (L c:Nat) (A:Nat->lO),v=.slice a L c/\L<=140737488351232/\jw W a L A:=by
 letI:Lo:=⟨W.heap.size⟩
 rcases Deep.open_slice underlying23 h with⟨e,C⟩|⟨a,p,a0,m,n,D,Pl,e,_,b3,b4,u,rfl,C⟩
 .simp only[UO,and_true]at e;subst e;exact⟨none,0,0,λ_=>⟨0,0,0,none,0,0,none,0,0,λ_=>0,λ_=>0,λ_=>0⟩,rfl,QX _,⟨.inl rfl,λ_ h=>absurd h (SD _),λ_ h=>absurd h (SD _),λ_ h=>absurd h (SD _),QP _⟩⟩
 .simp only[UO,and_true]at e;subst e;simp only[if_true]at u;subst u;rw[Qc]at C;have w:∀i,i<p->∃q:lO,W.cell? (a.add (i*5))=some (bs q.kd)/\W.cell? (a.add (i*5+1))=some (bs q.x)/\W.cell? (a.add (i*5+2))=some (bs q.y)/\W.cell? (a.add (i*5+3))=some (.slice q.la q.L q.lc)/\W.cell? (a.add (i*5+4))=some (.slice q.ra q.rn q.rc)/\q.fit/\
    (q.L=0\/∃b o,q.la=some (ag b o)/\b<W.heap.size/\∀k,k<q.L->W.cell? ⟨b,o+k*2,none⟩=some (.int .u16 (q.bk k:Nat))/\W.cell? ⟨b,o+k*2+1,none⟩=some (.int .u8 (q.fl k:Nat)))/\
    (q.rn=0\/∃b o,q.ra=some (ag b o)/\b<W.heap.size/\∀k,k<q.rn->∃a c,W.cell? ⟨b,o+k,none⟩=some (.slice a (q.kn k) c)):=λi g=>by
   obtain⟨E,z,B⟩:=C i aa;obtain⟨_,r,d⟩:=World.cells?_some z;obtain⟨xs,k,V,F,_,G,f⟩:=DataW.trod_struct underlying34 B;have s:nQ 34 (D i):=vL U underlying23 (i:=i) (by simp[g]);have K:=d 0 aa;have O:=d 1 aa;have P:=d 2 aa;have Q:=d 3 aa;have S:=d 4 aa;have X:=f 0 _ rfl;have Z:=f 1 _ rfl;have N:=f 2 _ rfl;have M:=f 3 _ rfl;have R:=f 4 _ rfl;rw[Deep.add_add]at K O P Q S
   match xs,G,E,r with
   | [y0,T,y2,y3,y4],_,[v0,v1,v2,v3,v4],_=>
    simp[c5,Qa,Qb]at X Z N M R;simp at K O P Q S;obtain⟨z0,rfl,i0⟩:=gh X;obtain⟨z1,rfl,i1⟩:=gh Z;obtain⟨z2,rfl,i2⟩:=gh N;have a1:D i=.agg [y0.1,T.1,y2.1,y3.1,y4.1]:=by have:=congrArg Prod.fst F;simpa using this
    rw[a1]at s;obtain⟨a2,L,a3,a4,a5,rfl,l1,l2,l3,l4⟩:=rH M (pN s underlying34 (j:=3) rfl rfl);obtain⟨a6,a7,a8,a9,b5,rfl,r1,r2,r3⟩:=xH R (pN s underlying34 (j:=4) rfl rfl);exact⟨⟨z0,z1,z2,a2,L,a3,a6,a7,a8,a4,a5,a9⟩,K,O,P,Q,S,⟨⟨i0,i1,i2⟩,⟨l1,r1⟩,r2,l3,l4⟩,l2,r3.imp id λ⟨b,o,x1,x2,x3⟩=>⟨b,o,x1,x2,λk V=>by obtain⟨b0,b1,T,-⟩:=x3 k V;exact⟨b0,b1,T⟩⟩⟩
  haveI:Inhabited lO:=⟨⟨0,0,0,none,0,0,none,0,0,λ_=>0,λ_=>0,λ_=>0⟩⟩
  obtain⟨q,y⟩:=Deep.choose_lt (α:=lO) w;have l:=og U underlying23;rw[Oa]at l;simp at l;refine⟨some a,p,m,q,rfl,aa,?_,λi g=>(y i g).2.2.2.2.2.2.1,λi g=>(y i g).2.2.2.2.2.2.2,λi g=>(y i g).2.2.2.2.2.1,QP _⟩;by_cases h0:p=0
  .exact .inl h0
  .obtain ⟨b,o,rfl,b2⟩:=jO (a:=a) (by have:=(y 0 aa).1;rwa[WI]at this);refine .inr ⟨b,o,rfl,b2,λi g=>?_⟩;obtain⟨z,B,I,Y,J,-⟩:=y i g;rw[iK]at z B I Y J;exact⟨z,by rw[UZ];exact B,by rw[UZ];exact I,by rw[UZ];exact Y,by rw[UZ];exact J⟩
theorem AX{v:QN}{d:DataW H}{B:List MemPlace}(e:Value.okWide prog W .any 0 25 v)(m:DataW.Trod enc prog W 0 (λ_=>true) true 25 v d B)(q:nQ 25 d):
  letI:Lo:=⟨W.heap.size⟩
  ∃(g h i r:Nat) (n:Bool) (a:Option TF) (L c:Nat) (A:Nat->lO),v=KS g h i r n a L c/\g<256/\h<256/\i<256/\r<65536/\L<=140737488351232/\jw W a L A:=by
 obtain⟨C,rfl,f⟩:=okWide_struct underlying25 e;rw[P']at f;obtain⟨l⟩:=C;obtain⟨s,m⟩:=m
 match l,f with
 | [v0,Z,N,M,R,I],_=>
  obtain⟨xs,k,Y,o,_,p,b⟩:=DataW.trod_struct underlying25 m;have t:=b 0 _ rfl;have u:=b 1 _ rfl;have w:=b 2 _ rfl;have x:=b 3 _ rfl;have y:=b 4 _ rfl;have z:=b 5 _ rfl
  match xs,p with
  | [D,E,F,G,K,O],_=>
   simp[c5,Pn,c4,P_,Value.cells]at t u w x y z;obtain⟨g,rfl,P⟩:=gh t;obtain⟨h,rfl,Q⟩:=gh u;obtain⟨i,rfl,S⟩:=gh w;obtain⟨z3,rfl,T⟩:=vM x;obtain⟨n,rfl⟩:=zb y;have U:d=.agg [D.1,E.1,F.1,G.1,K.1,O.1]:=by have:=congrArg Prod.fst o;simpa using this
   rw[U]at q;obtain⟨a,L,c,A,rfl,V,X⟩:=AW z (pN q underlying25 (j:=5) rfl rfl);exact⟨g,h,i,z3,n,a,L,c,A,rfl,P,Q,S,T,V,X⟩
end
end
def fK(w:M)(p n:Nat)(f:aO)(q:Nat):Prop:=
 ∃g c,n<=c/\w.heap[p]?=some (N #[a_ g n c,Y q,aG 0,Y 0] 364)/\∃a b,w.heap[g]?=some (.cells a 5 b)/\∀k,k<n->a[k]?=some (.int .u8 (f k))
theorem fK.below(h:fK w m n f k)(a:ar w W):fK W m n f k:=by obtain⟨g,c,e,b,i,j,d,l⟩:=h;exact⟨g,c,e,(a.block _ (Z_ b)).trans b,i,j,(a.block _ (Z_ d)).trans d,l⟩
def jW:List Nat:= [364]
theorem Hj(w:M)(p n q:Nat)(f:aO)(h:fK w p n f q)(i:q<=n)(j:n<=1000000):aD 319 #[H p] w λe a=>aK e (Y (n-q:Nat))/\ar w a:=by obtain⟨g,c,-,b,-⟩:=h;obtain⟨k,d,z⟩:=cr b;have e:QQ.wrap ((n:Int)-q)=((n-q:Nat):Int):=bf;go_enter func319,ntmps319;go_wp2_with fail;go_quiet(fail);go_wp2;go_ret;exact⟨rfl,ct aj _⟩
theorem tf(w:M)(p n q k:Nat)(f:aO)(h:fK w p n f q)(B:1<=k)(C:q+k<=n)(l:n<=1000000):aD 279 #[H p,Y k] w λe o=>(∃g c,n<=c/\aK e (.slice (some (R g q)) k (c-q))/\∃a b,w.heap[g]?=some (.cells a 5 b)/\∀k,k<n->a[k]?=some (.int .u8 (f k)))/\ar w o:=by
 have r:=I (λW (s:ar w W)=>Hj W p n q f (h.below s) J l);obtain⟨g,c,t,u,a,b,v,x⟩:=h;have y:RH (∃a b,aZ w g (.cells a 5 b)/\∀k,k<n->a[k]?=some (.int .u8 (f k))):=⟨a,b,v,x⟩;obtain⟨D,d,z⟩:=cr u;obtain⟨m,A⟩:=ah (q+k);have E:QQ.wrap ((q:Int)+k)=((m:Nat):Int):=by rw[<-A];go_arith
 have F:¬((n-q:Nat):Int)<(k:Int):=J;have G:(0:Int)<=(q:Int):=J;have K:(q:Int)<=(m:Int):=J;have L:(m:Int)<=(c:Int):=J;have O:¬c=q:=J;have P:m-q=k:=J;go_enter func279,ntmps279;go_wp2_with(first|(go_at_call 319;refine(r w aj).mono ?_;rintro e Q ⟨rfl,i⟩;obtain⟨S,T,U⟩:=kp i p z;have j:=I i));go_quiet(fail);go_wp2;go_ret;exact⟨⟨g,c,t,by simp[*],y⟩,ct j _⟩
theorem EJ(n:Nat)(h:n<18446744073709551616):(UU 64 (n:Int)).toNat=n:=by rw[XF,XU];exact SL J
theorem Ke(a b:Nat)(c:a<18446744073709551616)(d:b<18446744073709551616):bits .or .u64 (a:Int) (b:Int)=((a|||b:Nat):Int):=by have e:a|||b<2^64:=Nat.or_lt_two_pow J J;show VY.wrap ((UU 64 (a:Int)|||UU 64 (b:Int)).toNat:Int)=_;rw[BitVec.toNat_or,EJ a c,EJ b d,IntKind.wrap_u64];omega
theorem EK{x y j:Nat}(a:x<256^j)(i:y<256)(k:j<8):bits .or .u64 (x:Int) (VY.wrap (VY.wrap (y:Int)*2^(8*j)))=((x+y*256^j:Nat):Int):=by
 have e:((256^j:Nat):Int)=2^(8*j):=by rw[show 256=2^8 from rfl,<-Nat.pow_mul,Int.natCast_pow];rfl
 have b:256^(j+1)<=256^8:=Nat.pow_le_pow_right ai J;have l:y*256^j<=255*256^j:=WN _ J;rw[Nat.pow_succ]at b;have c:y*256^j<18446744073709551616:=J;have d:x<18446744073709551616:=J;have f:VY.wrap (VY.wrap (y:Int)*2^(8*j))=((y*256^j:Nat):Int):=by
  have g:VY.wrap (y:Int)=y:=by rw[IntKind.wrap_u64];omega
  rw[g,<-e,<-TS,IntKind.wrap_u64];omega
 rw[f,Ke _ _ d c];congr 1;have h:y*256^j=y<<<(8*j):=by rw[Nat.shiftLeft_eq,Nat.pow_mul]
 rw[h,Nat.or_comm,<-Nat.shiftLeft_add_eq_or_of_lt (by rw[Nat.pow_mul];exact a),ZK]
theorem Fr.reader[Lo](h:fK w m n f k)(a:Nat)(j:Lo.lo<=m):fK (w.setCell (R m 1) (Y a)) m n f a/\Fr jW aF w (w.setCell (R m 1) (Y a)):=by
 obtain⟨g,c,l,b,o,p,d,q⟩:=h;have i:g≠m:=λe=>by rw[e,b]at d;cases d
 refine⟨⟨g,c,l,heap_setCell_same w m 1 _ 364 _ b,o,p,?_,q⟩,(Fr.refl _ _ _).set b rfl j _⟩;exact(RZ _ _ _ _ i).trans d
def Mh[Lo](p n q k v:Nat)(f:aO)(w:M)(e:SG)(a:M):Prop:=aK e (bj v)/\fK a p n f (q+k)/\Fr jW aF w a
theorem tg[Lo](w:QL)(p n q k:Nat)(f:aO)(h:fK w p n f q)(l:Lo.lo<=p)(C:1<=k)(D:k<=8)(v:q+k<=n)(E:n<=1000000)(F:∀j,j<n->f j<256):aD 282 #[aq p,ae k] w (Mh p n q k (dp (λj=>f (q+j)) k) f w):=by
 have G:=ad (tf w p n q k f h C v E);have d:=aS h l F v;go_enter func282,ntmps282;go_wp2_with(first|(go_at_call 279;refine G.mono ?_;rintro e X ⟨⟨g,c,Z,rfl,m⟩,o⟩;have K:=ad m;have L:=ad o));go_loopw [5,12] (λO b wr=>∃(j:Nat),j<=k/\b= ae j/\O=.int .u64 (dp (λj=>f (q+j)) j:Nat)/\ar w wr) (λ_ b _=>k-(intOf b).toNat)
 case atStart=>exact⟨0,QX _,rfl,rfl,L⟩
 case round=>
  obtain⟨j,H,rfl,rfl,o⟩:=hrel;have a:=ad o;by_cases r:j<k
  .obtain ⟨P,Q,z,S⟩:=K.out;have T:wr.cell? ⟨g,q+j,none⟩=some (.int .u8 (f (q+j):Nat)):=(RD wr g _ P 5 Q ((a.block _ (Z_ z)).trans z)).trans (S (q+j) aa);obtain⟨x,s⟩:=ah (dp (λj=>f (q+j)) j);obtain⟨y,t⟩:=ah (f (q+j));rw[s];rw[t]at T;have u:=aM s t (EK (j:=j) (x:=x) (y:=y) (by rw[<-s];exact gH λi N=>d.2.2.1 _ (by have:=d.2.2.2;omega)) (by rw[<-t];exact d.2.2.1 _ (by have:=d.2.2.2;omega)) aa);go_wp2;refine⟨⟨j+1,r,rfl,?_,a⟩,by simp[intOf];omega⟩;rw[u.2.2];unfold dp;rw[u.1,u.2.1]
  .obtain rfl:j=k:=aa;obtain⟨h,l,-,-⟩:=d.out;have A:=h.below a;have B:=ad (λU=>Fr.reader A U l);have V:=ad (Fr.af a:Fr jW aF w wr);obtain⟨M,R,-,W,-⟩:=A;obtain⟨I,Y,J⟩:=cr W;have e1:QQ.wrap ((q:Int)+j)=((q+j:Nat):Int):=bf;go_wp2;go_ret;exact⟨rfl,(B _).1,V.tr (B _).2⟩
theorem xI[Lo](w:M)(p n q:Nat)(f:aO)(h:fK w p n f q)(d:Lo.lo<=p)(g:q+1<=n)(i:n<=1000000)(b:∀j,j<n->f j<256):aD 226 #[H p] w λe c=>aK e (.int .u8 (f q:Nat))/\fK c p n f (q+1)/\Fr jW aF w c:=by have a:=I (tg w p n q 1 f h d (QP _) J g i b);have s:=b q J;have e:((f q:Nat):Int)%256=(f q:Nat):=J;rw[NJ]at a;rw[VU]at a;obtain⟨y,k⟩:=ah (f q);rw[k]at a e|-;go_enter func226,ntmps226;go_wp2_with(first|(go_at_call 282;refine a.mono ?_;rintro e t ⟨rfl,l,m⟩;have o:=I l;have r:=I m));go_ret;exact⟨by first|rfl|(simp;omega),o,r⟩
theorem Hk[Lo](w:M)(p n q:Nat)(f:aO)(h:fK w p n f q)(d:Lo.lo<=p)(g:q+2<=n)(i:n<=1000000)(a:∀j,j<n->f j<256):aD 235 #[H p] w λe b=>aK e (.int .u16 (dp (λj=>f (q+j)) 2:Nat))/\fK b p n f (q+2)/\Fr jW aF w b:=by have c:=I (tg w p n q 2 f h d J J g i a);have k:dp (λj=>f (q+j)) 2<256^2:=gH λj t=>a _ J;obtain⟨y,l⟩:=ah (dp (λj=>f (q+j)) 2);rw[l]at c k|-;have e:((y:Nat):Int)%65536=(y:Nat):=J;go_enter func235,ntmps235;go_wp2_with(first|(go_at_call 282;refine c.mono ?_;rintro e u ⟨rfl,m,o⟩;have r:=I m;have s:=I o));go_ret;exact⟨by first|rfl|(simp;omega),r,s⟩
theorem gX[Lo](w:M)(p n q:Nat)(f:aO)(h:fK w p n f q)(d:Lo.lo<=p)(g:q+4<=n)(i:n<=1000000)(a:∀j,j<n->f j<256):aD 263 #[H p] w λe b=>aK e (.int .u32 (dp (λj=>f (q+j)) 4:Nat))/\fK b p n f (q+4)/\Fr jW aF w b:=by have c:=I (tg w p n q 4 f h d J J g i a);have k:dp (λj=>f (q+j)) 4<256^4:=gH λj t=>a _ J;obtain⟨y,l⟩:=ah (dp (λj=>f (q+j)) 4);rw[l]at c k|-;have e:((y:Nat):Int)%4294967296=(y:Nat):=J;go_enter func263,ntmps263;go_wp2_with(first|(go_at_call 282;refine c.mono ?_;rintro e u ⟨rfl,m,o⟩;have r:=I m;have s:=I o));go_ret;exact⟨by first|rfl|(simp;omega),r,s⟩
theorem th[Lo](w:M)(p n q:Nat)(f:aO)(h:fK w p n f q)(c:Lo.lo<=p)(d:q+8<=n)(g:n<=1000000)(i:∀j,j<n->f j<256):aD 220 #[H p] w λe a=>aK e (.int .u64 (dp (λj=>f (q+j)) 8:Nat))/\fK a p n f (q+8)/\Fr jW aF w a:=by have b:=I (tg w p n q 8 f h c J J d g i);obtain⟨y,k⟩:=ah (dp (λj=>f (q+j)) 8);rw[k]at b|-;go_enter func220,ntmps220;go_wp2_with(first|(go_at_call 282;refine b.mono ?_;rintro e s ⟨rfl,l,m⟩;have o:=I l;have r:=I m));go_ret;exact⟨rfl,o,r⟩
theorem EL(h:w.ownsRow m 5 1 (a_ k n i) n (az n f)):cN w (a_ k n i) n f:=fY h
theorem lP(w:M)(v:QN)(n:Nat)(f:aO)(h:cN w v n f)(L:1<=n)(O:n<=1000000):aD 262 #[v] w λe q=>∃p,aK e (H p)/\fK q p n f 0/\w.heap.size<=p/\ar w q:=by obtain⟨a,d,rfl,h⟩:=h;obtain⟨b,o,u,x,rfl,y,z⟩:=h.resolve_left J;have A:=I (eF b o n d f w (λk i=>(RD w b _ u 5 x y).trans (z k i)) J);go_enter func262,ntmps262;go_wp2_with(first|(go_at_call 199;refine A.mono ?_;rintro e B ⟨v,rfl,r,j⟩;obtain⟨P,C,rfl,c,D⟩:=eX r;obtain⟨g,rfl⟩:=D.resolve_left J;have E:=I r;have s:=I j));go_ret;obtain⟨Q,S,F,j⟩:=EL E;cases F;obtain⟨T,U,l,m,G,t,K⟩:=j.resolve_left J;cases G;refine⟨B.heap.size,rfl,⟨g,C,c,QM _ _,l,m,?_,λk i=>by have:=K k i;rwa[RQ]at this⟩,s.size,aI s _⟩;rw[RG _ _ _ (Z_ t)];exact t
instance MP (a b:Nat):Decidable (cI a b):=by unfold cI;infer_instance
theorem kK(b a:Nat)(w:M):aD 205 #[bj b,bj a] w λe c=>aK e (.bool (decide (cI b a)))/\w=c:=by
 by_cases h:cI b a
 .rw [decide_eq_true h];exact hW b a w h
 rw[decide_eq_false h];unfold cI at h;by_cases d:(b:Int)<=4611686018427387904<;>by_cases f:(1:Int)<=a<;>by_cases g:(a:Int)<=4611686018427387904
 .exact absurd ⟨J,J,J⟩ h
 all_goals(clear h;go_enter func205,ntmps205;go_wp2;go_ret;exact⟨by simp[*],rfl⟩)
theorem mR(n a b:Int)(w:M):aD 206 #[Y n,Y a,Y b] w λe c=>aK e (.bool (decide (a<=n/\n<=b)))/\w=c:=by by_cases d:a<=n<;>by_cases f:n<=b<;>(go_enter func206,ntmps206;go_wp2;go_ret;exact⟨by simp[*],rfl⟩)
def zc(w:M)(e:SG)(a:M):Prop:=aK e (.tuple #[aU,aG 80])/\ar w a
theorem Mi(h:Ck)(w:M)(i:¬h.ok):aD 149 #[.agg #[bj h.ep,bj h.sq,Y h.tail]] w (zc w):=by
 obtain⟨c,d,tail⟩:=h;have a:=I (kK c d);have f:=I (mR (tail:Nat) 0 2047);by_cases b:cI c d
 .have j:¬((0:Int)<=tail/\(tail:Int)<=2047):=λe=>i ⟨b,by show tail<2048;omega⟩;rw[decide_eq_true b]at a;rw[decide_eq_false j]at f;go_enter func149,ntmps149;go_wp2_with(first|(go_at_call 205;refine(a _).mono ?_;rintro e g ⟨rfl,rfl⟩)|(go_at_call 206;refine(f _).mono ?_;rintro e g ⟨rfl,rfl⟩));go_ret2;exact⟨rfl,aI aj _⟩
 .rw [decide_eq_false b]at a;go_enter func149,ntmps149;go_wp2_with(first|(go_at_call 205;refine(a _).mono ?_;rintro e g ⟨rfl,rfl⟩));go_ret2;exact⟨rfl,aI aj _⟩
theorem Mj(h:Cm)(w:M)(j:h.sm<4294967296)(k:¬h.ok):aD 336 #[.agg #[bj h.ep,bj h.sq,Y h.cA,.int .u32 (h.sm:Nat)]] w (zc w):=by
 obtain⟨d,f,a,m⟩:=h;have b:=I (kK d f);have g:=I (mR (a:Nat) 1 1023);by_cases c:cI d f
 .have l:¬((1:Int)<=a/\(a:Int)<=1023):=λe=>k ⟨c,by show 1<=a/\a<=1023;omega,j⟩;rw[decide_eq_true c]at b;rw[decide_eq_false l]at g;go_enter func336,ntmps336;go_wp2_with(first|(go_at_call 205;refine(b _).mono ?_;rintro e i ⟨rfl,rfl⟩)|(go_at_call 206;refine(g _).mono ?_;rintro e i ⟨rfl,rfl⟩));go_ret2;exact⟨rfl,aI aj _⟩
 .rw [decide_eq_false c]at b;go_enter func336,ntmps336;go_wp2_with(first|(go_at_call 205;refine(b _).mono ?_;rintro e i ⟨rfl,rfl⟩));go_ret2;exact⟨rfl,aI aj _⟩
theorem Mk(h:Hd)(w:M)(r:h.sm<4294967296)(s:h.cA<4294967296)(t:¬h.ok):aD 335 #[.agg #[bj h.ep,bj h.sq,Y h.ix,Y h.cA,Y h.me,Y h.row,.bool h.nu,.int .u32 (h.sm:Nat)]] w (zc w):=by
 obtain⟨m,n,i,a,j,c,u,z⟩:=h;have d:=I (kK m n);have v:a<4294967296:=s;have A:QQ.wrap ((a:Int)-1)=(a:Int)-1:=bf;by_cases k:cI m n
 .rw [decide_eq_true k]at d;by_cases o:(1:Int)<=a/\(a:Int)<=1023
  .have f:=I (decide_eq_true o);by_cases p:(0:Int)<=i/\(i:Int)<=(a:Nat)-1
   .have g:=I (decide_eq_true p);by_cases q:(0:Int)<=j/\(j:Int)<=15
    .have l:=I (decide_eq_true q);have x:¬((0:Int)<=c/\(c:Int)<=4095):=λe=>t ⟨k,by show 1<=a/\a<=1023;omega,by show i<a;omega,by show j<=15;omega,by show c<=4095;omega,r⟩;have y:=I (decide_eq_false x);go_enter func335,ntmps335;go_wp2_with(first|(go_at_call 205;refine(d _).mono ?_;rintro e b ⟨rfl,rfl⟩)|(go_at_call 206;refine(mR _ _ _ _).mono ?_;rintro e b ⟨rfl,rfl⟩;(first|rw[f.out] |rw[g.out] |rw[l.out] |rw[y.out])));go_ret2;exact⟨rfl,aI aj _⟩
    .have l:=I (decide_eq_false q);go_enter func335,ntmps335;go_wp2_with(first|(go_at_call 205;refine(d _).mono ?_;rintro e b ⟨rfl,rfl⟩)|(go_at_call 206;refine(mR _ _ _ _).mono ?_;rintro e b ⟨rfl,rfl⟩;(first|rw[f.out] |rw[g.out] |rw[l.out])));go_ret2;exact⟨rfl,aI aj _⟩
   .have g:=I (decide_eq_false p);go_enter func335,ntmps335;go_wp2_with(first|(go_at_call 205;refine(d _).mono ?_;rintro e b ⟨rfl,rfl⟩)|(go_at_call 206;refine(mR _ _ _ _).mono ?_;rintro e b ⟨rfl,rfl⟩;(first|rw[f.out] |rw[g.out])));go_ret2;exact⟨rfl,aI aj _⟩
  .have f:=I (decide_eq_false o);go_enter func335,ntmps335;go_wp2_with(first|(go_at_call 205;refine(d _).mono ?_;rintro e b ⟨rfl,rfl⟩)|(go_at_call 206;refine(mR _ _ _ _).mono ?_;rintro e b ⟨rfl,rfl⟩;(first|rw[f.out])));go_ret2;exact⟨rfl,aI aj _⟩
 .rw [decide_eq_false k]at d;go_enter func335,ntmps335;go_wp2_with(first|(go_at_call 205;refine(d _).mono ?_;rintro e b ⟨rfl,rfl⟩));go_ret2;exact⟨rfl,aI aj _⟩
theorem rI(h:yP f):hz f=true:=by unfold hz;simp only[decide_eq_true_eq];exact⟨h 0 ai,h 1 ai,h 2 ai,h 3 ai⟩
def Kf(f:aO):Nat:=if hz f=true/\f 4<=3 then f 4 else 0
theorem Hl(v:QN)(f:aO)(w:M)(h:dT w v f)(p:∀k,k<128->f k<256):aD 307 #[v] w λe t=>aK e (.int .u8 (Kf f:Nat))/\ar w t:=by
 obtain⟨b,o,d,u,x,rfl,q,c,z⟩:=h;have r:∀k,k<128->w.cell? ⟨b,o+k,none⟩=some (.int .u8 (f k)):=λk g=>(RD w b _ u 5 x c).trans (z k g);have s:=wD f λk g=>p k J;have i:=iY (w:=w) (v:=.slice (some (R b o)) 4 d) (n:=4) (f:=f) ⟨_,_,rfl,.inr ⟨b,o,rfl,λk g=>r k J⟩⟩ w aj;obtain⟨C,j⟩:=ah (kx 4 f);rw[j]at s i;have l:=r 4 J;have a:=p 4 J;obtain⟨y,A⟩:=ah (f 4);obtain⟨m,B⟩:=ah (hz f);unfold Kf;rw[B]at s|-;rw[A]at l a|-;cases m
 .rw [al aJ];go_enter func307,ntmps307;go_wp2;go_ret;exact⟨rfl,aj⟩
 .by_cases c:y<=3
  .rw [ak ⟨rfl,c⟩];go_enter func307,ntmps307;go_wp2;go_ret;exact⟨rfl,aj⟩
  .rw [al (λe=>c e.2)];go_enter func307,ntmps307;go_wp2;go_ret;exact⟨rfl,aj⟩
theorem zd[Lo](w:M)(p n q k:Nat)(f:aO)(h:fK w p n f q)(A:Lo.lo<=p)(s:1<=k)(t:q+k<=n)(u:n<=1000000):aD 217 #[aq p,Y k] w λe x=>(∃v,aK e v)/\fK x p n f (q+k)/\Fr jW aF w x:=by have B:=I (tf w p n q k f h s t u);have m:=I (λW (i:ar w W) g c (b:Array QN) l (a:aZ w g (.cells b 5 l)) (o:∀k,k<n->b[k]?=some (.int .u8 (f k)))=>eF g q k (c-q) (λj=>f (q+j)) W (λj L=>(RD W g _ b 5 l ((i.block _ (Z_ a)).trans a)).trans (o _ J)) J);have r:=bX h A s t u;go_enter func217,ntmps217;go_wp2_with(first|(go_at_call 279;refine B.mono ?_;rintro e C ⟨⟨g,c,O,rfl,b,l,a,o⟩,i⟩;have D:=I (m C i g c b l a o);have E:=I i)|(go_at_call 199;refine D.mono ?_;rintro e P ⟨v,rfl,F,G⟩;obtain⟨Q,S,rfl,-,-⟩:=eX F;have d:=I (via E G);have y:=I (r.1.below d);have z:=I (λK=>Fr.reader y K r.2.1);obtain⟨T,U,-,a,-⟩:=id y;obtain⟨V,X,Z⟩:=cr a;have H:QQ.wrap ((q:Int)+k)=((q+k:Nat):Int):=(by have:=r.out;go_arith)));go_ret;exact⟨⟨_,rfl⟩,(z _).1,(Fr.af d).tr (z _).2⟩
theorem Kg(a:1<=n/\n<=3)(h:gI n f):Kf f=n:=by unfold Kf;rw[ak ⟨rI h.Iv,by rw[h.kind];exact a.2⟩,h.kind]
def Od[Lo](T:List Nat)(a:Nat)(f:aO)(g:Prop)(b:aO)(J Q:M->Prop)(w:M)(e:SG)(c:M):Prop:=
 ∃d:Nat,aK e (aG d)/\Fr T aF w c/\J c/\((d=0/\g/\aC f b/\Q c)\/(d≠0/\¬(gI a f/\g/\aC f b)))
theorem xJ[Lo](T:List Nat)(r s:Nat)(a1:Array QN)(d7:∀l w,(UY r l).run prog w=.ok (.enter r l) w)(d8:∀l w,(UY s l).run prog w=.ok (.enter s l) w)(v:QN)(f:aO)(i:Nat)(a6:Prop)(m:aO)(J Q:QL->Prop)(w:QL)(h:dT w v f)(d1:∀k,k<128->f k<256)(d9:∀k,k<128->m k<256)(u:Lo.lo<=w.heap.size)(a2:1<=i/\i<=3)(h5:T.contains 5=false)(G:jW.all (λt=>T.contains t)=true)(K:∀W p,Fr jW aF w W->fK W p 128 f 24->w.heap.size<=p->aD r (#[aq p,.int .u64 (dp (λk=>f (8+k)) 8:Nat),.int .u64 (dp (λk=>f (16+k)) 8:Nat)] ++a1) W λe L=>aK e (.tuple #[])/\Q L/\Fr T aF W L)(a7:∀W,Fr jW aF w W->J W)(a8:∀a b,Q a->ar a b->J b)(e0:∀a b,Q a->ar a b->Q b)(z:∀W,Q W->aD s a1 W λe L=>(a6/\se 128 m W e L)\/(¬a6/\zc W e L)):
  aD 270 #[v,bs i,.func (.func r) #[] a1,.func (.func s) #[] a1] w (Od T i f a6 m J Q w):=by
 have a3:=ad (Hl v f w h d1);obtain⟨b,o,A,d2,d3,rfl,d4,h3,h4⟩:=id h;have d5:=ad h;have X:=ad d1;have e2:=ad d9;have e3:=ad K;have e4:=ad z;have e5:=ad e0;have Z:=ad a7;have H:=ad a8;have c1:¬A=124:=aa;have c2:(124:Int)<=(A:Int):=aa;by_cases O:Kf f=i
 .rw [O]at a3;go_enter func270,ntmps270;have H4:RH (∀W,ar w W->cN W (.slice (some ⟨b,o+124,none⟩) 4 (A-124)) 4 λk=>f (124+k)):=λW d=>⟨_,_,rfl,.inr ⟨b,o+124,d2,d3,rfl,(d.block _ (Z_ h3)).trans h3,λk a2=>by rw[UZ];exact h4 _ aa⟩⟩;have N:RH (∀W,Fr jW aF w W->lX W (.slice (some (ag b o)) 124 A) 124 f):=λW d=>⟨_,_,rfl,.inr ⟨b,o,rfl,λk a2=>(RD W b _ d2 5 d3 (d.hp h3 rfl)).trans (h4 _ aa)⟩⟩;go_wp2_with(first|(go_at_call 307;refine a3.mono ?_;rintro e w1 ⟨rfl,d⟩;have V:=ad d)|(go_at_call 262;refine(lP w1 _ 4 _ (H4 w1 V) ai ai).mono ?_;rintro e w2 ⟨p,rfl,B,a9,P⟩;have b0:=ad B;have b1:=ad (QO V.size a9);have b2:=ad (via V P)));have d6:=ad (λW (d:ar w2 W)=>gX W p 4 0 _ (b0.below d) (QO u b1) ai ai λj f0=>X.out _ aa);have M:=ad (λW (d:Fr jW aF w W)=>jC 124 _ f W (N W d) (λk a2=>X.out k aa) ai);obtain⟨x,b3⟩:=ah (dp (λj=>f (124+(0+j))) 4);obtain⟨y,R⟩:=ah (dD 0 124 f);simp only[b3]at d6;rw[R]at M;go_region_held3(λ_=>True) ((simp[*,go_sem];done)) (first|(go_at_call 263;refine(d6 _ bC).mono ?_;rintro e w3 ⟨rfl,-,h2⟩;have C:RH (Fr jW aF w w3):=(Fr.af (via b2 bC)).tr h2)|(go_at_call 160;refine(M _ (by first|exact C|exact C.tr (Fr.af bC))).mono ?_;rintro e w4 ⟨rfl,d⟩;have n:RH (Fr jW aF w w4):=(by first|exact C.tr (Fr.af d)|exact C.tr (Fr.af (via bC d)))));by_cases I:x=y
  .subst I;have a4:=aA b3 R;have b4:=d5.fr n rfl;have b5:=ad (lP w4 _ 128 f b4.eG ai ai);go_wp2_with(first|(go_at_call 262;refine b5.mono ?_;rintro e w5 ⟨p2,rfl,B,a9,P⟩;have b6:=ad B;have b7:=ad (n.tr (Fr.af P));have D:=ad (QO n.size a9)));go_wp2_with(first|(go_at_call 217;refine(zd w5 p2 128 0 8 f b6 (QO u D) ai ai ai).mono ?_;rintro e w6 ⟨⟨v6,rfl⟩,B,d⟩;have b8:=ad B;have b9:RH (Fr jW aF w w6):=b7.tr d));have c0:=ad (th w6 p2 128 8 f b8 (QO u D) ai ai X);go_wp2_with(first|(go_at_call 220;refine c0.mono ?_;rintro e w7 ⟨rfl,B,d⟩;have c3:=ad B;have c4:RH (Fr jW aF w w7):=b9.tr d));have c6:=ad (th w7 p2 128 16 f c3 (QO u D) ai ai X);go_wp2_with(first|(go_at_call 220;refine c6.mono ?_;rintro e w8 ⟨rfl,B,d⟩;have c7:=ad B;have Y:RH (Fr jW aF w w8):=c4.tr d));refine(e3 w8 p2 Y c7 D).mono ?_;rintro e w9 ⟨rfl,e6,d⟩;have E:=ad e6;have a0:=ad ((Y.wide T G).tr d);go_wp2_with fail;refine(e4 w9 E).mono ?_;rintro e e7 (⟨S,g,c,rfl,e8,d⟩|⟨S,rfl,d⟩)
   .have q:=ad (a0.tr (Fr.af d));have F:=ad (H _ _ E d);have HEq:=ad (mg _ _ 128 128 f m e7 (d5.fr q h5).BH (oC e8) X e2);have c8:=ad (e5 _ _ E d);have c9:=ad S;by_cases a5:aC f m
    .have e1:qG 128 128 f m=true:=iZ a5;have U:=ad a5;rw[e1]at HEq;go_wp2_with(first|(go_at_call 264;refine HEq.mono ?_;rintro e L ⟨rfl,rfl⟩));go_ret;exact⟨0,rfl,q,F,.inl ⟨rfl,c9,U,c8⟩⟩
    .have e1:qG 128 128 f m=false:=by
      unfold qG;rw[decide_eq_false_iff_not];exactλe=>a5 e.2
     have U:=ad a5;rw[e1]at HEq;go_wp2_with(first|(go_at_call 264;refine HEq.mono ?_;rintro e L ⟨rfl,rfl⟩));go_ret;exact⟨80,rfl,q,F,.inr ⟨ai,λe=>U.out e.2.2⟩⟩
   .have q:=ad (a0.tr (Fr.af d));have F:=ad (H _ _ E d);have d0:=ad S;go_wp2_with fail;go_ret;exact⟨80,rfl,q,F,.inr ⟨ai,λe=>d0.out e.2.1⟩⟩
  .have a4:=aM b3 R I;have e9:¬(x:Int)=(y:Int):=aa;go_wp2_with fail;go_ret;exact⟨81,rfl,n.wide T G,Z _ n,.inr ⟨ai,λe=>a4.2.2 (by rw[<-a4.1,<-a4.2.1];simp only[RQ];exact e.1.sum)⟩⟩
 .have c5:¬(Kf f:Int)=(i:Int):=aa;have d0:=ad O;obtain⟨y,R⟩:=ah (Kf f);rw[R]at a3 c5 O;go_enter func270,ntmps270;go_wp2_with(first|(go_at_call 307;refine a3.mono ?_;rintro e w1 ⟨rfl,d⟩;have V:=ad d));go_ret;exact⟨80,rfl,Fr.af V,Z _ (Fr.af V),.inr ⟨ai,λe=>d0.out (Kg a2 e.1)⟩⟩
theorem Fr.under[Lo](h:Fr T aF w W)(c:w.heap.size<=Lo.lo):ar w W:=
 ⟨h.os,h.tape,h.output,h.size,λk b=>by obtain⟨o,a⟩:∃o,aZ w k o:=⟨_,SH b⟩;rw[h.block k o a (.inr J) id,a]⟩
abbrev Oe(h:Ck):QN:=.agg #[bj h.ep,bj h.sq,Y h.tail]
abbrev Po(h:Ck):Array QN:= #[bj h.ep,bj h.sq,Y h.tail]
def Kh{α:Type}(b:α->QN)(d:α->Prop)(a:α->Nat->Nat)(f:aO)(w:M)(e:SG)(i:M):Prop:=
 ∃(c:Nat) (h:α),aK e (.tuple #[b h,aG c])/\ar w i/\((c=0/\d h/\aC f (a h))\/(c≠0/\∀g,d g->¬aC f (a g)))
theorem Of{a b c:QN}(h:aZ w n (.cells #[a,b,c] m (0,0)))(x y z:QN):
  (((w.setCell (R n 0) x).setCell (R n 1) y).setCell (R n 2) z).heap[n]?=some (.cells #[x,y,z] m (0,0)):=by
 have d:=heap_setCell_same w n 0 _ m x h;have e:=heap_setCell_same _ n 1 _ m y d;exact heap_setCell_same _ n 2 _ m z e
theorem ti[Lo]{a b c:QN}(h:aZ w n (.cells #[a,b,c] m (0,0)))(d:Lo.lo<=n)(e:T.contains m=true)(x y z:QN):
  Fr T aF w (((w.setCell (R n 0) x).setCell (R n 1) y).setCell (R n 2) z):=by
 have f:=heap_setCell_same w n 0 _ m x h;have g:=heap_setCell_same _ n 1 _ m y f;exact(((Fr.refl T aF w).set (p:=R n 0) h e d _).set (p:=R n 1) f e d _).set (p:=R n 2) g e d _
theorem Ki(v:QN)(f:aO)(w:QL)(h:dT w v f)(E:∀k,k<128->f k<256):aD 193 #[v] w (Kh Oe Ck.ok Ck.enc f w):=by
 letI:Lo:=⟨w.heap.size⟩
 obtain⟨a4,D,a5,F,g,n⟩:=dQ w (ao #[.int .u64 0,.int .u64 0,ae 0] 156);have o:Lo.lo<=D:=by show w.heap.size<=D;omega
 have G:dp (λk=>f (24+k)) 4<256^4:=gH λj b2=>E _ aa;have a6:=ad (xJ [364,156] 271 272 #[aq D] (λ_ _=>rfl) (λ_ _=>rfl) v f 3 (Ck.of f).ok (Ck.of f).enc (λW=>∃a b c,aZ W D (ao #[a,b,c] 156)) (λW=>aZ W D (ao (Po (Ck.of f)) 156)) a4 (h.below g) E (λk _=>jF (cH _) k) g.size ai rfl rfl
  (λW p q a7 a8=>by have r:aZ W D (ao #[.int .u64 0,.int .u64 0,ae 0] 156):=q.hp n rfl;have R:=ad (gX W p 128 24 f a7 (QO g.size a8) ai ai E);obtain⟨K,L,O⟩:=cr r;obtain⟨y,I⟩:=ah (dp (λj=>f (24+j)) 4);obtain⟨y1,P⟩:=ah (dp (λj=>f (8+j)) 8);obtain⟨y2,Q⟩:=ah (dp (λj=>f (16+j)) 8);unfold Ck.of Po;rw[I]at R G;simp only[I,P,Q];have a9:=ad r;have S:QQ.wrap (y:Int)=(y:Nat):=bf;go_enter func271,ntmps271;go_wp2_with(first|(go_at_call 263;refine R.mono ?_;rintro e U ⟨rfl,-,i⟩;have s:=ad i;have Y:=i.hp a9 rfl;have t:=ad Y;obtain⟨k3,k4,k5⟩:=cr Y));go_end0;have u:=Of t (bj y1) (bj y2) (ae y);exact⟨rfl,u,(s.wide [364,156] rfl).tr (ti t o ai _ _ _)⟩)
  (λW q=>⟨_,_,_,q.hp n rfl⟩) (λa b x m=>⟨_,_,_,(m.block _ (Z_ x)).trans x⟩)
  (λa b x m=>(m.block _ (Z_ x)).trans x)
  (λW q=>by
   obtain⟨K,L,O⟩:=cr q;by_cases d:(Ck.of f).ok
   .have V:=ad (mf (Ck.of f).ep (Ck.of f).sq (Ck.of f).tail W d.c (by have:=d.tail;omega));have X:=ad d;go_enter func272,ntmps272;go_wp2_with(first|(go_at_call 149;refine V.mono ?_;rintro e U ⟨b0,c,rfl,b1,i⟩;have l:=aA b1 i));go_ret2;exact .inl ⟨X,b0,c,rfl,l⟩
   .have V:=ad (Mi (Ck.of f) W d);have X:=ad d;go_enter func272,ntmps272;go_wp2_with(first|(go_at_call 149;refine V.mono ?_;rintro e U ⟨rfl,i⟩;have l:=ad i));go_ret2;exact .inr ⟨X,rfl,l⟩))
 have B:=aA g o;have J:=aA a5 F;have z:=ad (λ(C:Ck) (d:C.ok) (e:aC f C.enc)=>And.intro (Ck.cF d e) (gI.of ai (cH _) e:gI 3 f));go_enter func193,ntmps193;go_wp2_with fail
 try simp only[J.out.1,J.out.2]
 go_wp2_with fail;refine a6.mono ?_;rintro e U ⟨Z,rfl,i,⟨a,b,c,a0⟩,⟨rfl,H,A,a1⟩|⟨N,M⟩⟩
 .have s:=ad i;have l:=aA H A;have u:=ad (ti (T:= [364,156]) a1 B.2 rfl);obtain⟨K,L,O⟩:=cr a1;go_wp2;refine RB (v:=.tuple #[Oe (Ck.of f),aG 0]) (by rw[UP rfl];simp[go_sem, *]) rfl ?_;exact⟨0,Ck.of f,rfl,((Fr.af B.1).tr (s.tr (u.out _ _ _))).under (QP _),.inl ⟨rfl,l⟩⟩
 .have s:=ad i;have l:=aA N M;have u:=ad (ti (T:= [364,156]) a0 B.2 rfl);have a2:¬(Z:Int)=0:=aa;obtain⟨K,L,O⟩:=cr a0;go_wp2;refine RB (v:=.tuple #[Oe ⟨0,0,0⟩,aG Z]) (by rw[UP rfl];simp[go_sem, *]) rfl ?_;exact⟨Z,⟨0,0,0⟩,rfl,((Fr.af B.1).tr (s.tr (u.out _ _ _))).under (QP _),.inr ⟨l.1,λC d a3=>by obtain⟨S,e2⟩:=z.out C d a3;exact l.2 ⟨e2,by rw[S];exact d,by rw[S];exact a3⟩⟩⟩
abbrev Og(h:Cm):QN:=.agg #[bj h.ep,bj h.sq,Y h.cA,.int .u32 (h.sm:Nat)]
abbrev Pp(h:Cm):Array QN:= #[bj h.ep,bj h.sq,Y h.cA,.int .u32 (h.sm:Nat)]
theorem Oh{a b c d:QN}(h:aZ w n (.cells #[a,b,c,d] m (0,0)))(x y z t:QN):
  ((((w.setCell (R n 0) x).setCell (R n 1) y).setCell (R n 2) z).setCell (R n 3) t).heap[n]?=some (.cells #[x,y,z,t] m (0,0)):=by
 have e:=heap_setCell_same w n 0 _ m x h;have f:=heap_setCell_same _ n 1 _ m y e;have g:=heap_setCell_same _ n 2 _ m z f;exact heap_setCell_same _ n 3 _ m t g
theorem tj[Lo]{a b c d:QN}(h:aZ w n (.cells #[a,b,c,d] m (0,0)))(e:Lo.lo<=n)(f:T.contains m=true)(x y z t:QN):
  Fr T aF w ((((w.setCell (R n 0) x).setCell (R n 1) y).setCell (R n 2) z).setCell (R n 3) t):=by
 have g:=heap_setCell_same w n 0 _ m x h;have i:=heap_setCell_same _ n 1 _ m y g;have j:=heap_setCell_same _ n 2 _ m z i;exact((((Fr.refl T aF w).set (p:=R n 0) h f e _).set (p:=R n 1) g f e _).set (p:=R n 2) i f e _).set (p:=R n 3) j f e _
theorem Kj(v:QN)(f:aO)(w:QL)(h:dT w v f)(q:∀k,k<128->f k<256):aD 310 #[v] w (Kh Og Cm.ok Cm.enc f w):=by
 letI:Lo:=⟨w.heap.size⟩
 obtain⟨b3,D,b4,Q,l,r⟩:=dQ w (ao #[.int .u64 0,.int .u64 0,ae 0,.int .u32 0] 397);have s:Lo.lo<=D:=by show w.heap.size<=D;omega
 have S:dp (λk=>f (24+k)) 4<256^4:=gH λj b5=>q _ aa;have U:(Cm.of f).sm<256^4:=gH λj b5=>q _ aa;have b6:=ad (xJ [364,397] 338 339 #[aq D] (λ_ _=>rfl) (λ_ _=>rfl) v f 2 (Cm.of f).ok (Cm.of f).enc (λW=>∃a b c d,aZ W D (ao #[a,b,c,d] 397)) (λW=>aZ W D (ao (Pp (Cm.of f)) 397)) b3 (h.below l) q (λk _=>jF (cU (cH _) (cH _)) k) l.size ai rfl rfl
  (λW p t b7 a5=>by have u:aZ W D (ao #[.int .u64 0,.int .u64 0,ae 0,.int .u32 0] 397):=t.hp r rfl;have a6:=ad (gX W p 128 24 f b7 (QO l.size a5) ai ai q);have x:=ad (λW1 (n:fK W1 p 128 f 28)=>gX W1 p 128 28 f n (QO l.size a5) ai ai q);obtain⟨V,X,Z⟩:=cr u;obtain⟨y,a7⟩:=ah (dp (λj=>f (24+j)) 4);obtain⟨y1,H⟩:=ah (dp (λj=>f (8+j)) 8);obtain⟨y2,N⟩:=ah (dp (λj=>f (16+j)) 8);obtain⟨y3,z⟩:=ah (dp (λj=>f (28+j)) 4);unfold Cm.of Pp;rw[a7]at a6 S;simp only[z]at x;simp only[a7,H,N,z];have b8:=ad u;have M:QQ.wrap (y:Int)=(y:Nat):=bf;go_enter func338,ntmps338;go_wp2_with(first|(go_at_call 263;refine a6.mono ?_;rintro e K ⟨rfl,n,g⟩;have A:=ad g;have L:=g.hp b8 rfl;have R:=ad L;have I:=ad (x K n)));go_wp2_with(first|(go_at_call 263;refine I.mono ?_;rintro e w2 ⟨rfl,-,g⟩;have Y:=ad (A.tr g);have L:=g.hp R rfl;have B:=ad L;obtain⟨k6,k7,k8⟩:=cr L));go_end0;have C:=Oh B (bj y1) (bj y2) (ae y) (.int .u32 (y3:Nat));exact⟨rfl,C,(Y.wide [364,397] rfl).tr (tj B s rfl _ _ _ _)⟩)
  (λW t=>⟨_,_,_,_,t.hp r rfl⟩) (λa b E o=>⟨_,_,_,_,(o.block _ (Z_ E)).trans E⟩)
  (λa b E o=>(o.block _ (Z_ E)).trans E)
  (λW t=>by
   obtain⟨V,X,Z⟩:=cr t;by_cases i:(Cm.of f).ok
   .have J:=ad (oD (Cm.of f).ep (Cm.of f).sq (Cm.of f).cA (Cm.of f).sm W i.c i.cA.1 i.cA.2 i.sm);have a0:=ad i;go_enter func339,ntmps339;go_wp2_with(first|(go_at_call 336;refine J.mono ?_;rintro e K ⟨b9,c,rfl,c0,g⟩;have m:=aA c0 g));go_ret2;exact .inl ⟨a0,b9,c,rfl,m⟩
   .have J:=ad (Mj (Cm.of f) W U i);have a0:=ad i;go_enter func339,ntmps339;go_wp2_with(first|(go_at_call 336;refine J.mono ?_;rintro e K ⟨rfl,g⟩;have m:=ad g));go_ret2;exact .inr ⟨a0,rfl,m⟩))
 have O:=aA l s;have a8:=aA b4 Q;have F:=ad (λ(P:Cm) (i:P.ok) (e:aC f P.enc)=>And.intro (Cm.cF i e) (gI.of ai (cU (cH _) (cH _)) e:gI 2 f));go_enter func310,ntmps310;go_wp2_with fail
 try simp only[a8.out.1,a8.out.2]
 go_wp2_with fail;refine b6.mono ?_;rintro e K ⟨a1,rfl,g,⟨a,b,c,d,a9⟩,⟨rfl,a2,G,b0⟩|⟨a3,a4⟩⟩
 .have A:=ad g;have m:=aA a2 G;have C:=ad (tj (T:= [364,397]) b0 O.2 rfl);obtain⟨V,X,Z⟩:=cr b0;go_wp2;refine RB (v:=.tuple #[Og (Cm.of f),aG 0]) (by rw[UP rfl];simp[go_sem, *]) rfl ?_;exact⟨0,Cm.of f,rfl,((Fr.af O.1).tr (A.tr (C.out _ _ _ _))).under (QP _),.inl ⟨rfl,m⟩⟩
 .have A:=ad g;have m:=aA a3 a4;have C:=ad (tj (T:= [364,397]) a9 O.2 rfl);have b1:¬(a1:Int)=0:=aa;obtain⟨V,X,Z⟩:=cr a9;go_wp2;refine RB (v:=.tuple #[Og ⟨0,0,0,0⟩,aG a1]) (by rw[UP rfl];simp[go_sem, *]) rfl ?_;exact⟨a1,⟨0,0,0,0⟩,rfl,((Fr.af O.1).tr (A.tr (C.out _ _ _ _))).under (QP _),.inr ⟨m.1,λP i b2=>by obtain⟨M,e2⟩:=F.out P i b2;exact m.2 ⟨e2,by rw[M];exact i,by rw[M];exact b2⟩⟩⟩
abbrev Oi(h:Hd):QN:=.agg #[bj h.ep,bj h.sq,Y h.ix,Y h.cA,Y h.me,Y h.row,.bool h.nu,.int .u32 (h.sm:Nat)]
abbrev rJ(h:Hd):Array QN:= #[bj h.ep,bj h.sq,Y h.ix,Y h.cA,Y h.me,Y h.row,.bool h.nu,.int .u32 (h.sm:Nat)]
theorem ze[Lo](h:aZ w n (.cells A m (0,0)))(a:Lo.lo<=n)(b:T.contains m=true)(c d e f x4 g i s:QN):
  Fr T aF w ((((((((w.setCell (R n 0) c).setCell (R n 1) d).setCell (R n 2) e).setCell (R n 3) f).setCell (R n 4) x4).setCell (R n 5) g).setCell (R n 6) i).setCell (R n 7) s):=by
 have j:=heap_setCell_same w n 0 _ m c h;have k:=heap_setCell_same _ n 1 _ m d j;have l:=heap_setCell_same _ n 2 _ m e k;have o:=heap_setCell_same _ n 3 _ m f l;have q:=heap_setCell_same _ n 4 _ m x4 o;have r:=heap_setCell_same _ n 5 _ m g q;have t:=heap_setCell_same _ n 6 _ m i r;exact((((((((Fr.refl T aF w).set (p:=R n 0) h b a _).set (p:=R n 1) j b a _).set (p:=R n 2) k b a _).set (p:=R n 3) l b a _).set (p:=R n 4) o b a _).set (p:=R n 5) q b a _).set (p:=R n 6) r b a _).set (p:=R n 7) t b a _
def Kk(f:aO)(j:Nat):Nat:=dp (λk=>f (24+4*j+k)) 4
def Oj(f:aO)(j:Nat):Array QN:= #[.int .u64 (dp (λk=>f (8+k)) 8:Nat),.int .u64 (dp (λk=>f (16+k)) 8:Nat),Y (if 0<j then Kk f 0 else 0:Nat),Y (if 1<j then Kk f 1 else 0:Nat),Y (if 2<j then Kk f 2 else 0:Nat),Y (if 3<j then Kk f 3 else 0:Nat),.bool false,.int .u32 0]
theorem EM[Lo](f:aO)(D p:Nat)(W:QL)(o:fK W p 128 f 24)(a:W.heap[D]?=some (ao #[.int .u64 0,.int .u64 0,ae 0,ae 0,ae 0,ae 0,.bool false,.int .u32 0] 390))(w:Lo.lo<=p)(i:Lo.lo<=D)(a8:∀k,k<128->f k<256):
  aD 340 (#[aq p,.int .u64 (dp (λk=>f (8+k)) 8:Nat),.int .u64 (dp (λk=>f (16+k)) 8:Nat)] ++ #[aq D]) W λe a9=>aK e (.tuple #[])/\a9.heap[D]?=some (ao (rJ (Hd.of f)) 390)/\Fr [364,390] aF W a9:=by
 obtain⟨y1,S⟩:=ah (dp (λj=>f (8+j)) 8);obtain⟨y2,T⟩:=ah (dp (λj=>f (16+j)) 8);have b:∀j,j<4->Kk f j<256^4:=λj b3=>gH λk b6=>a8 _ aa;obtain⟨O,k1,k2⟩:=cr a;simp only[S,T];obtain⟨t,l⟩:=ah ((W.setCell (ag D 0) (bj y1)).setCell (ag D 1) (bj y2));have U:t.heap[D]?=some (ao (Oj f 0) 390):=by rw[<-l];unfold Oj;rw[S,T];exact heap_setCell_same _ D 1 _ 390 _ (heap_setCell_same W D 0 _ 390 _ a)
 have V:Fr [364,390] aF W t:=by rw[<-l];exact((Fr.refl [364,390] aF W).set (p:=ag D 0) a rfl i _).set (p:=ag D 1) (heap_setCell_same W D 0 _ 390 _ a) rfl i _
 have q:fK t p 128 f 24:=by
  obtain⟨g,c,z,r,X,Z,m,n⟩:=o;have A:p≠D:=λe=>by rw[e,a]at r;cases r
  have P:g≠D:=λe=>by rw[e,a]at m;cases m
  rw[<-l];exact⟨g,c,z,((RZ _ _ _ _ A).trans (RZ _ _ _ _ A)).trans r,X,Z,((RZ _ _ _ _ P).trans (RZ _ _ _ _ P)).trans m,n⟩
 have b0:=ad l;have u:=bX q U V a8 b;clear o a l q U V;go_enter func340,ntmps340;go_wp2_with fail;simp only[b0.out];obtain⟨W2,H,N,a2⟩:=nH t (ao #[.pointer (some (ag D 2)),.pointer (some (ag D 3)),.pointer (some (ag D 4)),.pointer (some (ag D 5))] 214)
 try rw[H]
 obtain⟨b1,B⟩:=ah W.heap.size;have M:t.heap.size=b1:=by rw[<-b0.out,SE,SE];exact B
 rw[M]at a2;rw[B];have a1:=aA a2 N;clear H N B a2 M;go_loopw [8,19] (λs8 C wr=>∃(j:Nat),j<=4/\C= ae j/\RH (fK wr p 128 f (24+4*j)/\wr.heap[D]?=some (ao (Oj f j) 390)/\Fr [364,390] aF W2 wr)) (λ_ C _=>4-(intOf C).toNat)
 case atStart=>exact⟨0,ai,rfl,u.1.below a1.2,(a1.2.block _ (Z_ u.2.1)).trans u.2.1,Fr.refl _ _ _⟩
 case round=>
  obtain⟨j,b3,rfl,E⟩:=hrel;have a3:=ad (E.2.2.hp a1.1 rfl);by_cases b:j<4
  .have Q:=ad (gX wr p 128 (24+4*j) f E.1 w aa ai u.2.2.2.1);have d:=u.2.2.2.2 j b;obtain⟨y,F⟩:=ah (dp (λk=>f (24+4*j+k)) 4);unfold Kk at d;rw[F]at Q d;have b4:RH (Kk f j=y):=F;have A:QQ.wrap (y:Int)=(y:Nat):=bf;have a4:wr.cell? (ag b1 j)=some (.pointer (some ⟨D,2+j,none⟩)):=by
    rw[(cr a3.out).1]
    match j,b with
    |0,_=>rfl
    |1,_=>rfl
    |2,_=>rfl
    |3,_=>rfl
   have i1:(0:Int)<=j:=aa;have i2:(j:Int)<4:=aa;clear d F;go_wp2_with(first|(go_at_call 263;refine Q.mono ?_;rintro e v ⟨rfl,o,d⟩;have G:=ad o;have K:=ad d;have a:=d.hp E.2.1 rfl;have s:=ad a;obtain⟨O,k1,k2⟩:=cr a;have a5:v.cell? ⟨D,2+j,none⟩=some (ae 0):=(by rw[O];match j,b with|0,_=>rfl|1,_=>rfl|2,_=>rfl|3,_=>rfl);clear O o d a));go_roundw
   case rel=>
    have z:=heap_setCell_same v D (2+j) _ 390 (ae y) s;have r:Fr [364,390] aF W2 (v.setCell ⟨D,2+j,none⟩ (ae y)):=(E.2.2.tr (K.wide [364,390] rfl)).set (p:=⟨D,2+j,none⟩) s rfl i _;refine⟨j+1,b,by go_num,?_,?_,r⟩
    .obtain ⟨g,c,m,n,X,Z,L,h6⟩:=G.out;have A:p≠D:=λe=>by rw[e,s.out]at n;cases n
     have P:g≠D:=λe=>by rw[e,s.out]at L;cases L
     exact⟨g,c,m,(RZ _ _ _ _ A).trans n,X,Z,(RZ _ _ _ _ P).trans L,h6⟩
    .rw [z,<-b4.out]
     match j,b with
     |0,_=>rfl
     |1,_=>rfl
     |2,_=>rfl
     |3,_=>rfl
   case measure=>simp[intOf];omega
  .obtain rfl:j=4:=aa;have Q:=ad (gX wr p 128 40 f E.1 w aa ai u.2.2.2.1);have R:=ad (λt (q:fK t p 128 f 44)=>gX t p 128 44 f q w aa ai u.2.2.2.1);obtain⟨x,a6⟩:=ah (dp (λk=>f (40+k)) 4);obtain⟨y,F⟩:=ah (dp (λk=>f (44+k)) 4);rw[a6]at Q;simp only[F]at R;have b2:=aA a6 F;clear a6 F;go_wp2_with(first|(go_at_call 263;refine Q.mono ?_;rintro e v ⟨rfl,o,d⟩;have G:=ad o;have K:=ad d;have a:=d.hp E.2.1 rfl;have s:=ad a;obtain⟨O,k1,k2⟩:=cr a;clear o d a Q));have I:((x:Int)==1)=(x==1):=by
    by_cases h:x=1
    .subst h;rfl
    .have b5:¬(x:Int)=1:=aa;rw[beq_eq_false_iff_ne.2 h,beq_eq_false_iff_ne.2 b5]
   have z:=heap_setCell_same v D 6 _ 390 (.bool ((x:Int)==1)) s;have r:Fr [364,390] aF W2 (v.setCell (ag D 6) (.bool ((x:Int)==1))):=(E.2.2.tr (K.wide [364,390] rfl)).set (p:=ag D 6) s rfl i _;have m:fK (v.setCell (ag D 6) (.bool ((x:Int)==1))) p 128 f 44:=by
    obtain⟨g,c,m,n,X,Z,L,h6⟩:=G.out;have A:p≠D:=λe=>by rw[e,s.out]at n;cases n
    have P:g≠D:=λe=>by rw[e,s.out]at L;cases L
    exact⟨g,c,m,(RZ _ _ _ _ A).trans n,X,Z,(RZ _ _ _ _ P).trans L,h6⟩
   obtain⟨w2,Y⟩:=ah (v.setCell (ag D 6) (.bool ((x:Int)==1)));rw[Y]at z r m|-;have J:=ad (R w2 m);have H2:=aM z r I;clear Y z r m I O k1;go_wp2_with(first|(go_at_call 263;refine J.mono ?_;rintro e w3 ⟨rfl,o,d⟩;have a7:=ad d;have a:=d.hp H2.1 rfl;have a0:=ad a;obtain⟨O,k1,k2⟩:=cr a;clear o d a J));go_end0;have n:=heap_setCell_same w3 D 7 _ 390 (.int .u32 (y:Nat)) a0;refine⟨rfl,?_,(u.2.2.1.tr (Fr.af a1.2)).tr ((H2.2.1.tr (a7.wide [364,390] rfl)).set (p:=ag D 7) a0 rfl i _)⟩;rw[n,H2.2.2];unfold Hd.of rJ;simp only[b2.out.1,b2.out.2];rfl
theorem EN(v:QN)(f:aO)(w:QL)(h:dT w v f)(u:∀k,k<128->f k<256):aD 312 #[v] w (Kh Oi Hd.ok Hd.enc f w):=by
 letI:Lo:=⟨w.heap.size⟩
 obtain⟨J,D,a0,z,g,n⟩:=dQ w (ao #[.int .u64 0,.int .u64 0,ae 0,ae 0,ae 0,ae 0,.bool false,.int .u32 0] 390);have o:Lo.lo<=D:=by show w.heap.size<=D;omega
 have A:(Hd.of f).cA<256^4:=gH λj a1=>u _ aa;have B:(Hd.of f).sm<256^4:=gH λj a1=>u _ aa;have a2:=ad (xJ [364,390] 340 341 #[aq D] (λ_ _=>rfl) (λ_ _=>rfl) v f 1 (Hd.of f).ok (Hd.of f).enc (λW=>∃C,C.size=8/\aZ W D (ao C 390)) (λW=>aZ W D (ao (rJ (Hd.of f)) 390)) J (h.below g) u (λk _=>jF (kW _ _ _ _ _ _) k) g.size ai rfl rfl
  (λW p q a3 a4=>by have E:aZ W D (ao #[.int .u64 0,.int .u64 0,ae 0,ae 0,ae 0,ae 0,.bool false,.int .u32 0] 390):=q.hp n rfl;exact EM f D p W a3 E (QO g.size a4) o u)
  (λW q=>⟨_,rfl,q.hp n rfl⟩) (λa b r l=>⟨_,rfl,(l.block _ (Z_ r)).trans r⟩)
  (λa b r l=>(l.block _ (Z_ r)).trans r)
  (λW q=>by
   obtain⟨U,V,X⟩:=cr q;by_cases d:(Hd.of f).ok
   .have F:=ad (tV (Hd.of f).ep (Hd.of f).sq (Hd.of f).ix (Hd.of f).cA (Hd.of f).me (Hd.of f).row (Hd.of f).sm (Hd.of f).nu W d.c d.cA.1 d.cA.2 d.ix d.me d.row d.sm);have G:=ad d;go_enter func341,ntmps341;go_wp2_with(first|(go_at_call 335;refine F.mono ?_;rintro e Z ⟨a5,c,rfl,a6,m⟩;have i:=aA a6 m));go_ret2;exact .inl ⟨G,a5,c,rfl,i⟩
   .have F:=ad (Mk (Hd.of f) W B A d);have G:=ad d;go_enter func341,ntmps341;go_wp2_with(first|(go_at_call 335;refine F.mono ?_;rintro e Z ⟨rfl,m⟩;have i:=ad m));go_ret2;exact .inr ⟨G,rfl,i⟩))
 have x:=aA g o;have H:=aA a0 z;have s:=ad (λ(y:Hd) (d:y.ok) (e:aC f y.enc)=>And.intro (Hd.cF d e) (gI.of ai (kW _ _ _ _ _ _) e:gI 1 f));go_enter func312,ntmps312;go_wp2_with fail
 try simp only[H.out.1,H.out.2]
 go_wp2_with fail;refine a2.mono ?_;rintro e Z ⟨K,rfl,m,⟨C,a7,N⟩,⟨rfl,L,t,M⟩|⟨O,P⟩⟩
 .have Q:=ad m;have i:=aA L t;have S:=ad (ze (T:= [364,390]) M x.2 rfl);obtain⟨U,V,X⟩:=cr M;go_wp2;refine RB (v:=.tuple #[Oi (Hd.of f),aG 0]) (by rw[UP rfl];simp[go_sem, *]) rfl ?_;exact⟨0,Hd.of f,rfl,((Fr.af x.1).tr (Q.tr (S.out _ _ _ _ _ _ _ _))).under (QP _),.inl ⟨rfl,i⟩⟩
 .have Q:=ad m;have i:=aA O P;have S:=ad (ze (T:= [364,390]) N x.2 rfl);have R:¬(K:Int)=0:=aa;obtain⟨U,V,X⟩:=cr N;go_wp2;refine RB (v:=.tuple #[Oi ⟨0,0,0,0,0,0,false,0⟩,aG K]) (by rw[UP rfl];simp[go_sem, *]) rfl ?_;exact⟨K,⟨0,0,0,0,0,0,false,0⟩,rfl,((Fr.af x.1).tr (Q.tr (S.out _ _ _ _ _ _ _ _))).under (QP _),.inr ⟨i.1,λy d I=>by obtain⟨Y,e2⟩:=s.out y d I;exact i.2 ⟨e2,by rw[Y];exact d,by rw[Y];exact I⟩⟩⟩
def xK(f:aO):Bool:=decide (f 0=0/\f 1=0/\f 2=0/\f 3=0)
theorem Kl(f:aO)(h:Lt 4 f):((kx 4 f).toList== [0,0,0,0])=xK f:=by have e:=yp 4 4 f (λ_=>0) h λ_ _=>(by show 0<256;decide);rw[hv 4 λ_=>0]at e;show((kx 4 f).toList==(UD 4).map λ_=>WK 0)=_;rw[e];unfold qG xK;congr 1;apply propext;exact⟨λ⟨_,h⟩=>⟨h 0 ai,h 1 ai,h 2 ai,h 3 ai⟩,λ⟨a,b,c,d⟩=>⟨rfl,λk g=>match k,g with|0,_=>a|1,_=>b|2,_=>c|3,_=>d⟩⟩
def tD(a:Bool)(f:aO)(k:Nat):Nat:=if a=true/\k<4 then iU k else f k
def Ml:List QN:= [.int .u8 83,.int .u8 80,.int .u8 74,.int .u8 76]
theorem pO(w:M)(B g b c:Nat)(j ty:TI)(xs:List QN)(h:w.ownsRow B 5 1 (a_ g 128 b) 128 xs):
  ∃f,(Builtin.copy_ #[41,j] ty #[a_ g 128 c,.string ⟨#[83,80,74,76]⟩]).run prog w=.ok (Y 4) f/\f.ownsRow B 5 1 (a_ g 128 b) 128 (YQ xs 0 Ml)/\Out (λk=>k=g) w f:=by
 rcases h.2 with⟨i,_⟩|⟨t,l,a,i,n,m,o,p,q,r⟩
 .cases i
 cases i;have d:=Go.Lib.run_copy_row_string (P:=prog) w 41 j ty 5 g 0 128 c ⟨#[83,80,74,76]⟩ a 5 UX r_ m ai (by show 0+4<=_;omega);have e:(a.toList.take 0++Lib.byteCells (⟨#[83,80,74,76]⟩:ByteArray).data.toList++a.toList.drop (0+(⟨#[83,80,74,76]⟩:ByteArray).size))=YQ a.toList 0 Ml:=by unfold YQ;rw[TK];rfl
 rw[e]at d;have s:0+Ml.length<=a.toList.length:=by show 0+4<=a.toList.length;simp;omega
 refine⟨_,d,?_,Out.setRow (S:=λk=>k=g) (Out.refl _ _) (g:=g) (λ_=>rfl) _⟩;refine⟨by rw[length_splice _ _ _ (by show 0+4<=_;have:=h.1;omega)];exact h.1,.inr ⟨g,b,_,rfl,n,setRow_heap w g a _ 5 _ m,o,p,?_,?_⟩⟩
 .rw [WJ,length_splice _ _ _ s];simpa using q
 .show (YQ a.toList 0 Ml).take _=_;rw[iL _ _ _ _ (by show 0+4<=_;omega) aQ,r]
theorem Km(f:aO):YQ (az 128 f) 0 Ml=az 128 (tD true f):=by
 apply TZ;intro k;rw[fi _ _ _ _ (by show 0+4<=_;simp[aH])];by_cases a:k<128
 .rw [a' _ _ _ a,a' _ _ _ a];unfold tD;by_cases b:k<4
  .rw [ak (by show 0<=k/\k<0+4;omega),ak ⟨rfl,b⟩]
   match k,b with
   |0,_=>rfl
   |1,_=>rfl
   |2,_=>rfl
   |3,_=>rfl
  .rw [al (by show¬(0<=k/\k<0+4);omega),al J]
 .rw [al (by show¬(0<=k/\k<0+4);omega),RO (by rw[aH];omega),RO (by rw[aH];omega)]
def Qh(a:Bool)(f:aO)(w:M)(e:SG)(b:M):Prop:=
 ar w b/\((((a=false/\hz f=true)\/(a=true/\xK f=false))/\aK e (.tuple #[aU,aG 80]))\/
  (((a=false/\hz f=false)\/(a=true/\xK f=true))/\∃g c,aK e (.tuple #[a_ g 128 c,aG 0])/\b.ownsRow w.heap.size 5 1 (a_ g 128 c) 128 (az 128 (tD a f))))
theorem EO(a:Bool)(v:QN)(f:aO)(w:M)(h:dT w v f)(B:∀k,k<128->f k<256):aD 314 #[v,.bool a] w (Qh a f w):=by
 have j:=I (hB v f w h);obtain⟨b,o,s,P,Q,rfl,C,S,T⟩:=h;have U:∀k,k<128->w.cell? ⟨b,o+k,none⟩=some (.int .u8 (f k)):=λk r=>(RD w b _ P 5 Q S).trans (T k r);have D:=I (wD f λk r=>B k J);have E:=I (Kl f λk r=>B k J);have t:=iY (w:=w) (v:=.slice (some (R b o)) 4 s) (n:=4) (f:=f) ⟨_,_,rfl,.inr ⟨b,o,rfl,λk r=>U k J⟩⟩ w aj;obtain⟨H,u⟩:=ah (kx 4 f);rw[u]at D E t;have F:=D.out;have G:=E.out;obtain⟨m,K⟩:=ah (hz f);obtain⟨z,L⟩:=ah (xK f);rw[K]at F;rw[L]at G;have l:=I K;have p:=I L;have V:RH (tD false f=f):=by show _=_;funext k;unfold tD;rw[al aJ]
 cases a
 .clear G;cases m
  .go_enter func314,ntmps314;go_wp2_with(first|(go_at_call 199;refine j.mono ?_;rintro e O ⟨v,rfl,i,x⟩;obtain⟨W,q,rfl,-,y⟩:=eX i;obtain⟨g,rfl⟩:=y.resolve_left J;have c:=I i;have X:=I x));go_ret2;exact⟨X,.inr ⟨.inl ⟨rfl,l⟩,g,q,rfl,by rw[V.out];exact c⟩⟩
  .go_enter func314,ntmps314;go_wp2;go_ret2;exact⟨aj,.inl ⟨.inl ⟨rfl,l⟩,rfl⟩⟩
 .clear F;cases z
  .go_enter func314,ntmps314;go_wp2;go_ret2;exact⟨aj,.inl ⟨.inr ⟨rfl,p⟩,rfl⟩⟩
  .go_enter func314,ntmps314;go_wp2_with(first|(go_at_call 199;refine j.mono ?_;rintro e O ⟨v,rfl,i,x⟩;obtain⟨W,q,rfl,-,y⟩:=eX i;obtain⟨g,rfl⟩:=y.resolve_left J;obtain⟨N,Z,A,d⟩:=pO O w.heap.size g q q 9 3 _ i;have c:=aS i x A d));go_ret2;exact⟨c.2.1.trans (c.2.2.2.below (λk _ e=>by have:=(c.1.lt g rfl).1;omega) c.2.1.size),.inr ⟨.inr ⟨rfl,p⟩,g,q,rfl,by rw[<-Km];exact c.2.2.1⟩⟩
end Go.Proofs.YtbimjlmclegaeaaGreat
