/- TopWhole: a member replaced and rebuilt is whole, and any other may fail then; part 6 of 6. Conditions: none. -/
import Derived.Test.YtbimjlmclegaeaaGreatP4
namespace Go.Proofs.YtbimjlmclegaeaaGreat
set_option linter.all false
set_option maxRecDepth 1000000
set_option maxHeartbeats 8000000
open Go.RowKit Go.Proofs.Tryz
open Go renaming World->QL,World->M,Value->QN,results->RV,Ending->SG,Addr->TF,TypeId->TI
open Go.IntKind renaming i64->QQ,u8->ZN
open List renaming length_append->RE,length_map->RL,getElem?_map->RU,mem_map->SA,getElem?_range->SP,length_cons->SQ,mem_singleton->TC,mem_append->TV,map_cons->UC,mem_range->UJ,mem_cons->UR,length_nil->WG
open Go.RowKit renaming Hid->RH,Below->SM
open Option renaming map_some->RJ,map_eq_some_iff->YL
open Nat renaming zero_add->RQ,add_assoc->UZ,zero_mul->WI
open Go.Value renaming int->SU
open Go.Calls renaming mono->YW
variable {w W z:World}{n m k i j r C:Nat}{c:Int}{v x y:Value}{T:List Nat}{p:Addr}{P:Option Addr}{A:Array Value}{d:Bool}{S Q X:Nat->Prop}{t:TypeId}{L:List Value}{O:Obj}{f:aO}{F:dj}{g:au}{K:bp}{l:List Pt}{D:Dk}{U:Dv}{b:By}{o:Ro}{s:Rs}{u:Su}
section
theorem Lit.KC{aw:Option Nat}{Q:Nat->Nat->Dk->Prop}{b:By}{l:List fL}(h:Lit aw (Q 0) b)(e:b.aY=none)(d:∀i a,l[i]?=some a->a.1<b.N/\aw≠some a.1/\eT (Q i) (Q (i+1)) a):
  (b.run l).2.2=0/\Lit aw (Q l.length) (b.run l).1/\(b.run l).1.aY=none/\(b.run l).1.N=b.N:=by
 refine(?_:(b.run l).2.2=0/\Lit aw (Q l.length) (b.run l).1).elim λx y=>⟨x,y,By.ec e l,By.fU b l⟩;rcases Lit.run l Q b h λi a c=>⟨(d i a c).1,(d i a c).2.2⟩with q|⟨f,j,-⟩|⟨-,q,-⟩
 .exact q
 .obtain ⟨a,k,m⟩:=By.hN f.ne;obtain⟨i,c⟩:=UH.1 k;exact absurd (by rw[m];exact j) (d i a c).2.1
 .exact absurd e q
theorem By.Fp(b:By)(J:Nat)(f:aO):(b.ck J f).1=(b.run [(J,aN 1 f),di J]).1/\(b.ck J f).2=(b.run [(J,aN 1 f),di J]).2.2:=by
 unfold By.ck;by_cases e:(b.op J (aN 1 f)).2=0
 .have h:b.run [(J,aN 1 f),di J] =(b.op J (aN 1 f)).1.run [di J]:=ak e;rw[ak e,h,By.yG];by_cases a:((b.op J (aN 1 f)).1.op (di J).1 (di J).2).2=0
  .rw [ak a];exact⟨rfl,a⟩
  .rw [al a];exact⟨rfl,rfl⟩
 .have h:b.run [(J,aN 1 f),di J] =((b.op J (aN 1 f)).1,J,(b.op J (aN 1 f)).2):=al e;rw[al e,h];exact⟨rfl,rfl⟩
structure MD(g:au)(aw:Option Nat)(hs:Nat->Bool)(L:List bY)(V:eW)(b:By):Prop where
 lit:Lit aw (fun k d=>k<g.M->∀r,r<g.R->bu (cb L) (k,r)=none->aC (d.view (1+r)) (V k r)) b
 aY:b.aY=none
 N:b.N=g.M+1
 hs:∀m,m<g.M->(hs m=false↔aw=some m)
 nw:∀m,aw=some m->m<g.M
 pl:∀p,p∈cb L->p.1<g.M/\p.2.1<g.R/\∀j,j<128->p.2.2 j<256
 val:∀m r f,bu (cb L) (m,r)=some f->aC f (V m r)
 par:BN g V
variable {g:au} {aw:Option Nat} {hs:Nat->Bool} {L:List bY} {V:eW} {b:By} {u:Su} {l:List Pt}
theorem vZ(m:Nat):(cR g u).fr m=if m<g.M then dL g u m else none:=by show(if m<g.M then dL g u.told m else(if m<g.M then dL g u m else none))=_;split<;>rfl
theorem MD.down(h:MD g aw hs L V b)(d:∀m,m<g.M->u.st m=if hs m=false then 2 else 1)(m r:Nat):(cR g u).down m r=true↔aw=some m:=by
 unfold Ro.down;rw[vZ];by_cases c:m<g.M
 .rw [ak c];unfold dL;rw[d m c];cases e:hs m with
  |false=>simp[(h.hs m c).1 e]
  |true=>
   have:aw≠some m:=λa=>by rw[(h.hs m c).2 a]at e;cases e
   simp[this]
 .rw [al c];have:aw≠some m:=λa=>c (h.nw m a);simp[this]
theorem MD.fZ(h:MD g aw hs L V b)(S:BF (cb L) l)(a5:∀m,m<g.M->u.st m=if hs m=false then 2 else 1)(x y:Wl):Kw g u b l x/\Gt g aw V ⟨(BG g u b l x).1,y,cR g u⟩:=by
 have T:aw≠some g.M:=λe=>UA _ (h.nw _ e);have U:∀k,k<g.M->u.st k≠2->aw≠some k:=λk q e a=>by rw[a5 k q,ak ((h.hs k q).2 a)]at e;exact e rfl
 have w:=h.down a5;obtain⟨a1,a2,a3,O⟩:=sS (g:=g) (u:=u.tell) h.lit h.aY h.N T U (λj d f n A r s v=>by rw[Dk.eD,al aa];exact n A r s v) (λj d n A r s v=>by rw[Dk.lW];exact n A r s v);have W:∀p,p∈fM (cR g u) l->p.1<g.M/\p.2.1<g.R/\(∀j,j<128->p.2.2 j<256)/\aw≠some p.1/\aC p.2.2 (V p.1 p.2.1):=λp X=>by obtain⟨D,C⟩:=jM.1 X;obtain⟨Z,H,N⟩:=h.pl p (S.mem D);exact⟨Z,H,N,λa=>(by rw[(w _ _).2 a]at C;cases C),h.val _ _ _ (S.val p D)⟩
 obtain⟨b1,b2,b3,M⟩:=Lit.KC (Q:=λi k d=>k<g.M->aw≠some k->∀r,r<g.R->(k,r)∉((fM (cR g u) l).drop i).map ga->aC (d.view (1+r)) (V k r)) (l:=(fM (cR g u) l).map ha) (b:=(b.run (eC g u.tell)).1)
  (a2.mono λk d _ n q o r s v=>n q r s (by
   cases e:bu (cb L) (k,r)with
   |none=>rfl
   |some f=>
    exfalso;obtain⟨p,D,C⟩:=SA.1 (S.all (k,r) (by rw[e];simp));refine v (SA.2 ⟨p,jM.2 ⟨D,?_⟩,C⟩);cases C;cases e2:(cR g u).down p.1 p.2.1 with
    |false=>rfl
    |true=>exact absurd ((w _ _).1 e2) o)) a3 λi a t=>by
  rw[RU]at t;cases e:(fM (cR g u) l)[i]? with
  |none=>rw[e]at t;cases t
  |some p=>
   rw[e]at t;cases t;obtain⟨D,C,Z,H,N⟩:=W p (RF e);have E:(fM (cR g u) l).drop i=p::(fM (cR g u) l).drop (i+1):=List.drop_eq_getElem?_toList_append.trans (by rw[e];rfl);refine⟨by rw[O];show p.1<g.M+1;omega,H,dO Z (λd n q o r s v=>?_) λj d A n q o r s v=>n q o r s λc=>?_⟩
   .have v:(p.1,r)∉((fM (cR g u) l).drop (i+1)).map ga:=v;show aC ((d.wr (1+p.2.1) p.2.2).view (1+r)) (V p.1 r);rw[Dk.eD];by_cases R:r=p.2.1
    .rw [ak (by rw[R]),R];exact N
    .rw [al aa];refine n q o r s λc=>?_;rw[E,UC,UR]at c;rcases c with c|c
     .exact R (congrArg Prod.snd c)
     .exact v c
   .rw [E,UC,UR]at c;rcases c with c|c
    .exact A (congrArg Prod.fst c)
    .exact v c
 have I:∀m,m∈oX g (cR g u)->m<g.M/\aw≠some m:=λm Y=>by obtain⟨m1,P⟩:=bz.1 Y;exact⟨m1,λa=>by rw[(w _ _).2 a]at P;cases P⟩
 have F:∀(k:Nat) (d:Dk),(k<g.M->aw≠some k->∀r,r<g.R->(k,r)∉((fM (cR g u) l).drop ((fM (cR g u) l).map ha).length).map ga->aC (d.view (1+r)) (V k r))->k<g.M->aw≠some k->∀r,r<g.R->aC (d.view (1+r)) (V k r):=λk d n q o r s=>
  n q o r s (by rw[RL,List.drop_length];simp)
 obtain⟨c1,c2,c3,c4⟩:=Lit.KC (Q:=λ_ k d=>k<g.M->aw≠some k->∀r,r<g.R->aC (d.view (1+r)) (V k r)) (l:=(oX g (cR g u)).map di) (b:=((b.run (eC g u.tell)).1.run ((fM (cR g u) l).map ha)).1) (b2.mono λk d _ n=>F k d n) b3 λi a t=>by obtain⟨m,Y,rfl⟩:=SA.1 (RF t);obtain⟨m1,P⟩:=I m Y;exact⟨by rw[M,O];show m<g.M+1;omega,P,e' (λd n q o r s=>by rw[Dk.lW];exact n q o r s) λ_ _ _ n=>n⟩
 obtain⟨f,a6⟩:=ah (aW (x.ep+1) x.nx ((x.t+x.u)%x.N));have B:∀j,j<128->f j<256:=λj A=>by rw[<-a6];exact hI _ _ _ j A
 have z:Fg g u b l=((b.run (eC g u.tell)).1.run ((fM (cR g u) l).map ha)).1.run ((oX g (cR g u)).map di):=rfl;have J:=Lit.KC (Q:=λ_ k d=>k<g.M->aw≠some k->∀r,r<g.R->aC (d.view (1+r)) (V k r)) (l:= [(g.M,aN 1 f),di g.M]) (b:=(Fg g u b l).1) (by rw[z];exact c2) (by rw[z];exact c3) λi a t=>by
  have G:(Fg g u b l).1.N=g.M+1:=by rw[z,c4,M,O]
  match i,t with
  |0,t=>cases t;exact⟨by rw[G];exact TX _,T,dO B (λd _ q=>absurd q (UA _)) λ_ _ _ n=>n⟩
  |1,t=>cases t;exact⟨by rw[G];exact TX _,T,e' (λd _ q=>absurd q (UA _)) λ_ _ _ n=>n⟩
  |i+2,t=>simp at t
 have K:(BG g u b l x).1=((Fg g u b l).1.run [(g.M,aN 1 f),di g.M]).1/\(BG g u b l x).2=((Fg g u b l).1.run [(g.M,aN 1 f),di g.M]).2.2:=by unfold BG;rw[a6];exact By.Fp _ _ _
 obtain⟨d1,d2,d3,d4⟩:=J;refine⟨⟨a1,b1,c1,by rw[K.2];exact d1⟩,⟨⟨?_,?_,λp X=>(by cases X),λm r e=>(w m r).1 e,h.nw,h.par⟩,?_,?_⟩⟩
 .show qs aw (el g (cR g u) (λ_ _=>True) (cR g u).eU V λ_=>True) (BG g u b l x).1;rw[K.1];refine d2.dev.mono λk d q n=>⟨λa0=>⟨λr s E _=>n a0 (λa=>by rw[(w k r).2 a]at E;cases E) r s,λr _ _ v=>absurd trivial v⟩,λ_=>trivial⟩
 .show (BG g u b l x).1.N=g.M+1;rw[K.1,d4,z,c4,M,O]
 .show (BG g u b l x).1.bq=false;rw[K.1];exact d2.bq
 .show (BG g u b l x).1.aY=none;rw[K.1];exact d3
end
structure Qt(hs:Nat->Bool)(kp:Nat->Nat->Bool)(b b':By):Prop where
 N:b'.N=b.N
 bq:b'.bq=false
 aY:b'.aY=none
 dv:∀k,k<b.N->b'.dv k=if hs k=true then (b.dv k).map (Dv.nd (kp k)) else none
def Py[Lo](B:Nat)(g:au)(u:Su)(a:Option Nat)(b:eW->Prop)(Z:bg)(W:M):Prop:=∃V s c,b V/\Z.B=B/\Z.N=u.N/\Z.lz=u.lz/\Inv W Z g a V 100000000000 s c
theorem HH{P:bY}(h:P.ok)(c:n<=P.N){p:Pt}(a:p∈bL P n):∀j,j<128->p.2.2 j<256:=by obtain⟨i,b,rfl⟩:=SA.1 a;exact h.da i (by have:=UJ.1 b;omega)
theorem KD{L:List bY}{p:Pt}(h:p∈cb L):∃P,P∈L/\p∈bL P P.N:=by obtain⟨l,a,b⟩:=YS.1 h;obtain⟨P,c,rfl⟩:=SA.1 a;exact⟨P,c,b⟩
theorem HI[Lo](b5:kP){N ep B:Nat}{b6:eW->Prop}{hs:Nat->Bool}{aw:Option Nat}{kp:Nat->Nat->Bool}{b b':By}(e7:Can g u N ep b6 b)(b7:b.N=g.M+1)(x:Qt hs kp b b')(F:u.ok g)(b8:u.N=N)(D:u.lost=false)(b9:∀m,m<g.M->u.st m=1)(c0:u.ev<4000000000000000000)(a3:u.cur=0)(c1:hs g.M=true)(O:∀m,m<g.M->(hs m=false↔aw=some m))(a4:∀m,aw=some m->m<g.M)(a5:∀m v,m<g.M->b.dv m=some v->1+g.R<=v.d.n)(a6:∀v,b.dv g.M=some v->2+N<=v.d.n)(c2:∀V,b6 V->BN g V)(h:aB w B b'):
  aD 72 #[aq B] w λe c3=>∃Z:bg,aK e (.tuple #[aq Z.A,aG 0])/\Z.B=B/\Fr mI aF w c3/\Py B g u aw b6 Z c3:=by
 subst b8;obtain⟨c,a7,c4⟩:=e7;have Q:∀k,k<g.M+1->∃v,b.dv k=some v/\v.fO=false/\v.d.failed=false/\v.d.eG/\CQ g u u.N c k v.d:=λk S=>by
  obtain⟨h1,h2⟩:=a7 k aa;cases e:b.dv k with
  |none=>have:=h1 e;cases this
  |some v=>have q:=h2 v e;obtain⟨w1,w2⟩:=q.mL aJ;exact⟨v,rfl,w1,w2,q.eG,q.holds w2⟩
 obtain⟨v0,e0,w1,w2,c5,q0⟩:=Q g.M (TX _);have d8:=q0.2 rfl;have a8:b'.dv g.M=some (Dv.nd (kp g.M) v0):=by rw[x.dv _ aa,ak c1,e0];rfl
 obtain⟨v,c6⟩:=ah (Dv.nd (kp g.M) v0);rw[c6]at a8;have I:v.d=v0.d.settled (kp g.M):=by rw[<-c6];rfl
 have a9:v.fO=false/\v.d.failed=false/\v.d.n=v0.d.n/\v.d.cn=0:=by rw[<-c6];exact⟨w1,w2,rfl,rfl⟩
 have c7:v.d.eG:=by rw[I];exact Dk.fH c5 _
 obtain⟨t,T,Y,V,n⟩:=c4.2 (v.d.view 1) (λk=>v.d.view (2+k)) (by rw[I];exact d8.ck.cut _) λq e8=>by show c.M q (v.d.view (2+(c.t+q)%u.N));rw[I];exact(d8.ring q e8).1.cut _
 have U:b'.N=g.M+1:=by rw[x.N,b7]
 have J:∀k b0,k<g.M+1->b'.dv k=some b0->∃y,b.dv k=some y/\b0=Dv.nd (kp k) y/\hs k=true:=λk b0 S e=>by
  rw[x.dv k aa]at e;by_cases d:hs k=true
  .rw [ak d]at e;obtain⟨y,o,G⟩:=YL.1 e;exact⟨y,o,G.symm,d⟩
  .rw [al d]at e;cases e
 have A:Rm g u.N 900000000000 b':=⟨U,λm s C e=>by
   obtain⟨y,o,G,-⟩:=J m s aa e;subst G;exact⟨a5 m y C o,by show 0+_<_;omega⟩,λs e=>by
   obtain⟨y,o,G,-⟩:=J g.M s aa e;subst G;exact⟨a6 y o,by show 0+_<_;omega⟩⟩
 have b1:=c2 V n.vs;have z:∀L,pQ (λk=>v.d.view (2+k)) u.N ep t T L->lR (λk=>v.d.view (2+k)) u.N ep t T L->MD g aw hs L V b':=λL K W=>by
  have c8:=n.l_.uniq n.Bq K W;have a0:=pX c8;have b2:=nG a0;refine⟨⟨x.bq,λk S=>⟨λe=>?_,λb0 e=>?_⟩⟩,x.aY,U,O,a4,λp a1=>?_,λm r f c9=>?_,b1⟩
  .rw [U]at S;obtain⟨y,o,-⟩:=Q k S;rw[x.dv k aa,o]at e;by_cases d:hs k=true
   .rw [ak d]at e;cases e
   .have j:k≠g.M:=λG=>d (by rw[G];exact c1);exact(O k aa).1 (by simpa using d)
  .rw [U]at S;obtain⟨y,o,rfl,-⟩:=J k b0 S e;obtain⟨v2,G,x1,x2,x3,x4⟩:=Q k S;rw[o]at G;cases G;refine⟨Dk.fH x3 _,λ_=>⟨x1,x2⟩,λ_ j r a2 e9=>?_⟩;have d0:bu (cb Y) (k,r)=none:=by
    have:=b2 (k,r);rw[e9]at this;cases X:bu (cb Y) (k,r)with
    |none=>rfl
    |some f=>rw[X]at this;exact this.elim
   obtain⟨y1,y2⟩:=n.wg k r j a2 d0;exact(((x4.1 j).row r a2 y1).cut (kp k)).trans y2
  .obtain ⟨i,d9⟩:=UH.1 a1;obtain⟨P,d1,d2⟩:=KD a1;obtain⟨f1,d3⟩:=UH.1 d1;have b3:i<(cb Y).length:=by rw[a0.1];exact(RC.1 d9).1
   have e4:=(a0.2 i _ p (RA b3) d9).1;have a2:=n.ga _ (YT b3);have d4:((cb Y)[i]).1=p.1:=by have:=congrArg Prod.fst e4;exact this
   have d5:((cb Y)[i]).2.1=p.2.1:=by have:=congrArg Prod.snd e4;exact this
   rw[d4,d5]at a2;exact⟨a2.1,a2.2,HH (K f1 P d3).ok (QP _) d2⟩
  .have:=b2 (m,r);rw[c9]at this;cases X:bu (cb Y) (m,r)with
   |none=>rw[X]at this;exact this.elim
   |some f0=>rw[X]at this;have this:aC f0 f:=this;exact this.symm.trans (n.val m r f0 X)
 have R:∀m,m<g.M->(u.zl hs).st m=if hs m=false then 2 else 1:=λm _=>rfl
 refine(x_ b5 B b' g u hs aw (λk=>v.d.view (2+k)) ep t T v w h F D b9 x.bq x.aY (λk S=>⟨λd=>?_,λd=>?_⟩) c1 (λm C e=>(O m C).1 e) ⟨aa,a8,⟨a9.1,a9.2.1⟩,x.bq,x.aY⟩ c7 n.cn n.tN n.ck (λ_ _=>rfl) ⟨A.dd,λm s C e=>⟨(A.mem m s C e).1,by have:=(A.mem m s C e).2;omega⟩,λs e=>⟨(A.gB s e).1,by have:=(A.gB s e).2;omega⟩⟩ c0 ⟨n.lim.1,by have:=n.lim.2;omega⟩ (λL l K W _ b4=>((z L K W).fZ b4 R _ (Wl.fresh 0 0)).1) (λL p K W a1=>⟨((z L K W).pl p a1).1,((z L K W).pl p a1).2.1⟩)).mono ?_
 .obtain ⟨y,o,x1,x2,x3,x4⟩:=Q k aa;refine⟨Dv.nd (kp k) y,⟨aa,by rw[x.dv k aa,ak d,o];rfl,⟨x1,x2⟩,x.bq,x.aY⟩,Dk.fH x3 _,?_,λj=>a5 k y j o,λj=>?_⟩
  .by_cases j:k<g.M
   .exact ((x4.1 j).sup).cut _
   .have:k=g.M:=aa;subst this;exact((x4.2 rfl).sup).cut _
  .subst j;exact a6 y o
 .rw [x.dv k aa,al (by rw[d];decide)]
 .rintro e c3 ⟨Z,L,l,rfl,z1,z2,z3,K,W,f2,b4,d6,c9⟩;have d1:=z L K W;obtain⟨-,d7⟩:=d1.fZ b4 R (HA ep t T u.N L) ((HA ep t T u.N L).cy (ep+1));have e5:Y.length=L.length:=(n.l_.uniq n.Bq K W).1;have e6:=n.lim;have f3:l.length<=2048:=by have:=b4.len;have:=jA L;have:=F.ring.2;have f4:bl L<=u.N:=f2;omega
  have E:Rm g u.N 200000000000 (BG g (u.zl hs) b' l (HA ep t T u.N L)).1:=by
   have r1:Rm g u.N 800000000000 (Mx g (u.zl hs) b').1:=A.run (λa H=>by
    obtain⟨k,-,rfl|rfl⟩:=gK H
    .exact sQ _ _ _
    .exact yS _) (by
    have:=lI F.bZ (u.zl hs).tell g.M (QP _);unfold eC;simp only[RE,RL,SQ,WG];omega)
   have r2:Rm g u.N 700000000000 (KV g (u.zl hs) b' l).1:=r1.run (λa H=>gv a H) (by rw[RL];have:(fM (cR g (u.zl hs)) l).length<=l.length:=VS _ _;omega);have r3:Rm g u.N 600000000000 (Fg g (u.zl hs) b' l).1:=r2.run (λa H=>w_ a H) (by rw[RL];have:=sH F.bZ (cR g (u.zl hs));omega);have r4:=r3.run (l:= [(g.M,aN 1 (aW (ep+1) (T+L.length) ((t+bl L)%u.N))),di g.M]) (k:=200000000000) (λa H=>by
    rcases UR.1 H with rfl|H
    .exact λv=>ey _ _ v
    .rw [TC.1 H];exact yS _) (by show 200000000000+2<=_;omega)
   rw[<-(By.Fp _ _ _).1]at r4;exact r4
  refine⟨Z,rfl,z1,c9,V,_,_,n.vs,z1,z2,z3,d6,d7,?_,λm=>?_,λm C M=>?_,?_,?_,?_,⟨rfl,rfl,D⟩,z2.symm,z3.symm⟩
  .refine Su.oa ?_ (by show u.ev<_;omega);exact⟨F.bZ,F.id,F.ev,QX _,F.ring,λm _=>by by_cases e:hs m=false;exact Or.inr (Or.inl (ak e));exact Or.inl (al e),λm k C S h3=>by have h3:(if hs m=false then 2 else 1)=3:=h3;split at h3<;>omega,by show u.cur<g.s;exact F.cur.1,λf5=>absurd a3 f5⟩
  .show (cR g (u.zl hs)).fr m=_;rw[vZ];rfl
  .have M:(if hs m=false then 2 else 1)≠1:=M;refine(O m C).1 ?_;by_cases o:hs m=false
   .exact o
   .rw [al o]at M;exact absurd rfl M
  .rintro ⟨m,C,X⟩;have X:(if hs m=false then 2 else 1)=3:=X;split at X<;>omega
  .refine ⟨F.bZ,E.dd,λm s C e=>⟨(E.mem m s C e).1,by have:=(E.mem m s C e).2;omega⟩,λs e=>⟨(E.gB s e).1,by have:=(E.gB s e).2;omega⟩,rfl,⟨?_,?_,?_⟩,QX _,λp a1=>(by cases a1),List.nodup_nil⟩
   .show ep+1+100000000000<=_;omega
   .show 1<=T+L.length;have:=n.cn.2.1;omega
   .show T+L.length+100000000000<=_;omega
  .show u.ev+1+100000000000<=_;omega
structure ME[Lo](w:M)(B:Nat)(b:By)(R:bg->M->Prop):Prop where
 call:∀W,aB W B b->Fr TB aF w W->aD 72 #[H B] W fun e w'=>∃Z:bg,aK e (.tuple #[H Z.A,aG 0])/\Z.B=B/\Fr mI aF W w'/\R Z w'
 cg:∀Z W,R Z W->∃b,aB W Z.B b
 stay:∀Z W W',R Z W->Fr [46,73] aF W W'->R Z W'
theorem HJ[Lo](G:Nat)(Z:bg)(g:au)(X:Nat)(N M:Int)(pv m:QN)(L:Nat)(n:aO)(O:Nat->Nat->Bool)(b:By)(w:QL)(R:bg->QL->Prop)(I:cw w G Z g)(a9:aB w Z.B b)(b0:qK w m L n O)(b4:L<=1000000)(Y:Lo.lo<=G/\Lo.lo<=w.heap.size)(H:ME w Z.B (b.cut (cJ L n O)) R):
  aD 38 #[aq G,fh X N 0 M pv m] w λe f=>aK e (cQ 0 aU 0)/\∃h,cw f G h g/\Fr TM aF w f/\R h f:=by
 obtain⟨J,bA,x,b1,y,z,P,Q,c⟩:=pG w X N 0 M pv m;have d:=(c.block _ (Z_ I)).trans I;obtain⟨a1,a2,a3⟩:=cr P;obtain⟨s1,s2,s3⟩:=cr d;have b5:RH (∀W,ar J W->aD 71 #[aq Z.B,m] W λe f=>aK e (.tuple #[])/\aB f Z.B (b.cut (cJ L n O))/\Fr TB aF J f):=λW a0=>(FT Z.B b m L n O W ((a9.below c).below a0) ((b0.fr (T:= []) (Fr.af c)).fr (T:= []) (Fr.af a0)) b4).mono λe f ⟨h1,h2,h3⟩=>⟨h1,h2,(Fr.af a0).tr h3⟩;have b2:=ad H;have b6:=ad ik;have A:RH (∀T:List Nat,(T.contains 73||T.contains 50||T.contains 46)=false->∀i,Fr T aF J i->aZ i G (ao #[aq Z.B,aq Z.A,ae g.R,ae g.M,ae g.c,ae g.s] 73)/\aZ i bA (ao #[bs X,ae N,ae 0,ae M,pv,m] 50)/\aZ i x z46):=λT S i o=>by simp only[Bool.or_eq_false_iff]at S;exact⟨o.hp d S.1.1,o.hp P S.1.2,o.hp Q S.2⟩
 have B:=bX P Q d c Y;have j:=aM b1 y z;have C:¬G=x:=fI d Q ai;have a4:¬x=G:=λe=>C e.symm;clear I H b1 y z P Q c d a9 b0;go_enter func38,ntmps38;go_wp2_with fail;rw[j.1,j.2.2,j.2.1];go_region_held3(λf=>f.cell? (ag G 0)=some (aq Z.B)/\f.cell? (ag bA 5)=some m) ((simp[*,go_sem];done)) (first
  |(go_at_call 71;refine(b5 _ (by first|exact aj|exact ct aj _)).mono ?_;rintro e i ⟨rfl,D,o⟩
    have k:=A.out TB rfl i o;obtain⟨v1,v2,v3⟩:=cr k.1;obtain⟨v4,v5,v6⟩:=cr k.2.1;have U:=aM D o k;clear D o k))
 go_wp2_with(first
  |(go_at_call 72;refine(b2.call _ (U.1.below (by first|exact aj|exact ct aj _)) (((Fr.af B.2.2.2.1).tr U.2.1).then (by first|exact aj|exact ct aj _))).mono ?_;rintro e u ⟨h,rfl,b3,q,E⟩
    have r:=A.out mI rfl u ((U.2.1.wide mI rfl).tr (((Fr.af (by first|exact aj|exact ct aj _):Fr mI aF i _)).tr q));obtain⟨u1,u2,u3⟩:=cr r.1;have l:=aS b3 E r ((U.2.1.wide mI rfl).tr (((Fr.af (by first|exact aj|exact ct aj _):Fr mI aF i _)).tr q));clear b3 q E r)
  |(go_at_call 21;refine(b6 0 _).mono ?_;rintro e w4 ⟨rfl,a⟩
    have F:=(a.block _ (Z_ (heap_setCell_same _ _ _ _ _ _ l.2.2.1.1))).trans (heap_setCell_same _ _ _ _ _ _ l.2.2.1.1);have s:=(RW u (ag G 1) x (aq h.A) (by first|exact a4|exact C)).trans l.2.2.1.2.2;have t:=(a.block _ (Z_ s)).trans s;obtain⟨r7,r8,r9⟩:=cr t;have V:=aM a F t;clear a F s t)
  |fail)
 have a5:w.heap.size<=x:=by have:=j.2.2;omega
 obtain⟨y1,y2,y3⟩:=qy (w:=w) V.2.2 rfl a5 B.2.2.2.2.2 (aG 0) aU (ae 0);have c0:=(cr y1).1 0;have c1:=(cr y1).1 1;have c2:=(cr y1).1 2;have a6:Fr TM aF w u:=((Fr.af B.2.2.2.1).tr l.2.2.2).wide TM rfl;have a7:Fr TM aF w (u.setCell (ag G 1) (aq h.A)):=a6.set (p:=ag G 1) l.2.2.1.1 rfl B.2.2.2.2.1 _;have a8:Fr [46,73] aF u (u.setCell (ag G 1) (aq h.A)):=(Fr.refl _ _ _).set (p:=ag G 1) l.2.2.1.1 rfl B.2.2.2.2.1 _;have K:cw w4 G h g:=by have:=V.2.1;rw[<-l.1]at this;exact this
 refine RB (v:=cQ 0 aU 0) (by simp[RV,results38,go_sem,c0,c1,c2]) rfl ⟨rfl,h,y2.hp K rfl,y3 (a7.then V.1),b2.stay h _ _ l.2.1 ((a8.then V.1).tr (y2.wide [46,73] rfl))⟩
section
theorem Lit.MF{Q:Nat->Nat->Dk->Prop}{b:By}{l:List fL}(h:Lit none (Q 0) b)(c:b.aY=none)(d:∀i a,l[i]?=some a->a.1<b.N/\eT (Q i) (Q (i+1)) a):Lit none (Q l.length) (b.run l).1/\(b.run l).1.aY=none/\(b.run l).1.N=b.N:=by
 rcases h.HF d with⟨-,q⟩|⟨-,q,-⟩
 .exact ⟨q,By.ec c l,By.fU b l⟩
 .exact absurd c q
abbrev KY(f:aO):Prop:=aC f λ_=>0
def tw(_:Nat)(d:Dk):Prop:=∀a,d.nE a KY
theorem Fq{k a:Nat}:eT tw tw (k,aN a λ_=>0):=dO (λ_ _=>ai) (λd h x=>(h x).wr λ_=>aC.refl _) λ_ _ _ h=>h
theorem Lit.MG{b:By}(h:Lit none tw b)(e:b.aY=none){J:Nat}(f:J<b.N){pl:aO}:∀n,Lit none tw (b.dq J pl (λ_ _=>0) n).1/\(b.dq J pl (λ_ _=>0) n).1.aY=none/\(b.dq J pl (λ_ _=>0) n).1.N=b.N
 |0=>⟨h,e,rfl⟩
 |n+1=>by
  obtain⟨i,c,d⟩:=Lit.MG h e f n;unfold By.dq;split
  .rcases i.HE (a:=(J,aN (pl n) λ_=>0)) (by rw[d];exact f) Fq with⟨-,q⟩|⟨-,q,-⟩
   .exact ⟨q,By.cX c,by rw[By.fp,d]⟩
   .exact absurd c q
  .exact ⟨i,c,d⟩
def v_(g:au)(k:Nat):Nat:=if k=g.M then 0 else k+1
structure KE(g:au)(u:Su)(i k:Nat)(d:Dk):Prop where
 mem:k<g.M->∀r,d.nE (1+r) KY
 gB:k=g.M->d.nE 1 (fun f=>aC f (aW 1 1 0))/\∀q,d.nE (2+q) KY
 told:k<=g.M->v_ g k<i->aC (d.view 0) (fQ g (u.sl k))
 fl:k<=g.M->v_ g k+(g.M+1)<i->d.nE 0 fun f=>aC f (fQ g (u.sl k))
theorem qc{g:au}{j k:Nat}(a:j<g.M+1)(h:k≠en g j):v_ g k≠j:=by unfold en at h;unfold v_;split at h<;>split<;>omega
theorem wa{g:au}{j:Nat}(a:j<g.M+1):v_ g (en g j)=j:=by
 unfold en v_;split
 .rw [ak rfl];omega
 .rw [al J];omega
variable {g:au} {N:Nat} {lz:Bool} {b:By}
theorem Fs(K:g.ok)(h:qx g N b)(I:N<=2048)(u:Su):Lit none (CQ g u N (pY (Wl.fresh N 1) 1 [] bY.no 0 rE)) (sX g N u b):=by
 have O:Lit none tw b:=⟨h.bq,λk s=>by rw[h.dv k (by rw[<-h.bN];exact s)];refine⟨λe=>(by cases e),λv P=>?_⟩;cases P;exact⟨Dk.rz _,λ_=>⟨rfl,rfl⟩,λ_ a=>.clean rfl (by rw[Dk.jr rfl];exact aC.refl _)⟩⟩;obtain⟨S,T,D⟩:=O.MF (Q:=λ_=>tw) (l:=eV g g.M) h.aY λi a t=>by obtain⟨Y,r,-,U⟩:=lK (RF t);refine⟨by rw[h.bN];omega,?_⟩;rw[U];exact Fq
 rw[h.bN]at D;obtain⟨L,C,E⟩:=Lit.MG (J:=g.M) (pl:=λp=>2+p) S T (by rw[D];omega) N;rw[D]at E;obtain⟨w,z⟩:=ah (((b.run (eV g g.M)).1.dq g.M (λp=>2+p) (λ_ _=>0) N).1);rw[z]at L C E;have V:jV g N b=(w.ck g.M (aW 1 1 0)).1:=by rw[<-z];rfl
 have A:Lit none (KE g u 0) (w.ck g.M (aW 1 1 0)).1/\(w.ck g.M (aW 1 1 0)).1.aY=none/\(w.ck g.M (aW 1 1 0)).1.N=g.M+1:=by
  have W:eT tw (λk d=>(k<g.M->tw k d)/\(k=g.M->aC (d.view 1) (aW 1 1 0)/\∀q,d.nE (2+q) KY)) (g.M,aN 1 (aW 1 1 0)):=
   dO (λj m=>hI 1 1 0 j m) (λd c=>⟨λe=>absurd e (UA _),λ_=>⟨by rw[Dk.eD,ak rfl];exact aC.refl _,λq=>(c _).wr λe=>aa⟩⟩) λj d m c=>⟨λ_=>c,λe=>absurd e m⟩
  have X:eT (λk d=>(k<g.M->tw k d)/\(k=g.M->aC (d.view 1) (aW 1 1 0)/\∀q,d.nE (2+q) KY)) (KE g u 0) (di g.M):=
   e' (λd c=>⟨λe=>absurd e (UA _),λ_=>⟨.fl (c.2 rfl).1,λq=>.fl ((c.2 rfl).2 q).view⟩,λ_ e=>absurd e (SD _),λ_ e=>absurd e (SD _)⟩) λj d m c=>⟨λe r=>c.1 e _,λe=>absurd e m,λ_ e=>absurd e (SD _),λ_ e=>absurd e (SD _)⟩
  rcases L.HE (a:=(g.M,aN 1 (aW 1 1 0))) aa W with⟨Z,H⟩|⟨-,q,-⟩
  .have F:(w.op g.M (aN 1 (aW 1 1 0))).2=0:=Z;unfold By.ck;rw[ak F];rcases H.HE (a:=di g.M) (by show g.M<_;rw[By.fp];omega) X with⟨-,r2⟩|⟨-,r,-⟩
   .exact ⟨r2,By.cX (By.cX C),by rw[By.fp,By.fp,E]⟩
   .exact absurd (By.cX C) r
  .exact absurd C q
 rw[<-V]at A;obtain⟨M,R,c3⟩:=A;have n:=M.MF (Q:=λi=>KE g u i) (l:=xC g u) R λi a t=>by
  have a0:i<2*(g.M+1):=by rw[<-od g u];exact(RC.1 t).1
  by_cases e:i<g.M+1
  .have:=sZ (u:=u) (i:=0) e aa;rw[WI,RQ,t,ak rfl]at this;cases this;refine⟨by rw[c3];exact oc K e,dO (λj _=>nZ _ _ j) (λd c=>⟨λx r=>(c.mem x r).wr λy=>aa,λx=>⟨(c.gB x).1.wr λy=>aa,λq=>((c.gB x).2 q).wr λy=>aa⟩,λ_ _=>?_,λ_ x=>?_⟩) λj d m c=>⟨c.mem,c.gB,λy x=>c.told y ?_,λy x=>c.fl y ?_⟩⟩
   .rw [Dk.eD,ak rfl];exact aC.refl _
   .omega
   .have:=qc e (show j≠en g i from m);omega
   .omega
  .obtain ⟨j,rfl⟩:∃j,i=g.M+1+j:=⟨i-(g.M+1),aa⟩;have m:j<g.M+1:=aa;have:=sZ (u:=u) (i:=1) m aa;rw[Nat.one_mul,t,al ai]at this;cases this;refine⟨by rw[c3];exact oc K m,e' (λd c=>⟨λx r=>.fl (c.mem x r).view,λx=>⟨.fl (c.gB x).1.view,λq=>.fl ((c.gB x).2 q).view⟩,λy _=>?_,λy x=>.fl (c.told y ?_)⟩) λk d s c=>⟨c.mem,c.gB,λy x=>c.told y ?_,λy x=>c.fl y ?_⟩⟩
   .rw [Dk.lW];refine c.told y ?_;rw[wa m];omega
   .rw [wa m];omega
   .have:=qc m (show k≠en g j from s);unfold v_ at x|-;split at x<;>split<;>omega
   .have:=qc m (show k≠en g j from s);omega
 have o:∀f,KY f->km 1 f:=λf G=>km.plain (by unfold hz;simp[G 0 aa]);refine n.1.mono λk d s c=>?_;rw[od]at c;have s:k<g.M+1:=by
  have:(sX g N u b).N=g.M+1:=by rw[<-c3];exact n.2.2
  omega
 have B:=c.fl aa (by unfold v_;split<;>omega);refine⟨λe=>⟨B,λr _ _=>c.mem e r⟩,λe=>⟨by subst e;exact B,(c.gB e).1,(c.gB e).1.view,λq a4=>⟨((c.gB e).2 _).mono λf G=>?_,?_⟩⟩⟩
 .show Mp (Wl.fresh N 1) 1 [] bY.no q f;unfold Mp;rw[al (show¬q<(Wl.fresh N 1).u from SD q)];exact .inl (o f G)
 .show Wp (Wl.fresh N 1) 1 [] bY.no 0 q _;unfold Wp;rw[al (show¬q<(Wl.fresh N 1).u from SD q),al (show¬q<(Wl.fresh N 1).u+0 from SD q)];exact o _ ((c.gB e).2 _).view
theorem HK(c:g.ok)(h:qx g N b)(d:5<=N/\N<=2048)(lz:Bool):Cx g (Su.born N lz) N 1 (qf g N lz (sX g N (Su.born N lz) b)) [] rE rE:=by
 obtain⟨i,j,-⟩:=pF c h d.2 lz;refine⟨⟨rfl,by show 0<N;omega,rfl,QX _,rfl,by show cI 1 1;unfold cI;omega,by show 1<_/\1<_;omega,QP _,λP k=>(by cases k),λp a=>by simp[cb]at a,λm r f l=>(by cases l),λ_=>rfl,λe=>by cases e⟩,Fs c h d.2 _,?_,λp a=>by cases a⟩;have e:(qf g N lz (sX g N (Su.born N lz) b)).er=qf g N lz (sX g N (Su.born N lz) b):=by
  have:(sX g N (Su.born N lz) b).er=sX g N (Su.born N lz) b:=by unfold By.er;rw[<-j.aY]
  unfold Rs.er;rw[show(qf g N lz (sX g N (Su.born N lz) b)).b=sX g N (Su.born N lz) b from rfl,this];rfl
 rw[e];exact i
end
section
variable {g:au} {u:Su} {N sq ep:Nat} {s s':Rs} {L:List bY} {Vp V V':eW} {Vs:eW->Prop} {k er:Nat} {P:bY} {l:List Pt}
def Fx(x:Wl)(sq:Nat)(L:List bY)(P:bY)(V:eW):Cp:={pY x sq L P (2*P.N) V with M:=Wp x sq L P (2*P.N)}
theorem IG(x:Wl)(j:Nat):x.pl j=2+(x.t+(x.u+j))%x.N:=by unfold Wl.pl;rw[Nat.mod_add_mod,UZ]
theorem zp{b:By}{x:Wl}(p:Lit none (CQ g u N (pY x sq L P 0 Vp)) b)(d:g.M<b.N)(h:x.N=N)(r:nT P)(t:x.u+2*P.N+1<=N):∀n,n<=2*P.N->
  ((b.dq g.M x.pl (bo x.ep x.nx P) n).2=0/\(b.aY=none->(b.dq g.M x.pl (bo x.ep x.nx P) n).1.aY=none)/\Lit none (CQ g u N (pY x sq L P n Vp)) (b.dq g.M x.pl (bo x.ep x.nx P) n).1)\/
  ((b.dq g.M x.pl (bo x.ep x.nx P) n).2=50/\b.aY≠none/\∃j,qt none (CQ g u N (pY x sq L P j Vp)) (b.dq g.M x.pl (bo x.ep x.nx P) n).1)
 |0,_=>.inl ⟨rfl,λe=>e,p⟩
 |n+1,y=>by
  unfold By.dq;rcases zp p d h r t n J with⟨i,m,o⟩|⟨i,m,o⟩
  .rw [ak i];have v:eT (CQ g u N (pY x sq L P n Vp)) (CQ g u N (pY x sq L P (n+1) Vp)) (g.M,aN (x.pl n) (bo x.ep x.nx P n)):=by
    rw[IG,h];refine zn (c:=pY x sq L P n Vp) (q0:=x.u+n) (n_ r.ok J) J rfl rfl rfl (λ_ _ _ a=>a) ?_ (λq f _ w a=>?_) ?_ (.refl rfl rfl)
    .show Mp x sq L P _ _;unfold Mp;rw[al J,show x.u+n-x.u=n by omega];exact .inr ⟨J,aC.refl _⟩
    .have a:Wp x sq L P n q f:=a;show Wp x sq L P (n+1) q f;unfold Wp at a|-;split
     .rename_i e;rwa[ak e]at a
     .rename_i e;rw[al e]at a;split
      .rwa [ak J]at a
      .rwa [al J]at a
    .show Wp x sq L P (n+1) _ _;unfold Wp;rw[al J,ak J,show x.u+n-x.u=n by omega];exact aC.refl _
   rcases o.HE (a:=(g.M,aN (x.pl n) (bo x.ep x.nx P n))) (by rw[By.kb];exact d) v with⟨r1,r2⟩|⟨r1,r2,r3⟩
   .exact .inl ⟨r1,λe=>By.cX (m e),r2⟩
   .exact .inr ⟨r1,λe=>r2 (m e),n,r3⟩
  .rw [al (by rw[i];decide)];exact .inr ⟨i,m,o⟩
theorem Cx.log(h:Cx g u N sq s L Vp V)(A:nT (aR l))(G:s.x.u+2*l.length+1<=N)(K:Vs V)(B:s.x.sure=false->Vs Vp)(O:xk g l s s' k er):
  qh g u N s.x.ep Vs s.b s'.b er (Lit none (CQ g u N (Fx s'.x sq L (aR l) V)) s'.b/\Jl g N sq s'.x L V V/\s'.x.sure=true/\s'.ro=s.ro/\Gt g none V s'.er/\s'.x=s.x.cK (2*l.length+1) (bo s.x.ep s.x.nx (aR l) (2*l.length)) 0):=by
 have Q:s.b.N=g.M+1:=h.gt.gd.N;have o:Lit none (CQ g u N (pY s.x sq L (aR l) 0 Vp)) s.b:=h.lit.zo λj d S=>S.mono rfl (λ_ a=>a) (λ_ a=>a) (λq f _ a=>by
   have a:Mp s.x sq L bY.no q f:=a;show Mp s.x sq L (aR l) q f;unfold Mp at a|-;split
   .rename_i e;rwa[ak e]at a
   .rename_i e;rw[al e]at a;exact .inl (a.resolve_right λb=>by have:=b.1;simp only[bY.no]at this;omega)) (λq f _ a=>by
   have a:Wp s.x sq L bY.no 0 q f:=a;show Wp s.x sq L (aR l) 0 q f;unfold Wp at a|-;split
   .rename_i e;rwa[ak e]at a
   .rename_i e;rw[al e,al J]at a;rw[al J];exact a) (.refl rfl rfl)
 have p:∀j,Yl g N s.x.ep Vs (pY s.x sq L (aR l) j Vp):=λj=>h.jl.yl (.inr A) (λ_=>G) j K B;obtain⟨n,C,w⟩:=O;have T:=zp o J h.jl.n A G (2*l.length) (QP _);have i:s.hf g l=if(s.b.dq g.M s.x.pl (bo s.x.ep s.x.nx (aR l)) (2*l.length)).2=0 then(s.b.dq g.M s.x.pl (bo s.x.ep s.x.nx (aR l)) (2*l.length)).1.op g.M ba else s.b.dq g.M s.x.pl (bo s.x.ep s.x.nx (aR l)) (2*l.length):=rfl
 have U:=h.gt;rcases T with⟨x,y,D⟩|⟨x,y,j,D⟩
 .rw [ak x]at i;obtain⟨z,c⟩:=ah (s.x.cK (2*l.length+1) (bo s.x.ep s.x.nx (aR l) (2*l.length)) 0);have r:z.sure=true:=by rw[<-c];rfl
  have t:∀q f,Wp s.x sq L (aR l) (2*l.length) q f->Wp z sq L (aR l) (2*(aR l).N) q f:=λq f a=>by rw[<-c];exact a
  have W:eT (CQ g u N (pY s.x sq L (aR l) (2*l.length) Vp)) (CQ g u N (Fx z sq L (aR l) V)) (di g.M):=
   Fk (by rw[<-c];rfl) (λf v=>by rw[<-c];exact⟨v,v⟩) (λq f Z v=>⟨t q f v,t q f v⟩) (h.jl.Px rfl rfl (vY r) rfl)
  rcases D.HE (a:=di g.M) (by show g.M<_;rw[By.kb];omega) W with⟨r1,r2⟩|⟨r1,r2,r3⟩
  .have E:(s.hf g l).2=0:=by rw[i];exact r1
   have F:xk g l s.er s'.er k 0:=by have:s.er.hf g l=((s.hf g l).1.er,0):=By.KA E;refine⟨?_,C,by rw[this]⟩;show s'.er=_;rw[this,n,E];rfl
   rw[E]at w n;subst w;have m:s'.x=z:=by rw[n,<-c]
   refine .inl ⟨rfl,λe=>?_,?_,?_,by rw[m];exact r,by rw[n],(U.log A.ok F).1,by rw[m,c]⟩
   .rw [n,i];exact By.cX (y e)
   .rw [m,n,i];exact r2
   .rw [m,<-c];exact h.jl.Fm _
  .have X:(s.hf g l).2=50:=by rw[i];exact r1
   refine .inr (qt.ends ?_ (p (2*l.length)) (λe=>r2 (y e)) (by rw[w,X]));rw[n,i];exact r3
 .rw [al (by rw[x];decide)]at i;refine .inr (qt.ends ?_ (p j) y (by rw[w,i,x]));rw[n,i];exact D
theorem Bu(l:List Pt):bL (aR l) (aR l).N=l:=by
 apply TZ;intro i;unfold bL;rw[RU];by_cases h:i<l.length
 .rw [SP (show i<(aR l).N from h),RJ];show some ((((l[i]?).map (·.1)).getD 0),(((l[i]?).map (·.2.1)).getD 0),(((l[i]?).map (·.2.2)).getD λ_=>0))=_;rw[RA h];rfl
 .rw [RO (show l.length<=i by omega),RO (by rw[List.length_range];exact Nat.le_of_not_lt h)];rfl
theorem yb{x:Wl}(h:Jl g N sq x L Vp V)(P:bY):(∀q,q<x.u->gY x.ep sq (L++ [P]) q=gY x.ep sq L q)/\∀j,j<=2*P.N->gY x.ep sq (L++ [P]) (x.u+j)=bo x.ep x.nx P j:=by
 have d:=h.u;refine⟨λq m=>?_,λj e=>?_⟩
 .obtain ⟨i,Q,j,a,b,rfl⟩:=gZ (L:=L) (q:=q) J;have f:=(RC.1 a).1;have c:(L++ [P])[i]?=some Q:=by rw[RN f];exact a
  have:=fa (ep:=x.ep) (sq:=sq) b c;rw[XM J]at this;rw[this,fa b a]
 .have c:(L++ [P])[L.length]?=some P:=aJ;have:=fa (ep:=x.ep) (sq:=sq) e c;rwa[List.take_left' rfl,<-d,<-h.nx]at this
theorem HL(i:Jl g N sq s.x L V V)(M:s.x.sure=true)(R:Lit none (CQ g u N (Fx s.x sq L (aR l) V)) s.b)(K:g.M<s.b.N)(O:nT (aR l))(S:s.x.u+2*l.length+1<=N)(I:s.x.nx+1<4000000000000000000)(w:∀p,p∈l->p.1<g.M/\p.2.1<g.R/\aC p.2.2 (V' p.1 p.2.1))(v:∀m r,m<g.M->r<g.R->bu l (m,r)=none->aC (V m r) (V' m r))(H:Vs V)(x:po g l s s' k er)(Y:er=0->Gt g none V' s'.er):
  qh g u N s.x.ep Vs s.b s'.b er (Cx g u N sq s' (L++ [aR l]) V V'/\s'.x=s.x.eJ (2*l.length+1) 0/\s'.ro={s.ro with sl:=true,wt:=l}):=by
 obtain⟨o,-,T⟩:=x;have y:=Bu l;have n:∀q,bu (cb (L++ [aR l])) q=match bu l q with|some f=>some f|none=>bu (cb L) q:=λq=>by rw[gp,jR,y];cases bu l q<;>rfl
 obtain⟨h,d⟩:=ah (s.x.eJ (2*l.length+1) 0);obtain⟨J,F⟩:=yb i (aR l);have C:(aR l).N=l.length:=rfl;rw[C]at F;have D:h.u=s.x.u+(2*l.length+1):=by rw[<-d];rfl
 have fg:h.nx=s.x.nx+1:=by rw[<-d];rfl
 have j:h.ep=s.x.ep:=by rw[<-d];rfl
 have t:h.t=s.x.t:=by rw[<-d];rfl
 have z:h.sure=false:=by rw[<-d];rfl
 have U:Jl g N sq h (L++ [aR l]) V V':=by
  refine⟨by rw[<-d];exact i.n,by rw[t];exact i.t,?_,aa,?_,by rw[j,fg];have:=i.c;unfold cI at this|-;omega,by rw[j,fg];exact⟨i.lim.1,I⟩,i.sq,λQ a0=>?_,λp x=>?_,λm r f A=>?_,λe=>(by rw[z]at e;cases e),λ_=>⟨L,aR l,rfl,i.val,λm r a1 S a2=>v m r a1 S (by rw[<-y];exact a2)⟩⟩
  .rw [ir,D,i.u,C]
  .rw [fg,i.nx,RE];rfl
  .rcases TV.1 a0 with e|e
   .exact i.pk Q e
   .rw [TC.1 e];exact O
  .rw [gp,y]at x;rcases TV.1 x with e|e
   .exact i.pl p e
   .exact ⟨(w p e).1,(w p e).2.1⟩
  .rw [n]at A;cases B:bu l (m,r)with
   |some a5=>rw[B]at A;cases A;obtain⟨p,a,b,rfl⟩:=lV B;cases b;exact(w p a).2.2
   |none=>rw[B]at A;obtain⟨p,a,b,-⟩:=lV A;have:=i.pl p a;cases b;exact(i.val _ _ f A).trans (v _ _ this.1 this.2 B)
 have a3:eT (CQ g u N (Fx s.x sq L (aR l) V)) (CQ g u N (pY h sq (L++ [aR l]) bY.no 0 V)) (g.M,aN (s.x.pl (2*l.length+1-1)) (bo s.x.ep s.x.nx (aR l) (2*l.length))):=by
  rw[show 2*l.length+1-1=2*l.length by omega,IG,i.n];have conv:∀q f,q≠s.x.u+2*l.length->Wp s.x sq L (aR l) (2*l.length) q f->Wp h sq (L++ [aR l]) bY.no 0 q f:=λq f E a=>by
   unfold Wp at a|-;rw[D,fg,j];by_cases W:q<s.x.u
   .rw [ak W]at a;rw[ak aa,J q W];exact a
   .rw [al W]at a;by_cases G:q<s.x.u+2*l.length
    .rw [ak G]at a;rw[ak aa,show q=s.x.u+(q-s.x.u)by omega,F _ aa];exact a
    .rw [al G]at a;rw[al aa,al aa];exact a.mono aa
  refine zn (c:=Fx s.x sq L (aR l) V) (q0:=s.x.u+2*l.length) (n_ O.ok (QP _)) aa t (by show(λf=>aC f (aW h.ep sq h.t))=λf=>aC f (aW s.x.ep sq s.x.t);rw[j,t]) (by show(λf=>aC f (aW h.ep sq h.t))=λf=>aC f (aW s.x.ep sq s.x.t);rw[j,t]) (λq f _ a=>?_) ?_ (λq f _ E a=>conv q f E a) ?_ (.refl ?_ rfl)
  .show Mp h sq (L++ [aR l]) bY.no q f;by_cases e:q=s.x.u+2*l.length
   .subst e;have a:Wp s.x sq L (aR l) (2*l.length) _ f:=a;unfold Wp at a;rw[al aa,al aa]at a;unfold Mp;rw[ak aa,fg];exact .inr ⟨z,aa,a⟩
   .have a:=conv q f e a
    unfold Wp at a;unfold Mp;split
    .rename_i e;rw[ak e]at a;exact .inl a
    .rename_i e;rw[al e,al aa]at a;exact .inl a
  .show Mp h sq (L++ [aR l]) bY.no _ _;unfold Mp;rw[ak aa,j,F _ (QP _)];exact .inl (aC.refl _)
  .show Wp h sq (L++ [aR l]) bY.no 0 _ _;unfold Wp;rw[ak aa,j,F _ (QP _)];exact aC.refl _
  .show tv h (L++ [aR l])=tv s.x L;funext m r;unfold tv;rw[z,M,al ai,ak rfl,jS]
 rcases R.HE (a:=(g.M,aN (s.x.pl (2*l.length+1-1)) (bo s.x.ep s.x.nx (aR l) (2*l.length)))) K a3 with⟨X,Z⟩|⟨X,Z,q3⟩
 .have h0:(s.dF g (2*l.length+1) (bo s.x.ep s.x.nx (aR l) (2*l.length))).2=0:=X;rw[h0]at o T;subst T;rw[ak rfl,d]at o;refine .inl ⟨rfl,λe=>by rw[o];exact By.cX e,⟨by rw[o];exact U,by rw[o];exact Z,Y rfl,λp x=>?_⟩,by rw[o,d],by rw[o]⟩;rw[o]at x;rw[n];have:bu l (p.1,p.2.1)≠none:=rN.1 ⟨p,x,rfl⟩;cases B:bu l (p.1,p.2.1)with
  |some f=>simp
  |none=>exact absurd B this
 .have h5:(s.dF g (2*l.length+1) (bo s.x.ep s.x.nx (aR l) (2*l.length))).2=50:=X;have a4:Yl g N s.x.ep Vs (Fx s.x sq L (aR l) V):=(i.yl (P:=aR l) (Vp:=V) (.inr O) (λ_=>S) (2*l.length) H λ_=>H).le (c':=Fx s.x sq L (aR l) V) rfl (λ_ a=>a) (λq f _ a=>by
   have a:Wp s.x sq L (aR l) (2*l.length) q f:=a;show Mp s.x sq L (aR l) q f;unfold Wp at a;unfold Mp;split
   .rename_i e;rw[ak e]at a;exact .inl a
   .rename_i e;rw[al e]at a;split at a
    .rename_i G;exact .inr ⟨G,a⟩
    .exact .inl a) (λ_ _ a=>a) rfl
  refine .inr (qt.ends ?_ a4 Z (by rw[T,h5]));rw[o];exact q3
end
section
variable {g:au} {u:Su} {N sq ep C:Nat} {s s':Rs} {L:List bY} {Vp V:eW} {Vs:eW->Prop} {k er:Nat} {Bt:bp}
theorem Cx.bK(h:Cx g u N sq s L Vp V){l:List Nat}(m:∀k,k∈l->k<g.M+1/\∃r,s.ro.down k r=false)(p:Vs V)(d:s.x.sure=false->Vs Vp):
  qh g u N s.x.ep Vs s.b (s.b.bK l).1 (s.b.bK l).2.2 (Cx g u N sq {s with b:=(s.b.bK l).1} L Vp V):=by
 have f:s.b.N=g.M+1:=h.gt.gd.N;have n:=h.lit.HF (Q:=λ_=>CQ g u N (pY s.x sq L bY.no 0 Vp)) (l:=l.map KK) λi a q=>by obtain⟨k,t,rfl⟩:=SA.1 (RF q);exact⟨by rw[f];exact(m k t).1,pw _ k⟩
 rw[<-By.ek]at n;rcases n with⟨c,j⟩|⟨c,j,i,-,v⟩
 .refine .inl ⟨c,λe=>by rw[By.ek];exact By.ec e _,h.jl,j,?_,h.wt⟩;have o:=(h.gt.bK (l:=l) m).1;have e:s.er.b.bK l=((s.b.bK l).1.er,0,0):=by rw[By.ek,By.ek];exact By.p_ _ (by rw[<-By.ek];exact c)
  rw[e]at o;exact o
 .exact .inr (qt.ends v (h.yl p d) j c)
structure ON(g:au)(u:Su)(N:Nat)(Vs:eW->Prop)(V V':eW)(s s':Rs):Prop where
 cx:∃sq L Vp,Cx g u N sq s' L Vp V'/\(s'.x.sure=false->Vp=V)
 lz:s.ro.lz=false->s'.x.sure=true/\s'.ro.wt= []
 ep:s'.x.ep=s.x.ep
 nx:s'.x.nx<=s.x.nx+1
theorem Fit.Pz(h:Fit g C s):Fit g C s.er:=⟨h.bZ,h.N,h.mem,h.gB,h.bad,h.cA,h.iG,h.wt,h.mB⟩
theorem Cx.write(h:Cx g u N sq s L Vp V)(hF:Fit g C s)(f7:100000<=C)(d8:Bt.ok g)(fX:1<=Bt.n)(f8:N<=2048)(d9:2*Bt.dJ g+1<=N)(F:Vs V)(H:s.x.sure=false->Vs Vp)(c0:Vs (Bt.dR g V))(e0:s.x.nx+1<4000000000000000000)(S:gD g Bt s s' k er):
  qh g u N s.x.ep Vs s.b s'.b er (ON g u N Vs V (Bt.dR g V) s s'):=by
 have e3:=hF.bZ;have b8:Cx g u N sq s.fG L Vp V:=⟨h.jl,h.lit,h.gt.fG,h.wt⟩;have T:=hF.sl false;have e6:s.x.N=N:=h.jl.n;rcases S with⟨j,k1,h1,h2⟩|⟨h1,h2⟩
 .rcases b8.room T aa F H h1 with⟨-,t1,t,G,M,c1,v1,e1,n1⟩|q
  .have e1:j.x.ep=s.x.ep:=e1;have n1:j.x.nx=s.x.nx:=n1;have e4:j.x.N=N:=c1.jl.n;obtain⟨r1,r2,r3,r4⟩:Gt g none V j.er/\(j.ro=s.fG.ro\/j.ro={s.fG.ro with wt:= []})/\2*Bt.dJ g+1<=j.x.N-j.x.u/\Fit g (C-20000) j:=by
    have R:ea g Bt s.fG.er j.er k1 0:=by
     unfold ea at h1|-;show if 2*Bt.dJ g+1<=s.fG.x.N-s.fG.x.u then _ else _
     split at h1
     .rename_i c;rw[ak c];exact⟨by rw[h1.1],h1.2⟩
     .rename_i c;rw[al c];obtain⟨a,e7,b1,b2⟩:=ft h1;obtain⟨d,e8,b3,b4⟩:=ft b2;exact .inl ⟨a.er,e7,Bs b1,.inl ⟨d.er,e8,p' b3,qa b4⟩⟩
    obtain⟨I,Y,a3,a4⟩:=b8.gt.room (Bt:=Bt) (by show 2*Bt.dJ g+1<=s.x.N;omega) R;refine⟨I,Y,?_,?_⟩
    .rcases a4 with a4|a4
     .exact a4.2
     .exact absurd rfl a4.gone.ne
    .have:=b8.gt.vj T.Pz aa R;exact⟨this.bZ,this.N,this.mem,this.gB,this.bad,this.cA,this.iG,this.wt,this.mB⟩
   have c6:j.ro.lz=s.ro.lz:=by rcases r2 with r2|r2<;>rw[r2] <;>rfl
   have z:=c1.bK (Vs:=Vs) (l:=dE g j.ro (Bt.bT g) (Bt.eR g)) (λk e9=>by obtain⟨x1,x2⟩:=vg r1.gd.dn k e9;exact⟨aa,x2⟩) F v1;have f0:=r4.bK (dE g j.ro (Bt.bT g) (Bt.eR g));rw[e1]at z;rcases h2 with⟨h3,h4,J,K⟩|⟨h3,e5,h4,J⟩
   .rcases z with⟨q,-⟩|q
    .exact absurd q h3
    .subst h4 J K;exact .inr (q.back t1)
   .rcases z with⟨-,t2,c2⟩|q
    .have a0:dX (oU g j.er.b j.er.ro (Bt.bT g)) e5 (Bt.eR g):=h4;have a5:(j.er.jm g Bt).2.2=0:=by show(j.b.er.bK _).2.2=0;rw[By.ek,By.p_ _ (by rw[<-By.ek];exact h3)]
     obtain⟨p1,p2,p3,p4⟩:=r1.xx r4.Pz d8 fX (by show j.x.N<=2048;omega) r3 a0 a5;have A:=mM e3 r1.gd a0 a5;obtain⟨l,f1⟩:=ah e5.flatten;rw[f1]at J p1 p2 p3 p4 A;have p3:2*l.length+1<=j.x.N-j.x.u:=p3;have f2:j.x.u<=N:=c1.jl.uN;have c7:nT (aR l):=⟨p4,p2,by show l.length<=1023;omega⟩;have a6:∀m r,j.ro.down m r=false:=λm r=>by
      cases e:j.ro.down m r with
      |false=>rfl
      |true=>have:=r1.gd.dn m r e;cases this
     have U:∀m r,m<g.M->r<g.R->bu l (m,r)=none->aC (V m r) (Bt.dR g V m r):=λm r c8 c9 f6=>by
      rcases A.all m r c8 c9 (a6 m r)with⟨p,a,b,c⟩|e
      .exact absurd f6 (rN.1 ⟨p,a,by unfold ga;rw[b,c]⟩)
      .rw [e];exact aC.refl _
     obtain⟨B,D⟩:∃B:Rs,{j with b:=(j.jm g Bt).1}=B:=⟨_,rfl⟩;have O:B.ro=j.ro/\B.x=j.x/\B.b=(j.jm g Bt).1:=by rw[<-D];exact⟨rfl,rfl,rfl⟩
     have c2:Cx g u N t B G M V:=by rw[<-D];exact c2
     have t2:j.b.aY=none->B.b.aY=none:=by rw[<-D];exact t2
     have d0:Fit g (C-20000) B:=by rw[<-D];exact f0
     rw[D]at J;have v2:B.x.sure=false->Vs M:=by rw[O.2.1];exact v1
     have a7:B.x.ep=s.x.ep:=by rw[O.2.1,e1]
     have E:∀o k3 er,xk g l B o k3 er->_:=λo k3 er K=>c2.log c7 (by rw[O.2.1];omega) F v2 K;rw[a7]at E;rcases J with⟨o,k3,K,h7⟩|⟨K,h7⟩
     .rcases E _ _ _ K with⟨-,t3,c3,j3,a8,W,g3,x3⟩|q
      .have f3:=sJ d0 aa aa K;have a9:o.x.ep=s.x.ep:=by rw[x3,<-a7];rfl
       have Q:∀p,p∈o.ro.wt->(Fx o.x t G (aR l) V).kT p.1 p.2.1:=λp S=>by show tv o.x G p.1 p.2.1;unfold tv;rw[ak a8];exact c2.wt p (by rw[<-W];exact S)
       have u3:o.x.u=j.x.u/\o.x.nx=j.x.nx:=by rw[x3,O.2.1];exact⟨rfl,rfl⟩
       have b5:Yl g N o.x.ep Vs (Fx o.x t G (aR l) V):=(j3.yl (P:=aR l) (Vp:=V) (.inr c7) (λ_=>by show o.x.u+2*l.length+1<=N;omega) (2*l.length) F λ_=>F).le (c':=Fx o.x t G (aR l) V) rfl (λ_ a=>a) (λq f _ a=>by
        have a:Wp o.x t G (aR l) (2*l.length) q f:=a;show Mp o.x t G (aR l) q f;unfold Wp at a;unfold Mp;split
        .rename_i e;rw[ak e]at a;exact .inl a
        .rename_i e;rw[al e]at a;split at a
         .rename_i O;exact .inr ⟨O,a⟩
         .exact .inl a) (λ_ _ a=>a) rfl
       rw[a9]at b5;rcases h7 with⟨i,k4,h8,h9⟩|⟨h8,h9⟩
       .rcases kR f3 c3 Q h8 with⟨-,t4,c4⟩|⟨q,-⟩
        .have f4:=gC f3 aa h8;obtain⟨g4,x4,n⟩:=g3.gJ (mZ h8);have x4:i.x=o.x:=x4;have n:i.ro={o.ro with wt:= []}:=by
          rcases n with n|n
          .exact n.2
          .exact absurd rfl n.1.gone.ne
         have b6:∀m r,i.ro.down m r=j.ro.down m r:=λm r=>yT (by rw[n,W,O.1]);have X:∀y k5 er,po g l i y k5 er->qh g u N i.x.ep Vs i.b y.b er (Cx g u N t y (G++ [aR l]) V (Bt.dR g V)/\y.x=i.x.eJ (2*l.length+1) 0/\y.ro={i.ro with sl:=true,wt:=l}):=λy k5 er v=>by
          refine HL (by rw[x4];exact j3) (by rw[x4];exact a8) (by rw[x4];exact c4) (by have:=f4.N;omega) c7 (by rw[x4];omega) ?_ (λp S=>?_) U F v λe=>?_
          .rw [x4];omega
          .obtain ⟨I,Y,-,a4⟩:=A.val p S;exact⟨I,Y,a4⟩
          .subst e;have d4:po g l i.er y.er k5 0:=by obtain⟨b1,b2,b3⟩:=v;have b0:(i.dF g (2*l.length+1) (bo i.x.ep i.x.nx (aR l) (2*l.length))).2=0:=b3.symm;have b4:i.er.dF g (2*l.length+1) (bo i.x.ep i.x.nx (aR l) (2*l.length))=((i.dF g (2*l.length+1) (bo i.x.ep i.x.nx (aR l) (2*l.length))).1.er,0):=By.pZ b0;refine⟨?_,b2,by show 0=(i.er.dF g _ (bo i.x.ep i.x.nx (aR l) (2*l.length))).2;rw[b4]⟩;show y.er={b:=(i.er.dF g (2*l.length+1) (bo i.x.ep i.x.nx (aR l) (2*l.length))).1,x:=i.x.eJ (2*l.length+1) (i.er.dF g (2*l.length+1) (bo i.x.ep i.x.nx (aR l) (2*l.length))).2,ro:=if(i.er.dF g (2*l.length+1) (bo i.x.ep i.x.nx (aR l) (2*l.length))).2=0 then{i.ro with sl:=true,wt:=l}else i.ro};rw[b4,b1,b0];rfl
           refine(g4.qp (Bt:=Bt) (by show i.ro.wt= [];rw[n]) e3 d8 (l:=l) ⟨λp S=>?_,λm r c8 c9 f9=>?_⟩ p4 d4).1
           .obtain ⟨I,Y,a3,a4⟩:=A.val p S;exact⟨I,Y,by rw[show i.er.ro.down p.1 p.2.1=i.ro.down p.1 p.2.1 from rfl,b6];exact a3,a4⟩
           .exact A.all m r c8 c9 (a6 m r)
         have b7:i.x.ep=s.x.ep:=by rw[x4,a9]
         rw[b7]at X;have d5:s.b.aY=none->i.b.aY=none:=λe=>t4 (t3 (t2 (t1 e)));rcases h9 with⟨y,k5,v,w⟩|⟨v,w⟩
         .rcases X _ _ _ v with⟨-,t5,c5,x5,d6⟩|q
          .have f5:=pq f4 aa p1 v;have d7:y.ro.lz=s.ro.lz:=by rw[d6,n,W,O.1,<-c6]
           have Z:y.x.ep=s.x.ep:=by rw[x5,<-b7];rfl
           have n5:y.x.nx<=s.x.nx+1:=by rw[x5];show i.x.nx+1<=_;rw[x4];omega
           unfold lC at w;by_cases b9:y.ro.lz=true
           .rw [ak b9]at w;obtain⟨rfl,-,rfl⟩:=w;exact .inl ⟨rfl,λe=>t5 (d5 e),⟨_,_,_,c5,λ_=>rfl⟩,(λe=>by rw[d7,e]at b9;cases b9),Z,n5⟩
           .rw [al b9]at w;have:=c5.settle (Vs:=Vs) f5 c0 (λ_=>F) w;rw[Z]at this;refine(this.back λe=>t5 (d5 e)).mono λ⟨d1,d2,d3⟩=>⟨⟨_,_,_,d1,λe=>by rw[d2]at e;cases e⟩,λ_=>⟨by rw[d2],by rw[d3]⟩,by rw[d2];exact Z,by rw[d2];exact n5⟩
          .exact absurd q.er ai
         .rcases X _ _ _ v with⟨q,-⟩|q
          .exact absurd q w
          .exact .inr (q.back d5)
        .exact absurd q ai
       .rcases kR f3 c3 Q h8 with⟨q,-⟩|⟨q1,q2,q3⟩
        .exact absurd q h9
        .exact .inr (qt.ends q3 b5 (λe=>q2 (t3 (t2 (t1 e)))) q1)
      .exact absurd q.er ai
     .rcases E _ _ _ K with⟨q,-⟩|q
      .exact absurd q h7
      .exact .inr (q.back λe=>t2 (t1 e))
    .exact absurd (q.er.symm.trans h3) ai
  .exact absurd q.er ai
 .rcases b8.room T aa F H h1 with⟨q,-⟩|q
  .exact absurd q h2
  .exact .inr q
end
theorem Fr.tx[Lo](h:Fr T aF w W)(b:n<=Lo.lo)(c:n<=w.heap.size):SM n w W:=
 ⟨h.os,h.tape,h.output,h.size,λk d=>by obtain⟨o,a⟩:∃o,aZ w k o:=⟨_,SH J⟩;rw[h.block k o a (.inr J) id,a]⟩
def Ft:Prop:=∀w:M,aD 8 #[] w λe a=>aK e dU/\ar w a
def HM[Lo](P G:Nat)(Z:bg)(g:au)(a:M)(b:Option TF)(L:Nat)(A:Nat->lO)(k:Nat)(wr:M):Prop:=(∃c V d,gM wr P G Z g c V (100000000000-250000*k) d)/\Fr TP aF a wr/\jw wr b L A
abbrev gA:au:=⟨3,1,2⟩
abbrev uA:Su:=Su.born 10 false
abbrev bA:bp:=⟨1,λ_=>1,λ_ _=>7⟩
theorem zq:gA.ok:=⟨ai,ai,ai,ai,ai,ai⟩
theorem IH:bA.ok gA:=⟨λ_ _=>by show 1<gA.B;decide,λ_ _ _ _=>by show 7<256;decide⟩
abbrev vA:eW:=bA.dR gA rE
def OO(s:Rs)(u:Su):Prop:=Cx gA u 10 1 s [] rE rE/\s.x.sure=true/\Fit gA 1000000 s/\s.ro.lz=false/\s.x.nx=1/\u=uA
def OP(s:Rs)(u:Su):Prop:=(∃a L,Cx gA u 10 a s L vA vA)/\s.x.sure=true/\u=uA
theorem xA:XH gA none bA OO OP:=by
 refine⟨λs u d k ⟨h,p,f,g,i,j⟩ l=>?_,λs u d k r _ m=>?_,λs u e=>?_⟩
 .rcases h.write (Vs:=λ_=>True) f J IH (QP _) J ai trivial (λ_=>trivial) trivial (by rw[i];omega) l with⟨-,-,q⟩|q
  .obtain ⟨a,n,o,c,-⟩:=q.cx;have b:=(q.lz g).1;have:=c.jl.sure b;subst this;exact⟨⟨a,n,c⟩,b,j⟩
  .exact absurd q.er ai
 .have:=m.slot;cases this
 .exact absurd e ai
def Ak[Lo](X:Rs->Su->Prop)(a:Option Nat)(V:eW)(C:Nat)(W:M)(G:Nat)(Z:bg):Prop:=cw W G Z gA/\Lo.lo<=G/\∃s u,Inv W Z gA a V C s u/\X s u
theorem Ak.below[Lo]{X:Rs->Su->Prop}{a:Option Nat}{V:eW}{Z:bg}(h:Ak X a V C W n Z)(b:ar W w):Ak X a V C w n Z:=by obtain⟨c,d,s,u,e,f⟩:=h;exact⟨(b.block _ (Z_ c)).trans c,d,s,u,e.below b,f⟩
abbrev Bv(_:Rs)(_:Su):Prop:=True
theorem KF[Lo](W:M)(c:Lo.lo<=W.heap.size):aD 16 #[.agg #[Y 3,Y 1,Y 2],Y 10,.bool false] W λe a=>∃G Z,aK e (.tuple #[H G,aG 0])/\Fr fT aF W a/\Ak OO none rE 100000000000 a G Z:=by refine YW (vD gA 10 false W zq ai c) ?_;rintro e a ⟨G,Z,rfl,d,f,g,h,i,j⟩;have b:=vv zq lN ai ⟨f,g⟩ j;exact⟨G,Z,rfl,i,d,QO c h,_,_,b,HK zq lN ai false,rfl,b.fit.less J,b.same.2.1.symm,rfl,rfl⟩
theorem MH[Lo](W:M)(G:Nat)(Z:bg)(pv:QN)(h:Ak OO none rE 100000000000 W G Z)(j:gQ W pv bA):aD 11 #[H G,.agg #[.int .u8 2,Y 0,Y 0,Y 0,pv,aU]] W λe b=>∃a,aK e (cQ 0 aU a)/\Fr ed aF W b/\Ak OP none vA 99999750000 b G Z:=by
 obtain⟨d,k,s,u,f,g⟩:=h;have l:Z.N=10:=by rw[<-f.qv.1,g.2.2.2.2.2];rfl
 refine YW (Es d f xA g J IH ai j) ?_;rintro e b ⟨q,a,rfl,i,c⟩;unfold AQ at c;rw[al (by rw[l];decide)]at c;obtain⟨rfl,m,n,o,p⟩:=c;exact⟨a,rfl,i,i.hp d rfl,k,m,n,o,p⟩
theorem HN[Lo]{Z:bg}{kv:QN}{L:Nat}{n:aO}{fk:Nat->Nat->Bool}{R:bg->M->Prop}(A:cw w k Z g)(r:aB w Z.B b)(E:qK w kv L n fk)(F:L<=1000000)(j:Lo.lo<=k/\Lo.lo<=w.heap.size)(H:ME w Z.B (b.cut (cJ L n fk)) R):
  aD 11 #[aq k,fh 9 0 0 0 aU kv] w λe u=>∃l,aK e (cQ 0 aU l)/\∃d,cw u k d g/\Fr TM aF w u/\R d u:=by
 refine(IA w k 38 false 9 0 0 0 aU kv Z g (λz v W=>z=0/\v= aU/\∃d,cw W k d g/\Fr TM aF w W/\R d W) ⟨pH aJ,A,⟨_,r⟩,λW s=>?_,λz v W C h r=>?_,λz v W p o K x h G y=>?_⟩ rfl).mono ?_
 .refine (HJ k Z g 9 0 0 aU kv L n fk b W R ((s.block _ (Z_ A)).trans A) (r.below s) (E.fr (T:= []) (Fr.af s)) F ⟨j.1,QO j.2 s.size⟩ ⟨λC q f=>H.call C q ((Fr.af s).tr f),H.cg,H.stay⟩).mono ?_;rintro e u ⟨q,d,f,i,t⟩;exact⟨0,none,0,0,q,⟨d,f,H.cg _ _ t⟩,i,rfl,rfl,d,f,(Fr.af s).tr i,t⟩
 .obtain ⟨q,f,d,i,t,B⟩:=h;exact⟨q,f,d,(r.block _ (Z_ i)).trans i,t.then r,H.stay _ _ _ B (Fr.af r)⟩
 .obtain ⟨q,f,d,i,t,B⟩:=h;have D:=(Fr.refl [46] aF W).set (p:=ag p o) G rfl (QO j.2 y) x;exact⟨q,f,d,D.hp i rfl,t.new y x,H.stay _ _ _ B (D.wide [46,73] rfl)⟩
 .rintro e u ⟨z,a,m,c,l,rfl,rfl,f,d,i⟩;cases f;exact⟨l,rfl,d,i⟩
theorem KG[Lo](p:kP)(W:M)(G:Nat)(Z:bg)(x:Lo.lo<=W.heap.size)(h:Ak OP none vA 99999750000 W G Z):aD 11 #[H G,.agg #[.int .u8 9,Y 0,Y 0,Y 0,aU,aU]] W λe j=>∃a c,aK e (cQ 0 aU a)/\Fr TM aF W j/\Ak Bv none vA 100000000000 j G c:=by
 obtain⟨A,y,s,u,b,⟨P,L,q⟩,hs,d⟩:=h;have f:Can gA u 10 s.x.ep (λV=>V=vA) s.b:=⟨_,q.lit.dev,q.yl rfl λe=>absurd (hs.symm.trans e) ai⟩;have g:∀V,V=vA->BN gA V:=λV e=>by rw[e];exact b.gt.gd.par
 refine YW (HN (kv:= aU) (L:=0) (n:=λ_=>0) (fk:=λ_ _=>false) (R:=Py Z.B gA u none λV=>V=vA) A b.ay.rs.cg ⟨x,none,0,rfl,.inl rfl⟩ J ⟨y,x⟩ ⟨λB C z=>?_,λc B r=>?_,λc Q S r z=>?_⟩) ?_
 .refine YW (HI (ep:=s.x.ep) (hs:=λ_=>true) (aw:=none) (kp:=cJ 0 (λ_=>0) λ_ _=>false) (b':=s.b.cut (cJ 0 (λ_=>0) λ_ _=>false)) p f b.fit.N ⟨rfl,rfl,rfl,λk D=>?_⟩ b.eK (by rw[d];rfl) (by rw[d];rfl) (λm _=>by rw[d];rfl) (by rw[d];show 1<_;omega) (by rw[d];rfl) rfl (λm _=>⟨λe=>(by cases e),λe=>(by cases e)⟩) (λm e=>by cases e) (λm v E e=>(b.fit.mem m v E e).1) (λv e=>by have:=(b.fit.gB v e).1;rw[q.jl.n]at this;exact this) g C) ?_
  .show (if k<s.b.N then _ else _)=_;rw[ak D];rfl
  .exact λe j F=>F
 .obtain ⟨V,l,o,-,-,-,-,i⟩:=r;exact⟨_,i.ay.rs.cg⟩
 .obtain ⟨V,l,o,t,w,K,O,i⟩:=r;exact⟨V,l,o,t,w,K,O,i.fr z rfl⟩
 .rintro e j ⟨a,rfl,c,t,w,V,l,o,rfl,-,-,-,i⟩;exact⟨a,c,rfl,w,t,y,l,o,i,trivial⟩
theorem HO[Lo](W:M)(G:Nat)(Z:bg)(h:Ak Bv none vA 100000000000 W G Z):aD 11 #[H G,.agg #[.int .u8 4,Y 1,Y 0,Y 0,aU,aU]] W λe b=>∃a,aK e (cQ 0 aU a)/\Fr ed aF W b/\Ak Bv (some 1) vA 99999999000 b G Z:=by obtain⟨c,f,s,u,g,-⟩:=h;refine YW (pL 1 c (g.nO ai) ai J) ?_;rintro e b ⟨a,rfl,d,i,j,k⟩;exact⟨a,rfl,d,d.hp c rfl,f,i,j,k,trivial⟩
theorem MI[Lo](W:M)(G:Nat)(Z:bg)(h:Ak Bv (some 1) vA 99999999000 W G Z):aD 11 #[H G,.agg #[.int .u8 1,Y 0,Y 1,Y 1,aU,aU]] W λe f=>∃a c d,aK e (cQ 0 (.slice a 128 c) d)/\Fr ed aF W f/\cN f (.slice a 128 c) 128 (λ_=>7)/\Ak Bv (some 1) vA 99999998000 f G Z:=by
 obtain⟨i,p,s,u,q,-⟩:=h;refine YW (Eu (k:=1) (n:=1) i q J ai) ?_;rintro e f ⟨a,c,d,rfl,l,g,r,t,v⟩;refine⟨a,c,d,rfl,l,?_,l.hp i rfl,p,r,t,v,trivial⟩;have w:∀j,j<128->eL gA vA (1+j/128) (j%128)=7:=λj x=>by rw[Nat.div_eq_of_lt x,yW zq];rfl
 obtain⟨y,z,A,g⟩:=g;refine⟨y,z,A,g.imp id ?_⟩;rintro⟨b,o,B,C,D,E,F⟩;exact⟨b,o,B,C,D,E,λk m=>by rw[F k m];show some (SU ZN ((eL gA vA (1+k/128) (k%128):Nat):Int))=_;rw[w k m]⟩
theorem MJ[Lo](W:M)(G:Nat)(Z:bg)(h:Ak Bv (some 1) vA 99999998000 W G Z):aD 11 #[H G,.agg #[.int .u8 3,Y 0,Y 0,Y 0,aU,aU]] W λe b=>∃a,aK e (cQ 0 aU a)/\Fr ed aF W b:=by obtain⟨c,g,s,u,d,-⟩:=h;refine YW (Ex c d J) ?_;rintro e b ⟨a,rfl,f,-⟩;exact⟨a,rfl,f⟩
theorem OQ(w:M)(a:Nat)(h:aZ w a (N (cB 128 λ_=>7) 5)):gQ (w.alloc (N #[Y 1,a_ a 128 128] 61)) (a_ w.heap.size 1 1) bA:=by
 refine⟨_,_,rfl,QP _,.inr ⟨_,_,_,_,rfl,QM _ _,λi b=>?_⟩⟩;obtain rfl:i=0:=Nat.lt_one_iff.1 b;refine⟨rfl,_,rfl,a,0,128,cB 128 λ_=>7,(0,0),rfl,QP _,?_,λk c=>?_⟩
 .exact ((aI aj _:ar w _).block _ (Z_ h)).trans h
 .rw [RQ];exact eu _ _ _ c
theorem fz{o x:Obj}(h:aZ w n o):(w.alloc x).heap[n]?=some o:=((aI aj _:ar w _).block _ (Z_ h)).trans h
theorem hl(w:M)(x:Obj):ar w (w.alloc x):=aI aj _
theorem wb[Lo](a:SM n w W)(c:n<=Lo.lo)(b:n<=w.heap.size)(d:Fr T aF (W.alloc O) z):SM n w z:=
 (a.trans ((hl W O).mono (QO b a.size))).trans (d.tx c (QO (QO b a.size) (hl W O).size))
abbrev Fu(a:QN)(b:Int):Obj:= N #[aG 0,a,Y b] 46
theorem yc(Q:kP):Ft:=λw=>by
 letI:Lo:=⟨w.heap.size⟩
 have S:=ad (λW U=>KF W U);have z:=ad (rG 7);have V:=ad (λW G Z pv h c3=>MH W G Z pv h c3);have X:=ad (λW G Z U h=>KG Q W G Z U h);have H:=ad (λW G Z h=>HO W G Z h);have N:=ad (λW G Z h=>MI W G Z h);have M:=ad (λW G Z h=>MJ W G Z h);go_enter func8,ntmps8;go_wp2_with fail;refine(S _ (QP _)).mono ?_;rintro e w1 ⟨G,Z,rfl,R,I⟩;have A:=ad (R.tx (QP _) (QP _));have Y:=ad I;go_wp2_with fail;refine(z _).mono ?_;rintro e w2 ⟨d5,rfl,c4,J,B⟩;have a0:=ad (A.trans (B.mono A.size));have a1:=ad (Y.below B);have a2:=ad J;go_wp2_with fail;refine(V _ G Z _ (a1.below (aI aj _)) (OQ _ _ a2)).mono ?_;rintro e i ⟨b,rfl,a3,a4⟩;have C:=ad (wb a0 (QP _) (QP _) a3);have a5:=ad a4;go_wp2_with fail;refine(X (i.alloc (ao #[aG 0,aU,ae b] 46)) G Z (QO C.size (hl i _).size) (a5.below (hl i _))).mono ?_;rintro e m ⟨d,Z4,rfl,D,a7⟩;have a8:=ad (wb C (QP _) (QP _) D);have a9:=ad a7;have b0:RH (aZ m i.heap.size (Fu aU b)):=D.hp (QM _ _) rfl;go_wp2_with fail;refine(H (m.alloc (ao #[aG 0,aU,ae d] 46)) G Z4 (a9.below (hl m _))).mono ?_;rintro e n ⟨j,rfl,t,b1⟩;have b2:=ad (wb a8 (QP _) (QP _) t);have b3:=ad b1;have E:RH (aZ n i.heap.size (Fu aU b)/\aZ n m.heap.size (Fu aU d)):=⟨t.hp (fz b0) rfl,t.hp (QM _ _) rfl⟩;go_wp2_with fail;refine(N (n.alloc (ao #[aG 0,aU,ae j] 46)) G Z4 (b3.below (hl n _))).mono ?_;rintro e l ⟨x,y,r,rfl,o,b4,b5⟩;have b6:=ad (wb b2 (QP _) (QP _) o);have b7:=ad b5;have u:RH (aZ l i.heap.size (Fu aU b)/\aZ l m.heap.size (Fu aU d)/\aZ l n.heap.size (Fu aU j)):=⟨o.hp (fz E.1) rfl,o.hp (fz E.2) rfl,o.hp (QM _ _) rfl⟩;have b8:=ad b4;go_wp2_with fail;refine(M (l.alloc (ao #[aG 0,.slice x 128 y,ae r] 46)) G Z4 (b7.below (hl l _))).mono ?_;rintro e p ⟨s,rfl,f⟩;have F:=ad (wb b6 (QP _) (QP _) f);have b9:RH (cN p (.slice x 128 y) 128 λ_=>7):=(b8.fr (T:= []) (Fr.af (hl l _)) rfl).fr f rfl;obtain⟨g,q⟩:=ah (p.alloc (ao #[aG 0,aU,ae s] 46));have K:=ad (show ar w g by rw[<-q];exact F.trans ((hl p _).mono F.size));have c0:RH (cN g (.slice x 128 y) 128 λ_=>7):=by rw[<-q];exact b9.fr (T:= []) (Fr.af (hl p _)) rfl
 obtain⟨h1,h2,h3,h4,h5⟩:aZ g i.heap.size (Fu aU b)/\aZ g m.heap.size (Fu aU d)/\aZ g n.heap.size (Fu aU j)/\aZ g l.heap.size (Fu (.slice x 128 y) r)/\aZ g p.heap.size (Fu aU s):=by rw[<-q];exact⟨fz (f.hp (fz u.1) rfl),fz (f.hp (fz u.2.1) rfl),fz (f.hp (fz u.2.2) rfl),fz (f.hp (QM _ _) rfl),QM _ _⟩
 have z1:g.cell? (ag i.heap.size 0)=some (aG 0):=(cr h1).1 0;have z2:g.cell? (ag m.heap.size 0)=some (aG 0):=(cr h2).1 0;have z3:g.cell? (ag n.heap.size 0)=some (aG 0):=(cr h3).1 0;have z4:g.cell? (ag p.heap.size 0)=some (aG 0):=(cr h5).1 0;have z5:g.cell? (ag l.heap.size 1)=some (.slice x 128 y):=(cr h4).1 1;have y1:=(cr h1).2.2;have y2:=(cr h2).2.2;have y3:=(cr h3).2.2;have y4:=(cr h5).2.2;have y5:=(cr h4).2.2;have c1:=ad q;go_wp2_with fail
 try rw[c1.out]
 go_region_held3(λL=>L.cell? (ag i.heap.size 0)=some (aG 0)/\L.cell? (ag m.heap.size 0)=some (aG 0)/\L.cell? (ag n.heap.size 0)=some (aG 0)/\L.cell? (ag p.heap.size 0)=some (aG 0)/\L.cell? (ag l.heap.size 1)=some (.slice x 128 y)) ((simp[*,go_sem];done)) (first
  |(go_at_call 17;refine(z _).mono ?_;rintro e w9 ⟨d6,rfl,c5,O,c⟩
    have v:RH (ar g w9):=via (by first|go_grown|exact aj|exact ct aj _) c;obtain⟨x1,-,c7⟩:=kp c i.heap.size dI;obtain⟨x2,-,c8⟩:=kp c m.heap.size dI;obtain⟨x3,-,c9⟩:=kp c n.heap.size dI;obtain⟨x4,-,d0⟩:=kp c p.heap.size dI;obtain⟨x5,-,d1⟩:=kp c l.heap.size dI;have c2:=ad O;clear O c)
  |(go_at_call 18;refine(BY _ _ 128 128 (λ_=>7) (λ_=>7) _ ((c0.fr (T:= []) (Fr.af v) rfl).BH) ⟨_,_,rfl,.inr ⟨_,_,rfl,λk d2=>by rw[(cr c2.out).1,RQ];exact eu _ _ _ d2⟩⟩ ai).mono ?_;rintro e d3 ⟨rfl,a⟩
    obtain⟨x6,-,-⟩:=kp a i.heap.size dI;obtain⟨x7,-,-⟩:=kp a m.heap.size dI;obtain⟨x8,-,-⟩:=kp a n.heap.size dI;obtain⟨x9,-,-⟩:=kp a p.heap.size dI;obtain⟨x0,-,-⟩:=kp a l.heap.size dI;have P:=ad (K.trans ((v.trans (a.mono v.size)).mono K.size));clear a))
 have d4:qG 128 128 (λ_=>7) (λ_=>7)=true:=by simp[qG]
 rw[d4];go_wp2_with fail;go_ret;exact⟨rfl,P⟩
def Qu(m c:Nat)(s:Rs)(u:Su):Prop:=bh s.b/\u.st m=3/\u.cur=c
def PA(m c:Nat)(_:Rs)(u:Su):Prop:=u.st m=3/\u.cur=c
theorem Qv(g:au)(m c:Nat)(a:bp):XH g (some m) a (Qu m c) (PA m c):=
 ⟨λ_ _ _ _ h _=>h.2,λs u e k f h b d i j=>(b.fR (d h.1) J).elim,λ_ _ _ h=>h.2⟩
structure tz[Lo](w:M)(a:Option TF)(L:Nat)(bk fl:aO):Prop where
 aL:L=0\/∃b o,a=some (R b o)/\b<Lo.lo/\∀k,k<L->w.cell? ⟨b,o+k*2,none⟩=some (.int .u16 (bk k:Nat))/\w.cell? ⟨b,o+k*2+1,none⟩=some (.int .u8 (fl k:Nat))
 bk:∀k,k<L->bk k<65536
 fl:∀k,k<L->fl k<256
 lo:Lo.lo<=w.heap.size
theorem tz.fr[Lo]{d f:aO}(h:tz w P n d f)(a:Fr T aF w W):tz W P n d f:=by refine⟨h.aL.imp id ?_,h.bk,h.fl,QO h.lo a.size⟩;rintro⟨b,o,e,c,q⟩;exact⟨b,o,e,c,λk g=>⟨a.fN h.lo c (q k g).1,a.fN h.lo c (q k g).2⟩⟩
theorem tz.below[Lo]{a b:aO}(h:tz w P n a b)(c:ar w W):tz W P n a b:=h.fr (T:= []) (Fr.af c)
theorem tz.MK[Lo]{a c:aO}(h:tz w P n a c):AP w (.slice P n m) n a c:=
 ⟨P,m,rfl,h.aL.imp id λ⟨b,o,e,_,q⟩=>⟨b,o,e,q⟩⟩
def Qw[Lo](P G:Nat)(Z:bg)(g:au)(a:Int)(c:Option Nat)(C:Nat)(d:Bool)(w:M)(e:SG)(b:M):Prop:=aK e dU/\Fr TP aF w b/\∃V,kS b P G Z g a c V C d
theorem PB[Lo](P G:Nat)(Z:bg)(g:au)(a:Int)(b:Option Nat)(V:bW)(C:Nat)(c:Bool)(f:Option TF)(L k:Nat)(i j:aO)(w:M)(h:kS w P G Z g a b V C c)(l:1000000<=C)(d:tz w f L i j)(m:L<=20000):
  aD 12 #[H P,.slice f L k] w (Qw P G Z g a b (C-250000) c w):=by
 obtain⟨s,u,n⟩:=h.inv;exact(s_ P G Z g a b V C c _ L i j w h l d.MK m d.bk d.fl _ _ (XH.any _ _ _) ⟨s,u,n,trivial⟩).mono λe t ⟨o,p,q,r,_⟩=>⟨o,p,q,r⟩
def KZ[Lo](P G:Nat)(Z:bg)(g:au)(m k C:Nat)(a:Bool)(W:M):Prop:=∃V,kS W P G Z g (m:Nat) (some m) V C a/\∃s u,Inv W Z g (some m) V C s u/\PA m k s u
theorem Qx[Lo](P G:Nat)(Z:bg)(g:au)(m k C:Nat)(a:Bool)(d:Option TF)(L n:Nat)(f i:aO)(w:QL)(h:KZ P G Z g m k C a w)(o:m<g.M)(p:1000000<=C)(b:tz w d L f i)(r:L<=20000):
  aD 12 #[H P,.slice d L n] w λe c=>aK e dU/\Fr TP aF w c/\KZ P G Z g m k (C-250000) a c:=by
 obtain⟨V,t,s,u,j,l⟩:=h;exact(s_ P G Z g m (some m) V C a _ L f i w t p b.MK r b.bk b.fl _ _ (Qv g m k _) ⟨s,u,j,j.fR ⟨m,o,l.1⟩,l⟩).mono λe c ⟨v,x,y,z,A,B,D,E⟩=>⟨v,x,y,z,A,B,D,E.elim (λq=>q.2) id⟩
def qB[Lo](P G:Nat)(Z:bg)(g:au)(m k C:Nat)(a:Bool)(W:M):Prop:=
 if k<g.s then KZ P G Z g m k C a W else∃V,kS W P G Z g (m:Nat) none V C a
theorem Qy[Lo](P G:Nat)(Z:bg)(g:au)(m k C:Nat)(a:Bool)(b:Option TF)(L c:Nat)(d f:aO)(w:QL)(h:qB P G Z g m k C a w)(p:m<g.M)(i:1000000<=C)(j:tz w b L d f)(l:L<=20000):
  aD 12 #[H P,.slice b L c] w λe n=>aK e dU/\Fr TP aF w n/\qB P G Z g m k (C-250000) a n:=by
 unfold qB at h|-;by_cases o:k<g.s
 .simp only[ak o]at h|-;exact Qx P G Z g m k C a b L c d f w h p i j l
 .simp only[al o]at h|-;obtain⟨V,h⟩:=h;exact PB P G Z g m none V C a b L c d f w h i j l
theorem Qz[Lo]{Z:bg}(h:KZ n i Z g m k C d w)(F:m<g.M)(U:k<g.s)(W:1000000<=C):
  aD 11 #[aq i,fh 6 0 0 0 aU aU] w λe j=>∃(a:Option TF) (c:Nat) (f:Int),aK e (cQ 0 (.slice a 1 c) f)/\Fr ed aF w j/\qB n i Z g m (k+1) (C-30000) d j/\cN j (.slice a 1 c) 1 λ_=>if k+1=g.s then 1 else 0:=by
 obtain⟨V,o,s,u,G,K,A⟩:=h;refine(vI o.hn G J).mono ?_;rintro e j ⟨B,X,a,H,c,f,L,r,⟨-,t,v,x,D,O⟩,P⟩;obtain⟨rfl,p,N,Q⟩:=O m F K;rw[A]at p;rcases P with⟨q,-⟩|⟨-,rfl,E⟩
 .cases q
 have l:∀y,(∃s u,Inv j Z g y V (C-30000) s u)->kS j n i Z g (m:Nat) y V (C-30000) d:=λy z=>⟨o.pl.fr r rfl rfl,r.hp o.hn rfl,z,o.lo⟩;refine⟨a,c,f,L,r,?_,?_⟩
 .unfold qB;by_cases q:k+1=g.s
  .rw [al J];have b:B=true:=by rw[p];exact decide_eq_true q
   exact⟨V,l _ ⟨t,v,x.whole (D b).1 (D b).2⟩⟩
  .rw [ak J];have b:B=false:=by rw[p];exact decide_eq_false q
   obtain⟨S,T⟩:=Q b;exact⟨V,l _ ⟨t,v,x⟩,t,v,x,S,by rw[T,A]⟩
 .rw [p]at E;simpa only[decide_eq_true_eq]using E
theorem QA[Lo]{Z:bg}{V:bW}(h:kS w n k Z g (m:Nat) (some m) V C d)(l:m<g.M)(t:1000000<=C):
  aD 11 #[H k,fh 5 m 0 0 aU aU] w λe b=>∃a,aK e (cQ 0 aU a)/\Fr ed aF w b/\KZ n k Z g m 0 (C-40000) d b:=by
 obtain⟨s,u,o⟩:=h.inv;refine(vH m h.hn o l J).mono ?_;rintro e b ⟨a,p,c,f,i,j,q,r⟩;exact⟨a,p,c,V,⟨h.pl.fr c rfl rfl,c.hp h.hn rfl,⟨f,i,j⟩,h.lo⟩,f,i,j,q,r⟩
theorem QB[Lo]{Z:bg}{V:bW}(h:kS w n m Z g c none V C d)(i:k<g.M)(p:1000000<=C):
  aD 11 #[H m,fh 4 k 0 0 aU aU] w λe b=>∃a,aK e (cQ 0 aU a)/\Fr ed aF w b/\kS b n m Z g c (some k) V (C-1000) d:=by
 obtain⟨s,u,j⟩:=h.inv;refine(pL k h.hn (j.nO i) i J).mono ?_;rintro e b ⟨a,l,f,o⟩;exact⟨a,l,f,h.pl.fr f rfl rfl,f.hp h.hn rfl,o,h.lo⟩
theorem kS.cell[Lo]{Z:bg}{b:Option Nat}{V:bW}(h:kS w n m Z g c b V C d):w.cell? (R n 0)=some (Y g.M)/\w.cell? (R n 2)=some (Y g.s)/\w.cell? (R n 5)=some (H m)/\w.cell? (R n 9)=some (Y g.B)/\w.cell? (R n 10)=some (Y c)/\w.cell? (R n 14)=some iD/\(∀o,w.frozen? (R n o)=false)/\n<w.heap.size:=by obtain⟨j,k,l,p,e,-,-⟩:=h.pl.aL;obtain⟨a,f,i⟩:=cr e;exact⟨a 0,a 2,a 5,a 9,a 10,a 14,f,i⟩
theorem qB.OR[Lo]{Z:bg}(h:qB n i Z g m k C d W):∃a V,kS W n i Z g (m:Nat) a V C d:=by
 unfold qB at h;split at h
 .obtain ⟨V,h,_⟩:=h;exact⟨_,V,h⟩
 .obtain ⟨V,h⟩:=h;exact⟨_,V,h⟩
theorem qB.below[Lo]{Z:bg}(h:qB n i Z g m k C d W)(a:ar W w):qB n i Z g m k C d w:=by
 unfold qB at h|-;by_cases b:k<g.s
 .rw [ak b]at h|-;obtain⟨V,h,s,u,c,e⟩:=h;exact⟨V,h.below a,s,u,c.below a,e⟩
 .rw [al b]at h|-;obtain⟨V,h⟩:=h;exact⟨V,h.below a⟩
def MR[Lo](P G:Nat)(Z:bg)(g:au)(m C:Nat)(b:Bool)(c:M)(a:Option TF)(L:Nat)(d e:aO)(k:Nat)(W:M):Prop:=
 qB P G Z g m k (C-300000*k) b W/\Fr TP aF c W/\tz W a L d e
theorem qB.less[Lo]{Z:bg}(h:qB n i Z g m k C d W)(a:j<=C):qB n i Z g m k j d W:=by
 unfold qB at h|-;by_cases b:k<g.s
 .rw [ak b]at h|-;obtain⟨V,h,s,u,c,e⟩:=h;exact⟨V,h.less a,s,u,c.less a,e⟩
 .rw [al b]at h|-;obtain⟨V,h⟩:=h;exact⟨V,h.less a⟩
theorem QC(i9:Ft)[Lo](z0 z1 K e7:Nat)(e9:Bool)(b0:Option TF)(L f0:Nat)(A:Nat->lO)(x y:Nat)(O:Option TF)(l j0:Nat)(S U:aO)(w:QL)(h0:z0<256)(h1:z1<256)(h2:K<256)(h3:e7<65536)(i4:x<256)(o7:y<256)(j3:jw w b0 L A)(p2:L<=140737488351232)(j4:tz w O l S U)(p3:l<=140737488351232)(j5:w.heap.size<=Lo.lo):
  aD 4 #[KS z0 z1 K e7 e9 b0 L f0,bs x,bs y,.slice O l j0] w λe f3=>aK e dU/\ar w f3:=by
 have j6:=j3.lo;have j7:=ad (λW (b1:ar w W)=>Kd z0 z1 K e7 e9 b0 L f0 A W h0 h1 h2 h3 (j3.below b1) p2);have j8:=ad (λW (p4:Lo.lo<=W.heap.size)=>EH z0 z1 K e7 e9 b0 L f0 W h0 h1 h2 h3 p4);have j9:=ad i9;have k3:=te (z0:=z0) (z1:=z1) h2;obtain⟨k4,b8⟩:=ah (w.alloc (ao (KT z0 z1 K e7 e9 b0 L f0) 25));have k5:ar w k4:=by rw[<-b8];exact aI aj _
 have b9:aZ k4 w.heap.size (ao (KT z0 z1 K e7 e9 b0 L f0) 25):=by rw[<-b8];exact QM _ _
 obtain⟨D,f4⟩:=ah w.heap.size;rw[f4]at b9;obtain⟨d1,d2,d3⟩:=cr b9;have i:=bX b9 k5 j3 (And.intro j6 j5) j4;have H:=aA b8 f4;have i5:=ad k3;have f5:=aA i4 o7;go_enter func4,ntmps4;go_wp2_with fail
 try simp only[H.out.1,H.out.2]
 refine(j7 k4 i.2.1).mono ?_;rintro e w1 ⟨r,rfl,c1,f6⟩;have b2:=ad (i.2.1.trans (c1.mono i.2.1.size));obtain⟨k0,k1,k2⟩:=kp c1 D d3;cases r
 case true=>go_wp2_with fail;go_ret;exact⟨rfl,b2⟩
 case false=>
  by_cases o8:1000<l
  .have j1:(1000:Int)<(l:Int):=aa;go_wp2_with fail;go_ret;exact⟨rfl,b2⟩
  have j1:¬(1000:Int)<(l:Int):=aa;obtain⟨c3,k6⟩:=f6 rfl;have N:=aA c3 k6;have f7:RH (l<=1000):=by show l<=1000;omega
  have k7:=(c1.block D d3).trans i.1;have f8:=ad (j8 w1 (QO i.2.2.2.1.1 b2.size));go_wp2_with fail;refine f8.mono ?_;rintro e w2 ⟨P,G,Z,rfl,E,z,o9⟩;have k8:=ad E;have R:=ad ((Fr.af b2:Fr fT aF w w1).tr z);have f9:=z.hp k7 rfl;go_wp2_with fail;refine(j9 w2).mono ?_;rintro e t ⟨rfl,f⟩;have g0:=(f.block D (Z_ f9)).trans f9;have k9:RH (HM P G Z (mQ z0 z1 K) t b0 L A 0 t):=⟨⟨none,rE,false,by rw[Nat.mul_zero];exact k8.below f⟩,Fr.refl _ _ _,(i.2.2.1.fr R).below f⟩;have b3:=ad (R.then f);have l0:=ad g0;obtain⟨k0,k1,k2⟩:=cr g0;have l1:RH (tz t O l S U):=(i.2.2.2.2.fr R).below (by assumption);go_upto_block 0 with fail;go_cut [11,12] (λp5 p6 c4=>RH (HM P G Z (mQ z0 z1 K) t b0 L A L c4))
  case rest=>
   rename_i g3;refine g3 _ _ ?_;obtain⟨⟨g4,V,B,E⟩,h2,h3⟩:=hcut.out;have l2:=N.1;have h5:ar w t:=b3.tx i.2.2.2.1.2 (QP _);have i5:=i5.out;obtain⟨g,p7⟩:=ah (mQ z0 z1 K);obtain⟨C,p8⟩:=ah (100000000000-250000*L);rw[p7]at E i5;rw[p8]at E;have j:RH (90000000000<=C/\l<=1000/\x<256/\y<256/\g.ok):=⟨aa,f7,f5.1,f5.2,i5⟩;have p9:RH (∀f3,Fr TP aF t f3->ar w f3):=λf3 I=>h5.trans (I.tx i.2.2.2.1.2 h5.size);have i:RH (gM wc P G Z g g4 V C B/\Fr TP aF t wc/\tz wc O l S U):=⟨E,h2,l1.fr h2⟩;have c6:=j.2.2.2.2.m3;have Y:=j.2.2.2.2.m16;have i4:=j.2.2.1;obtain⟨s4,s6,s7,s8,o9,l3,l4⟩:=i.1.pl.aL;obtain⟨d0,-,-,-,d10,-,f1,f2⟩:=i.1.cell;obtain⟨M,g5⟩:=ah g.M;rw[g5]at d0 c6 Y;obtain⟨m,g6⟩:=ah (x%M);have q5:m<M:=by rw[<-g6];exact SB _ aa
   have m1:((x:Nat):Int).tmod (M:Nat)=((m:Nat):Int):=by rw[<-g6];exact SK _ _
   have z1:¬(M:Int)=0:=aa;have K:¬M=0:=aa;have v1:QQ.wrap ((x:Nat):Int)=((x:Nat):Int):=bf;have v2:QQ.wrap ((m:Nat):Int)=((m:Nat):Int):=bf;have e8:=bX o9 l3 l4 g5 q5
   go_upto_if 59 with fail
   go_cut [] (λc4=>∃m:Nat,m<g.M/\RH (kS c4 P G Z g (m:Nat) (some m) V C B/\Fr TP aF t c4/\tz c4 O l S U))
   case first=>
    cases g4 with
    |none=>
     have j1:Mg none<0:=ai;go_wp2_with fail;go_meet;have I:=(Fr.refl [44] aF wc).set (p:=ag P 10) e8.1 rfl i.1.lo (ae m);obtain⟨s,u,l5⟩:=i.1.inv;have g7:m<g.M:=by rw[e8.2.2.2.1];exact e8.2.2.2.2
     exact⟨m,g7,gM.vF i.1.hn ⟨s,u,l5.nO g7⟩ I (heap_setCell_same wc P 10 _ 44 _ e8.1) e8.2.1 e8.2.2.1 i.1.lo,i.2.1.tr (I.wide TP rfl),i.2.2.fr I⟩
    |some i6=>
     have j1:¬Mg (some i6)<0:=by show¬(i6:Int)<0;omega
     go_wp2_with fail;go_meet;obtain⟨s,u,l5⟩:=i.1.inv;exact⟨i6,l5.gt.gd.nw i6 rfl,i⟩
   case rest=>
    rename_i g3;refine g3 _ _ ?_;obtain⟨m,c7,i⟩:=hcut;have j:RH (m<g.M/\90000000000<=C/\l<=1000/\y<256/\g.ok):=⟨c7,j.1,j.2.1,j.2.2.2⟩;have q6:=ad (QA i.1 j.1 (by have:=j.2.1;omega));obtain⟨c0,c2,c5,c9,q7,q8,f1,f2⟩:=i.1.cell;go_wp2_with fail;refine q6.mono ?_;rintro e x2 ⟨c8,rfl,z,g8⟩;have R:=ad (i.2.1.tr (z.wide TP rfl));have l6:=ad (i.2.2.fr z);have l7:=ad g8;obtain⟨V2,d4,-⟩:=g8;obtain⟨x3,d6,f,b4⟩:=nH x2 (ao #[aG 0,aU,ae c8] 46);have q9:=j.2.2.2.2.s1;have l8:RH (MR P G Z g m (C-40000) B t O l S U 0 x3):=⟨by unfold qB;rw[ak aa];obtain⟨V,h,s,u,h1,h2⟩:=l7.out;exact⟨V,h.below f,s,u,h1.below f,h2⟩,R.then f,l6.below f⟩;obtain⟨T,l9⟩:=ah x2.heap.size;rw[l9]at b4;obtain⟨t1,t2,t3⟩:=cr b4;obtain⟨d0,d2,d5,d9,d10,d14,g1,g2⟩:=(d4.below f).cell;go_upto_block 2 with fail;go_cut [15,16,17] (λb5 r0 r1 c4=>RH (MR P G Z g m (C-40000) B t O l S U g.s c4))
    case rest=>
     rename_i g3;refine g3 _ _ ?_;have d7:=j.2.2.2.2.gP;have c6:=j.2.2.2.2.m3;have Y:=j.2.2.2.2.m16;obtain⟨V,m0⟩:∃V,kS wc P G Z g (m:Nat) none V (C-40000-300000*g.s) B:=by have h:=hcut.out.1;unfold qB at h;rw[al (UA _)]at h;exact h
     obtain⟨C1,m2⟩:=ah (C-40000-300000*g.s);rw[m2]at m0;have i7:RH (1000000000<=C1):=by show 1000000000<=C1;have:=j.2.1;omega
     obtain⟨d0,d2,d5,d9,d10,d14,f1,f2⟩:=m0.cell;have c7:=j.1;have o7:=j.2.2.2.1;have i:=ad m0;obtain⟨M,g5⟩:=ah g.M;rw[g5]at d0 c7 c6 Y;obtain⟨d,s9⟩:=ah (M-1);obtain⟨q,p0⟩:=ah (y%d);have r2:q<d:=by rw[<-p0];exact SB _ aa
     obtain⟨m1,m3⟩:=ah (m+1);obtain⟨x,i4⟩:=ah (m1+q);obtain⟨k,i8⟩:=ah (x%M);have m4:k<M:=by rw[<-i8];exact SB _ aa
     have r3:=ad (λW (b1:ar wc W)=>QB (i.below b1) (by rw[g5];exact m4:k<g.M) (by have:=i7.out;omega));have e1:QQ.wrap ((M:Int)-1)=((d:Nat):Int):=by rw[show(M:Int)-1=(d:Nat)by omega];go_arith
     have e2:((y:Nat):Int).tmod (d:Nat)=((q:Nat):Int):=by rw[<-p0];exact SK _ _
     have e3:QQ.wrap ((m:Int)+1)=((m1:Nat):Int):=by rw[<-m3];go_arith
     have e4:QQ.wrap ((m1:Int)+(q:Nat))=((x:Nat):Int):=by rw[<-i4];go_arith
     have e5:((x:Nat):Int).tmod (M:Nat)=((k:Nat):Int):=by rw[<-i8];exact SK _ _
     have z1:¬(M:Int)=0:=aa;have K:¬M=0:=aa;have z3:¬(d:Int)=0:=aa;have z4:¬d=0:=aa;have v1:QQ.wrap ((y:Nat):Int)=((y:Nat):Int):=bf;have v2:QQ.wrap ((q:Nat):Int)=((q:Nat):Int):=bf;have v3:QQ.wrap ((k:Nat):Int)=((k:Nat):Int):=bf;go_wp2_with fail;go_quiet(fail);go_wp2_with fail;refine(r3 _ (ct aj _)).mono ?_;rintro e y2 ⟨c8,rfl,z,d4⟩;obtain⟨y3,T,d6,l9,f,b4⟩:=dQ y2 (ao #[aG 0,aU,ae c8] 46);have b3:RH (Fr TP aF t y3/\tz y3 O l S U):=⟨((hcut.out.2.1.then (ct aj _)).tr (z.wide TP rfl)).then f,((hcut.out.2.2.below (ct aj _)).fr z).below f⟩;have g9:=ad (d4.below f);have m5:=ad (xF P G Z g m (some k) V (C1-1000) B 0 g.B y3 g9 (by have:=i7.out;omega) aa);obtain⟨d0,-,d5,d9,-,d14,f1,f2⟩:=g9.cell;have m6:=ad b4;have H:=aA d6 l9;have m7:=d9;rw[<-d6]at m7;go_wp2_with fail
     try simp only[H.out.1,H.out.2]
     go_wp2_with(first|(go_at_call 10;refine m5.mono ?_;rintro e y4 ⟨rfl,v,m8⟩;have b6:RH (Fr TP aF t y4/\tz y4 O l S U/\kS y4 P G Z g m (some k) V (C1-1000-1000) B):=⟨b3.1.tr v,b3.2.fr v,m8⟩;obtain⟨t0,t1,t2⟩:=cr (v.hp m6 rfl);obtain⟨d0,-,d5,d9,-,d14,f1,f2⟩:=b6.2.2.cell;have m9:=ad (PB P G Z g m (some k) V (C1-1000-1000) B O l j0 S U y4 b6.2.2 (by have:=i7.out;omega) b6.2.1 (by have:=j.2.2.1;omega)))|(go_at_call 12;refine m9.mono ?_;rintro e y5 ⟨rfl,n0,V5,d8⟩;have F:RH (Fr TP aF t y5/\kS y5 P G Z g m (some k) V5 (C1-1000-1000-250000) B):=⟨b6.1.tr n0,d8⟩;obtain⟨d0,-,d5,d9,-,d14,f1,f2⟩:=F.2.cell;have n1:=ad (xF P G Z g m (some k) V5 (C1-1000-1000-250000) B 0 g.B y5 F.2 (by have:=i7.out;omega) aa))|(go_at_call 10;refine n1.mono ?_;rintro e y6 ⟨rfl,e0,e6⟩;have n2:RH (Fr TP aF t y6):=F.1.tr e0;obtain⟨d0,-,d5,d9,-,d14,f1,f2⟩:=e6.cell));go_ret;exact⟨rfl,p9 _ n2⟩
    case first=>
     go_wp2_with fail;go_loopw [15] (λb5 wr=>∃k:Nat,k<=g.s/\b5= ae k/\RH (MR P G Z g m (C-40000) B t O l S U k wr)) (λb5 _=>g.s-(intOf b5).toNat)
     case atStart=>exact⟨0,QX _,rfl,l8⟩
     case round=>
      obtain⟨k,i8,rfl,Q⟩:=hrel;obtain⟨g4,t4,n3⟩:=Q.1.OR;obtain⟨d0,d2,d5,d9,d10,d14,g1,g2⟩:=n3.cell;by_cases n:k<g.s
      .have j1:(k:Int)<(g.s:Int):=aa;have X:=ad n;have n4:KZ P G Z g m k (C-40000-300000*k) B wr:=by have h:=Q.1;unfold qB at h;rw[ak n]at h;exact h
       have d7:=j.2.2.2.2.gP;have n5:=ad (Qz n4 j.1 n (by have:=j.2.1;omega));go_wp2_with fail;refine n5.mono ?_;rintro e x4 ⟨a,c,h4,rfl,v,n6,n7⟩;obtain⟨t5,t6,r4,n8⟩:=n7;cases r4;rcases n8 with n8|⟨b,o,r5,r6,rfl,h6,n9⟩
       .cases n8
       obtain⟨x5,r7,b7,h7⟩:=nH x4 (ao #[aG 0,.slice (some (ag b o)) 1 c,ae h4] 46);have h8:x5.cell? (ag b o)=some (.int .u8 ((if k+1=g.s then 1 else 0:Nat):Nat)):=((b7.cell (p:=ag b o) (Z_ h6)).trans (RD _ b o r5 5 r6 h6)).trans (n9 0 aa);have h9:=ad (n6.below b7);have F:RH (Fr TP aF t x5/\tz x5 O l S U):=⟨(Q.2.1.tr (v.wide TP rfl)).then b7,(Q.2.2.fr v).below b7⟩;have o0:=ad (λW (b1:ar x5 W)=>Qy P G Z g m (k+1) _ B O l j0 S U W (h9.below b1) j.1 (by have:=j.2.1;omega) (F.2.below b1) (by have:=j.2.2.1;omega));obtain⟨r8,V5,d8⟩:=h9.OR;obtain⟨d0,d2,d5,d9,d10,d14,g1,g2⟩:=d8.cell;obtain⟨T5,i0⟩:=ah x4.heap.size;rw[i0]at h7;obtain⟨t1,t2,t3⟩:=cr h7;obtain⟨s1,p1⟩:=ah (g.s-1);have e1:QQ.wrap ((g.s:Int)-1)=(s1:Nat):=by rw[show(g.s:Int)-1=(s1:Nat)by omega];go_arith
       have n:=X.out;have e3:QQ.wrap ((k:Int)+1)=((k+1:Nat):Int):=bf;have o1:∀W x6:QL,ar x5 W->Fr TP aF W x6->qB P G Z g m (k+1) (C-40000-300000*k-30000-250000) B x6->RH (MR P G Z g m (C-40000) B t O l S U (k+1) x6):=λW x6 b1 h1 h2=>⟨h2.less aa,(F.1.then b1).tr h1,(F.2.below b1).fr h1⟩;have o2:=ad o1;by_cases J:k+1=g.s
       all_goals first|(rw[ak J]at h8;obtain rfl:k=s1:=aa)|(rw[al J]at h8;have e2:¬(k:Int)=(s1:Nat):=aa)
       all_goals
        go_wp2_with fail;go_quiet(fail);go_wp2_with fail;refine(o0 _ (ct aj _)).mono ?_;rintro e x6 ⟨rfl,e0,i1⟩;have H6:=o2.out _ x6 (ct aj _) e0 i1;obtain⟨r9,V6,e6⟩:=i1.OR;obtain⟨d0,d2,d5,d9,d10,d14,g1,g2⟩:=e6.cell;go_wp2_with fail;exact⟨⟨k+1,X,(by first|rfl|go_num),H6⟩,by have:=X.out;simp[intOf];omega⟩
      .obtain rfl:k=g.s:=aa;have j1:¬(g.s:Int)<(g.s:Int):=aa;go_wp2_with fail;go_meet;exact Q
  case first=>
   go_wp2_with fail;go_loopw [11] (λs5 wr=>∃k:Nat,k<=L/\s5= ae k/\RH (HM P G Z (mQ z0 z1 K) t b0 L A k wr)) (λs5 _=>L-(intOf s5).toNat)
   case atStart=>exact⟨0,QX _,rfl,k9⟩
   case round=>
    obtain⟨k,i8,rfl,Q⟩:=hrel;obtain⟨g4,V,B,E⟩:=Q.1;have o3:=Q.2.1.hp l0 rfl;obtain⟨k0,k1,k2⟩:=cr o3;have l2:L<=200:=N.1;by_cases n:k<L
    .have j1:(k:Int)<(L:Int):=aa;have j2:(0:Int)<=(k:Int):=aa;have I:=Q.2.2.fit k n;obtain⟨b,o,o4,s0,s2⟩:=Q.2.2.l.resolve_left aa;obtain⟨q0,q1,q2,q3,q4⟩:=s2 k n;have i2:=Kc P G Z (mQ z0 z1 K) g4 V (100000000000-250000*k) B (A k).kd (A k).x (A k).y (A k).L (A k).lc (A k).rn (A k).rc (A k).la (A k).ra wr E aa I.u8.1 I.u8.2.1 I.u8.2.2 (A k).bk (A k).fl
      ⟨_,_,rfl,(Q.2.2.aL k n).imp id λ⟨b,o,e,_,q⟩=>⟨b,o,e,q⟩⟩ (N.2 k n) I.bk I.fl
     have a9:=ad i2;have X:=ad n;subst o4;obtain⟨⟨a0,a1,a2,a3,a4,a5,a6,a7,a8,_,_,_⟩,s3⟩:∃y,A k=y:=⟨_,rfl⟩;rw[s3]at q0 q1 q2 q3 q4 a9;dsimp only at q0 q1 q2 q3 q4 a9;go_wp2_with(first|(go_at_call 9;refine a9.mono ?_;rintro e w4 ⟨rfl,v,o5,V4,o6,i3⟩;have H4:RH (HM P G Z (mQ z0 z1 K) t (some (ag b o)) L A (k+1) w4):=⟨⟨o5,V4,o6,i3.less aa⟩,Q.2.1.tr v,Q.2.2.fr v⟩));exact⟨⟨k+1,X,by go_num,H4⟩,by have:=X.out;simp[intOf];omega⟩
    .obtain rfl:k=L:=aa;go_wp2_with fail;go_meet;exact Q
section
open Go.ChangeShapes Go.WideShapes Go.ChangeAt
theorem QD:(Rows.topWholeRow.inPlace==prog.inPlace 4)=true:=aE
theorem QE:(Rows.topWholeRow.unfollowed==prog.unfollowed 4)=true:=aE
theorem QF:(Rows.topWholeRow.recurses==prog.recurses 4)=true:=aE
theorem QG:(Rows.topWholeRow.named==prog.varsNamed 4)=true:=aE
theorem QH:joinedFacts prog 4 Tryz.f4 Rows.topWholeSpec Rows.topWholeRow=true:=by unfold joinedFacts;rw[QD,QE,QF,QG];kernel_rfl
theorem QI:∀t∈Tryz.f4.params.toList,prog.readableRec t=true/\t<prog.types.size:=by rw[params4];intro t a;simp only[UR,List.not_mem_nil,or_false]at a;rcases a with rfl|rfl|rfl|rfl<;>exact⟨aE,of_decide_eq_true aE⟩
theorem QK(O:Os)(f:O.Started)(H:Type)(enc:TI × QN->H):
  ReturnsInHanded {} checked O 4 .any (Rows.topWholeSpec.pre6 enc prog Tryz.f4 Rows.topWholeRow.domain false) (Rows.topWholeSpec.post enc prog Tryz.f4 false true false false):=by
 refine returnsInHanded_of_change_sized (C:=checked) own f aE func4
  (ChangeSpec.witness6 (enc:=enc) (C:=checked) false ⟨#[],#[.agg #[.int .u8 0,.int .u8 0,.int .u8 0,aG 0,.bool false,aU],.int .u8 0,.int .u8 0,aU],[]⟩ 8 aE aE aE aE) ?_
 intro W k d P X o g Q hcnd l _;have b:∀(j:Nat) t v,Tryz.f4.params[j]?=some t->d[j]?=some v->Value.okWide prog W .any k t v:=g;have m:=Q;obtain⟨p,q,w,hV,rfl,Z,fI⟩:=Q;have z:DataW.TrodAll enc prog W 0 (λ_=>true) true Tryz.f4.params.toList d.toList P p:=w;have B:=z;have i:(DataW.weightsEach prog (Tryz.f4.params.toList++ []) (P++X)).all (· <=reachBytes)=true:=l;rw[params4]at z b i;obtain⟨S,N,d0,M,p0,q0,D,rfl,rfl,R,I⟩:=trodAll_cons z;obtain⟨T,Y,d1,J,p1,q1,r,rfl,rfl,E,r1⟩:=trodAll_cons I;obtain⟨U,a0,d2,a1,p2,q2,s,rfl,rfl,F,r2⟩:=trodAll_cons r1;obtain⟨V,a2,d3,a3,p3,q3,u,rfl,rfl,G,r3⟩:=trodAll_cons r2;obtain⟨rfl,rfl,rfl⟩:=trodAll_nil r3;obtain rfl:d= #[S,T,U,V]:=by cases d;simp_all
 obtain⟨rfl,rfl⟩:=trodVars_none hV;obtain⟨z0,z1,z2,a4,a5,a,L,c,A,rfl,i0,i1,i2,i3,i4,i5⟩:=AX (b 0 25 S rfl rfl) R (EI i (j:=0) rfl rfl);obtain⟨_,rfl⟩:=okWide_int UL (b 1 5 T rfl rfl);obtain⟨_,rfl⟩:=okWide_int UL (b 2 5 U rfl rfl);obtain⟨a6,a7,a8,rfl⟩:=okWide_slice underlying31 (b 3 31 V rfl rfl);obtain⟨_,E⟩:=E;obtain⟨_,F⟩:=F;obtain⟨_,G⟩:=G;obtain⟨x,a9,K⟩:=gh E;obtain⟨y,b0,b1⟩:=gh F;obtain⟨_,_,_,b2,b3,b4,j1,j2,j3,j4⟩:=rH G (EI i (j:=3) rfl rfl);cases a9;cases b0;obtain⟨e1,e2,e3⟩:=Value.slice.inj b4;subst e1 e2 e3
 letI:Lo:=⟨W.heap.size⟩
 refine(QC (yc ET) z0 z1 z2 a4 a5 a L c A x y a6 a7 a8 b2 b3 W i0 i1 i2 i3 K b1 i5 i4 ⟨j2,j3,j4,QP _⟩ j1 (QP _)).mono λe b6 ⟨b5,n⟩=>?_;subst b5;exact⟨_,rfl,_,_,_,[],_,[],m,trodAll_mk1 (shut_bool underlying4 _),vK ZU n _ _ _ _ QI B (λx K=>m.lt x (TV.2 (.inl K))),rfl,n.frame _,λh=>by cases h⟩
theorem provedW:Rows.TopWholeSaid:=
 OpenClaim.holds_of_wide 4 Tryz.f4 rfl rfl rfl rfl rfl rfl rfl ⟨rfl,rfl,rfl,rfl,rfl⟩ rfl rfl rfl rfl rfl aE func4 QH
  (of_decide_eq_true aE) (by unfold Func.isWrapper;first|(rw[ak (by decide+kernel)];kernel_rfl)|(rw[al (by decide+kernel)];exact⟨rfl,rfl⟩))
  (λc a H b _=>QK c a H b)
end
end Go.Proofs.YtbimjlmclegaeaaGreat
