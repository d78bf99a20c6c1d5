/- TopHole: a batch under way, the power gone, a member taken out in the dark: every block reads as ahead or as behind; part 6 of 6. Conditions: none. -/
import Derived.Test.YtbimjlmclegaeaaGreatH4
namespace Go.Proofs.YtbimjlmclegaeaaGreat
set_option linter.all false
set_option maxRecDepth 1000000
set_option maxHeartbeats 8000000
open Go.RowKit Go.Proofs.Tryz
open Go renaming World->QA,World->M,heap_alloc_new->QB,Value->QC,Value->H,cell_of_row->QS,Ending->RV,info_parts->SB,TypeId->SQ,Addr->SR,maxLen->UE
open Nat renaming le_trans->QD,le_refl->QE,zero_le->QO,zero_add->RE,mod_lt->SC,le_of_lt->TF,ne_of_lt->WL
open Go.IntKind renaming i64->QG
open Go.RowKit renaming Hid->QX,Below->SK
open Go.Value renaming slice->RR
open Go.World renaming ownsRow_nil->SD
open Go.RowKit.Below renaming refl->SU
open List renaming getElem?_take->SX,mem_append->TH,mem_cons->UH,nil_append->UN
open Go.Proofs.Tryz renaming underlying5->UA
open Int renaming ofNat_tmod->VL
variable {w W z:World}{n m k i j r C:Nat}{c:Int}{v x y:Value}{T:List Nat}{p:Addr}{P:Option Addr}{A:Array Value}{d:Bool}{S Q X:Nat->Prop}{t:TypeId}{L:List Value}{O:Obj}{f:aN}{F:dp}{g:aA}{K:bq}{l:List Pt}{D:Dk}{U:Dv}{b:By}{o:Ro}{s:Rs}{u:Su}
section
abbrev HL(G:Nat)(g:aA)(Z:bm)(wv bv uv:H)(a:Int)(b:Bool):Array H:= #[Y g.M,Y g.c,Y g.s,Y Z.N,.bool Z.lz,ar G,wv,bv,uv,Y g.B,Y (-1),.bool false,.bool true,.int .u16 a,.bool b]
def Bs(w:M)(g:aA)(v:H)(V:cp):Prop:=cA w v (g.B*128) (dF (cR g V))/\BN v
variable [Lo] {P G:Nat} {Z:bm} {g:aA} {V Vp:cp} {C:Nat} {s:Rs} {sq:Nat} {L:List bW} {Vs:cp->Prop} {w w':QA} {wv bv uv:QC}
theorem Bs.fr{T:List Nat}{v:H}(h:Bs w g v V)(a:Fr T aG w w')(b:T.contains 5=false):Bs w' g v V:=⟨h.1.fr a b,h.2⟩
structure wb(w:M)(P G:Nat)(Z:bm)(g:aA)(V:cp)(C:Nat)(s:Rs)(sq:Nat)(L:List bW)(Vp:cp)(wv bv:H):Prop where
 aM:∃la,w.heap[P]? =some (N (HL G g Z wv bv aO la false) 44)
 wh:Bs w g wv V
 bf:bv= aO\/∃X,Bs w g bv X
 bp:s.x.sure=false->Bs w g bv Vp/\tD g Vp
 iw:bX w G Z g
 int:ky w Z g V C s sq L Vp
 lo:Lo.lo<=P
structure qd(w:M)(P G:Nat)(Z:bm)(g:aA)(Vs:cp->Prop)(wv bv uv:H)(dd:Bool):Prop where
 aM:∃la,w.heap[P]? =some (ao (HL G g Z wv bv uv la dd) 44)
 wh:∃X,Bs w g wv X
 bf:bv= aO\/∃X,Bs w g bv X
 un:uv= aO\/∃ub c av,uv= a' ub 1 c/\(∃cs fr,w.heap[ub]? =some (.cells cs 41 fr)/\cs[0]? =some av)/\∃X,Bs w g av X
 any:∀X,Vs X->tD g X/\(Bs w g wv X\/Bs w g bv X\/∃ub c av,uv= a' ub 1 c/\(∃cs fr,w.heap[ub]? =some (.cells cs 41 fr)/\cs[0]? =some av)/\Bs w g av X)
 iw:bX w G Z g
 cJ:g.ok
 kQ:5<=Z.N/\Z.N<=2048
 lo:Lo.lo<=P
def Qi(w:M)(P G:Nat)(Z:bm)(g:aA)(C:Nat)(a:Prop)(w':M):Prop:=
 (∃V s sq L Vp wv bv,wb w' P G Z g V (C-250000) s sq L Vp wv bv/\(a->s.b.aW=none))\/(¬a/\∃Vs wv bv uv,qd w' P G Z g Vs wv bv uv true/\qE w' Z g Vs)
theorem wb.pP(a:Fr [44] aG w w')(c:∃d,w'.heap[P]?=some (N (HL G g Z wv bv aO d false) 44))(f:Bs w g wv V)(i:bv= aO\/∃X,Bs w g bv X)(b:s.x.sure=false->Bs w g bv Vp/\tD g Vp)(j:bX w G Z g)(k:ky w Z g V C s sq L Vp)(l:Lo.lo<=P):wb w' P G Z g V C s sq L Vp wv bv:=
 ⟨c,f.fr a rfl,i.imp id λ⟨X,h⟩=>⟨X,h.fr a rfl⟩,λe=>⟨(b e).1.fr a rfl,(b e).2⟩,a.hp j rfl,k.fr a rfl,l⟩
theorem zK(e5:QC)(a7:Nat)(bk d8:aN)(w:QA)(h:wb w P G Z g V C s sq L Vp wv bv)(h8:1000000<=C)(g7:Ba w e5 a7 bk d8)(h9:a7<=20000)(b8:∀i,i<a7->bk i<65536)(b9:∀i,i<a7->d8 i<256):
  aF 12 #[ar P,e5] w λe w'=>aL e ec/\Fr TP aG w w'/\Qi w P G Z g C (s.b.aW=none) w':=by
 have J:=h.int;have c0:=J.fit.cJ;have c1:=J.low;obtain⟨i0,d9⟩:=h.aM;have a6:tD g V:=h.int.cx.gt.gd.par;have c2:KD w P G g Z.N Z.lz (cR g V) (-1) false:=⟨wv,bv,aO,i0,d9,h.wh.1,h.wh.2⟩;have a0:=ad (λW (b6:aq w W)=>zi P G g Z.N Z.lz (cR g V) (-1) false e5 a7 bk d8 W (c2.fr (T:= []) (Fr.af b6) rfl rfl) c0 (by obtain⟨a,c3,rfl,q⟩:=g7;refine⟨a,c3,rfl,q.imp id ?_⟩;rintro⟨b,o,q1,q3⟩;exact⟨b,o,q1,λi A=>⟨(Out.af (S:=λ_=>False) b6).cell (q3 i A).1 id,(Out.af (S:=λ_=>False) b6).cell (q3 i A).2 id⟩⟩) h9 b8);obtain⟨c4,g8⟩:=vw (L:=a7) (bk:=bk) c0 b9;obtain⟨U,e6⟩:=ah (cu g a7 bk d8);rw[e6]at a0 c4 g8;rw[mV c0 c4]at a0;obtain⟨a8,a1⟩:=ah (U.c_ g);obtain⟨N,a9⟩:=ah Z.N;have i1:=ad (λW pv (b6:aq w W) (e7:fj W pv U)=>Ku (Vs:=λX=>X=V\/(s.x.sure=false/\X=Vp)\/X=U.fQ g V) ((b6.block _ (Z_ h.iw)).trans h.iw) (J.below b6) h8 c4 aa e7 (.inl rfl) (λe=>.inr (.inl ⟨e,rfl⟩)) (.inr (.inr rfl)));rw[a1]at a0;have g9:a8<=100000:=by have h1:=lV g U U.n g8;rw[mV c0 c4,a1]at h1;omega
 obtain⟨e8,wc,rfl,i2⟩:=h.wh.1;have d:=f' d9 h c1 c0 c4 a6;obtain⟨p1,p2,p3⟩:=cr d9;have e9:=aB a1 a9;unfold HL at p1;rw[a9]at p1;clear d9 h J g7 b9 b8 c1 i2 a1 a9 c2 a6;go_enter func12,ntmps12;go_wp2_with(first
  |(go_at_call 23;refine(a0 _ (by first|exact aj|exact cK aj _)).mono ?_;rintro e w1 ⟨pv,i9,rfl,h1,h2,h3,h4⟩
    obtain⟨j0,j1,rfl⟩:∃a c,pv=.slice a U.n c:=by obtain⟨a,c,q,_⟩:=h1;exact⟨a,c,q⟩
    obtain⟨D,E,rfl⟩:=h2.form;obtain⟨k1,k2,k3⟩:=kp h3 P p3;have H1:=aY h1 h2 h3 h4;clear h1 h2 h3 h4))
 refine(i1 w1 _ H1.2.2.1 H1.1).mono ?_;rintro e m ⟨b7,f,rfl,a2,c5⟩;have a3:=a2.hp ((H1.2.2.1.block _ (Z_ d.1)).trans d.1) rfl;have H:aq m (m.alloc (ao #[.int .u16 b7,aO,ae f] 46)):=aK aj _;have b0:=QB m (ao #[.int .u16 b7,aO,ae f] 46);have b1:=(H.block _ (Z_ a3)).trans a3;have K:=((Fr.af (T:=eG) H1.2.2.1).tr a2).then H;have b2:=c5.fr (T:= []) (Fr.af H) rfl rfl;have f0:¬P=m.heap.size:=WL (Z_ a3);have i3:¬m.heap.size=P:=Ne.symm f0;have O:cA _ (.slice D (g.B*128) E) (g.B*128) _:=H1.2.1.fr (a2.then H) rfl;rw[show hW U (cR g V) U.n=cR g (U.fQ g V)from funext λb=>(sQ d.2.2.2.1 U V b).symm]at O;have y:QX (Bs (m.alloc (ao #[.int .u16 b7,aO,ae f] 46)) g (.slice D (g.B*128) E) (U.fQ g V)):=⟨O,H1.2.2.2⟩;obtain⟨t1,t2,t3⟩:=cr b0;obtain⟨q1,q2,q3⟩:=cr b1;unfold HL at q1;rw[e9.2]at q1;have n:=aY b1 K b0 ((K.hp d.2.1.iw rfl:bX _ G Z g));have r:QX (Bs (m.alloc (ao #[.int .u16 b7,aO,ae f] 46)) g (.slice e8 (g.B*128) wc) V):=d.2.1.wh.fr K rfl;have z:QX (bv= aO\/∃X,Bs (m.alloc (ao #[.int .u16 b7,aO,ae f] 46)) g bv X):=d.2.1.bf.imp id λ⟨X,h⟩=>⟨X,h.fr K rfl⟩;have t:QX (s.x.sure=false->Bs (m.alloc (ao #[.int .u16 b7,aO,ae f] 46)) g bv Vp/\tD g Vp):=λe=>⟨(d.2.1.bp e).1.fr K rfl,(d.2.1.bp e).2⟩;have c6:∀x:Nat,2*a8+1<=x↔((2*(a8:Int)+1<=(x:Int))):=λx=>aa;have i4:=ad c6;clear k1 k2 a2 c5 H b0 b1 K O a3 c6;unfold zJ at b2;rw[e9.1,e9.2]at b2;rcases b2 with⟨rfl,c7,A⟩|⟨M,⟨rfl,f6,A⟩|⟨rfl,e_,h0,c8,h5,c9,A,d0,R⟩|⟨rfl,e_,R,f7⟩⟩
 .simp only[show((122:Nat):Int)=122 from rfl]at t1 t2 t3 q1 q2 q3 y n r z t A;have b3:=ad A;have d1:decide (2*(a8:Int)+1<=(N:Int))=false:=aS;clear c7 A;rw[d1];go_wp2_with fail;go_ret;have d3:=(Fr.refl [44] aG _).set (p:=⟨P,13,none⟩) n.1 rfl d.2.1.lo (aH 122);exact⟨rfl,(n.2.1.wide TP rfl).tr (d3.wide TP rfl),.inl ⟨V,s,sq,L,Vp,_,bv,wb.pP d3 ⟨122,heap_setCell_same _ P 13 _ 44 _ n.1⟩ r z t n.2.2.2 b3 d.2.1.lo,id⟩⟩
 .simp only[show((0:Nat):Int)=0 from rfl]at t1 t2 t3 q1 q2 q3 y n r z t A;have b3:=ad A;have d1:decide (2*(a8:Int)+1<=(N:Int))=true:=aS;clear M A;rw[d1,f6];go_wp2_with fail;go_ret;have d3:=(Fr.refl [44] aG _).set (p:=⟨P,13,none⟩) n.1 rfl d.2.1.lo (aH 0);exact⟨rfl,(n.2.1.wide TP rfl).tr (d3.wide TP rfl),.inl ⟨V,s,sq,L,Vp,_,bv,wb.pP d3 ⟨0,heap_setCell_same _ P 13 _ 44 _ n.1⟩ r z t n.2.2.2 b3 d.2.1.lo,id⟩⟩
 .simp only[show((0:Nat):Int)=0 from rfl]at t1 t2 t3 q1 q2 q3 y n r z t A;have b3:=ad A;have b4:=aB d0 R;have d1:decide (2*(a8:Int)+1<=(N:Int))=true:=aS;have d2:decide ((0:Int)<(U.n:Nat))=true:=aS;have x1:=heap_setCell_same _ P 13 _ 44 (aH 0) n.1;have f1:=(Fr.refl [44] aG _).set (p:=⟨P,13,none⟩) n.1 rfl d.2.1.lo (aH 0);have x2:=heap_setCell_same _ P 7 _ 44 aO x1;have f2:=f1.set (p:=⟨P,7,none⟩) x1 rfl d.2.1.lo aO;have Y:=aB x2 f2;clear x1 f1 x2 f2 M A d0 R;rw[d1];obtain⟨i5,b5⟩:=ah Z.lz;rw[b5]at q1;have f8:=ad b5;clear b5;cases i5
  .go_wp2_with fail;go_ret;have x3:=heap_setCell_same _ P 6 _ 44 (.slice D (g.B*128) E) Y.1;have f3:=Y.2.set (p:=⟨P,6,none⟩) Y.1 rfl d.2.1.lo (.slice D (g.B*128) E);exact⟨rfl,(n.2.1.wide TP rfl).tr (f3.wide TP rfl),.inl ⟨_,h0,c8,h5,c9,_,_,wb.pP f3 ⟨0,x3⟩ y (.inl rfl) (λe=>by rw[b3.sure f8.out]at e;cases e) n.2.2.2 b3 d.2.1.lo,b4.2⟩⟩
  .go_wp2_with fail;go_ret;have x3:=heap_setCell_same _ P 7 _ 44 (.slice e8 (g.B*128) wc) Y.1;have f3:=Y.2.set (p:=⟨P,7,none⟩) Y.1 rfl d.2.1.lo (.slice e8 (g.B*128) wc);have x4:=heap_setCell_same _ P 6 _ 44 (.slice D (g.B*128) E) x3;have f4:=f3.set (p:=⟨P,6,none⟩) x3 rfl d.2.1.lo (.slice D (g.B*128) E);exact⟨rfl,(n.2.1.wide TP rfl).tr (f4.wide TP rfl),.inl ⟨_,h0,c8,h5,c9,_,_,wb.pP f4 ⟨0,x4⟩ y (.inr ⟨V,r⟩) (λe=>by rw[b4.1 e];exact⟨r,d.2.2.2.2.2⟩) n.2.2.2 b3 d.2.1.lo,b4.2⟩⟩
 .simp only[show((50:Nat):Int)=50 from rfl]at t1 t2 t3 q1 q2 q3 y n r z t f7;have h6:=aB R f7;have d1:decide (2*(a8:Int)+1<=(N:Int))=true:=aS;have x1:=heap_setCell_same _ P 13 _ 44 (aH 50) n.1;have f1:=(Fr.refl [44] aG _).set (p:=⟨P,13,none⟩) n.1 rfl d.2.1.lo (aH 50);obtain⟨f9,g0,z41,g1,g2⟩:=SB oM;have Y:=aB x1 f1;clear x1 f1 M f7 R;rw[d1];obtain⟨w4,a4⟩:=ah ((m.alloc (ao #[aH 50,aO,ae f] 46)).setCell ⟨P,13,none⟩ (aH 50));have d4:QX (∀j u,[RR D (g.B*128) E][j]?=some u->(w4.alloc (ao #[.slice D (g.B*128) E] 41)).cell? ((⟨m.heap.size+1,0,none⟩:SR).add j)=some u):=λj u h7=>by
   obtain⟨rfl,rfl⟩:j=0/\RR D (g.B*128) E=u:=by
    cases j with
    |zero=>exact⟨rfl,by simpa using h7⟩
    |succ j=>simp at h7
   have g3:w4.heap.size=m.heap.size+1:=by rw[<-a4];simp
   have:=(cr (QB w4 (ao #[.slice D (g.B*128) E] 41))).1 0;rw[g3]at this;exact this
  rw[<-a4]at d4;have i6:=ad a4;clear a4;go_wp2_with(first
   |(at_builtin;refine aU _ rfl _ _ 42 rfl m.heap.size 41 f9 aO 1 24 underlying42 g0 z41 g1 g2 rfl ai aO 0 [] rfl (SD _ _ _ _) ⟨_,0,none⟩ 1 _ [.slice D (g.B*128) E] rfl rfl d4 (by intro u e0;simp at e0;subst e0;rfl) aa (by unfold UE;omega) aa aS ?_;intro j2 w5 I B
     simp only[RE,UN]at I B;have d5:=B.below aj (QE _) (λk i7=>by cases i7);obtain⟨⟨e3,rfl⟩,-⟩:=B.resolve_left (by rintro⟨j3,j4,e,-⟩;cases e);have v:SK (((m.alloc (ao #[aH 50,aO,ae f] 46)).setCell ⟨P,13,none⟩ (aH 50))).heap.size (((m.alloc (ao #[aH 50,aO,ae f] 46)).setCell ⟨P,13,none⟩ (aH 50))) w5:=(aK aj _:SK (((m.alloc (ao #[aH 50,aO,ae f] 46)).setCell ⟨P,13,none⟩ (aH 50))).heap.size (((m.alloc (ao #[aH 50,aO,ae f] 46)).setCell ⟨P,13,none⟩ (aH 50))) ((((m.alloc (ao #[aH 50,aO,ae f] 46)).setCell ⟨P,13,none⟩ (aH 50))).alloc (ao #[.slice D (g.B*128) E] 41))).trans (d5.mono aJ);have Q:=(v.block P (Z_ Y.1)).trans Y.1;have g4:=aT I v Q;obtain⟨r1,r2,r3⟩:=cr Q;clear I B d5 v Q))
  go_ret;obtain⟨Fq,v,Q⟩:=g4.out;have x5:=heap_setCell_same w5 P 8 _ 44 (.slice (some ⟨m.heap.size+1+1,0,none⟩) 1 e3) Q;have x6:=heap_setCell_same _ P 14 _ 44 ec x5;have f5:=((Fr.refl [44] aG w5).set (p:=⟨P,8,none⟩) Q rfl d.2.1.lo (.slice (some ⟨m.heap.size+1+1,0,none⟩) 1 e3)).set (p:=⟨P,14,none⟩) x5 rfl d.2.1.lo ec;have F:=(Y.2.then v).tr f5;obtain⟨-,wg⟩:=Fq;have e0:∃d6 e4,w5.heap[m.heap.size+1+1]?=some (.cells d6 41 e4)/\d6[0]?=some (RR D (g.B*128) E):=by
   rcases wg with⟨e,-⟩|⟨i8,c3,g5,e,-,a5,-,-,-,g6⟩
   .simp at e
   .simp at e;obtain⟨e1,-⟩:=e;have e2:i8=m.heap.size+1+1:=aa;subst e2;refine⟨g5,_,a5,?_⟩;have:=congrArg (λl=>l[0]?) g6;simpa[SX]using this
  obtain⟨d6,e4,a5,d7⟩:=e0;have O:=y.fr F rfl;refine⟨rfl,(n.2.1.wide TP rfl).tr (F.wide TP rfl),.inr ⟨h6.1,_,_,bv,_,⟨⟨50,x6⟩,⟨V,r.fr F rfl⟩,z.imp id λ⟨X,h⟩=>⟨X,h.fr F rfl⟩,.inr ⟨_,e3,_,rfl,⟨d6,e4,f5.hp a5 rfl,d7⟩,_,O⟩,?_,F.hp n.2.2.2 rfl,d.2.2.2.1,d.2.1.int.kQ,d.2.1.lo⟩,h6.2.fr F rfl⟩⟩;rintro X (rfl|⟨e,rfl⟩|rfl)
  .exact ⟨d.2.2.2.2.2,.inl (r.fr F rfl)⟩
  .exact ⟨(t e).2,.inr (.inl ((t e).1.fr F rfl))⟩
  .exact ⟨bq.rV d.2.2.2.1 d.2.2.2.2.1 d.2.2.2.2.2,.inr (.inr ⟨_,e3,_,rfl,⟨d6,e4,f5.hp a5 rfl,d7⟩,O⟩)⟩
end
section
theorem cA.some{w:M}{v:H}{n:Nat}{f:aN}(h:cA w v n f)(e:0<n):∃b o c,v=.slice (some (R b o)) n c:=by
 obtain⟨a,c,rfl,h⟩:=h;rcases h with h|⟨b,o,i,j,d,-,-⟩
 .omega
 .exact ⟨b,o,c,by rw[d]⟩
theorem qe{w:M}{b v:H}{n:Nat}{f h:aN}(c:cA w b n f)(d:cA w v n h)(i:n<=140737488351232)(W:M)(a:aq w W):aF 18 #[b,v] W λe w'=>aL e (.bool (ll n n f h))/\aq w w':=
 (wF _ _ _ _ _ _ W (c.below a).wj (d.below a).wj i).mono λ_ _ ⟨j,k⟩=>⟨j,via a k⟩
structure HM(w:M)(g:aA)(V:cp)(wv bv uv:H)(f1 f2 f3:aN):Prop where
 wh:cA w wv (g.B*128) f1
 bf:bv= aO\/∃b o c,bv= .slice (some (R b o)) (g.B*128) c/\cA w bv (g.B*128) f2
 un:uv= aO\/∃ub c av,uv= a' ub 1 c/\(∃cs fr,w.heap[ub]? =some (.cells cs 41 fr)/\cs[0]? =some av)/\cA w av (g.B*128) f3
 any:ll (g.B*128) (g.B*128) (dF (cR g V)) f1=true\/(¬bv= aO/\ll (g.B*128) (g.B*128) (dF (cR g V)) f2=true)\/(¬uv= aO/\ll (g.B*128) (g.B*128) (dF (cR g V)) f3=true)
variable [Lo] {P G:Nat} {Z:bm} {g:aA} {V:cp} {C:Nat} {s:Rs} {u:Su} {Vs:cp->Prop} {w w':QA} {wv bv uv:QC} {dd:Bool} {aw:Option Nat} {f1 f2 f3:aN}
theorem HM.fr{T:List Nat}(h:HM w g V wv bv uv f1 f2 f3)(a:Fr T aG w w')(d:T.contains 5=false)(f:T.contains 41=false):HM w' g V wv bv uv f1 f2 f3:=
 ⟨h.wh.fr a d,h.bf.imp id λ⟨b,o,c,e,q⟩=>⟨b,o,c,e,q.fr a d⟩,h.un.imp id λ⟨i,c,j,e,⟨k,l,m,n⟩,q⟩=>⟨i,c,j,e,⟨k,l,a.hp m f,n⟩,q.fr a d⟩,h.any⟩
theorem qd.OL(h:qd w P G Z g Vs wv bv uv dd)(hV:Vs V):∃f1 f2 f3,HM w g V wv bv uv f1 f2 f3:=by
 have l:0<g.B*128:=by have:=aA.Eu h.cJ;omega
 obtain⟨v,m⟩:=h.wh;have i:∃f,bv= aO\/∃b o c,bv=.slice (some (R b o)) (g.B*128) c/\cA w bv (g.B*128) f:=by
  rcases h.bf with e|⟨X,q⟩
  .exact ⟨λ_=>0,.inl e⟩
  .obtain ⟨b,o,c,e⟩:=q.1.some l;exact⟨_,.inr ⟨b,o,c,e,q.1⟩⟩
 have j:∃f,uv= aO\/∃a c d,uv= a' a 1 c/\(∃n t,aX w a (.cells n 41 t)/\n[0]?=some d)/\cA w d (g.B*128) f:=by
  rcases h.un with e|⟨a,c,d,e,k,X,q⟩
  .exact ⟨λ_=>0,.inl e⟩
  .exact ⟨_,.inr ⟨a,c,d,e,k,q.1⟩⟩
 obtain⟨p,i⟩:=i;obtain⟨r,j⟩:=j;rcases(h.any V hV).2 with q|q|⟨a,c,d,e,k,q⟩
 .exact ⟨_,p,r,q.1,i,j,.inl (fD λ_ _=>rfl)⟩
 .obtain ⟨b,o,c,e⟩:=q.1.some l;exact⟨_,_,r,m.1,.inr ⟨b,o,c,e,q.1⟩,j,.inr (.inl ⟨by rw[e];simp,fD λ_ _=>rfl⟩)⟩
 .exact ⟨_,p,_,m.1,i,.inr ⟨a,c,d,e,k,q.1⟩,.inr (.inr ⟨by rw[e];simp,fD λ_ _=>rfl⟩)⟩
theorem yn{a:M}{b:H}{h:Int}(i:bX a G Z g)(j:Inv a Z g aw V C s u)(d:aX a P (N (HL G g Z wv bv uv h false) 44))(k:cA a b (g.B*128) (dF (cR g V)))(l:BN b)(c:Lo.lo<=P):
  Fr [44] aG a (((a.setCell (R P 6) b).setCell (R P 7) aO).setCell (R P 8) aO)/\nF (((a.setCell (R P 6) b).setCell (R P 7) aO).setCell (R P 8) aO) P G Z g (-1) aw V C false:=by
 have e:=heap_setCell_same _ P 6 _ 44 b d;have f1:=(Fr.refl [44] aG a).set (p:=R P 6) d rfl c b;have f:=heap_setCell_same _ P 7 _ 44 aO e;have f2:=f1.set (p:=R P 7) e rfl c aO;have m:=heap_setCell_same _ P 8 _ 44 aO f;have f3:=f2.set (p:=R P 8) f rfl c aO;exact⟨f3,qB.pP i ⟨s,u,j⟩ f3 m k l c⟩
theorem yo(h:qd w P G Z g Vs wv bv uv dd)(B:Inv w Z g aw V C s u)(hV:Vs V)(d8:1000<=C):
  aF 25 #[ar P,aH 0] w λe w'=>aL e ec/\Fr TP aG w w'/\nF w' P G Z g (-1) aw V (C-1000) false:=by
 obtain⟨f1,f2,f3,b8⟩:=h.OL hV;obtain⟨d9,b5⟩:=h.aM;have D:=h.lo;have t:g.B*128<=140737488351232:=by have:=aA.JM h.cJ;omega
 obtain⟨d1,d2,rfl,-⟩:=b8.wh;have x1:=heap_setCell_same _ P 12 _ 44 ec b5;have g1:=(Fr.refl [44] aG w).set (p:=⟨P,12,none⟩) b5 rfl D ec;have x2:=heap_setCell_same _ P 14 _ 44 iL x1;have g2:=g1.set (p:=⟨P,14,none⟩) x1 rfl D iL;obtain⟨E,a0⟩:=ah ((w.setCell ⟨P,12,none⟩ ec).setCell ⟨P,14,none⟩ iL);rw[a0]at x2 g2;have a1:E.heap[P]?=some (ao (HL G g Z (.slice d1 (g.B*128) d2) bv uv d9 false) 44):=x2;have S:=g2.hp h.iw rfl;have a9:=B.fr g2 rfl;have f:=ad (λW (a8:aq E W)=>(xL (k:=0) (n:=g.B) ((a8.block _ (Z_ S)).trans S) (a9.below a8) d8 aa).mono λe w' b6=>show∃a c l,aL e (dw 0 (.slice a (g.B*128) c) l)/\Fr eG aG W w'/\Fr eG aG E w'/\(cA w' (.slice a (g.B*128) c) (g.B*128) (dF (cR g V))/\g.B*128<=c)/\∃s u,Inv w' Z g aw V (C-1000) s u from by obtain⟨a,c,l,q1,q2,q3,q4⟩:=b6;simp only[RE]at q3;exact⟨a,c,l,q1,q2,(Fr.af a8).tr q2,q3,q4⟩);have q0:=cr b5;have q5:w.cell? ⟨P,5,none⟩=some (ar G):=q0.1 5;obtain⟨p1,p2,p3⟩:=q0;have y0:=cr a1;have y5:E.cell? ⟨P,5,none⟩=some (ar G):=y0.1 5;have y9:E.cell? ⟨P,9,none⟩=some (ae g.B):=y0.1 9;have y2:=y0.2.1;have y3:=y0.2.2;have Q:=f' a1 S g2 D (b8.fr g2 rfl rfl) (QD D (TF y3));have b9:=ad t;have c5:=ad a0;clear b5 x1 g1 x2 g2 h B b8 D t a1 S a9 a0 y0 q5;go_enter func25,ntmps25;go_wp2_with fail;rw[c5.out];clear p1 p2 p3;go_cut [5] (λs5 b7=>∃(T:Nat) (v:Option SR) (c:Nat) (l:Int),s5= ar T/\QX (E.heap.size<=T/\b7.heap[T]?=some (ao #[.int .u16 (0:Nat),.slice v (g.B*128) c,ae l] 46)/\Fr eG aG E b7/\(cA b7 (.slice v (g.B*128) c) (g.B*128) (dF (cR g V))/\g.B*128<=c)/\∃s u,Inv b7 Z g aw V (C-1000) s u))
 case first=>
  go_region_held3(λw'=>w'.cell? ⟨P,5,none⟩=some (ar G)/\w'.cell? ⟨P,9,none⟩=some (ae g.B)) ((simp[*,go_sem];done)) (first
   |(go_at_call 11;refine(f _ (by first|exact aj|exact cK aj _|go_grown)).mono ?_;rintro e w2 ⟨v,c,l,rfl,d3,a2,a8,B⟩
     (try(have h7:=d3.hp (QB E z46) rfl;obtain⟨c7,f7,z7⟩:=cr h7;have H7:=ad h7;clear h7))
     have c0:=cr (a2.hp Q.1 rfl);have c1:w2.cell? ⟨P,5,none⟩=some (ar G):=c0.1 5;have c2:w2.cell? ⟨P,9,none⟩=some (ae g.B):=c0.1 9;have c3:=c0.2.1;have c4:=c0.2.2;have U:=aT a2 a8 B;clear d3 a2 a8 B c0))
  all_goals go_wp2
  all_goals go_meet
  all_goals first
   |exact⟨_,v,c,l,rfl,QE _,(gv H7 Q.2.2.2.2.2 0 (.slice v (g.B*128) c) l).1,((U.1.new (p:=⟨E.heap.size,0,none⟩) (QE _) _).new (p:=⟨E.heap.size,1,none⟩) (QE _) _).new (p:=⟨E.heap.size,2,none⟩) (QE _) _,⟨U.2.1.1.fr (gv H7 Q.2.2.2.2.2 0 (.slice v (g.B*128) c) l).2 rfl,U.2.1.2⟩,by obtain⟨s,u,B⟩:=U.2.2;exact⟨s,u,B.fr (gv H7 Q.2.2.2.2.2 0 (.slice v (g.B*128) c) l).2 rfl⟩⟩
   |exact⟨_,v,c,l,rfl,U.1.size,QB _ _,U.1.then (aK aj _),⟨U.2.1.1.below (aK aj _),U.2.1.2⟩,by obtain⟨s,u,B⟩:=U.2.2;exact⟨s,u,B.below (aK aj _)⟩⟩
 case rest=>
  rename_i e0;refine e0 _ _ ?_;obtain⟨T,v,c,l,rfl,x⟩:=hcut;have F:=x.2.2.1.hp Q.1 rfl;have c6:=gU F x.2.1 ai;have d4:=Ne.symm c6;obtain⟨t1,t2,t3⟩:=cr x.2.1;obtain⟨r1,r2,z⟩:=cr F;unfold HL at r1;have j:=ad (λc8 (K:aq wc c8)=>show Fr TP aG w (((c8.setCell ⟨P,6,none⟩ (.slice v (g.B*128) c)).setCell ⟨P,7,none⟩ aO).setCell ⟨P,8,none⟩ aO)/\nF (((c8.setCell ⟨P,6,none⟩ (.slice v (g.B*128) c)).setCell ⟨P,7,none⟩ aO).setCell ⟨P,8,none⟩ aO) P G Z g (-1) aw V (C-1000) false from by obtain⟨s,u,B⟩:=x.2.2.2.2;obtain⟨e4,e5⟩:=yn ((K.block _ (Z_ (x.2.2.1.hp Q.2.1 rfl))).trans (x.2.2.1.hp Q.2.1 rfl)) (B.below K) ((K.block _ (Z_ F)).trans F) (x.2.2.2.1.1.below K) x.2.2.2.1.2 Q.2.2.2.1;exact⟨(((Q.2.2.1.wide TP rfl).tr (x.2.2.1.wide TP rfl)).then K).tr (e4.wide TP rfl),e5⟩);obtain⟨b0,c9,b1,d⟩:=Q.2.2.2.2.1.fr x.2.2.1 rfl rfl;have t:=b9.out;have b2:=ad (qe x.2.2.2.1.1 b0 t);obtain⟨e1,b3⟩:=ah (ll (g.B*128) (g.B*128) (dF (cR g V)) f1);rw[b3]at b2 d;clear F b0 b3;go_wp2_with fail;go_region_held3(λw'=>w'.cell? ⟨T,1,none⟩=some (.slice v (g.B*128) c)/\w'.cell? ⟨P,6,none⟩=some (.slice d1 (g.B*128) d2)) ((simp[*,go_sem];done)) (first|(go_at_call 18;refine(b2 _ (by first|exact aj|exact cK aj _)).mono ?_;rintro e w4 ⟨rfl,X⟩;obtain⟨k1,k2,k3⟩:=kp X P z;obtain⟨k4,k5,k6⟩:=kp X T t3;have H:=ad X;clear X));rcases c9 with rfl|⟨d5,d6,d7,rfl,N⟩
  .rcases b1 with rfl|⟨A,d0,e6,rfl,⟨e7,e8,y,a3⟩,r⟩
   .cases e1
    .simp at d
    .clear d;go_wp2_with fail;go_loopw [6,7] (λb i wr=>b=.bool true/\i= ae 0/\QX (aq wc wr)) (λ_ _ _=>0)
     case atStart=>exact⟨rfl,rfl,via (H) (by first|exact aj|go_grown)⟩
     case round=>obtain⟨rfl,rfl,f⟩:=hrel;obtain⟨M,R,I⟩:=kp f P z;obtain⟨Y,J,m6⟩:=kp f T t3;go_wp2;go_ret;exact⟨rfl,j _ (f)⟩
   .obtain ⟨a4,a5,rfl,r⟩:=r;have L:=ad (qe x.2.2.2.1.1 ⟨a4,a5,rfl,r⟩ t);have v3:=Z_ y;have v4:wc.cell? ⟨A,0,none⟩=some (.slice a4 (g.B*128) a5):=(QS _ _ 0 _ _ _ y).trans a3;clear y r;obtain⟨n7,n8,n9⟩:=kp H A v3;obtain⟨e3,a6⟩:=ah (ll (g.B*128) (g.B*128) (dF (cR g V)) f3);rw[a6]at L d;cases e1
    .obtain rfl:e3=true:=by simpa using d
     clear d;go_wp2_with fail;go_loopw [6,7] (λb i wr=>(b=.bool false/\i= ae 0/\QX (wr=w4))\/(b=.bool true/\i= ae 1/\QX (aq wc wr))) (λ_ i _=>1-(intOf i).toNat)
     case atStart=>exact .inl ⟨rfl,rfl,rfl⟩
     case round=>
      rcases hrel with⟨rfl,rfl,f⟩|⟨rfl,rfl,f⟩
      .obtain rfl:=f.out;go_wp2_with fail;go_region_held3(λw'=>w'.cell? ⟨T,1,none⟩=some (.slice v (g.B*128) c)/\w'.cell? ⟨P,8,none⟩=some (a' A 1 d0)/\w'.cell? ⟨A,0,none⟩=some (.slice a4 (g.B*128) a5)) ((simp[*,go_sem];done)) (first|(go_at_call 18;refine(L _ (via (H) (by first|exact aj|exact cK aj _))).mono ?_;rintro e w7 ⟨rfl,m⟩;have H7:=ad m;obtain⟨M,R,I⟩:=kp m P z;obtain⟨Y,J,m6⟩:=kp m T t3;obtain⟨m7,m8,m9⟩:=kp m A v3;clear m));go_wp2;go_roundw
       case rel=>exact .inr ⟨rfl,by go_num,H7⟩
       case measure=>simp[intOf]
      .obtain ⟨M,R,I⟩:=kp f P z;obtain⟨Y,J,m6⟩:=kp f T t3;go_wp2;go_ret;exact⟨rfl,j _ (f)⟩
    .clear d;go_wp2_with fail;go_loopw [6,7] (λb i wr=>∃q:Nat,b=.bool true/\i= ae q/\q<=1/\QX (aq wc wr)) (λ_ i _=>1-(intOf i).toNat)
     case atStart=>exact⟨0,rfl,rfl,aa,via (H) (by first|exact aj|go_grown)⟩
     case round=>
      obtain⟨q,rfl,rfl,b6,f⟩:=hrel;obtain⟨M,R,I⟩:=kp f P z;obtain⟨Y,J,m6⟩:=kp f T t3;by_cases b4:q<1
      .obtain rfl:q=0:=aa;go_wp2;go_region;go_wp2;go_roundw
       case rel=>exact⟨1,rfl,by go_num,aa,via f (by first|exact aj|go_grown)⟩
       case measure=>simp[intOf]
      .obtain rfl:q=1:=aa;go_wp2;go_ret;exact⟨rfl,j _ (f)⟩
  .rcases b1 with rfl|⟨A,d0,e6,rfl,⟨e7,e8,y,a3⟩,r⟩
   .have O:=ad (qe x.2.2.2.1.1 N t);obtain⟨e2,a7⟩:=ah (ll (g.B*128) (g.B*128) (dF (cR g V)) f2);rw[a7]at O d;clear N;cases e1
    .go_wp2_with fail;go_region_held3(λw'=>w'.cell? ⟨T,1,none⟩=some (.slice v (g.B*128) c)/\w'.cell? ⟨P,7,none⟩=some (.slice (some ⟨d5,d6,none⟩) (g.B*128) d7)) ((simp[*,go_sem];done)) (first|(go_at_call 18;refine(O _ (via H (by first|exact aj|exact cK aj _))).mono ?_;rintro e w5 ⟨rfl,o⟩;have H5:=ad o;obtain⟨l1,l2,l3⟩:=kp o P z;obtain⟨l4,l5,l6⟩:=kp o T t3;clear o));cases e2
     .simp at d
     .clear d;go_wp2_with fail;go_loopw [6,7] (λb i wr=>b=.bool true/\i= ae 0/\QX (aq wc wr)) (λ_ _ _=>0)
      case atStart=>exact⟨rfl,rfl,via (H5) (by first|exact aj|go_grown)⟩
      case round=>obtain⟨rfl,rfl,f⟩:=hrel;obtain⟨M,R,I⟩:=kp f P z;obtain⟨Y,J,m6⟩:=kp f T t3;go_wp2;go_ret;exact⟨rfl,j _ (f)⟩
    .clear d;go_wp2_with fail;go_region;go_wp2_with fail;go_loopw [6,7] (λb i wr=>b=.bool true/\i= ae 0/\QX (aq wc wr)) (λ_ _ _=>0)
     case atStart=>exact⟨rfl,rfl,via (H) (by first|exact aj|go_grown)⟩
     case round=>obtain⟨rfl,rfl,f⟩:=hrel;obtain⟨M,R,I⟩:=kp f P z;obtain⟨Y,J,m6⟩:=kp f T t3;go_wp2;go_ret;exact⟨rfl,j _ (f)⟩
   .obtain ⟨a4,a5,rfl,r⟩:=r;have L:=ad (qe x.2.2.2.1.1 ⟨a4,a5,rfl,r⟩ t);have v3:=Z_ y;have v4:wc.cell? ⟨A,0,none⟩=some (.slice a4 (g.B*128) a5):=(QS _ _ 0 _ _ _ y).trans a3;clear y r;obtain⟨n7,n8,n9⟩:=kp H A v3;have O:=ad (qe x.2.2.2.1.1 N t);obtain⟨e2,a7⟩:=ah (ll (g.B*128) (g.B*128) (dF (cR g V)) f2);rw[a7]at O d;clear N;obtain⟨e3,a6⟩:=ah (ll (g.B*128) (g.B*128) (dF (cR g V)) f3);rw[a6]at L d;cases e1
    .go_wp2_with fail;go_region_held3(λw'=>w'.cell? ⟨T,1,none⟩=some (.slice v (g.B*128) c)/\w'.cell? ⟨P,7,none⟩=some (.slice (some ⟨d5,d6,none⟩) (g.B*128) d7)) ((simp[*,go_sem];done)) (first|(go_at_call 18;refine(O _ (via H (by first|exact aj|exact cK aj _))).mono ?_;rintro e w5 ⟨rfl,o⟩;have H5:=ad o;obtain⟨l1,l2,l3⟩:=kp o P z;obtain⟨l4,l5,l6⟩:=kp o T t3;obtain⟨l7,l8,l9⟩:=kp o A v3;clear o));cases e2
     .obtain rfl:e3=true:=by simpa using d
      clear d;go_wp2_with fail;go_loopw [6,7] (λb i wr=>(b=.bool false/\i= ae 0/\QX (wr=w5))\/(b=.bool true/\i= ae 1/\QX (aq wc wr))) (λ_ i _=>1-(intOf i).toNat)
      case atStart=>exact .inl ⟨rfl,rfl,rfl⟩
      case round=>
       rcases hrel with⟨rfl,rfl,f⟩|⟨rfl,rfl,f⟩
       .obtain rfl:=f.out;go_wp2_with fail;go_region_held3(λw'=>w'.cell? ⟨T,1,none⟩=some (.slice v (g.B*128) c)/\w'.cell? ⟨P,8,none⟩=some (a' A 1 d0)/\w'.cell? ⟨A,0,none⟩=some (.slice a4 (g.B*128) a5)) ((simp[*,go_sem];done)) (first|(go_at_call 18;refine(L _ (via (H5) (by first|exact aj|exact cK aj _))).mono ?_;rintro e w7 ⟨rfl,m⟩;have H7:=ad m;obtain⟨M,R,I⟩:=kp m P z;obtain⟨Y,J,m6⟩:=kp m T t3;obtain⟨m7,m8,m9⟩:=kp m A v3;clear m));go_wp2;go_roundw
        case rel=>exact .inr ⟨rfl,by go_num,H7⟩
        case measure=>simp[intOf]
       .obtain ⟨M,R,I⟩:=kp f P z;obtain⟨Y,J,m6⟩:=kp f T t3;go_wp2;go_ret;exact⟨rfl,j _ (f)⟩
     .clear d;go_wp2_with fail;go_loopw [6,7] (λb i wr=>∃q:Nat,b=.bool true/\i= ae q/\q<=1/\QX (aq wc wr)) (λ_ i _=>1-(intOf i).toNat)
      case atStart=>exact⟨0,rfl,rfl,aa,via (H5) (by first|exact aj|go_grown)⟩
      case round=>
       obtain⟨q,rfl,rfl,b6,f⟩:=hrel;obtain⟨M,R,I⟩:=kp f P z;obtain⟨Y,J,m6⟩:=kp f T t3;by_cases b4:q<1
       .obtain rfl:q=0:=aa;go_wp2;go_region;go_wp2;go_roundw
        case rel=>exact⟨1,rfl,by go_num,aa,via f (by first|exact aj|go_grown)⟩
        case measure=>simp[intOf]
       .obtain rfl:q=1:=aa;go_wp2;go_ret;exact⟨rfl,j _ (f)⟩
    .clear d;go_wp2_with fail;go_region;go_wp2_with fail;go_loopw [6,7] (λb i wr=>∃q:Nat,b=.bool true/\i= ae q/\q<=1/\QX (aq wc wr)) (λ_ i _=>1-(intOf i).toNat)
     case atStart=>exact⟨0,rfl,rfl,aa,via (H) (by first|exact aj|go_grown)⟩
     case round=>
      obtain⟨q,rfl,rfl,b6,f⟩:=hrel;obtain⟨M,R,I⟩:=kp f P z;obtain⟨Y,J,m6⟩:=kp f T t3;by_cases b4:q<1
      .obtain rfl:q=0:=aa;go_wp2;go_region;go_wp2;go_roundw
       case rel=>exact⟨1,rfl,by go_num,aa,via f (by first|exact aj|go_grown)⟩
       case measure=>simp[intOf]
      .obtain rfl:q=1:=aa;go_wp2;go_ret;exact⟨rfl,j _ (f)⟩
end
section
theorem HN(a b c l d:H)(w:M):aF 24 #[.agg #[a,b,c,l,d]] w λe w'=>aL e d/\aq w w':=by have f:=QB w (N #[a,b,c,l,d] 34);have h:=I (aK (SU w.heap.size w) (N #[a,b,c,l,d] 34));obtain⟨i,j,k⟩:=cr f;go_enter func24,ntmps24;go_wp2_with fail;go_ret;exact⟨rfl,h⟩
variable [Lo] {P G:Nat} {Z Z':bm} {g:aA} {V:cp} {C m:Nat} {s:Rs} {u:Su} {Vs:cp->Prop} {w w':QA} {wv bv uv:QC} {dd:Bool}
theorem qd.to{T:List Nat}(h:qd w P G Z g Vs wv bv uv dd)(a:Fr T aG w w')(f:T.contains 44=false)(b:T.contains 5=false)(d:T.contains 41=false)(v:bX w' G Z' g)(r:Z'.N=Z.N)(i:Z'.lz=Z.lz):qd w' P G Z' g Vs wv bv uv dd:=
 ⟨by obtain⟨x,q⟩:=h.aM;exact⟨x,by unfold HL;rw[r,i];exact a.hp q f⟩,h.wh.imp λX q=>q.fr a b,h.bf.imp id λ⟨X,q⟩=>⟨X,q.fr a b⟩,
  h.un.imp id λ⟨j,c,k,e,⟨l,n,o,p⟩,X,q⟩=>⟨j,c,k,e,⟨l,n,a.hp o d,p⟩,X,q.fr a b⟩,
  λX t=>⟨(h.any X t).1,(h.any X t).2.imp (λq=>q.fr a b) λq=>q.imp (λq=>q.fr a b) λ⟨j,c,k,e,⟨l,n,o,p⟩,q⟩=>⟨j,c,k,e,⟨l,n,a.hp o d,p⟩,q.fr a b⟩⟩,
  v,h.cJ,by rw[r];exact h.kQ,h.lo⟩
theorem vU.fr{T:List Nat}(h:vU w Z g Vs m)(a:Fr T aG w w')(c:TB.all (λt=> !T.contains t)=true):vU w' Z g Vs m:=by obtain⟨b,d,h,e⟩:=h;exact⟨b,d,h.fn a c,e⟩
theorem HO(b6:gQ){b7:QC}{k:Nat}{e7:aN}{e8:Nat->Nat->Bool}(h:qd w P G Z g Vs wv bv uv dd)(e1:vU w Z g Vs m)(e9:m<g.M)(a7:gG w b7 k e7 e8)(b8:k<=1000000)(b9:Lo.lo<=G):
  aF 13 #[ar P,.agg #[.int .u8 0,.int .u8 0,.int .u8 0,aO,b7]] w λe w'=>aL e ec/\Fr (73::TP) aG w w'/\∃Z' V,Z'.N=Z.N/\Z'.lz=Z.lz/\nF w' P G Z' g (-1) (some m) V 99999999000 false:=by
 have N:Lo.lo<=w.heap.size:=a7.1;obtain⟨Q,S,rfl⟩:∃a c,b7=.slice a k c:=by obtain⟨-,a,c,e,-⟩:=a7;exact⟨a,c,e⟩
 obtain⟨v,l⟩:=ah (w.alloc (ao #[.int .u8 0,.int .u8 0,.int .u8 0,aO,.slice Q k S] 34));have M:v.heap[w.heap.size]?=some (ao #[.int .u8 0,.int .u8 0,.int .u8 0,aO,.slice Q k S] 34):=by rw[<-l];exact QB _ _
 have d:aq w v:=by rw[<-l];exact aK aj _
 obtain⟨A,x⟩:=ah w.heap.size;have n:=(d.block _ (Z_ h.iw)).trans h.iw;have y:=h.to (T:= []) (Fr.af d) rfl rfl rfl n rfl rfl;have R:=e1.fr (T:= []) (Fr.af d) rfl;have I:=a7.fr (T:= []) (Fr.af d);have f0:=ad (λW (o:aq v W)=>(Fo b6 ((o.block _ (Z_ n)).trans n) (R.fr (T:= []) (Fr.af o) rfl) h.cJ h.kQ e9 (I.fr (T:= []) (Fr.af o)) b8 ⟨b9,QD N (QD d.size o.size)⟩ λX a8=>(h.any X a8).1).mono λe w' f1=>show∃b,aL e (dw 0 aO b)/\Fr TM aG W w'/\Fr TM aG v w'/\∃Z' V s u,bX w' G Z' g/\Z'.N=Z.N/\Z'.lz=Z.lz/\Vs V/\Inv w' Z' g (some m) V 100000000000 s u from by obtain⟨b,z,r,B⟩:=f1;exact⟨b,z,r,(Fr.af o).tr r,B⟩);obtain⟨g5,a9⟩:=y.aM;obtain⟨f2,c2⟩:=h.aM;have c5:=gU a9 M ai;rw[x]at M c5;have y0:=cr a9;have y5:v.cell? ⟨P,5,none⟩=some (ar G):=y0.1 5;have y2:=y0.2.1;have y3:=y0.2.2;obtain⟨U,a2,a3⟩:=cr M;have b0:=ca a9 M d y h.lo;have e2:=aB l x;have g6:(0:Int).tmod 4=0:=rfl;have f:QX (Lo.lo<=v.heap.size):=QD N d.size;have Y:=QB w (ao #[.int .u8 0,.int .u8 0,.int .u8 0,aO,.slice Q k S] 34);obtain⟨b1,b2,b3⟩:=cr Y;clear Y a9 c2 M d y n R I y0 l x h e1 a7;go_enter func13,ntmps13;go_wp2_with fail;simp only[e2.out.1,e2.out.2];clear b1 b2 b3;go_loopw [6] (λi wr=>i= ae 0/\QX (wr=v)) (λ_ _=>0)
 case atStart=>exact⟨rfl,rfl⟩
 case round=>
  obtain⟨rfl,c6⟩:=hrel;obtain rfl:=c6.out;go_wp2_with fail;go_cut [9] (λs9 b4=>∃(T:Nat) (b:Int),s9= ar T/\QX (wr.heap.size<=T/\b4.heap[T]?=some (ao #[.int .u16 (0:Nat),aO,ae b] 46)/\Fr TM aG wr b4/\∃Z' V s u,bX b4 G Z' g/\Z'.N=Z.N/\Z'.lz=Z.lz/\Vs V/\Inv b4 Z' g (some m) V 100000000000 s u))
  case first=>
   have f3:wr.cell? ⟨A,0,none⟩=some (.int .u8 0):=U 0;have f4:wr.cell? ⟨A,1,none⟩=some (.int .u8 0):=U 1;have f5:wr.cell? ⟨A,2,none⟩=some (.int .u8 0):=U 2;have f6:wr.cell? ⟨A,3,none⟩=some aO:=U 3;have f8:wr.cell? ⟨A,4,none⟩=some (.slice Q k S):=U 4;clear U;go_region_held3(λw'=>w'.cell? ⟨P,5,none⟩=some (ar G)/\w'.cell? ⟨A,0,none⟩=some (.int .u8 0)/\w'.cell? ⟨A,1,none⟩=some (.int .u8 0)/\w'.cell? ⟨A,2,none⟩=some (.int .u8 0)/\w'.cell? ⟨A,3,none⟩=some aO/\w'.cell? ⟨A,4,none⟩=some (.slice Q k S)) ((simp[*,go_sem];done)) (first
    |(go_at_call 24;refine(HN _ _ _ _ _ _).mono ?_;rintro e w2 ⟨rfl,j⟩;obtain⟨k1,k2,k3⟩:=kp j P dG;obtain⟨k4,k5,k6⟩:=kp j A dG;(try(have h7:=(j.block wr.heap.size (Z_ (QB wr z46))).trans (QB wr z46);obtain⟨k7,k8,k9⟩:=cr h7;have H6:=ad h7;clear h7));have t:=ad j;clear j)
    |(go_at_call 11;refine(f0 _ (via (via (by first|exact aj|go_grown) t) (by first|exact aj|go_grown))).mono ?_;rintro e H ⟨b,rfl,c8,q,e3⟩
      (first|(have D:=c8.hp H6 rfl;obtain⟨c7,f7,z7⟩:=cr D;have E:=ad D;clear D)|(have D:=c8.hp (QB w2 z46) rfl;obtain⟨c7,f7,z7⟩:=cr D;have E:=ad D;clear D)|skip)
      have c0:=cr (q.hp b0.1 rfl);have c1:H.cell? ⟨P,5,none⟩=some (ar G):=c0.1 5;have c3:=c0.2.1;have c4:=c0.2.2;have d0:=cr (q.hp b0.2.1 rfl);have d1:H.cell? ⟨A,0,none⟩=some (.int .u8 0):=d0.1 0;have d2:H.cell? ⟨A,1,none⟩=some (.int .u8 0):=d0.1 1;have d3:H.cell? ⟨A,2,none⟩=some (.int .u8 0):=d0.1 2;have d4:H.cell? ⟨A,3,none⟩=some aO:=d0.1 3;have d5:H.cell? ⟨A,4,none⟩=some (.slice Q k S):=d0.1 4;have d6:=d0.2.1;have d7:=d0.2.2;have F:=aB q e3;clear c8 q e3 c0 d0))
   all_goals go_wp2
   all_goals go_meet
   all_goals first
    |exact⟨_,b,rfl,F.1.size,QB _ _,F.1.then (aK aj _),by obtain⟨Z',V,s,u,z,r,B,J,q5⟩:=F.2;exact⟨Z',V,s,u,(Fr.af (T:= []) (aK aj _)).hp z rfl,r,B,J,q5.below (aK aj _)⟩⟩
    |exact⟨_,b,rfl,QE _,(gv E f 0 aO b).1,((F.1.new (p:=⟨wr.heap.size,0,none⟩) (QE _) _).new (p:=⟨wr.heap.size,1,none⟩) (QE _) _).new (p:=⟨wr.heap.size,2,none⟩) (QE _) _,by obtain⟨Z',V,s,u,z,r,B,J,q5⟩:=F.2;exact⟨Z',V,s,u,(gv E f 0 aO b).2.hp z rfl,r,B,J,q5.fr (gv E f 0 aO b).2 rfl⟩⟩
    |exact⟨_,b,rfl,t.size,(gv E (QD f t.size) 0 aO b).1,((F.1.new (p:=⟨w2.heap.size,0,none⟩) t.size _).new (p:=⟨w2.heap.size,1,none⟩) t.size _).new (p:=⟨w2.heap.size,2,none⟩) t.size _,by obtain⟨Z',V,s,u,z,r,B,J,q5⟩:=F.2;exact⟨Z',V,s,u,(gv E (QD f t.size) 0 aO b).2.hp z rfl,r,B,J,q5.fr (gv E (QD f t.size) 0 aO b).2 rfl⟩⟩
  case rest=>
   rename_i f9;refine f9 _ _ ?_;obtain⟨T,b,rfl,g0⟩:=hcut;obtain⟨c9,e4,K,Z',V,s,u,b5,d8,L,e5,e6⟩:=g0.out;have a8:=b0.2.2.2.1.to K rfl rfl rfl b5 d8 L;obtain⟨t1,t2,t3⟩:=cr e4;have d9:=ad (λW (o:aq wc W)=>yo (a8.to (T:= []) (Fr.af o) rfl rfl rfl ((o.block _ (Z_ b5)).trans b5) rfl rfl) (e6.below o) e5 aa);have e0:=aT d8 L K;clear c9 e4 K b5 d8 L e5 e6 a8;go_wp2_with(first
    |(go_at_call 25;refine(d9 _ (by first|exact aj|exact cK aj _)).mono ?_;rintro e w5 ⟨rfl,a0,O⟩
      obtain⟨g1,g2,g3,g4,a4,a5,a6⟩:=O.pl.aM;obtain⟨s1,s2,s3⟩:=cr a4;have H5:=aB a0 O;clear a0 O a4 a5 a6))
   go_ret;exact⟨rfl,((Fr.af b0.2.2.1).tr (e0.2.2.wide (73::TP) rfl)).tr (H5.1.wide (73::TP) rfl),Z',V,e0.1,e0.2.1,H5.2⟩
end
theorem Fp[Lo]{e:RV}(y:k<256)(b:Lo.lo<=w.heap.size)(h:xM n m k i d w e W):
  ∃P G Z s j,aL e (ar P)/\Fr fV aG w W/\w.heap.size<=P/\Lo.lo<=G/\s.b.aW=none/\wb W P G Z (fx n m k) om 100000000000 s 1 [] om j aO:=by
 obtain⟨P,G,Z,⟨z,l,A,r⟩,t,c,B,a,j,u,o,p⟩:=h;have v:=ot (z0:=n) (z1:=m) y;have f:=lW i;have q:=pK v hX f ⟨t,c⟩ a;have x:=zC v (hX (g:=fx n m k) (N:=gi i)) f d;subst c;rw[<-t]at a x f q u;exact⟨P,G,Z,_,j,z,A,r,QD b B,q.gt.aW,⟨0,u⟩,⟨o,p⟩,.inl rfl,λe=>(by cases e),l.iw,⟨a,f,x,q.fit,rfl,(by show 1+100000000000<=4000000000000000000;decide),λ_=>rfl⟩,QD b r⟩
theorem wb.MG[Lo]{Z:bm}{V a:cp}{L:List bW}(h:wb w n m Z g V C s k L a v x):
  qd w n m Z g (λX=>X=V\/(s.x.sure=false/\X=a)) v x aO false/\qE w Z g (λX=>X=V\/(s.x.sure=false/\X=a)):=by
 refine⟨⟨h.aM,⟨V,h.wh⟩,h.bf,.inl rfl,λX b=>?_,h.iw,h.int.fit.cJ,h.int.kQ,h.lo⟩,h.int.can (.inl rfl) λe=>.inr ⟨e,rfl⟩⟩;rcases b with rfl|⟨e,rfl⟩
 .exact ⟨h.int.cx.gt.gd.par,.inl h.wh⟩
 .exact ⟨(h.bp e).2,.inr (.inl (h.bp e).1)⟩
structure we[Lo](w:M)(a:Option SR)(L:Nat)(bk fl:aN):Prop where
 aM:L=0\/∃b o,a=some (R b o)/\b<Lo.lo/\∀k,k<L->w.cell? ⟨b,o+k*2,none⟩=some (.int .u16 (bk k:Nat))/\w.cell? ⟨b,o+k*2+1,none⟩=some (.int .u8 (fl k:Nat))
 bk:∀k,k<L->bk k<65536
 fl:∀k,k<L->fl k<256
 lo:Lo.lo<=w.heap.size
theorem we.fr[Lo]{d f:aN}(h:we w P n d f)(a:Fr T aG w W):we W P n d f:=by refine⟨h.aM.imp id ?_,h.bk,h.fl,QD h.lo a.size⟩;rintro⟨b,o,e,c,q⟩;exact⟨b,o,e,c,λk g=>⟨a.fS h.lo c (q k g).1,a.fS h.lo c (q k g).2⟩⟩
theorem we.below[Lo]{a b:aN}(h:we w P n a b)(c:aq w W):we W P n a b:=h.fr (T:= []) (Fr.af c)
theorem we.MB[Lo]{a c:aN}(h:we w P n a c):Ba w (.slice P n m) n a c:=
 ⟨P,m,rfl,h.aM.imp id λ⟨b,o,e,_,q⟩=>⟨b,o,e,q⟩⟩
def Qj[Lo](P G:Nat)(Z:bm)(g:aA)(a:Int)(c:Option Nat)(C:Nat)(d:Bool)(w:M)(e:RV)(b:M):Prop:=aL e ec/\Fr TP aG w b/\∃V,nF b P G Z g a c V C d
theorem Qk[Lo](P G:Nat)(Z:bm)(g:aA)(a:Int)(b:Option Nat)(V:cH)(C:Nat)(c:Bool)(f:Option SR)(L k:Nat)(i j:aN)(w:M)(h:nF w P G Z g a b V C c)(l:1000000<=C)(d:we w f L i j)(m:L<=20000):
  aF 12 #[ar P,.slice f L k] w (Qj P G Z g a b (C-250000) c w):=by
 obtain⟨s,u,n⟩:=h.inv;exact(Ha P G Z g a b V C c _ L i j w h l d.MB m d.bk d.fl _ _ (XH.any _ _ _) ⟨s,u,n,trivial⟩).mono λe t ⟨o,p,q,r,_⟩=>⟨o,p,q,r⟩
section
variable [Lo] {P G:Nat} {Z:bm} {g:aA} {C:Nat} {w w':QA}
theorem wb.fr{T:List Nat}{V b:cp}{s s':Rs}{c:Nat}{L:List bW}{i j:H}(h:wb w P G Z g V C s c L b i j)(a:Fr T aG w w')(d:T.contains 44=false)(f:T.contains 5=false)(l:bX w' G Z g)(k:s'.x.sure=s.x.sure)(m:ky w' Z g V C s' c L b):wb w' P G Z g V C s' c L b i j:=
 ⟨by obtain⟨n,q⟩:=h.aM;exact⟨n,a.hp q d⟩,h.wh.fr a f,h.bf.imp id λ⟨X,q⟩=>⟨X,q.fr a f⟩,λe=>⟨(h.bp (k▸e)).1.fr a f,(h.bp (k▸e)).2⟩,l,m,h.lo⟩
def BU(w:M)(P G:Nat)(Z:bm)(g:aA)(C:Nat):Prop:=∃V s a L b c d,wb w P G Z g V C s a L b c d/\s.b.aW=none
def HP(w:M)(P G:Nat)(Z:bm)(g:aA)(C:Nat):Prop:=∃V s a L b c d,wb w P G Z g V C s a L b c d
def vV(w:M)(P G:Nat)(Z:bm)(g:aA):Prop:=∃a b c d e,qd w P G Z g a b c d e/\qE w Z g a
def vW(w:M)(P G:Nat)(Z:bm)(g:aA)(m:Nat):Prop:=∃a b c d e,qd w P G Z g a b c d e/\vU w Z g a m
theorem BU.below(h:BU w P G Z g C)(a:aq w w'):BU w' P G Z g C:=by obtain⟨V,s,b,L,c,d,e,h,f⟩:=h;exact⟨V,s,b,L,c,d,e,h.fr (T:= []) (Fr.af a) rfl rfl ((a.block _ (Z_ h.iw)).trans h.iw) rfl (h.int.below a),f⟩
theorem HP.below(h:HP w P G Z g C)(a:aq w w'):HP w' P G Z g C:=by obtain⟨V,s,b,L,c,d,e,h⟩:=h;exact⟨V,s,b,L,c,d,e,h.fr (T:= []) (Fr.af a) rfl rfl ((a.block _ (Z_ h.iw)).trans h.iw) rfl (h.int.below a)⟩
theorem vV.below(h:vV w P G Z g)(a:aq w w'):vV w' P G Z g:=by obtain⟨b,c,d,e,f,h,i⟩:=h;exact⟨b,c,d,e,f,h.to (T:= []) (Fr.af a) rfl rfl rfl ((a.block _ (Z_ h.iw)).trans h.iw) rfl rfl,i.fr (T:= []) (Fr.af a) rfl⟩
theorem vW.below{m:Nat}(h:vW w P G Z g m)(a:aq w w'):vW w' P G Z g m:=by obtain⟨b,c,d,e,f,h,i⟩:=h;exact⟨b,c,d,e,f,h.to (T:= []) (Fr.af a) rfl rfl rfl ((a.block _ (Z_ h.iw)).trans h.iw) rfl rfl,i.fr (T:= []) (Fr.af a) rfl⟩
theorem HP.cell(h:HP w P G Z g C):w.cell? (R P 0)=some (Y g.M)/\w.cell? (R P 5)=some (ar G)/\w.cell? (R P 14)=some iL/\(∀o,w.frozen? (R P o)=false)/\P<w.heap.size:=by obtain⟨V,s,e,L,f,i,j,h⟩:=h;obtain⟨k,b⟩:=h.aM;obtain⟨a,c,d⟩:=cr b;exact⟨a 0,a 5,a 14,c,d⟩
theorem BU.pP(h:BU w P G Z g C):HP w P G Z g C:=by obtain⟨V,s,a,L,b,c,d,h,-⟩:=h;exact⟨V,s,a,L,b,c,d,h⟩
theorem vV.cell(h:vV w P G Z g):w.cell? (R P 0)=some (Y g.M)/\w.cell? (R P 5)=some (ar G)/\(∀o,w.frozen? (R P o)=false)/\P<w.heap.size:=by obtain⟨e,f,i,j,k,h,-⟩:=h;obtain⟨l,b⟩:=h.aM;obtain⟨a,c,d⟩:=cr b;exact⟨a 0,a 5,c,d⟩
theorem vW.cell{m:Nat}(h:vW w P G Z g m):w.cell? (R P 0)=some (Y g.M)/\w.cell? (R P 5)=some (ar G)/\(∀o,w.frozen? (R P o)=false)/\P<w.heap.size:=by obtain⟨e,f,i,j,k,h,-⟩:=h;obtain⟨l,b⟩:=h.aM;obtain⟨a,c,d⟩:=cr b;exact⟨a 0,a 5,c,d⟩
theorem nF.cells{a:Int}{c:Option Nat}{V:cp}{d:Bool}(h:nF w P G Z g a c V C d):w.cell? (R P 5)=some (ar G)/\w.cell? (R P 9)=some (Y g.B)/\w.cell? (R P 14)=some iL/\(∀o,w.frozen? (R P o)=false)/\P<w.heap.size:=by obtain⟨j,k,l,m,e,-,-⟩:=h.pl.aM;obtain⟨b,f,i⟩:=cr e;exact⟨b 5,b 9,b 14,f,i⟩
theorem MC{la:Option SR}{ML lc:Nat}{bk fl:aN}(h:BU w P G Z g C)(m:1000000<=C)(n:Ba w (.slice la ML lc) ML bk fl)(o:ML<=20000)(a:∀i,i<ML->bk i<65536)(b:∀i,i<ML->fl i<256):
  aF 12 #[ar P,.slice la ML lc] w λe w'=>aL e ec/\Fr TP aG w w'/\BU w' P G Z g (C-250000):=by
 obtain⟨V,s,x,L,y,z,A,h,l⟩:=h;refine(zK _ ML bk fl w h m n o a b).mono ?_;rintro e w' ⟨p,q,⟨r,t,c,u,d,f,j,k,v⟩|⟨k,-⟩⟩
 .exact ⟨p,q,r,t,c,u,d,f,j,k,v l⟩
 .exact absurd l k
theorem MD{n:Option SR}{a lc:Nat}{d f:aN}(h:HP w P G Z g C)(q:1000000<=C)(r:Ba w (.slice n a lc) a d f)(t:a<=20000)(j:∀i,i<a->d i<65536)(k:∀i,i<a->f i<256):
  aF 12 #[ar P,.slice n a lc] w λe w'=>aL e ec/\Fr TP aG w w'/\vV w' P G Z g:=by
 obtain⟨V,s,z,L,A,B,D,h⟩:=h;refine(zK _ a d f w h q r t j k).mono ?_;rintro e w' ⟨o,p,⟨E,F,u,K,v,b,c,l,-⟩|⟨-,x,b,c,m,l,y⟩⟩
 .exact ⟨o,p,_,_,_,_,_,l.MG⟩
 .exact ⟨o,p,x,b,c,m,true,l,y⟩
theorem MQ{n:Nat}(h:BU w P G Z g C)(d:n<=1000):
  aF 11 #[ar G,fO 7 0 n 0 aO aO] w λe w'=>∃a,aL e (dw 0 aO a)/\Fr eG aG w w'/\HP w' P G Z g C:=by
 obtain⟨V,s,f,L,i,j,k,h,-⟩:=h;refine(Fl h.iw h.int d).mono ?_;rintro e w' ⟨a,l,c,m⟩;exact⟨a,l,c,V,_,f,L,i,j,k,h.fr (s':={s with b:={s.b with aW:=some n}}) c rfl rfl (c.hp h.iw rfl) rfl m⟩
theorem Ql{m:Nat}(h:vV w P G Z g)(d:m<g.M)(b:Lo.lo<=w.heap.size):
  aF 11 #[ar G,fO 10 m 0 0 aO aO] w λe w'=>∃a,aL e (dw 0 aO a)/\Fr eG aG w w'/\vW w' P G Z g m:=by
 obtain⟨f,i,j,k,l,h,n⟩:=h;refine(Fm h.iw n d b).mono ?_;rintro e w' ⟨a,o,c,p⟩;exact⟨a,o,c,f,i,j,k,l,h.to c rfl rfl rfl (c.hp h.iw rfl) rfl rfl,p⟩
theorem KL(a:gQ){f:H}{i m:Nat}{j:aN}{k:Nat->Nat->Bool}(h:vW w P G Z g m)(l:m<g.M)(n:gG w f i j k)(b:i<=1000000)(c:Lo.lo<=G):
  aF 13 #[ar P,.agg #[.int .u8 0,.int .u8 0,.int .u8 0,aO,f]] w λe w'=>aL e ec/\Fr (73::TP) aG w w'/\∃d V,nF w' P G d g (-1) (some m) V 99999999000 false:=by
 obtain⟨s,t,u,v,x,h,o⟩:=h;refine(HO a h o l n b c).mono ?_;rintro e w' ⟨p,q,d,V,-,-,r⟩;exact⟨p,q,d,V,r⟩
end
def MR[Lo](P G:Nat)(Z:bm)(g:aA)(a:M)(b:Option SR)(L:Nat)(A:Nat->lX)(k:Nat)(wr:M):Prop:=BU wr P G Z g (100000000000-250000*k)/\Fr TP aG a wr/\jx wr b L A
theorem Qm(e8:gQ)(e9:Fh)[Lo](z0 z1 j b3:Nat)(b7:Bool)(E:Option SR)(L b8:Nat)(A:Nat->lX)(x y:Nat)(la:Option SR)(ML lc:Nat)(S U:aN)(N:Option SR)(c R:Nat)(b4:aN)(b5:Nat->Nat->Bool)(w:QA)(h0:z0<256)(h1:z1<256)(h2:j<256)(h3:b3<65536)(j8:x<256)(j4:y<256)(f0:jx w E L A)(j9:L<=140737488351232)(f3:we w la ML S U)(k3:ML<=140737488351232)(f4:gG w (.slice N c R) c b4 b5)(k4:c<=140737488351232)(f5:w.heap.size<=Lo.lo):
  aF 5 #[KE z0 z1 j b3 b7 E L b8,.slice la ML lc,eb x,eb y,.slice N c R] w λe F=>aL e ec/\aq w F:=by
 have f6:=f0.lo;have f7:=ad (λW (e2:aq w W)=>JS z0 z1 j b3 b7 E L b8 A W h0 h1 h2 h3 (f0.below e2) j9);have f8:=ad (λW (j5:Lo.lo<=W.heap.size)=>(Bc z0 z1 j b3 b7 E L b8 W h0 h1 h2 h3 j5).mono λe F h=>Fp h2 j5 h);have f9:=ad e9;have g0:=ot (z0:=z0) (z1:=z1) h2;obtain⟨g1,I⟩:=ah (w.alloc (ao (KF z0 z1 j b3 b7 E L b8) 25));have g2:aq w g1:=by rw[<-I];exact aK aj _
 have Y:aX g1 w.heap.size (ao (KF z0 z1 j b3 b7 E L b8) 25):=by rw[<-I];exact QB _ _
 obtain⟨D,b9⟩:=ah w.heap.size;rw[b9]at Y;obtain⟨d1,d2,d3⟩:=cr Y;have f:=f' Y g2 f0 (And.intro f6 f5) f3 f4;have c1:=aB I b9;have e4:=ad g0;have c2:=aB j8 j4;go_enter func5,ntmps5;go_wp2_with fail
 try simp only[c1.out.1,c1.out.2]
 refine(f7 g1 f.2.1).mono ?_;rintro e w1 ⟨r,rfl,J,c3⟩;have p:=ad (f.2.1.trans (J.mono f.2.1.size));obtain⟨k0,k1,k2⟩:=kp J D d3;cases r
 case true=>go_wp2_with fail;go_ret;exact⟨rfl,p⟩
 case false=>
  by_cases j6:1000<ML
  .have j1:(1000:Int)<(ML:Int):=aa;go_wp2_with fail;go_ret;exact⟨rfl,p⟩
  have j1:¬(1000:Int)<(ML:Int):=aa;by_cases g3:1000<c
  .have j2:(1000:Int)<(c:Int):=aa;go_wp2_with fail;go_ret;exact⟨rfl,p⟩
  have j2:¬(1000:Int)<(c:Int):=aa;obtain⟨a9,g4⟩:=c3 rfl;have t:=aB a9 g4;have X:QX (ML<=1000/\c<=1000):=by show ML<=1000/\c<=1000;omega
  have g5:=(J.block D d3).trans f.1;have c4:=ad (f8 w1 (QD f.2.2.2.1.1 p.size));go_wp2_with fail;refine c4.mono ?_;rintro e w2 ⟨P,G,Z,s,m3,rfl,a,m4,b0,g6,g7⟩;have c6:=aB (⟨_,_,_,_,_,_,_,g7,g6⟩:BU w2 P G Z (fx z0 z1 j) 100000000000) b0;have K:=ad ((Fr.af p:Fr fV aG w w1).tr a);have c7:=a.hp g5 rfl;go_wp2_with fail;refine(f9 w2).mono ?_;rintro e i ⟨rfl,O⟩;have c8:=(O.block D (Z_ c7)).trans c7;have g8:QX (MR P G Z (fx z0 z1 j) i E L A 0 i):=⟨by rw[Nat.mul_zero];exact BU.below c6.1 O,Fr.refl _ _ _,(f.2.2.1.fr K).below O⟩;have g9:=ad (K.then O);have h4:=ad c8;obtain⟨k0,k1,k2⟩:=cr c8;have d0:QX (we i la ML S U/\gG i (.slice N c R) c b4 b5):=⟨(f.2.2.2.2.1.fr K).below (by assumption),(f.2.2.2.2.2.fr K).fr (T:= []) (Fr.af (by assumption))⟩;go_upto_block 0 with fail;go_cut [13,14] (λk5 k6 b6=>QX (MR P G Z (fx z0 z1 j) i E L A L b6))
  case rest=>
   rename_i h6;refine h6 _ _ ?_;obtain⟨h7,a,-⟩:=hcut.out;have h8:=t.1;have h5:aq w i:=g9.tj f.2.2.2.1.2 (QE _);have e4:=e4.out;have b0:=c6.2;obtain⟨g,k7⟩:=ah (fx z0 z1 j);obtain⟨C,k8⟩:=ah (100000000000-250000*L);rw[k7]at h7 e4;rw[k8]at h7;have B:QX (90000000000<=C/\ML<=1000/\c<=1000/\x<256/\y<256/\g.ok/\Lo.lo<=G):=⟨aa,X.1,X.2,c2.1,c2.2,e4,b0⟩;have k9:QX (∀F,Fr (73::TP) aG i F->aq w F):=λF e5=>h5.trans (e5.tj f.2.2.2.1.2 h5.size);have f:QX (BU wc P G Z g C/\Fr TP aG i wc/\we wc la ML S U/\gG wc (.slice N c R) c b4 b5):=⟨h7,a,d0.1.fr a,d0.2.fr a⟩;obtain⟨c0,c5,u,f1,f2⟩:=f.1.pP.cell;have v1:QG.wrap ((x:Nat):Int)=((x:Nat):Int):=by have:=B.2.2.2.1;go_arith
   have l0:=ad (MQ (n:=x) f.1 (by have:=B.2.2.2.1;omega));go_wp2_with fail;refine l0.mono ?_;rintro e x2 ⟨l1,rfl,a,h9⟩;have d:QX (HP x2 P G Z g C/\Fr TP aG i x2/\we x2 la ML S U/\gG x2 (.slice N c R) c b4 b5):=⟨h9,f.2.1.tr (a.wide TP rfl),f.2.2.1.fr a,f.2.2.2.fr a⟩;obtain⟨c0,c5,u,f1,f2⟩:=d.1.cell;have l2:=ad (MD (lc:=lc) d.1 (by have:=B.1;omega) d.2.2.1.MB (by have:=B.2.1;omega) d.2.2.1.bk d.2.2.1.fl);go_wp2_with fail;refine l2.mono ?_;rintro e x3 ⟨rfl,b1,i0⟩;have l:QX (vV x3 P G Z g/\Fr TP aG i x3/\we x3 la ML S U/\gG x3 (.slice N c R) c b4 b5):=⟨i0,d.2.1.tr b1,d.2.2.1.fr b1,d.2.2.2.fr b1⟩;obtain⟨c0,c5,f1,f2⟩:=l.1.cell;have i1:=B.2.2.2.2.2.1.m3;have d4:=B.2.2.2.2.2.1.m16;have j4:=B.2.2.2.2.1;obtain⟨M,i2⟩:=ah g.M;rw[i2]at c0 i1 d4;obtain⟨m,d5⟩:=ah (y%M);have l3:m<M:=by rw[<-d5];exact SC _ aa
   have m1:((y:Nat):Int).tmod (M:Nat)=((m:Nat):Int):=by rw[<-d5];exact VL _ _
   have z1:¬(M:Int)=0:=aa;have j:¬M=0:=aa;have v1:QG.wrap ((y:Nat):Int)=((y:Nat):Int):=bs;have v2:QG.wrap ((m:Nat):Int)=((m:Nat):Int):=bs;have d6:m<g.M:=by rw[i2];exact l3
   have i3:=ad (λW (e2:aq x3 W)=>Ql (l.1.below e2) d6 (QD l.2.2.1.lo e2.size));have l4:=ad d6;have i4:=ad i2;go_wp2_with fail;go_cut [] (λb6=>QX (vW b6 P G Z g m/\Fr TP aG i b6/\we b6 la ML S U/\gG b6 (.slice N c R) c b4 b5))
   case first=>
    go_region_held3(λF=>F.cell? (ag P 0)=some (ae M)/\F.cell? (ag P 5)=some (ar G)) ((simp[*,go_sem];done)) (first
     |(go_at_call 11;refine(i3 _ (by first|exact aj|go_grown)).mono ?_;rintro e x4 ⟨j7,rfl,Q,d7⟩
       obtain⟨r0,r5,r6,r7⟩:=d7.cell;rw[i4.out]at r0;have H4:=aB Q d7))
    all_goals go_wp2
    all_goals go_meet
    all_goals first
     |exact⟨H4.2,l.2.1.tr ((Fr.af (by first|exact aj|go_grown)).tr (H4.1.wide TP rfl)),l.2.2.1.fr ((Fr.af (T:=eG) (by first|exact aj|go_grown)).tr H4.1),l.2.2.2.fr ((Fr.af (T:=eG) (by first|exact aj|go_grown)).tr H4.1)⟩
   case rest=>rename_i h6;refine h6 _ _ ?_;obtain⟨c0,c5,f1,f2⟩:=hcut.out.1.cell;have l5:=ad (KL e8 hcut.out.1 l4 hcut.out.2.2.2 (by have:=B.2.2.1;omega) B.2.2.2.2.2.2);go_wp2_with fail;refine l5.mono ?_;rintro e x5 ⟨rfl,d8,e6,V,l6⟩;have e7:QX (nF x5 P G e6 g (-1) (some m) V 99999999000 false/\Fr (73::TP) aG i x5/\we x5 la ML S U):=⟨l6,(hcut.out.2.1.wide (73::TP) rfl).tr d8,hcut.out.2.2.1.fr d8⟩;obtain⟨c5,c9,u,f1,f2⟩:=e7.1.cells;have l7:=ad (Qk P G e6 g (-1) (some m) V 99999999000 false la ML lc S U x5 e7.1 aa e7.2.2 (by have:=B.2.1;omega));go_wp2_with(first|(go_at_call 12;refine l7.mono ?_;rintro e x6 ⟨rfl,i5,V6,i6⟩;have b2:QX (Fr (73::TP) aG i x6/\nF x6 P G e6 g (-1) (some m) V6 (99999999000-250000) false):=⟨e7.2.1.tr (i5.wide (73::TP) rfl),i6⟩;obtain⟨c5,c9,u,f1,f2⟩:=b2.2.cells;have l8:=ad (JO P G e6 g (-1) (some m) V6 (99999999000-250000) false 0 g.B x6 b2.2 aa aa))|(go_at_call 10;refine l8.mono ?_;rintro e x7 ⟨rfl,i7,i8⟩;have i9:QX (Fr (73::TP) aG i x7):=b2.1.tr (i7.wide (73::TP) rfl);obtain⟨c5,c9,u,f1,f2⟩:=i8.cells));go_ret;exact⟨rfl,k9 _ i9⟩
  case first=>
   go_wp2_with fail;go_loopw [13] (λs5 wr=>∃k:Nat,k<=L/\s5= ae k/\QX (MR P G Z (fx z0 z1 j) i E L A k wr)) (λs5 _=>L-(intOf s5).toNat)
   case atStart=>exact⟨0,QO _,rfl,g8⟩
   case round=>
    obtain⟨k,m5,rfl,H⟩:=hrel;have j0:=H.2.1.hp h4 rfl;obtain⟨k0,k1,k2⟩:=cr j0;have h8:L<=200:=t.1;by_cases v:k<L
    .have j1:(k:Int)<(L:Int):=aa;have j2:(0:Int)<=(k:Int):=aa;have e5:=H.2.2.fit k v;obtain⟨b,o,j3,l9,m0⟩:=H.2.2.l.resolve_left aa;obtain⟨q0,q1,q2,q3,q4⟩:=m0 k v;have d9:=MC (la:=(A k).la) (ML:=(A k).L) (lc:=(A k).lc) (bk:=(A k).bk) (fl:=(A k).fl) H.1 aa ⟨_,_,rfl,(H.2.2.aM k v).imp id λ⟨b,o,e,_,q⟩=>⟨b,o,e,q⟩⟩ (t.2 k v) e5.bk e5.fl;have z:=ad d9;have e0:=ad v;have e3:QG.wrap ((k:Int)+1)=((k+1:Nat):Int):=bs;subst j3;obtain⟨⟨a0,a1,a2,a3,a4,a5,a6,a7,a8,_,_,_⟩,m2⟩:∃y,A k=y:=⟨_,rfl⟩;rw[m2]at q3 z;dsimp only at q3 z;go_wp2_with(first|(go_at_call 12;refine z.mono ?_;rintro e w4 ⟨rfl,Q,e1⟩;have H4:QX (MR P G Z (fx z0 z1 j) i (some (ag b o)) L A (k+1) w4):=⟨by rw[show 100000000000-250000*(k+1)=100000000000-250000*k-250000 by omega];exact e1,H.2.1.tr Q,H.2.2.fr Q⟩;obtain⟨c0,c5,u,f1,f2⟩:=e1.pP.cell));exact⟨⟨k+1,e0,by first|rfl|go_num,H4⟩,by have:=e0.out;simp[intOf];omega⟩
    .obtain rfl:k=L:=aa;go_wp2_with fail;go_meet;exact H
section
open Go.ChangeShapes Go.WideShapes Go.ChangeAt
theorem Fq:(Rows.topHoleRow.inPlace==prog.inPlace 5)=true:=aE
theorem wg:(Rows.topHoleRow.unfollowed==prog.unfollowed 5)=true:=aE
theorem zL:(Rows.topHoleRow.recurses==prog.recurses 5)=true:=aE
theorem wi:(Rows.topHoleRow.named==prog.varsNamed 5)=true:=aE
theorem Qn:joinedFacts prog 5 Tryz.f5 Rows.topHoleSpec Rows.topHoleRow=true:=by unfold joinedFacts;rw[Fq,wg,zL,wi];kernel_rfl
theorem Qo:∀t∈Tryz.f5.params.toList,prog.readableRec t=true/\t<prog.types.size:=by rw[params5];intro t a;simp only[UH,List.not_mem_nil,or_false]at a;rcases a with rfl|rfl|rfl|rfl|rfl<;>exact⟨aE,of_decide_eq_true aE⟩
theorem OM(U:Os)(f:U.Started)(H:Type)(enc:SQ × QC->H):
  ReturnsInHanded {} checked U 5 .any (Rows.topHoleSpec.pre6 enc prog Tryz.f5 Rows.topHoleRow.domain false) (Rows.topHoleSpec.post enc prog Tryz.f5 false true false false):=by
 refine returnsInHanded_of_change_sized (C:=checked) own f aE func5
  (ChangeSpec.witness6 (enc:=enc) (C:=checked) false ⟨#[],#[.agg #[.int .u8 0,.int .u8 0,.int .u8 0,aH 0,.bool false,aO],aO,.int .u8 0,.int .u8 0,aO],[]⟩ 8 aE aE aE aE) ?_
 intro W k d V Y o i X hcnd l _;have b:∀(j:Nat) t v,Tryz.f5.params[j]?=some t->d[j]?=some v->Value.okWide prog W .any k t v:=i;have m:=X;obtain⟨p,q,z,hV,rfl,J,gU⟩:=X;have B:DataW.TrodAll enc prog W 0 (λ_=>true) true Tryz.f5.params.toList d.toList V p:=z;have D:=B;have g:(DataW.weightsEach prog (Tryz.f5.params.toList++ []) (V++Y)).all (· <=reachBytes)=true:=l;rw[params5]at B b g;obtain⟨Z,a0,d0,a1,p0,q0,E,rfl,rfl,h0,r0⟩:=trodAll_cons B;obtain⟨N,a2,d1,a3,p1,q1,r,rfl,rfl,F,r1⟩:=trodAll_cons r0;obtain⟨M,a4,d2,a5,p2,q2,s,rfl,rfl,G,r2⟩:=trodAll_cons r1;obtain⟨R,a6,d3,a7,p3,q3,u,rfl,rfl,K,r3⟩:=trodAll_cons r2;obtain⟨I,a8,d4,a9,p4,q4,w,rfl,rfl,O,r4⟩:=trodAll_cons r3;obtain⟨rfl,rfl,rfl⟩:=trodAll_nil r4;obtain rfl:d= #[Z,N,M,R,I]:=by cases d;simp_all
 obtain⟨rfl,rfl⟩:=trodVars_none hV;obtain⟨z0,z1,z2,b0,b1,a,L,c,A,rfl,i0,i1,i2,i3,i4,i5⟩:=Be (b 0 25 Z rfl rfl) h0 (xN g (j:=0) rfl rfl);obtain⟨b2,b3,b4,rfl⟩:=okWide_slice underlying31 (b 1 31 N rfl rfl);obtain⟨_,rfl⟩:=okWide_int UA (b 2 5 M rfl rfl);obtain⟨_,rfl⟩:=okWide_int UA (b 3 5 R rfl rfl);obtain⟨b5,b6,b7,rfl⟩:=okWide_slice underlying32 (b 4 32 I rfl rfl);obtain⟨_,F⟩:=F;obtain⟨_,G⟩:=G;obtain⟨_,K⟩:=K;obtain⟨_,O⟩:=O;obtain⟨x,b8,P⟩:=gw G;obtain⟨y,b9,c0⟩:=gw K;obtain⟨_,_,_,c1,c2,c3,j1,j2,j3,j4⟩:=rI F (xN g (j:=1) rfl rfl);obtain⟨_,_,_,c4,c5,c6,l1,l2,l3⟩:=pR O (xN g (j:=4) rfl rfl);cases b8;cases b9;obtain⟨Q,S,T⟩:=Value.slice.inj c3;subst Q S T;obtain⟨Q,S,T⟩:=Value.slice.inj c6;subst Q S T
 letI:Lo:=⟨W.heap.size⟩
 refine(Qm vF (yk vF) z0 z1 z2 b0 b1 a L c A x y b2 b3 b4 c1 c2 b5 b6 b7 c4 c5 W i0 i1 i2 i3 P c0 i5 i4 ⟨j2,j3,j4,QE _⟩ j1 ⟨QE _,_,_,rfl,l3⟩ l1 (QE _)).mono λe c8 ⟨c7,n⟩=>?_;subst c7;exact⟨_,rfl,_,_,_,[],_,[],m,trodAll_mk1 (shut_bool underlying4 _),vx ZT n _ _ _ _ Qo D (λx P=>m.lt x (TH.2 (.inl P))),rfl,n.frame _,λh=>by cases h⟩
theorem provedH:Rows.TopHoleSaid:=
 OpenClaim.holds_of_wide 5 Tryz.f5 rfl rfl rfl rfl rfl rfl rfl ⟨rfl,rfl,rfl,rfl,rfl⟩ rfl rfl rfl rfl rfl aE func5 Qn
  (of_decide_eq_true aE) (by unfold Func.isWrapper;first|(rw[ak (by decide+kernel)];kernel_rfl)|(rw[al (by decide+kernel)];exact⟨rfl,rfl⟩))
  (λc a H b _=>OM c a H b)
end
end Go.Proofs.YtbimjlmclegaeaaGreat
