/- TopOne: without crashes, and with at most one member away, every call answers what one disk would; part 6 of 6. Conditions: none. -/
import Derived.Test.YtbimjlmclegaeaaGreatP4
namespace Go.Proofs.YtbimjlmclegaeaaGreat
set_option maxRecDepth 100000
set_option maxHeartbeats 8000000
open Go.RowKit Go.Proofs.Tryz
open Go renaming World->QA,World->M,heap_alloc_new->QB,Value->QC,bodyPost_ret->QR,results->RM,heap_setCell_other->RN,TypeId->SV,Addr->SZ
open Nat renaming le_trans->QE,le_refl->QH,zero_le->QN,zero_add->RH,lt_of_lt_of_le->RJ,not_lt_zero->RR,mod_lt->RT,lt_succ_self->TK,lt_irrefl->TO,add_assoc->UO,zero_mul->VV,lt_or_ge->YY
open List renaming getElem?_eq_getElem->QP,getElem?_eq_some_iff->QS,length_append->QU,mem_of_getElem?->QV,length_map->RA,getElem?_append_left->RD,getElem?_eq_none->RE,getElem?_map->RL,mem_map->RQ,getElem?_range->SF,length_cons->SG,mem_singleton->SP,mem_append->TJ,ext_getElem?->TN,map_cons->TS,range->TT,mem_iff_getElem?->TY,mem_range->UA,mem_cons->UG,length_filter_le->VI,length_nil->VT,take_append_of_le_length->XC,mem_flatten->YI,getElem_mem->YJ,nodup_nil->ZK
open Go.RowKit renaming Hid->QX,Below->SC
open Option renaming map_some->QY,map_eq_some_iff->YC
open _root_.Array renaming getElem?_eq_getElem->SB
open Go.Value renaming int->SK
open Go.Calls renaming mono->YM
open Go.IntKind renaming u8->ZC
open Bool renaming or_eq_false_iff->ZR
variable {w W z:World}{n m k i j r C:Nat}{c:Int}{v x y:Value}{T:List Nat}{p:Addr}{P:Option Addr}{A:Array Value}{d:Bool}{S Q X:Nat->Prop}{t:TypeId}{L:List Value}{O:Obj}{f:aQ}{F:dp}{g:az}{K:bq}{l:List Pt}{D:Dk}{U:Dv}{b:By}{o:Ro}{s:Rs}{u:Su}
section
def bX.no:bX:=⟨0,λ_=>0,λ_=>0,λ_ _=>0⟩
structure Cx(g:az)(u:Su)(N sq:Nat)(s:Rs)(L:List bX)(Vp V:eW):Prop where
 jl:Jl g N sq s.x L Vp V
 lit:Lit none (CQ g u N (pT s.x sq L bX.no 0 Vp)) s.b
 gt:Gt g none V s.er
 wt:∀p,p∈s.ro.wt->bu (cc L) (p.1,p.2.1)≠none
structure ZV(g:az)(u:Su)(N ep:Nat)(Vs:eW->Prop)(b b':By)(er:Nat):Prop where
 er:er=50
 aZ:b.aZ≠none
 br:b'.br=true
 can:Can g u N ep Vs b'
def qa(g:az)(u:Su)(N ep:Nat)(Vs:eW->Prop)(b b':By)(er:Nat)(A:Prop):Prop:=(er=0/\(b.aZ=none->b'.aZ=none)/\A)\/ZV g u N ep Vs b b' er
variable {g:az} {u:Su} {N sq ep:Nat} {s s':Rs} {L:List bX} {Vp V:eW} {Vs:eW->Prop} {k er:Nat} {c c':Cp} {b b' b1:By} {A B:Prop}
theorem qn.ends(h:qn none (CQ g u N c) b')(a:Yl g N ep Vs c)(d:b.aZ≠none)(e:er=50):ZV g u N ep Vs b b' er:=⟨e,d,h.br,c,h.dev,a⟩
theorem ZV.back(h:ZV g u N ep Vs b1 b' er)(a:b.aZ=none->b1.aZ=none):ZV g u N ep Vs b b' er:=⟨h.er,λe=>h.aZ (a e),h.br,h.can⟩
theorem qa.mono(h:qa g u N ep Vs b b' er A)(a:A->B):qa g u N ep Vs b b' er B:=h.imp (λ⟨d,e,f⟩=>⟨d,e,a f⟩) id
theorem qa.back(h:qa g u N ep Vs b1 b' er A)(a:b.aZ=none->b1.aZ=none):qa g u N ep Vs b b' er A:=h.imp (λ⟨d,f,i⟩=>⟨d,λe=>f (a e),i⟩) λh=>h.back a
theorem Yl.le(h:Yl g N ep Vs c)(d:c'.t=c.t)(n:∀f,c'.K f->c.K f)(o:∀q f,q<N->c'.M q f->c.M q f)(p:∀m r,c'.kU m r->c.kU m r)(hV:c'.V=c.V):Yl g N ep Vs c':=by refine⟨by rw[d];exact h.1,λf S v w=>?_⟩;obtain⟨t,sq,L,V,q⟩:=h.2 f S (n f v) λq e=>o q _ e (by rw[<-d];exact w q e);exact⟨t,sq,L,V,q.ck,q.tN,q.cn,q.lZ,q.Bk,q.used,q.lim,q.vs,q.f_,q.val,λm r i j l=>⟨λa=>(q.vW m r i j l).1 (p m r a),by rw[hV];exact(q.vW m r i j l).2⟩⟩
theorem Lit.zj{Q a:Nat->Dk->Prop}(h:Lit none Q b)(e:∀j d,Q j d->a j d):Lit none a b:=h.mono λj d _=>e j d
theorem qn.mono{Q a:Nat->Dk->Prop}(h:qn none Q b)(e:∀j d,Q j d->a j d):qn none a b:=⟨h.br,h.dev.mono λj d _=>e j d⟩
theorem Cx.yl(h:Cx g u N sq s L Vp V)(e:Vs V)(d:s.x.sure=false->Vs Vp):Yl g N s.x.ep Vs (pT s.x sq L bX.no 0 Vp):=h.jl.yl (.inl rfl) (λa=>absurd rfl a) 0 e d
theorem Ff(h:Jl g N sq s.x L Vp V){q:Nat}{f:aQ}(a:Wp s.x sq L bX.no 0 q f):ko s.x.nx f:=by
 unfold Wp at a;split at a
 .rename_i e;exact h.vW (P:=bX.no) (q:=q) (by unfold Mp;rw[ao e];exact .inl a) e
 .split at a
  .omega
  .exact a
theorem Jl.Ps(h:Jl g N sq s.x L Vp V)(l:c.kU=tk s.x L)(n:c.V=Vp)(o:c'.kU=λm r=>bu (cc L) (m,r)≠none)(p:c'.V=V):Cp.le g c c':=λm r q t d=>by
 rw[o]at d;have d:bu (cc L) (m,r)=none:=Decidable.not_not.1 d;rw[l,n,p];unfold tk;cases i:s.x.sure with
 |true=>exact⟨by rw[ao rfl];exactλa=>a d,by rw[h.sure i];exact aD.refl _⟩
 |false=>
  obtain⟨w,T,j,-,v⟩:=h.tail i;rw[j,gm,jT]at d;cases e:bu (bM T T.N) (m,r)with
  |some f=>rw[e]at d;cases d
  |none=>rw[e]at d;exact⟨by rw[aq aj,j,jU];exactλa=>a d,v m r q t e⟩
theorem Jl.Fg(h:Jl g N sq s.x L Vp V)(lg:Option (Nat × (Nat->Nat))):Jl g N sq {s.x with sure:=true,lg:=lg,bad:=0} L V V:=
 ⟨h.n,h.t,h.u,h.uN,h.nx,h.c,h.lim,h.sq,h.pk,h.pl,h.val,λ_=>rfl,λe=>by cases e⟩
theorem vP{x:Wl}(h:x.sure=true):tk x L=λm r=>bu (cc L) (m,r)≠none:=by funext m r;unfold tk;rw[ao h]
theorem Cx.sync(h:Cx g u N sq s L Vp V)(w:Vs V)(o:s.x.sure=false->Vs Vp):
  qa g u N s.x.ep Vs s.b (s.synced g).1.b (s.synced g).2 (Cx g u N sq (s.synced g).1 L V V/\(s.synced g).1.x={s.x with sure:=true,bad:=if s.x.sure=true then s.x.bad else 0}/\(s.synced g).1.ro=s.ro):=by
 by_cases j:s.x.sure=true
 .unfold Rs.synced;rw[ao j,ao j];have:=h.jl.sure j;subst this;exact .inl ⟨rfl,λe=>e,h,by rw[<-j],rfl⟩
 .have y:s.x.sure=false:=by simpa using j
  have p:g.M<s.b.N:=by have:=h.gt.gd.N;have:s.b.N=g.M+1:=this;omega
  have v:∀er,er=0->({s.x with bad:=er,sure:=er==0}:Wl)={s.x with sure:=true,bad:=0}:=λer e=>by subst e;rfl
  have l:eT (CQ g u N (pT s.x sq L bX.no 0 Vp)) (CQ g u N (pT {s.x with sure:=true,bad:=0} sq L bX.no 0 V)) (dj g.M):=by
   refine Fe rfl (λf d=>⟨d,d⟩) (λq f F d=>⟨?_,d⟩) (h.jl.Ps rfl rfl (vP rfl) rfl);show Mp {s.x with sure:=true,bad:=0} sq L bX.no q f;have d:Wp s.x sq L bX.no 0 q f:=d;unfold Wp at d;unfold Mp;show if q<s.x.u then _ else _
   split
   .rename_i e;rw[ao e]at d;exact .inl d
   .rename_i e;rw[aq e,aq J]at d;exact .inl d
  have r:=h.lit.Hy (a:=dj g.M) p l;have m:s.synced g=({s with b:=(s.b.op g.M bc).1,x:={s.x with bad:=(s.b.op g.M bc).2,sure:=(s.b.op g.M bc).2==0}},(s.b.op g.M bc).2):=by unfold Rs.synced;rw[aq j]
  rcases r with⟨z,C⟩|⟨D,t,E⟩
  .have i:(s.b.op g.M bc).2=0:=z;have n:=(h.gt.sync).2.1;rw[rM (by rw[m];exact i)]at n;rw[m]at n|-;refine .inl ⟨i,λe=>By.cY e,?_,by rw[aq j];exact v _ i,rfl⟩;simp only[v _ i]at n|-;exact⟨h.jl.Fg s.x.lg,C,n,h.wt⟩
  .rw [m];exact .inr (qn.ends E (h.yl w o) t D)
theorem kT{C:Nat}(hF:Fit g C s)(n:Lit none (CQ g u N c) s.b)(o:∀p,p∈s.ro.wt->c.kU p.1 p.2.1)(d:du s s' k er):
  (er=0/\(s.b.aZ=none->s'.b.aZ=none)/\Lit none (CQ g u N c) s'.b)\/(er=50/\s.b.aZ≠none/\qn none (CQ g u N c) s'.b):=by
 obtain⟨l,q,j,x,y⟩:=d;have:=n.Hz (Q:=λ_=>CQ g u N c) (l:=(fM s.ro l).map g_) λi a r=>by obtain⟨p,d,rfl⟩:=RQ.1 (QV r);have m:p∈s.ro.wt:=q.mem_iff.1 (jO.1 d).1;obtain⟨t,z,v⟩:=hF.wt p m;exact⟨by show p.1<s.b.N;have:=hF.N;omega,Kx v t (o p m)⟩
 rw[j]at this;rcases this with⟨f,h⟩|⟨f,h,i,-,w⟩
 .refine .inl ⟨f,λe=>?_,h⟩;have:=By.ec e ((fM s.ro l).map g_);rwa[j]at this
 .exact .inr ⟨f,h,w⟩
theorem Cx.kU(h:Cx g u N sq s L Vp V)(a:s.x.sure=true):∀p,p∈s.ro.wt->tk s.x L p.1 p.2.1:=λp d=>by unfold tk;rw[ao a];exact h.wt p d
theorem Cx.gH{C:Nat}(hF:Fit g C s)(h:Cx g u N sq s L V V)(l:s.x.sure=true)(n:Vs V)(a:du s s' k er):qa g u N s.x.ep Vs s.b s'.b er (Cx g u N sq s' L V V/\s'.x=s.x/\s'.ro={s.ro with wt:= []}):=by
 rcases kT hF h.lit (h.kU l) a with⟨d,f,i⟩|⟨d,f,i⟩
 .subst d;obtain⟨o,q,g3⟩:=h.gt.gH (mY a);have j:s'.x=s.x:=q;have m:s'.ro={s.ro with wt:= []}:=by
   rcases g3 with g3|g3
   .exact g3.2
   .exact absurd rfl g3.1.gone.ne
  refine .inl ⟨rfl,f,⟨by rw[j];exact h.jl,by rw[j];exact i,o,λp a=>by rw[m]at a;cases a⟩,j,m⟩
 .exact .inr (qn.ends i (h.yl n λe=>by rw[l]at e;cases e) f d)
theorem Cx.settle{C:Nat}(hF:Fit g C s)(h:Cx g u N sq s L Vp V)(d:Vs V)(t:s.x.sure=false->Vs Vp)(f:bW g s s' k er):
  qa g u N s.x.ep Vs s.b s'.b er (Cx g u N sq s' L V V/\s'.x={s.x with sure:=true,bad:=if s.x.sure=true then s.x.bad else 0}/\s'.ro={s.ro with wt:= []}):=by
 unfold bW at f;rcases h.sync d t with⟨x,y,z,l,r⟩|q
 .rw [ao x]at f;unfold cz at f;have n:(s.synced g).1.x.sure=true:=by rw[l]
  rw[ao n]at f;have w:Fit g C (s.synced g).1:=by
   have D:(s.synced g).1.b.N=s.b.N:=by
    unfold Rs.synced;split
    .rfl
    .exact By.fp _ _ _
   have o:∀j v,(s.synced g).1.b.dv j=some v->∃i,s.b.dv j=some i/\v.d.n=i.d.n/\v.d.cn<=i.d.cn:=λj v d=>by
    unfold Rs.synced at d;split at d
    .exact ⟨v,d,rfl,QH _⟩
    .by_cases e:j=g.M
     .subst e;exact By.iz (m:=0) dW d
     .have d:(s.b.op g.M bc).1.dv j=some v:=d;rw[By.dO _ e]at d;exact⟨v,d,rfl,QH _⟩
   refine⟨hF.b_,D.trans hF.N,λm v E d=>?_,λv d=>?_,?_,?_,by rw[r];exact hF.iF,by rw[r];exact hF.wt,by rw[r];exact hF.mA⟩
   .obtain ⟨i,p,F,G⟩:=o m v d;have:=hF.mem m i E p;omega
   .obtain ⟨i,p,F,G⟩:=o g.M v d;have:=hF.gy i p;rw[l];show 2+s.x.N<=_/\_;omega
   .rw [l];show(if s.x.sure=true then s.x.bad else 0)=0;split
    .exact hF.bad
    .rfl
   .rw [l];exact hF.cA
  have p:(s.synced g).1.x.ep=s.x.ep:=by rw[l]
  have:=z.gH w n d f;rw[p]at this;exact(this.mono λ⟨a,b,c⟩=>⟨a,b.trans l,by rw[c,r]⟩).back y
 .have K:¬(s.synced g).2=0:=by rw[q.er];decide
  rw[aq K]at f;obtain⟨rfl,-,rfl⟩:=f;exact .inr q
theorem Fh(n:Nat)(p:Nat->Bool)(h:∀m,m<n->p m=true):bQ n p=TT n:=List.filter_eq_self.2 λm a=>h m (UA.1 a)
def HA(x:Wl)(sq:Nat)(L:List bX)(V:eW)(i:Nat):Cp:={pT x sq L bX.no 0 V with kU:=λm r=>tk x L m r/\i<=m}
theorem Cx.ga(h:Cx g u N sq s L V V)(H:s.x.sure=true)(W:s.ro.wt= [])(w:Vs V)(q:eA g s s' k er):qa g u N s.x.ep Vs s.b s'.b er (Cx g u N sq s' L V V/\Lit none (CQ g u N (HA s.x sq L V g.M)) s'.b/\s'.x=s.x/\s'.ro=s.ro):=by
 obtain⟨G,F,K⟩:=q;have x:∀m r,s.ro.down m r=false:=λm r=>by
  cases e:s.ro.down m r with
  |false=>rfl
  |true=>have:=h.gt.gd.dn m r e;cases this
 have y:oT g s.ro=TT g.M:=Fh _ _ λm _=>by rw[x];rfl
 have M:s.b.N=g.M+1:=h.gt.gd.N;have n:qm none (el g s.ro (λ_ _=>True) s.ro.eU V λ_=>True) s.b:=h.gt.gd.dev;have z:Lit none (λk d=>el g s.ro (λ_ _=>True) s.ro.eU V (λ_=>True) k d/\CQ g u N (HA s.x sq L V 0) k d) s.b:=
  ⟨h.lit.br,λj t=>⟨(n j t).1,λv w=>⟨((n j t).2 v w).eG,((n j t).2 v w).mK,λX=>⟨((n j t).2 v w).holds X,(((h.lit.dev j t).2 v w).holds X).mono rfl (λ_ a=>a) (λ_ a=>a) (λ_ _ _ a=>a) (λ_ _ _ a=>a) λm r _ _ C=>⟨λa=>C ⟨a,QN _⟩,aD.refl _⟩⟩⟩⟩⟩
 have O:∀m r,¬s.ro.eU m r:=λm r ⟨p,q,_⟩=>by rw[W]at q;cases q
 have o:=z.Hz (Q:=λi k d=>el g s.ro (λ_ _=>True) s.ro.eU V (λ_=>True) k d/\CQ g u N (HA s.x sq L V i) k d) (l:=(oT g s.ro).map dj) λi a D=>by
  rw[y,RL]at D;have R:i<g.M:=by
   rcases YY i g.M with c|c
   .exact c
   .rw [RE (by simpa using c)]at D;cases D
  rw[SF R]at D;cases D;refine⟨by show i<s.b.N;omega,e' (λd f=>⟨f.1.fl,λE=>?_,λe=>aa⟩) λj d t f=>⟨f.1,λE=>⟨(f.2.1 E).sup,λr P C=>(f.2.1 E).row r P λa=>C ⟨a.1,?_⟩⟩,λe=>⟨(f.2.2 e).sup,(f.2.2 e).ck,(f.2.2 e).kw,(f.2.2 e).ring⟩⟩⟩
  .have I:=f.2.1 E;exact⟨.fl I.sup.view,λr P _=>.fl ((f.1.1 E).view r P (x i r) (O i r))⟩
  .have e1:j≠i:=t;have e2:i<=j:=a.2;omega
 rw[G]at o;have S:=h.yl (Vs:=Vs) w λe=>by rw[H]at e;cases e
 rcases o with⟨T,U⟩|⟨T,U,i,-,Y⟩
 .subst T;have J:=(h.gt.ga (pW ⟨G,F,K⟩)).1;have Z:Lit none (CQ g u N (HA s.x sq L V g.M)) s'.b:=by refine U.zj λj d f=>?_;rw[RA,y,List.length_range]at f;exact f.2
  refine .inl ⟨rfl,λe=>?_,⟨by rw[F];exact h.jl,?_,J,λp q=>by rw[K,W]at q;cases q⟩,Z,F,K⟩
  .have:=By.ec e ((oT g s.ro).map dj);rwa[G]at this
  .rw [F];refine Z.zj λj d f=>f.mono rfl (λ_ a=>a) (λ_ a=>a) (λ_ _ _ a=>a) (λ_ _ _ a=>a) λm r _ _ C=>⟨λa=>C a.1,aD.refl _⟩
 .exact .inr (qn.ends (Y.mono λj d f=>f.2) (S.le (c':=HA s.x sq L V i) rfl (λ_ a=>a) (λ_ _ _ a=>a) (λm r a=>a.1) rfl) U T)
theorem Cx.ib{C:Nat}(_:Fit g C s)(h:Cx g u N sq s L V V)(a0:Lit none (CQ g u N (HA s.x sq L V g.M)) s.b)(O:s.x.sure=true)(a3:s.ro.wt= [])(R:Vs V)(n:gv g s s' k er):
  qa g u N s.x.ep Vs s.b s'.b er (Cx g u N s.x.nx s' [] V V/\s'.x=s.x.cy s.x.ep/\s'.ro=s.ro):=by
 have i:=h.jl;have a4:s.b.N=g.M+1:=h.gt.gd.N;have a5:=h.gt;have z:=n;obtain⟨o,-,D⟩:=n;obtain⟨f,x⟩:=ah (aX s.x.ep s.x.nx ((s.x.t+s.x.u)%s.x.N));have t:∀j,j<128->f j<256:=λj i=>by rw[<-x];exact hE _ _ _ j i
 have Q:s.nj g s.x.ep=s.b.ck g.M f:=by unfold Rs.nj;rw[x]
 rw[Q]at o D;have S:Yl g N s.x.ep Vs (KU s.x sq L bX.no V f):=by rw[<-x];exact i.Ql rfl O R
 have a1:eT (CQ g u N (HA s.x sq L V g.M)) (CQ g u N (KU s.x sq L bX.no V f)) (g.M,aN 1 f):=
  My t rfl (λ_ a=>.inl a) ⟨.inr (aD.refl f),aD.refl f⟩ (λ_ _ _ a=>a) (λ_ _ _ a=>a) λm r a6 _ _=>⟨λa=>TO _ (RJ a6 a.2),aD.refl _⟩
 have a7:Yl g N s.x.ep Vs (HA s.x sq L V g.M):=(h.yl (Vs:=Vs) R λe=>by rw[O]at e;cases e).le (c':=HA s.x sq L V g.M) rfl (λ_ a=>a) (λ_ _ _ a=>a) (λm r a=>a.1) rfl;obtain⟨T,l⟩:∃T:Cp,T=⟨s.x.t,λy=>aD y f,λy=>aD y f,λ_=>ko s.x.nx,λ_=>ko s.x.nx,λ_ _=>False,V⟩:=⟨_,rfl⟩;have a2:eT (CQ g u N (KU s.x sq L bX.no V f)) (CQ g u N T) (dj g.M):=by subst l;exact Fe rfl (λy a=>⟨a,a⟩) (λq y _ a=>⟨Ff i a,Ff i a⟩) λm r _ _ _=>⟨λa=>a,aD.refl _⟩
 have v:s.b.ck g.M f=if(s.b.op g.M (aN 1 f)).2=0 then(s.b.op g.M (aN 1 f)).1.op g.M bc else s.b.op g.M (aN 1 f):=rfl
 have E:g.M<s.b.N:=aa;rcases a0.Hy (a:=(g.M,aN 1 f)) E a1 with⟨F,U⟩|⟨F,U,q3⟩
 .have W:(s.b.op g.M (aN 1 f)).2=0:=F;rw[ao W]at v;rcases U.Hy (a:=dj g.M) (by rw[By.fp];exact E) a2 with⟨r1,r2⟩|⟨r1,r2,r3⟩
  .have h0:(s.b.ck g.M f).2=0:=by rw[v];exact r1
   rw[h0]at o D;subst D;have G:s'.b=((s.b.op g.M (aN 1 f)).1.op g.M bc).1:=by rw[o,v]
   have w:s'.x=s.x.cy s.x.ep:=by rw[o];rfl
   have K:s'.ro=s.ro:=by rw[o]
   have X:=a5.ib (pX z);refine .inl ⟨rfl,λe=>?_,⟨?_,?_,X.1,λp n=>by rw[K,a3]at n;cases n⟩,w,K⟩
   .rw [G];exact By.cY (By.cY e)
   .rw [w];have Z:0<N:=Nat.lt_of_le_of_lt (QN _) i.t;exact⟨i.n,by show(s.x.t+s.x.u)%s.x.N<N;rw[i.n];exact RT _ Z,rfl,QN _,rfl,i.c,i.lim,by have:=i.nx;have:=i.sq;omega,λP a8=>(by cases a8),λp n=>by simp[cc]at n,λm r f x=>(by cases x),λ_=>rfl,λe=>by rw[show(s.x.cy s.x.ep).sure=s.x.sure from rfl,O]at e;cases e⟩
   .rw [G,w];refine r2.zj λj d H=>⟨λe=>?_,λe=>?_⟩
    .refine ⟨(H.1 e).sup,λr a9 _=>?_⟩;have:=(H.1 e).row r a9 (by rw[l];exactλa=>a);rw[l]at this;exact this
    .obtain ⟨x1,I,Y,x4⟩:=H.2 e;rw[l]at I Y x4;have J:∀y,aD y f->aD y (aX (s.x.cy s.x.ep).ep s.x.nx (s.x.cy s.x.ep).t):=λy a=>by rw[<-x]at a;exact a
     refine⟨x1,I.mono J,J _ Y,(x4.nI i.t).mono (λq y _ a=>?_) λq y _ a=>?_⟩
     .show Mp (s.x.cy s.x.ep) s.x.nx [] bX.no q y;unfold Mp;rw[aq (show¬q<(s.x.cy s.x.ep).u from RR q)];exact .inl a
     .show Wp (s.x.cy s.x.ep) s.x.nx [] bX.no 0 q y;unfold Wp;rw[aq (show¬q<(s.x.cy s.x.ep).u from RR q),aq (show¬q<(s.x.cy s.x.ep).u+0 from RR q)];exact a
  .have M:(s.b.ck g.M f).2=50:=by rw[v];exact r1
   refine .inr (qn.ends ?_ S (λe=>r2 (By.cY e)) (by rw[D,M]));rw[o,v];exact r3
 .have M:(s.b.ck g.M f).2=50:=by
   rw[v,aq (by have:(s.b.op g.M (aN 1 f)).2=50:=F;rw[this];decide)];exact F
  refine .inr (qn.ends ?_ a7 U (by rw[D,M]));rw[o,v,aq (by have:(s.b.op g.M (aN 1 f)).2=50:=F;rw[this];decide)];exact q3
theorem Cx.room{C:Nat}{Bt:bq}(hF:Fit g C s)(U:20000<=C)(h:Cx g u N sq s L Vp V)(r:Vs V)(j:s.x.sure=false->Vs Vp)(f:ea g Bt s s' k er):
  qa g u N s.x.ep Vs s.b s'.b er (∃t K l,Cx g u N t s' K l V/\(s'.x.sure=false->Vs l)/\s'.x.ep=s.x.ep/\s'.x.nx=s.x.nx):=by
 unfold ea at f;split at f
 .obtain ⟨rfl,-,rfl⟩:=f;exact .inl ⟨rfl,λe=>e,sq,L,Vp,h,j,rfl,rfl⟩
 .have m:∀i v n,bW g s i v n->_:=λi v n f=>h.settle hF r j f;rcases f with⟨i,v,o,w⟩|⟨o,w⟩
  .rcases m _ _ _ o with⟨-,t1,⟨G,x,O⟩⟩|q
   .have y:=d_ hF J (d' o) o;have a:i.x.sure=true:=by rw[x]
    have d:i.ro.wt= []:=by rw[O]
    have n:i.x.ep=s.x.ep:=by rw[x]
    rcases w with⟨z,W,b1,D⟩|⟨b1,D⟩
    .rcases G.ga a d r b1 with⟨-,t2,⟨P,Q,p,S⟩⟩|q
     .have E:=fF y J b1;have:=P.ib E (by rw[p];exact Q) (by rw[p];exact a) (by rw[S];exact d) r D;rw[show z.x.ep=s.x.ep by rw[p,n]]at this;refine(this.back t2).back t1|>.mono λ⟨T,F,c3⟩=>⟨_,_,_,T,λe=>?_,by rw[F];rfl,by rw[F,p,x];rfl⟩;rw[F,show(z.x.cy s.x.ep).sure=z.x.sure from rfl,p,a]at e;cases e
     .exact absurd q.er aj
    .have:=G.ga a d r b1;rw[n]at this;rcases this.back t1 with⟨q,-⟩|q
     .exact absurd q D
     .exact .inr q
   .exact absurd q.er aj
  .rcases m _ _ _ o with⟨q,-⟩|q
   .exact absurd q w
   .exact .inr q
end
section
theorem Lit.Ky{aw:Option Nat}{Q:Nat->Nat->Dk->Prop}{b:By}{l:List fL}(h:Lit aw (Q 0) b)(e:b.aZ=none)(d:∀i a,l[i]?=some a->a.1<b.N/\aw≠some a.1/\eT (Q i) (Q (i+1)) a):
  (b.run l).2.2=0/\Lit aw (Q l.length) (b.run l).1/\(b.run l).1.aZ=none/\(b.run l).1.N=b.N:=by
 refine(?_:(b.run l).2.2=0/\Lit aw (Q l.length) (b.run l).1).elim λx y=>⟨x,y,By.ec e l,By.fU b l⟩;rcases Lit.run l Q b h λi a c=>⟨(d i a c).1,(d i a c).2.2⟩with q|⟨f,j,-⟩|⟨-,q,-⟩
 .exact q
 .obtain ⟨a,k,m⟩:=By.hL f.ne;obtain⟨i,c⟩:=TY.1 k;exact absurd (by rw[m];exact j) (d i a c).2.1
 .exact absurd e q
theorem By.Fi(b:By)(J:Nat)(f:aQ):(b.ck J f).1=(b.run [(J,aN 1 f),dj J]).1/\(b.ck J f).2=(b.run [(J,aN 1 f),dj J]).2.2:=by
 unfold By.ck;by_cases e:(b.op J (aN 1 f)).2=0
 .have h:b.run [(J,aN 1 f),dj J] =(b.op J (aN 1 f)).1.run [dj J]:=ao e;rw[ao e,h,By.yA];by_cases a:((b.op J (aN 1 f)).1.op (dj J).1 (dj J).2).2=0
  .rw [ao a];exact⟨rfl,a⟩
  .rw [aq a];exact⟨rfl,rfl⟩
 .have h:b.run [(J,aN 1 f),dj J] =((b.op J (aN 1 f)).1,J,(b.op J (aN 1 f)).2):=aq e;rw[aq e,h];exact⟨rfl,rfl⟩
structure Mz(g:az)(aw:Option Nat)(hs:Nat->Bool)(L:List bX)(V:eW)(b:By):Prop where
 lit:Lit aw (fun k d=>k<g.M->∀r,r<g.R->bu (cc L) (k,r)=none->aD (d.view (1+r)) (V k r)) b
 aZ:b.aZ=none
 N:b.N=g.M+1
 hs:∀m,m<g.M->(hs m=false↔aw=some m)
 nL:∀m,aw=some m->m<g.M
 pl:∀p,p∈cc L->p.1<g.M/\p.2.1<g.R/\∀j,j<128->p.2.2 j<256
 val:∀m r f,bu (cc L) (m,r)=some f->aD f (V m r)
 par:BG g V
variable {g:az} {aw:Option Nat} {hs:Nat->Bool} {L:List bX} {V:eW} {b:By} {u:Su} {l:List Pt}
theorem vQ(m:Nat):(cQ g u).fr m=if m<g.M then dM g u m else none:=by show(if m<g.M then dM g u.told m else(if m<g.M then dM g u m else none))=_;split<;>rfl
theorem Mz.down(h:Mz g aw hs L V b)(d:∀m,m<g.M->u.st m=if hs m=false then 2 else 1)(m r:Nat):(cQ g u).down m r=true↔aw=some m:=by
 unfold Ro.down;rw[vQ];by_cases c:m<g.M
 .rw [ao c];unfold dM;rw[d m c];cases e:hs m with
  |false=>simp[(h.hs m c).1 e]
  |true=>
   have:aw≠some m:=λa=>by rw[(h.hs m c).2 a]at e;cases e
   simp[this]
 .rw [aq c];have:aw≠some m:=λa=>c (h.nL m a);simp[this]
theorem Mz.fY(h:Mz g aw hs L V b)(S:Bw (cc L) l)(a5:∀m,m<g.M->u.st m=if hs m=false then 2 else 1)(x y:Wl):Ks g u b l x/\Gt g aw V ⟨(Bx g u b l x).1,y,cQ g u⟩:=by
 have T:aw≠some g.M:=λe=>TO _ (h.nL _ e);have U:∀k,k<g.M->u.st k≠2->aw≠some k:=λk q e a=>by rw[a5 k q,ao ((h.hs k q).2 a)]at e;exact e rfl
 have w:=h.down a5;obtain⟨a1,a2,a3,O⟩:=sN (g:=g) (u:=u.tell) h.lit h.aZ h.N T U (λj d f n A r s v=>by rw[Dk.eD,aq aa];exact n A r s v) (λj d n A r s v=>by rw[Dk.lV];exact n A r s v);have W:∀p,p∈fM (cQ g u) l->p.1<g.M/\p.2.1<g.R/\(∀j,j<128->p.2.2 j<256)/\aw≠some p.1/\aD p.2.2 (V p.1 p.2.1):=λp X=>by obtain⟨D,C⟩:=jO.1 X;obtain⟨Z,H,N⟩:=h.pl p (S.mem D);exact⟨Z,H,N,λa=>(by rw[(w _ _).2 a]at C;cases C),h.val _ _ _ (S.val p D)⟩
 obtain⟨b1,b2,b3,M⟩:=Lit.Ky (Q:=λi k d=>k<g.M->aw≠some k->∀r,r<g.R->(k,r)∉((fM (cQ g u) l).drop i).map f_->aD (d.view (1+r)) (V k r)) (l:=(fM (cQ g u) l).map g_) (b:=(b.run (eC g u.tell)).1)
  (a2.mono λk d _ n q o r s v=>n q r s (by
   cases e:bu (cc L) (k,r)with
   |none=>rfl
   |some f=>
    exfalso;obtain⟨p,D,C⟩:=RQ.1 (S.all (k,r) (by rw[e];simp));refine v (RQ.2 ⟨p,jO.2 ⟨D,?_⟩,C⟩);cases C;cases e2:(cQ g u).down p.1 p.2.1 with
    |false=>rfl
    |true=>exact absurd ((w _ _).1 e2) o)) a3 λi a t=>by
  rw[RL]at t;cases e:(fM (cQ g u) l)[i]? with
  |none=>rw[e]at t;cases t
  |some p=>
   rw[e]at t;cases t;obtain⟨D,C,Z,H,N⟩:=W p (QV e);have E:(fM (cQ g u) l).drop i=p::(fM (cQ g u) l).drop (i+1):=List.drop_eq_getElem?_toList_append.trans (by rw[e];rfl);refine⟨by rw[O];show p.1<g.M+1;omega,H,dP Z (λd n q o r s v=>?_) λj d A n q o r s v=>n q o r s λc=>?_⟩
   .have v:(p.1,r)∉((fM (cQ g u) l).drop (i+1)).map f_:=v;show aD ((d.wr (1+p.2.1) p.2.2).view (1+r)) (V p.1 r);rw[Dk.eD];by_cases R:r=p.2.1
    .rw [ao (by rw[R]),R];exact N
    .rw [aq aa];refine n q o r s λc=>?_;rw[E,TS,UG]at c;rcases c with c|c
     .exact R (congrArg Prod.snd c)
     .exact v c
   .rw [E,TS,UG]at c;rcases c with c|c
    .exact A (congrArg Prod.fst c)
    .exact v c
 have I:∀m,m∈oT g (cQ g u)->m<g.M/\aw≠some m:=λm Y=>by obtain⟨m1,P⟩:=bC.1 Y;exact⟨m1,λa=>by rw[(w _ _).2 a]at P;cases P⟩
 have F:∀(k:Nat) (d:Dk),(k<g.M->aw≠some k->∀r,r<g.R->(k,r)∉((fM (cQ g u) l).drop ((fM (cQ g u) l).map g_).length).map f_->aD (d.view (1+r)) (V k r))->k<g.M->aw≠some k->∀r,r<g.R->aD (d.view (1+r)) (V k r):=λk d n q o r s=>
  n q o r s (by rw[RA,List.drop_length];simp)
 obtain⟨c1,c2,c3,c4⟩:=Lit.Ky (Q:=λ_ k d=>k<g.M->aw≠some k->∀r,r<g.R->aD (d.view (1+r)) (V k r)) (l:=(oT g (cQ g u)).map dj) (b:=((b.run (eC g u.tell)).1.run ((fM (cQ g u) l).map g_)).1) (b2.mono λk d _ n=>F k d n) b3 λi a t=>by obtain⟨m,Y,rfl⟩:=RQ.1 (QV t);obtain⟨m1,P⟩:=I m Y;exact⟨by rw[M,O];show m<g.M+1;omega,P,e' (λd n q o r s=>by rw[Dk.lV];exact n q o r s) λ_ _ _ n=>n⟩
 obtain⟨f,a6⟩:=ah (aX (x.ep+1) x.nx ((x.t+x.u)%x.N));have B:∀j,j<128->f j<256:=λj A=>by rw[<-a6];exact hE _ _ _ j A
 have z:E' g u b l=((b.run (eC g u.tell)).1.run ((fM (cQ g u) l).map g_)).1.run ((oT g (cQ g u)).map dj):=rfl;have J:=Lit.Ky (Q:=λ_ k d=>k<g.M->aw≠some k->∀r,r<g.R->aD (d.view (1+r)) (V k r)) (l:= [(g.M,aN 1 f),dj g.M]) (b:=(E' g u b l).1) (by rw[z];exact c2) (by rw[z];exact c3) λi a t=>by
  have G:(E' g u b l).1.N=g.M+1:=by rw[z,c4,M,O]
  match i,t with
  |0,t=>cases t;exact⟨by rw[G];exact TK _,T,dP B (λd _ q=>absurd q (TO _)) λ_ _ _ n=>n⟩
  |1,t=>cases t;exact⟨by rw[G];exact TK _,T,e' (λd _ q=>absurd q (TO _)) λ_ _ _ n=>n⟩
  |i+2,t=>simp at t
 have K:(Bx g u b l x).1=((E' g u b l).1.run [(g.M,aN 1 f),dj g.M]).1/\(Bx g u b l x).2=((E' g u b l).1.run [(g.M,aN 1 f),dj g.M]).2.2:=by unfold Bx;rw[a6];exact By.Fi _ _ _
 obtain⟨d1,d2,d3,d4⟩:=J;refine⟨⟨a1,b1,c1,by rw[K.2];exact d1⟩,⟨⟨?_,?_,λp X=>(by cases X),λm r e=>(w m r).1 e,h.nL,h.par⟩,?_,?_⟩⟩
 .show qm aw (el g (cQ g u) (λ_ _=>True) (cQ g u).eU V λ_=>True) (Bx g u b l x).1;rw[K.1];refine d2.dev.mono λk d q n=>⟨λa0=>⟨λr s E _=>n a0 (λa=>by rw[(w k r).2 a]at E;cases E) r s,λr _ _ v=>absurd trivial v⟩,λ_=>trivial⟩
 .show (Bx g u b l x).1.N=g.M+1;rw[K.1,d4,z,c4,M,O]
 .show (Bx g u b l x).1.br=false;rw[K.1];exact d2.br
 .show (Bx g u b l x).1.aZ=none;rw[K.1];exact d3
end
structure Qm(hs:Nat->Bool)(kp:Nat->Nat->Bool)(b b':By):Prop where
 N:b'.N=b.N
 br:b'.br=false
 aZ:b'.aZ=none
 dv:∀k,k<b.N->b'.dv k=if hs k=true then (b.dv k).map (Dv.nc (kp k)) else none
def Pu[Lo](B:Nat)(g:az)(u:Su)(a:Option Nat)(b:eW->Prop)(Z:bm)(W:M):Prop:=∃V s c,b V/\Z.B=B/\Z.N=u.N/\Z.lz=u.lz/\Inv W Z g a V 100000000000 s c
theorem HC{P:bX}(h:P.ok)(c:n<=P.N){p:Pt}(a:p∈bM P n):∀j,j<128->p.2.2 j<256:=by obtain⟨i,b,rfl⟩:=RQ.1 a;exact h.da i (by have:=UA.1 b;omega)
theorem Kz{L:List bX}{p:Pt}(h:p∈cc L):∃P,P∈L/\p∈bM P P.N:=by obtain⟨l,a,b⟩:=YI.1 h;obtain⟨P,c,rfl⟩:=RQ.1 a;exact⟨P,c,b⟩
theorem HD[Lo](b5:kR){N ep B:Nat}{b6:eW->Prop}{hs:Nat->Bool}{aw:Option Nat}{kp:Nat->Nat->Bool}{b b':By}(e7:Can g u N ep b6 b)(b7:b.N=g.M+1)(x:Qm hs kp b b')(F:u.ok g)(b8:u.N=N)(D:u.lost=false)(b9:∀m,m<g.M->u.st m=1)(c0:u.ev<4000000000000000000)(a3:u.cur=0)(c1:hs g.M=true)(O:∀m,m<g.M->(hs m=false↔aw=some m))(a4:∀m,aw=some m->m<g.M)(a5:∀m v,m<g.M->b.dv m=some v->1+g.R<=v.d.n)(a6:∀v,b.dv g.M=some v->2+N<=v.d.n)(c2:∀V,b6 V->BG g V)(h:aC w B b'):
  aE 72 #[ar B] w λe c3=>∃Z:bm,aK e (.tuple #[ar Z.A,aG 0])/\Z.B=B/\Fr mH aF w c3/\Pu B g u aw b6 Z c3:=by
 subst b8;obtain⟨c,a7,c4⟩:=e7;have Q:∀k,k<g.M+1->∃v,b.dv k=some v/\v.fN=false/\v.d.failed=false/\v.d.eG/\CQ g u u.N c k v.d:=λk S=>by
  obtain⟨h1,h2⟩:=a7 k aa;cases e:b.dv k with
  |none=>have:=h1 e;cases this
  |some v=>have q:=h2 v e;obtain⟨w1,w2⟩:=q.mK aJ;exact⟨v,rfl,w1,w2,q.eG,q.holds w2⟩
 obtain⟨v0,e0,w1,w2,c5,q0⟩:=Q g.M (TK _);have d8:=q0.2 rfl;have a8:b'.dv g.M=some (Dv.nc (kp g.M) v0):=by rw[x.dv _ aa,ao c1,e0];rfl
 obtain⟨v,c6⟩:=ah (Dv.nc (kp g.M) v0);rw[c6]at a8;have I:v.d=v0.d.settled (kp g.M):=by rw[<-c6];rfl
 have a9:v.fN=false/\v.d.failed=false/\v.d.n=v0.d.n/\v.d.cn=0:=by rw[<-c6];exact⟨w1,w2,rfl,rfl⟩
 have c7:v.d.eG:=by rw[I];exact Dk.fH c5 _
 obtain⟨t,T,Y,V,n⟩:=c4.2 (v.d.view 1) (λk=>v.d.view (2+k)) (by rw[I];exact d8.ck.cut _) λq e8=>by show c.M q (v.d.view (2+(c.t+q)%u.N));rw[I];exact(d8.ring q e8).1.cut _
 have U:b'.N=g.M+1:=by rw[x.N,b7]
 have J:∀k b0,k<g.M+1->b'.dv k=some b0->∃y,b.dv k=some y/\b0=Dv.nc (kp k) y/\hs k=true:=λk b0 S e=>by
  rw[x.dv k aa]at e;by_cases d:hs k=true
  .rw [ao d]at e;obtain⟨y,o,G⟩:=YC.1 e;exact⟨y,o,G.symm,d⟩
  .rw [aq d]at e;cases e
 have A:Rm g u.N 900000000000 b':=⟨U,λm s C e=>by
   obtain⟨y,o,G,-⟩:=J m s aa e;subst G;exact⟨a5 m y C o,by show 0+_<_;omega⟩,λs e=>by
   obtain⟨y,o,G,-⟩:=J g.M s aa e;subst G;exact⟨a6 y o,by show 0+_<_;omega⟩⟩
 have b1:=c2 V n.vs;have z:∀L,pL (λk=>v.d.view (2+k)) u.N ep t T L->lQ (λk=>v.d.view (2+k)) u.N ep t T L->Mz g aw hs L V b':=λL K W=>by
  have c8:=n.lZ.uniq n.Bk K W;have a0:=pS c8;have b2:=nE a0;refine⟨⟨x.br,λk S=>⟨λe=>?_,λb0 e=>?_⟩⟩,x.aZ,U,O,a4,λp a1=>?_,λm r f c9=>?_,b1⟩
  .rw [U]at S;obtain⟨y,o,-⟩:=Q k S;rw[x.dv k aa,o]at e;by_cases d:hs k=true
   .rw [ao d]at e;cases e
   .have j:k≠g.M:=λG=>d (by rw[G];exact c1);exact(O k aa).1 (by simpa using d)
  .rw [U]at S;obtain⟨y,o,rfl,-⟩:=J k b0 S e;obtain⟨v2,G,x1,x2,x3,x4⟩:=Q k S;rw[o]at G;cases G;refine⟨Dk.fH x3 _,λ_=>⟨x1,x2⟩,λ_ j r a2 e9=>?_⟩;have d0:bu (cc Y) (k,r)=none:=by
    have:=b2 (k,r);rw[e9]at this;cases X:bu (cc Y) (k,r)with
    |none=>rfl
    |some f=>rw[X]at this;exact this.elim
   obtain⟨y1,y2⟩:=n.vW k r j a2 d0;exact(((x4.1 j).row r a2 y1).cut (kp k)).trans y2
  .obtain ⟨i,d9⟩:=TY.1 a1;obtain⟨P,d1,d2⟩:=Kz a1;obtain⟨f1,d3⟩:=TY.1 d1;have b3:i<(cc Y).length:=by rw[a0.1];exact(QS.1 d9).1
   have e4:=(a0.2 i _ p (QP b3) d9).1;have a2:=n.f_ _ (YJ b3);have d4:((cc Y)[i]).1=p.1:=by have:=congrArg Prod.fst e4;exact this
   have d5:((cc Y)[i]).2.1=p.2.1:=by have:=congrArg Prod.snd e4;exact this
   rw[d4,d5]at a2;exact⟨a2.1,a2.2,HC (K f1 P d3).ok (QH _) d2⟩
  .have:=b2 (m,r);rw[c9]at this;cases X:bu (cc Y) (m,r)with
   |none=>rw[X]at this;exact this.elim
   |some f0=>rw[X]at this;have this:aD f0 f:=this;exact this.symm.trans (n.val m r f0 X)
 have R:∀m,m<g.M->(u.zg hs).st m=if hs m=false then 2 else 1:=λm _=>rfl
 refine(xT b5 B b' g u hs aw (λk=>v.d.view (2+k)) ep t T v w h F D b9 x.br x.aZ (λk S=>⟨λd=>?_,λd=>?_⟩) c1 (λm C e=>(O m C).1 e) ⟨aa,a8,⟨a9.1,a9.2.1⟩,x.br,x.aZ⟩ c7 n.cn n.tN n.ck (λ_ _=>rfl) ⟨A.de,λm s C e=>⟨(A.mem m s C e).1,by have:=(A.mem m s C e).2;omega⟩,λs e=>⟨(A.gy s e).1,by have:=(A.gy s e).2;omega⟩⟩ c0 ⟨n.lim.1,by have:=n.lim.2;omega⟩ (λL l K W _ b4=>((z L K W).fY b4 R _ (Wl.fresh 0 0)).1) (λL p K W a1=>⟨((z L K W).pl p a1).1,((z L K W).pl p a1).2.1⟩)).mono ?_
 .obtain ⟨y,o,x1,x2,x3,x4⟩:=Q k aa;refine⟨Dv.nc (kp k) y,⟨aa,by rw[x.dv k aa,ao d,o];rfl,⟨x1,x2⟩,x.br,x.aZ⟩,Dk.fH x3 _,?_,λj=>a5 k y j o,λj=>?_⟩
  .by_cases j:k<g.M
   .exact ((x4.1 j).sup).cut _
   .have:k=g.M:=aa;subst this;exact((x4.2 rfl).sup).cut _
  .subst j;exact a6 y o
 .rw [x.dv k aa,aq (by rw[d];decide)]
 .rintro e c3 ⟨Z,L,l,rfl,z1,z2,z3,K,W,f2,b4,d6,c9⟩;have d1:=z L K W;obtain⟨-,d7⟩:=d1.fY b4 R (Hv ep t T u.N L) ((Hv ep t T u.N L).cy (ep+1));have e5:Y.length=L.length:=(n.lZ.uniq n.Bk K W).1;have e6:=n.lim;have f3:l.length<=2048:=by have:=b4.len;have:=jC L;have:=F.ring.2;have f4:bl L<=u.N:=f2;omega
  have E:Rm g u.N 200000000000 (Bx g (u.zg hs) b' l (Hv ep t T u.N L)).1:=by
   have r1:Rm g u.N 800000000000 (Mt g (u.zg hs) b').1:=A.run (λa H=>by
    obtain⟨k,-,rfl|rfl⟩:=gJ H
    .exact sL _ _ _
    .exact yM _) (by
    have:=lJ F.b_ (u.zg hs).tell g.M (QH _);unfold eC;simp only[QU,RA,SG,VT];omega)
   have r2:Rm g u.N 700000000000 (KT g (u.zg hs) b' l).1:=r1.run (λa H=>gr a H) (by rw[RA];have:(fM (cQ g (u.zg hs)) l).length<=l.length:=VI _ _;omega);have r3:Rm g u.N 600000000000 (E' g (u.zg hs) b' l).1:=r2.run (λa H=>wR a H) (by rw[RA];have:=sC F.b_ (cQ g (u.zg hs));omega);have r4:=r3.run (l:= [(g.M,aN 1 (aX (ep+1) (T+L.length) ((t+bl L)%u.N))),dj g.M]) (k:=200000000000) (λa H=>by
    rcases UG.1 H with rfl|H
    .exact λv=>ey _ _ v
    .rw [SP.1 H];exact yM _) (by show 200000000000+2<=_;omega)
   rw[<-(By.Fi _ _ _).1]at r4;exact r4
  refine⟨Z,rfl,z1,c9,V,_,_,n.vs,z1,z2,z3,d6,d7,?_,λm=>?_,λm C M=>?_,?_,?_,?_,⟨rfl,rfl,D⟩,z2.symm,z3.symm⟩
  .refine Su.nZ ?_ (by show u.ev<_;omega);exact⟨F.b_,F.id,F.ev,QN _,F.ring,λm _=>by by_cases e:hs m=false;exact Or.inr (Or.inl (ao e));exact Or.inl (aq e),λm k C S h3=>by have h3:(if hs m=false then 2 else 1)=3:=h3;split at h3<;>omega,by show u.cur<g.s;exact F.cur.1,λf5=>absurd a3 f5⟩
  .show (cQ g (u.zg hs)).fr m=_;rw[vQ];rfl
  .have M:(if hs m=false then 2 else 1)≠1:=M;refine(O m C).1 ?_;by_cases o:hs m=false
   .exact o
   .rw [aq o]at M;exact absurd rfl M
  .rintro ⟨m,C,X⟩;have X:(if hs m=false then 2 else 1)=3:=X;split at X<;>omega
  .refine ⟨F.b_,E.de,λm s C e=>⟨(E.mem m s C e).1,by have:=(E.mem m s C e).2;omega⟩,λs e=>⟨(E.gy s e).1,by have:=(E.gy s e).2;omega⟩,rfl,⟨?_,?_,?_⟩,QN _,λp a1=>(by cases a1),ZK⟩
   .show ep+1+100000000000<=_;omega
   .show 1<=T+L.length;have:=n.cn.2.1;omega
   .show T+L.length+100000000000<=_;omega
  .show u.ev+1+100000000000<=_;omega
structure MA[Lo](w:M)(B:Nat)(b:By)(R:bm->M->Prop):Prop where
 call:∀W,aC W B b->Fr TB aF w W->aE 72 #[H B] W fun e w'=>∃Z:bm,aK e (.tuple #[H Z.A,aG 0])/\Z.B=B/\Fr mH aF W w'/\R Z w'
 cj:∀Z W,R Z W->∃b,aC W Z.B b
 stay:∀Z W W',R Z W->Fr [46,73] aF W W'->R Z W'
theorem HE[Lo](G:Nat)(Z:bm)(g:az)(X:Nat)(N M:Int)(pv m:QC)(L:Nat)(n:aQ)(O:Nat->Nat->Bool)(b:By)(w:QA)(R:bm->QA->Prop)(I:cw w G Z g)(a9:aC w Z.B b)(b0:qG w m L n O)(b4:L<=1000000)(Y:Lo.lo<=G/\Lo.lo<=w.heap.size)(H:MA w Z.B (b.cut (cK L n O)) R):
  aE 38 #[ar G,fQ X N 0 M pv m] w λe f=>aK e (cX 0 aW 0)/\∃h,cw f G h g/\Fr TM aF w f/\R h f:=by
 obtain⟨J,bA,x,b1,y,z,P,Q,c⟩:=pC w X N 0 M pv m;have d:=(c.block _ (Z_ I)).trans I;obtain⟨a1,a2,a3⟩:=cr P;obtain⟨s1,s2,s3⟩:=cr d;have b5:QX (∀W,au J W->aE 71 #[ar Z.B,m] W λe f=>aK e (.tuple #[])/\aC f Z.B (b.cut (cK L n O))/\Fr TB aF J f):=λW a0=>(FM Z.B b m L n O W ((a9.below c).below a0) ((b0.fr (T:= []) (Fr.af c) rfl rfl).fr (T:= []) (Fr.af a0) rfl rfl) b4).mono λe f ⟨h1,h2,h3⟩=>⟨h1,h2,(Fr.af a0).tr h3⟩;have b2:=ad H;have b6:=ad ih;have A:QX (∀T:List Nat,(T.contains 73||T.contains 50||T.contains 46)=false->∀i,Fr T aF J i->a_ i G (al #[ar Z.B,ar Z.A,ae g.R,ae g.M,ae g.c,ae g.s] 73)/\a_ i bA (al #[bx X,ae N,ae 0,ae M,pv,m] 50)/\a_ i x z46):=λT S i o=>by simp only[ZR]at S;exact⟨o.hp d S.1.1,o.hp P S.1.2,o.hp Q S.2⟩
 have B:=bZ P Q d c Y;have j:=aM b1 y z;have C:¬G=x:=fI d Q aj;have a4:¬x=G:=λe=>C e.symm;clear I H b1 y z P Q c d a9 b0;go_enter func38,ntmps38;go_wp2_with fail;rw[j.1,j.2.2,j.2.1];go_region_held3(λf=>f.cell? (ag G 0)=some (ar Z.B)/\f.cell? (ag bA 5)=some m) ((simp[*,go_sem];done)) (first
  |(go_at_call 71;refine(b5 _ (by first|exact ak|exact cE ak _)).mono ?_;rintro e i ⟨rfl,D,o⟩
    have k:=A.out TB rfl i o;obtain⟨v1,v2,v3⟩:=cr k.1;obtain⟨v4,v5,v6⟩:=cr k.2.1;have U:=aM D o k;clear D o k))
 go_wp2_with(first
  |(go_at_call 72;refine(b2.call _ (U.1.below (by first|exact ak|exact cE ak _)) (((Fr.af B.2.2.2.1).tr U.2.1).then (by first|exact ak|exact cE ak _))).mono ?_;rintro e u ⟨h,rfl,b3,q,E⟩
    have r:=A.out mH rfl u ((U.2.1.wide mH rfl).tr (((Fr.af (by first|exact ak|exact cE ak _):Fr mH aF i _)).tr q));obtain⟨u1,u2,u3⟩:=cr r.1;have l:=aT b3 E r ((U.2.1.wide mH rfl).tr (((Fr.af (by first|exact ak|exact cE ak _):Fr mH aF i _)).tr q));clear b3 q E r)
  |(go_at_call 21;refine(b6 0 _).mono ?_;rintro e w4 ⟨rfl,a⟩
    have F:=(a.block _ (Z_ (heap_setCell_same _ _ _ _ _ _ l.2.2.1.1))).trans (heap_setCell_same _ _ _ _ _ _ l.2.2.1.1);have s:=(RN u (ag G 1) x (ar h.A) (by first|exact a4|exact C)).trans l.2.2.1.2.2;have t:=(a.block _ (Z_ s)).trans s;obtain⟨r7,r8,r9⟩:=cr t;have V:=aM a F t;clear a F s t)
  |fail)
 have a5:w.heap.size<=x:=by have:=j.2.2;omega
 obtain⟨y1,y2,y3⟩:=qu (w:=w) V.2.2 rfl a5 B.2.2.2.2.2 (aG 0) aW (ae 0);have c0:=(cr y1).1 0;have c1:=(cr y1).1 1;have c2:=(cr y1).1 2;have a6:Fr TM aF w u:=((Fr.af B.2.2.2.1).tr l.2.2.2).wide TM rfl;have a7:Fr TM aF w (u.setCell (ag G 1) (ar h.A)):=a6.set (p:=ag G 1) l.2.2.1.1 rfl B.2.2.2.2.1 _;have a8:Fr [46,73] aF u (u.setCell (ag G 1) (ar h.A)):=(Fr.refl _ _ _).set (p:=ag G 1) l.2.2.1.1 rfl B.2.2.2.2.1 _;have K:cw w4 G h g:=by have:=V.2.1;rw[<-l.1]at this;exact this
 refine QR (v:=cX 0 aW 0) (by simp[RM,results38,go_sem,c0,c1,c2]) rfl ⟨rfl,h,y2.hp K rfl,y3 (a7.then V.1),b2.stay h _ _ l.2.1 ((a8.then V.1).tr (y2.wide [46,73] rfl))⟩
section
theorem Lit.MB{Q:Nat->Nat->Dk->Prop}{b:By}{l:List fL}(h:Lit none (Q 0) b)(c:b.aZ=none)(d:∀i a,l[i]?=some a->a.1<b.N/\eT (Q i) (Q (i+1)) a):Lit none (Q l.length) (b.run l).1/\(b.run l).1.aZ=none/\(b.run l).1.N=b.N:=by
 rcases h.Hz d with⟨-,q⟩|⟨-,q,-⟩
 .exact ⟨q,By.ec c l,By.fU b l⟩
 .exact absurd c q
abbrev KV(f:aQ):Prop:=aD f λ_=>0
def tl(_:Nat)(d:Dk):Prop:=∀a,d.nC a KV
theorem Fj{k a:Nat}:eT tl tl (k,aN a λ_=>0):=dP (λ_ _=>aj) (λd h x=>(h x).wr λ_=>aD.refl _) λ_ _ _ h=>h
theorem Lit.MC{b:By}(h:Lit none tl b)(e:b.aZ=none){J:Nat}(f:J<b.N){pl:aQ}:∀n,Lit none tl (b.dr J pl (λ_ _=>0) n).1/\(b.dr J pl (λ_ _=>0) n).1.aZ=none/\(b.dr J pl (λ_ _=>0) n).1.N=b.N
 |0=>⟨h,e,rfl⟩
 |n+1=>by
  obtain⟨i,c,d⟩:=Lit.MC h e f n;unfold By.dr;split
  .rcases i.Hy (a:=(J,aN (pl n) λ_=>0)) (by rw[d];exact f) Fj with⟨-,q⟩|⟨-,q,-⟩
   .exact ⟨q,By.cY c,by rw[By.fp,d]⟩
   .exact absurd c q
  .exact ⟨i,c,d⟩
def vR(g:az)(k:Nat):Nat:=if k=g.M then 0 else k+1
structure KA(g:az)(u:Su)(i k:Nat)(d:Dk):Prop where
 mem:k<g.M->∀r,d.nC (1+r) KV
 gy:k=g.M->d.nC 1 (fun f=>aD f (aX 1 1 0))/\∀q,d.nC (2+q) KV
 told:k<=g.M->vR g k<i->aD (d.view 0) (fP g (u.sl k))
 fl:k<=g.M->vR g k+(g.M+1)<i->d.nC 0 fun f=>aD f (fP g (u.sl k))
theorem pY{g:az}{j k:Nat}(a:j<g.M+1)(h:k≠en g j):vR g k≠j:=by unfold en at h;unfold vR;split at h<;>split<;>omega
theorem vS{g:az}{j:Nat}(a:j<g.M+1):vR g (en g j)=j:=by
 unfold en vR;split
 .rw [ao rfl];omega
 .rw [aq J];omega
variable {g:az} {N:Nat} {lz:Bool} {b:By}
theorem Fk(K:g.ok)(h:qt g N b)(_:N<=2048)(u:Su):Lit none (CQ g u N (pT (Wl.fresh N 1) 1 [] bX.no 0 rA)) (sS g N u b):=by
 have O:Lit none tl b:=⟨h.br,λk s=>by rw[h.dv k (by rw[<-h.bN];exact s)];refine⟨λe=>(by cases e),λv P=>?_⟩;cases P;exact⟨Dk.rq _,λ_=>⟨rfl,rfl⟩,λ_ a=>.clean rfl (by rw[Dk.jr rfl];exact aD.refl _)⟩⟩;obtain⟨S,T,D⟩:=O.MB (Q:=λ_=>tl) (l:=eV g g.M) h.aZ λi a t=>by obtain⟨Y,r,-,U⟩:=lL (QV t);refine⟨by rw[h.bN];omega,?_⟩;rw[U];exact Fj
 rw[h.bN]at D;obtain⟨L,C,E⟩:=Lit.MC (J:=g.M) (pl:=λp=>2+p) S T (by rw[D];omega) N;rw[D]at E;obtain⟨w,z⟩:=ah (((b.run (eV g g.M)).1.dr g.M (λp=>2+p) (λ_ _=>0) N).1);rw[z]at L C E;have V:jX g N b=(w.ck g.M (aX 1 1 0)).1:=by rw[<-z];rfl
 have A:Lit none (KA g u 0) (w.ck g.M (aX 1 1 0)).1/\(w.ck g.M (aX 1 1 0)).1.aZ=none/\(w.ck g.M (aX 1 1 0)).1.N=g.M+1:=by
  have W:eT tl (λk d=>(k<g.M->tl k d)/\(k=g.M->aD (d.view 1) (aX 1 1 0)/\∀q,d.nC (2+q) KV)) (g.M,aN 1 (aX 1 1 0)):=
   dP (λj m=>hE 1 1 0 j m) (λd c=>⟨λe=>absurd e (TO _),λ_=>⟨by rw[Dk.eD,ao rfl];exact aD.refl _,λq=>(c _).wr λe=>aa⟩⟩) λj d m c=>⟨λ_=>c,λe=>absurd e m⟩
  have X:eT (λk d=>(k<g.M->tl k d)/\(k=g.M->aD (d.view 1) (aX 1 1 0)/\∀q,d.nC (2+q) KV)) (KA g u 0) (dj g.M):=
   e' (λd c=>⟨λe=>absurd e (TO _),λ_=>⟨.fl (c.2 rfl).1,λq=>.fl ((c.2 rfl).2 q).view⟩,λ_ e=>absurd e (RR _),λ_ e=>absurd e (RR _)⟩) λj d m c=>⟨λe r=>c.1 e _,λe=>absurd e m,λ_ e=>absurd e (RR _),λ_ e=>absurd e (RR _)⟩
  rcases L.Hy (a:=(g.M,aN 1 (aX 1 1 0))) aa W with⟨Z,H⟩|⟨-,q,-⟩
  .have F:(w.op g.M (aN 1 (aX 1 1 0))).2=0:=Z;unfold By.ck;rw[ao F];rcases H.Hy (a:=dj g.M) (by show g.M<_;rw[By.fp];omega) X with⟨-,r2⟩|⟨-,r,-⟩
   .exact ⟨r2,By.cY (By.cY C),by rw[By.fp,By.fp,E]⟩
   .exact absurd (By.cY C) r
  .exact absurd C q
 rw[<-V]at A;obtain⟨M,R,c3⟩:=A;have n:=M.MB (Q:=λi=>KA g u i) (l:=xt g u) R λi a t=>by
  have a0:i<2*(g.M+1):=by rw[<-oa g u];exact(QS.1 t).1
  by_cases e:i<g.M+1
  .have:=sU (u:=u) (i:=0) e aa;rw[VV,RH,t,ao rfl]at this;cases this;refine⟨by rw[c3];exact n' K e,dP (λj _=>nW _ _ j) (λd c=>⟨λx r=>(c.mem x r).wr λy=>aa,λx=>⟨(c.gy x).1.wr λy=>aa,λq=>((c.gy x).2 q).wr λy=>aa⟩,λ_ _=>?_,λ_ x=>?_⟩) λj d m c=>⟨c.mem,c.gy,λy x=>c.told y ?_,λy x=>c.fl y ?_⟩⟩
   .rw [Dk.eD,ao rfl];exact aD.refl _
   .omega
   .have:=pY e (show j≠en g i from m);omega
   .omega
  .obtain ⟨j,rfl⟩:∃j,i=g.M+1+j:=⟨i-(g.M+1),aa⟩;have m:j<g.M+1:=aa;have:=sU (u:=u) (i:=1) m aa;rw[Nat.one_mul,t,aq aj]at this;cases this;refine⟨by rw[c3];exact n' K m,e' (λd c=>⟨λx r=>.fl (c.mem x r).view,λx=>⟨.fl (c.gy x).1.view,λq=>.fl ((c.gy x).2 q).view⟩,λy _=>?_,λy x=>.fl (c.told y ?_)⟩) λk d s c=>⟨c.mem,c.gy,λy x=>c.told y ?_,λy x=>c.fl y ?_⟩⟩
   .rw [Dk.lV];refine c.told y ?_;rw[vS m];omega
   .rw [vS m];omega
   .have:=pY m (show k≠en g j from s);unfold vR at x|-;split at x<;>split<;>omega
   .have:=pY m (show k≠en g j from s);omega
 have o:∀f,KV f->ko 1 f:=λf G=>ko.plain (by unfold ht;simp[G 0 aa]);refine n.1.mono λk d s c=>?_;rw[oa]at c;have s:k<g.M+1:=by
  have:(sS g N u b).N=g.M+1:=by rw[<-c3];exact n.2.2
  omega
 have B:=c.fl aa (by unfold vR;split<;>omega);refine⟨λe=>⟨B,λr _ _=>c.mem e r⟩,λe=>⟨by subst e;exact B,(c.gy e).1,(c.gy e).1.view,λq a4=>⟨((c.gy e).2 _).mono λf G=>?_,?_⟩⟩⟩
 .show Mp (Wl.fresh N 1) 1 [] bX.no q f;unfold Mp;rw[aq (show¬q<(Wl.fresh N 1).u from RR q)];exact .inl (o f G)
 .show Wp (Wl.fresh N 1) 1 [] bX.no 0 q _;unfold Wp;rw[aq (show¬q<(Wl.fresh N 1).u from RR q),aq (show¬q<(Wl.fresh N 1).u+0 from RR q)];exact o _ ((c.gy e).2 _).view
theorem HF(c:g.ok)(h:qt g N b)(d:5<=N/\N<=2048)(lz:Bool):Cx g (Su.born N lz) N 1 (p' g N lz (sS g N (Su.born N lz) b)) [] rA rA:=by
 obtain⟨i,j,-⟩:=pB c h d.2 lz;refine⟨⟨rfl,by show 0<N;omega,rfl,QN _,rfl,by show cJ 1 1;unfold cJ;omega,by show 1<_/\1<_;omega,QH _,λP k=>(by cases k),λp a=>by simp[cc]at a,λm r f l=>(by cases l),λ_=>rfl,λe=>by cases e⟩,Fk c h d.2 _,?_,λp a=>by cases a⟩;have e:(p' g N lz (sS g N (Su.born N lz) b)).er=p' g N lz (sS g N (Su.born N lz) b):=by
  have:(sS g N (Su.born N lz) b).er=sS g N (Su.born N lz) b:=by unfold By.er;rw[<-j.aZ]
  unfold Rs.er;rw[show(p' g N lz (sS g N (Su.born N lz) b)).b=sS g N (Su.born N lz) b from rfl,this];rfl
 rw[e];exact i
end
section
variable {g:az} {u:Su} {N sq ep:Nat} {s s':Rs} {L:List bX} {Vp V V':eW} {Vs:eW->Prop} {k er:Nat} {P:bX} {l:List Pt}
def Fq(x:Wl)(sq:Nat)(L:List bX)(P:bX)(V:eW):Cp:={pT x sq L P (2*P.N) V with M:=Wp x sq L P (2*P.N)}
theorem IA(x:Wl)(j:Nat):x.pl j=2+(x.t+(x.u+j))%x.N:=by unfold Wl.pl;rw[Nat.mod_add_mod,UO]
theorem zk{b:By}{x:Wl}(p:Lit none (CQ g u N (pT x sq L P 0 Vp)) b)(d:g.M<b.N)(h:x.N=N)(r:nQ P)(t:x.u+2*P.N+1<=N):∀n,n<=2*P.N->
  ((b.dr g.M x.pl (bp x.ep x.nx P) n).2=0/\(b.aZ=none->(b.dr g.M x.pl (bp x.ep x.nx P) n).1.aZ=none)/\Lit none (CQ g u N (pT x sq L P n Vp)) (b.dr g.M x.pl (bp x.ep x.nx P) n).1)\/
  ((b.dr g.M x.pl (bp x.ep x.nx P) n).2=50/\b.aZ≠none/\∃j,qn none (CQ g u N (pT x sq L P j Vp)) (b.dr g.M x.pl (bp x.ep x.nx P) n).1)
 |0,_=>.inl ⟨rfl,λe=>e,p⟩
 |n+1,y=>by
  unfold By.dr;rcases zk p d h r t n J with⟨i,m,o⟩|⟨i,m,o⟩
  .rw [ao i];have v:eT (CQ g u N (pT x sq L P n Vp)) (CQ g u N (pT x sq L P (n+1) Vp)) (g.M,aN (x.pl n) (bp x.ep x.nx P n)):=by
    rw[IA,h];refine zi (c:=pT x sq L P n Vp) (q0:=x.u+n) (nX r.ok J) J rfl rfl rfl (λ_ _ _ a=>a) ?_ (λq f _ w a=>?_) ?_ (.refl rfl rfl)
    .show Mp x sq L P _ _;unfold Mp;rw[aq J,show x.u+n-x.u=n by omega];exact .inr ⟨J,aD.refl _⟩
    .have a:Wp x sq L P n q f:=a;show Wp x sq L P (n+1) q f;unfold Wp at a|-;split
     .rename_i e;rwa[ao e]at a
     .rename_i e;rw[aq e]at a;split
      .rwa [ao J]at a
      .rwa [aq J]at a
    .show Wp x sq L P (n+1) _ _;unfold Wp;rw[aq J,ao J,show x.u+n-x.u=n by omega];exact aD.refl _
   rcases o.Hy (a:=(g.M,aN (x.pl n) (bp x.ep x.nx P n))) (by rw[By.ke];exact d) v with⟨r1,r2⟩|⟨r1,r2,r3⟩
   .exact .inl ⟨r1,λe=>By.cY (m e),r2⟩
   .exact .inr ⟨r1,λe=>r2 (m e),n,r3⟩
  .rw [aq (by rw[i];decide)];exact .inr ⟨i,m,o⟩
theorem Cx.log(h:Cx g u N sq s L Vp V)(A:nQ (aS l))(G:s.x.u+2*l.length+1<=N)(K:Vs V)(B:s.x.sure=false->Vs Vp)(O:xc g l s s' k er):
  qa g u N s.x.ep Vs s.b s'.b er (Lit none (CQ g u N (Fq s'.x sq L (aS l) V)) s'.b/\Jl g N sq s'.x L V V/\s'.x.sure=true/\s'.ro=s.ro/\Gt g none V s'.er/\s'.x=s.x.cM (2*l.length+1) (bp s.x.ep s.x.nx (aS l) (2*l.length)) 0):=by
 have Q:s.b.N=g.M+1:=h.gt.gd.N;have o:Lit none (CQ g u N (pT s.x sq L (aS l) 0 Vp)) s.b:=h.lit.zj λj d S=>S.mono rfl (λ_ a=>a) (λ_ a=>a) (λq f _ a=>by
   have a:Mp s.x sq L bX.no q f:=a;show Mp s.x sq L (aS l) q f;unfold Mp at a|-;split
   .rename_i e;rwa[ao e]at a
   .rename_i e;rw[aq e]at a;exact .inl (a.resolve_right λb=>by have:=b.1;simp only[bX.no]at this;omega)) (λq f _ a=>by
   have a:Wp s.x sq L bX.no 0 q f:=a;show Wp s.x sq L (aS l) 0 q f;unfold Wp at a|-;split
   .rename_i e;rwa[ao e]at a
   .rename_i e;rw[aq e,aq J]at a;rw[aq J];exact a) (.refl rfl rfl)
 have p:∀j,Yl g N s.x.ep Vs (pT s.x sq L (aS l) j Vp):=λj=>h.jl.yl (.inr A) (λ_=>G) j K B;obtain⟨n,C,w⟩:=O;have T:=zk o J h.jl.n A G (2*l.length) (QH _);have i:s.ha g l=if(s.b.dr g.M s.x.pl (bp s.x.ep s.x.nx (aS l)) (2*l.length)).2=0 then(s.b.dr g.M s.x.pl (bp s.x.ep s.x.nx (aS l)) (2*l.length)).1.op g.M bc else s.b.dr g.M s.x.pl (bp s.x.ep s.x.nx (aS l)) (2*l.length):=rfl
 have U:=h.gt;rcases T with⟨x,y,D⟩|⟨x,y,j,D⟩
 .rw [ao x]at i;obtain⟨z,c⟩:=ah (s.x.cM (2*l.length+1) (bp s.x.ep s.x.nx (aS l) (2*l.length)) 0);have r:z.sure=true:=by rw[<-c];rfl
  have t:∀q f,Wp s.x sq L (aS l) (2*l.length) q f->Wp z sq L (aS l) (2*(aS l).N) q f:=λq f a=>by rw[<-c];exact a
  have W:eT (CQ g u N (pT s.x sq L (aS l) (2*l.length) Vp)) (CQ g u N (Fq z sq L (aS l) V)) (dj g.M):=
   Fe (by rw[<-c];rfl) (λf v=>by rw[<-c];exact⟨v,v⟩) (λq f Z v=>⟨t q f v,t q f v⟩) (h.jl.Ps rfl rfl (vP r) rfl)
  rcases D.Hy (a:=dj g.M) (by show g.M<_;rw[By.ke];omega) W with⟨r1,r2⟩|⟨r1,r2,r3⟩
  .have E:(s.ha g l).2=0:=by rw[i];exact r1
   have F:xc g l s.er s'.er k 0:=by have:s.er.ha g l=((s.ha g l).1.er,0):=By.Kw E;refine⟨?_,C,by rw[this]⟩;show s'.er=_;rw[this,n,E];rfl
   rw[E]at w n;subst w;have m:s'.x=z:=by rw[n,<-c]
   refine .inl ⟨rfl,λe=>?_,?_,?_,by rw[m];exact r,by rw[n],(U.log A.ok F).1,by rw[m,c]⟩
   .rw [n,i];exact By.cY (y e)
   .rw [m,n,i];exact r2
   .rw [m,<-c];exact h.jl.Fg _
  .have X:(s.ha g l).2=50:=by rw[i];exact r1
   refine .inr (qn.ends ?_ (p (2*l.length)) (λe=>r2 (y e)) (by rw[w,X]));rw[n,i];exact r3
 .rw [aq (by rw[x];decide)]at i;refine .inr (qn.ends ?_ (p j) y (by rw[w,i,x]));rw[n,i];exact D
theorem Bn(l:List Pt):bM (aS l) (aS l).N=l:=by
 apply TN;intro i;unfold bM;rw[RL];by_cases h:i<l.length
 .rw [SF (show i<(aS l).N from h),QY];show some ((((l[i]?).map (·.1)).getD 0),(((l[i]?).map (·.2.1)).getD 0),(((l[i]?).map (·.2.2)).getD λ_=>0))=_;rw[QP h];rfl
 .rw [RE (show l.length<=i by omega),RE (by rw[List.length_range];exact Nat.le_of_not_lt h)];rfl
theorem xW{x:Wl}(h:Jl g N sq x L Vp V)(P:bX):(∀q,q<x.u->gW x.ep sq (L++ [P]) q=gW x.ep sq L q)/\∀j,j<=2*P.N->gW x.ep sq (L++ [P]) (x.u+j)=bp x.ep x.nx P j:=by
 have d:=h.u;refine⟨λq m=>?_,λj e=>?_⟩
 .obtain ⟨i,Q,j,a,b,rfl⟩:=gX (ep:=x.ep) (_sq:=sq) (L:=L) (q:=q) J;have f:=(QS.1 a).1;have c:(L++ [P])[i]?=some Q:=by rw[RD f];exact a
  have:=fc (ep:=x.ep) (sq:=sq) b c;rw[XC J]at this;rw[this,fc b a]
 .have c:(L++ [P])[L.length]?=some P:=aJ;have:=fc (ep:=x.ep) (sq:=sq) e c;rwa[List.take_left' rfl,<-d,<-h.nx]at this
theorem HG(i:Jl g N sq s.x L V V)(M:s.x.sure=true)(R:Lit none (CQ g u N (Fq s.x sq L (aS l) V)) s.b)(K:g.M<s.b.N)(O:nQ (aS l))(S:s.x.u+2*l.length+1<=N)(I:s.x.nx+1<4000000000000000000)(w:∀p,p∈l->p.1<g.M/\p.2.1<g.R/\aD p.2.2 (V' p.1 p.2.1))(v:∀m r,m<g.M->r<g.R->bu l (m,r)=none->aD (V m r) (V' m r))(H:Vs V)(x:pf g l s s' k er)(Y:er=0->Gt g none V' s'.er):
  qa g u N s.x.ep Vs s.b s'.b er (Cx g u N sq s' (L++ [aS l]) V V'/\s'.x=s.x.eJ (2*l.length+1) 0/\s'.ro={s.ro with sl:=true,wt:=l}):=by
 obtain⟨o,-,T⟩:=x;have y:=Bn l;have n:∀q,bu (cc (L++ [aS l])) q=match bu l q with|some f=>some f|none=>bu (cc L) q:=λq=>by rw[gm,jT,y];cases bu l q<;>rfl
 obtain⟨d,h⟩:∃d,s.x.eJ (2*l.length+1) 0=d:=⟨_,rfl⟩;obtain⟨J,F⟩:=xW i (aS l);have C:(aS l).N=l.length:=rfl;rw[C]at F;have D:d.u=s.x.u+(2*l.length+1):=by rw[<-h];rfl
 have fe:d.nx=s.x.nx+1:=by rw[<-h];rfl
 have j:d.ep=s.x.ep:=by rw[<-h];rfl
 have t:d.t=s.x.t:=by rw[<-h];rfl
 have z:d.sure=false:=by rw[<-h];rfl
 have U:Jl g N sq d (L++ [aS l]) V V':=by
  refine⟨by rw[<-h];exact i.n,by rw[t];exact i.t,?_,by omega,?_,by rw[j,fe];have:=i.c;unfold cJ at this|-;omega,by rw[j,fe];exact⟨i.lim.1,I⟩,i.sq,λQ a0=>?_,λp x=>?_,λm r f A=>?_,λe=>(by rw[z]at e;cases e),λ_=>⟨L,aS l,rfl,i.val,λm r a1 S a2=>v m r a1 S (by rw[<-y];exact a2)⟩⟩
  .rw [iq,D,i.u,C]
  .rw [fe,i.nx,QU];rfl
  .rcases TJ.1 a0 with e|e
   .exact i.pk Q e
   .rw [SP.1 e];exact O
  .rw [gm,y]at x;rcases TJ.1 x with e|e
   .exact i.pl p e
   .exact ⟨(w p e).1,(w p e).2.1⟩
  .rw [n]at A;cases B:bu l (m,r)with
   |some a5=>rw[B]at A;cases A;obtain⟨p,a,b,rfl⟩:=lU B;cases b;exact(w p a).2.2
   |none=>rw[B]at A;obtain⟨p,a,b,-⟩:=lU A;have:=i.pl p a;cases b;exact(i.val _ _ f A).trans (v _ _ this.1 this.2 B)
 have a3:eT (CQ g u N (Fq s.x sq L (aS l) V)) (CQ g u N (pT d sq (L++ [aS l]) bX.no 0 V)) (g.M,aN (s.x.pl (2*l.length+1-1)) (bp s.x.ep s.x.nx (aS l) (2*l.length))):=by
  rw[show 2*l.length+1-1=2*l.length by omega,IA,i.n];have conv:∀q f,q≠s.x.u+2*l.length->Wp s.x sq L (aS l) (2*l.length) q f->Wp d sq (L++ [aS l]) bX.no 0 q f:=λq f E a=>by
   unfold Wp at a|-;rw[D,fe,j];by_cases W:q<s.x.u
   .rw [if_pos W]at a;rw[if_pos (by omega),J q W];exact a
   .rw [if_neg W]at a;by_cases G:q<s.x.u+2*l.length
    .rw [if_pos G]at a;rw[if_pos (by omega),show q=s.x.u+(q-s.x.u)by omega,F _ (by omega)];exact a
    .rw [if_neg G]at a;rw[if_neg (by omega),if_neg (by omega)];exact a.mono (by omega)
  refine zi (c:=Fq s.x sq L (aS l) V) (q0:=s.x.u+2*l.length) (nX O.ok (QH _)) (by omega) t (by show(λf=>aD f (aX d.ep sq d.t))=λf=>aD f (aX s.x.ep sq s.x.t);rw[j,t]) (by show(λf=>aD f (aX d.ep sq d.t))=λf=>aD f (aX s.x.ep sq s.x.t);rw[j,t]) (λq f _ a=>?_) ?_ (λq f _ E a=>conv q f E a) ?_ (.refl ?_ rfl)
  .show Mp d sq (L++ [aS l]) bX.no q f;by_cases e:q=s.x.u+2*l.length
   .subst e;have a:Wp s.x sq L (aS l) (2*l.length) _ f:=a;unfold Wp at a;rw[if_neg (by omega),if_neg (by omega)]at a;unfold Mp;rw[if_pos (by omega),fe];exact .inr ⟨z,by omega,a⟩
   .have a:=conv q f e a
    unfold Wp at a;unfold Mp;split
    .rename_i e;rw[if_pos e]at a;exact .inl a
    .rename_i e;rw[if_neg e,if_neg (by omega)]at a;exact .inl a
  .show Mp d sq (L++ [aS l]) bX.no _ _;unfold Mp;rw[if_pos (by omega),j,F _ (QH _)];exact .inl (aD.refl _)
  .show Wp d sq (L++ [aS l]) bX.no 0 _ _;unfold Wp;rw[if_pos (by omega),j,F _ (QH _)];exact aD.refl _
  .show tk d (L++ [aS l])=tk s.x L;funext m r;unfold tk;rw[z,M,if_neg (by decide),if_pos rfl,jU]
 rcases R.Hy (a:=(g.M,aN (s.x.pl (2*l.length+1-1)) (bp s.x.ep s.x.nx (aS l) (2*l.length)))) K a3 with⟨X,Z⟩|⟨X,Z,q3⟩
 .have h0:(s.dG g (2*l.length+1) (bp s.x.ep s.x.nx (aS l) (2*l.length))).2=0:=X;rw[h0]at o T;subst T;rw[if_pos rfl,h]at o;refine .inl ⟨rfl,λe=>by rw[o];exact By.cY e,⟨by rw[o];exact U,by rw[o];exact Z,Y rfl,λp x=>?_⟩,by rw[o,h],by rw[o]⟩;rw[o]at x;rw[n];have:bu l (p.1,p.2.1)≠none:=rI.1 ⟨p,x,rfl⟩;cases B:bu l (p.1,p.2.1)with
  |some f=>simp
  |none=>exact absurd B this
 .have h5:(s.dG g (2*l.length+1) (bp s.x.ep s.x.nx (aS l) (2*l.length))).2=50:=X;have a4:Yl g N s.x.ep Vs (Fq s.x sq L (aS l) V):=(i.yl (P:=aS l) (Vp:=V) (.inr O) (λ_=>S) (2*l.length) H λ_=>H).le (c':=Fq s.x sq L (aS l) V) rfl (λ_ a=>a) (λq f _ a=>by
   have a:Wp s.x sq L (aS l) (2*l.length) q f:=a;show Mp s.x sq L (aS l) q f;unfold Wp at a;unfold Mp;split
   .rename_i e;rw[if_pos e]at a;exact .inl a
   .rename_i e;rw[if_neg e]at a;split at a
    .rename_i G;exact .inr ⟨G,a⟩
    .exact .inl a) (λ_ _ a=>a) rfl
  refine .inr (qn.ends ?_ a4 Z (by rw[T,h5]));rw[o];exact q3
end
section
variable {g:az} {u:Su} {N sq ep C:Nat} {s s':Rs} {L:List bX} {Vp V:eW} {Vs:eW->Prop} {k er:Nat} {Bt:bq}
theorem Cx.bL(h:Cx g u N sq s L Vp V){l:List Nat}(m:∀k,k∈l->k<g.M+1/\∃r,s.ro.down k r=false)(p:Vs V)(d:s.x.sure=false->Vs Vp):
  qa g u N s.x.ep Vs s.b (s.b.bL l).1 (s.b.bL l).2.2 (Cx g u N sq {s with b:=(s.b.bL l).1} L Vp V):=by
 have f:s.b.N=g.M+1:=h.gt.gd.N;have n:=h.lit.Hz (Q:=λ_=>CQ g u N (pT s.x sq L bX.no 0 Vp)) (l:=l.map KJ) λi a q=>by obtain⟨k,t,rfl⟩:=RQ.1 (QV q);exact⟨by rw[f];exact(m k t).1,po _ k⟩
 rw[<-By.ek]at n;rcases n with⟨c,j⟩|⟨c,j,i,-,v⟩
 .refine .inl ⟨c,λe=>by rw[By.ek];exact By.ec e _,h.jl,j,?_,h.wt⟩;have o:=(h.gt.bL (l:=l) m).1;have e:s.er.b.bL l=((s.b.bL l).1.er,0,0):=by rw[By.ek,By.ek];exact By.pV _ (by rw[<-By.ek];exact c)
  rw[e]at o;exact o
 .exact .inr (qn.ends v (h.yl p d) j c)
structure OK(g:az)(u:Su)(N:Nat)(Vs:eW->Prop)(V V':eW)(s s':Rs):Prop where
 cx:∃sq L Vp,Cx g u N sq s' L Vp V'/\(s'.x.sure=false->Vp=V)
 lz:s.ro.lz=false->s'.x.sure=true/\s'.ro.wt= []
 ep:s'.x.ep=s.x.ep
 nx:s'.x.nx<=s.x.nx+1
theorem Fit.Pv(h:Fit g C s):Fit g C s.er:=⟨h.b_,h.N,h.mem,h.gy,h.bad,h.cA,h.iF,h.wt,h.mA⟩
theorem Cx.write(h:Cx g u N sq s L Vp V)(hF:Fit g C s)(f7:100000<=C)(d8:Bt.ok g)(gb:1<=Bt.n)(f8:N<=2048)(d9:2*Bt.dK g+1<=N)(F:Vs V)(H:s.x.sure=false->Vs Vp)(c0:Vs (Bt.dR g V))(e0:s.x.nx+1<4000000000000000000)(S:gB g Bt s s' k er):
  qa g u N s.x.ep Vs s.b s'.b er (OK g u N Vs V (Bt.dR g V) s s'):=by
 have e3:=hF.b_;have b8:Cx g u N sq s.fG L Vp V:=⟨h.jl,h.lit,h.gt.fG,h.wt⟩;have T:=hF.sl false;have e6:s.x.N=N:=h.jl.n;rcases S with⟨j,k1,h1,h2⟩|⟨h1,h2⟩
 .rcases b8.room T aa F H h1 with⟨-,t1,t,G,M,c1,v1,e1,n1⟩|q
  .have e1:j.x.ep=s.x.ep:=e1;have n1:j.x.nx=s.x.nx:=n1;have e4:j.x.N=N:=c1.jl.n;obtain⟨r1,r2,r3,r4⟩:Gt g none V j.er/\(j.ro=s.fG.ro\/j.ro={s.fG.ro with wt:= []})/\2*Bt.dK g+1<=j.x.N-j.x.u/\Fit g (C-20000) j:=by
    have R:ea g Bt s.fG.er j.er k1 0:=by
     unfold ea at h1|-;show if 2*Bt.dK g+1<=s.fG.x.N-s.fG.x.u then _ else _
     split at h1
     .rename_i c;rw[ao c];exact⟨by rw[h1.1],h1.2⟩
     .rename_i c;rw[aq c];obtain⟨a,e7,b1,b2⟩:=ft h1;obtain⟨d,e8,b3,b4⟩:=ft b2;exact .inl ⟨a.er,e7,Bm b1,.inl ⟨d.er,e8,pW b3,pX b4⟩⟩
    obtain⟨I,Y,a3,a4⟩:=b8.gt.room (Bt:=Bt) (by show 2*Bt.dK g+1<=s.x.N;omega) R;refine⟨I,Y,?_,?_⟩
    .rcases a4 with a4|a4
     .exact a4.2
     .exact absurd rfl a4.gone.ne
    .have:=b8.gt.vb T.Pv aa R;exact⟨this.b_,this.N,this.mem,this.gy,this.bad,this.cA,this.iF,this.wt,this.mA⟩
   have c6:j.ro.lz=s.ro.lz:=by rcases r2 with r2|r2<;>rw[r2] <;>rfl
   have z:=c1.bL (Vs:=Vs) (l:=dF g j.ro (Bt.bU g) (Bt.eR g)) (λk e9=>by obtain⟨x1,x2⟩:=uZ r1.gd.dn k e9;exact⟨aa,x2⟩) F v1;have f0:=r4.bL (dF g j.ro (Bt.bU g) (Bt.eR g));rw[e1]at z;rcases h2 with⟨h3,h4,J,K⟩|⟨h3,e5,h4,J⟩
   .rcases z with⟨q,-⟩|q
    .exact absurd q h3
    .subst h4 J K;exact .inr (q.back t1)
   .rcases z with⟨-,t2,c2⟩|q
    .have a0:dX (oQ g j.er.b j.er.ro (Bt.bU g)) e5 (Bt.eR g):=h4;have a5:(j.er.jm g Bt).2.2=0:=by show(j.b.er.bL _).2.2=0;rw[By.ek,By.pV _ (by rw[<-By.ek];exact h3)]
     obtain⟨p1,p2,p3,p4⟩:=r1.xn r4.Pv d8 gb (by show j.x.N<=2048;omega) r3 a0 a5;have A:=mL e3 r1.gd a0 a5;obtain⟨l,f1⟩:=ah e5.flatten;rw[f1]at J p1 p2 p3 p4 A;have p3:2*l.length+1<=j.x.N-j.x.u:=p3;have f2:j.x.u<=N:=c1.jl.uN;have c7:nQ (aS l):=⟨p4,p2,by show l.length<=1023;omega⟩;have a6:∀m r,j.ro.down m r=false:=λm r=>by
      cases e:j.ro.down m r with
      |false=>rfl
      |true=>have:=r1.gd.dn m r e;cases this
     have U:∀m r,m<g.M->r<g.R->bu l (m,r)=none->aD (V m r) (Bt.dR g V m r):=λm r c8 c9 f6=>by
      rcases A.all m r c8 c9 (a6 m r)with⟨p,a,b,c⟩|e
      .exact absurd f6 (rI.1 ⟨p,a,by unfold f_;rw[b,c]⟩)
      .rw [e];exact aD.refl _
     obtain⟨B,D⟩:∃B:Rs,{j with b:=(j.jm g Bt).1}=B:=⟨_,rfl⟩;have O:B.ro=j.ro/\B.x=j.x/\B.b=(j.jm g Bt).1:=by rw[<-D];exact⟨rfl,rfl,rfl⟩
     have c2:Cx g u N t B G M V:=by rw[<-D];exact c2
     have t2:j.b.aZ=none->B.b.aZ=none:=by rw[<-D];exact t2
     have d0:Fit g (C-20000) B:=by rw[<-D];exact f0
     rw[D]at J;have v2:B.x.sure=false->Vs M:=by rw[O.2.1];exact v1
     have a7:B.x.ep=s.x.ep:=by rw[O.2.1,e1]
     have E:∀o k3 er,xc g l B o k3 er->_:=λo k3 er K=>c2.log c7 (by rw[O.2.1];omega) F v2 K;rw[a7]at E;rcases J with⟨o,k3,K,h7⟩|⟨K,h7⟩
     .rcases E _ _ _ K with⟨-,t3,c3,j3,a8,W,g3,x3⟩|q
      .have f3:=sE d0 aa aa K;have a9:o.x.ep=s.x.ep:=by rw[x3,<-a7];rfl
       have Q:∀p,p∈o.ro.wt->(Fq o.x t G (aS l) V).kU p.1 p.2.1:=λp S=>by show tk o.x G p.1 p.2.1;unfold tk;rw[ao a8];exact c2.wt p (by rw[<-W];exact S)
       have u3:o.x.u=j.x.u/\o.x.nx=j.x.nx:=by rw[x3,O.2.1];exact⟨rfl,rfl⟩
       have b5:Yl g N o.x.ep Vs (Fq o.x t G (aS l) V):=(j3.yl (P:=aS l) (Vp:=V) (.inr c7) (λ_=>by show o.x.u+2*l.length+1<=N;omega) (2*l.length) F λ_=>F).le (c':=Fq o.x t G (aS l) V) rfl (λ_ a=>a) (λq f _ a=>by
        have a:Wp o.x t G (aS l) (2*l.length) q f:=a;show Mp o.x t G (aS l) q f;unfold Wp at a;unfold Mp;split
        .rename_i e;rw[ao e]at a;exact .inl a
        .rename_i e;rw[aq e]at a;split at a
         .rename_i O;exact .inr ⟨O,a⟩
         .exact .inl a) (λ_ _ a=>a) rfl
       rw[a9]at b5;rcases h7 with⟨i,k4,h8,h9⟩|⟨h8,h9⟩
       .rcases kT f3 c3 Q h8 with⟨-,t4,c4⟩|⟨q,-⟩
        .have f4:=gz f3 aa h8;obtain⟨g4,x4,n⟩:=g3.gH (mY h8);have x4:i.x=o.x:=x4;have n:i.ro={o.ro with wt:= []}:=by
          rcases n with n|n
          .exact n.2
          .exact absurd rfl n.1.gone.ne
         have b6:∀m r,i.ro.down m r=j.ro.down m r:=λm r=>yN (by rw[n,W,O.1]);have X:∀y k5 er,pf g l i y k5 er->qa g u N i.x.ep Vs i.b y.b er (Cx g u N t y (G++ [aS l]) V (Bt.dR g V)/\y.x=i.x.eJ (2*l.length+1) 0/\y.ro={i.ro with sl:=true,wt:=l}):=λy k5 er v=>by
          refine HG (by rw[x4];exact j3) (by rw[x4];exact a8) (by rw[x4];exact c4) (by have:=f4.N;omega) c7 (by rw[x4];omega) ?_ (λp S=>?_) U F v λe=>?_
          .rw [x4];omega
          .obtain ⟨I,Y,-,a4⟩:=A.val p S;exact⟨I,Y,a4⟩
          .subst e;have d4:pf g l i.er y.er k5 0:=by obtain⟨b1,b2,b3⟩:=v;have b0:(i.dG g (2*l.length+1) (bp i.x.ep i.x.nx (aS l) (2*l.length))).2=0:=b3.symm;have b4:i.er.dG g (2*l.length+1) (bp i.x.ep i.x.nx (aS l) (2*l.length))=((i.dG g (2*l.length+1) (bp i.x.ep i.x.nx (aS l) (2*l.length))).1.er,0):=By.pU b0;refine⟨?_,b2,by show 0=(i.er.dG g _ (bp i.x.ep i.x.nx (aS l) (2*l.length))).2;rw[b4]⟩;show y.er={b:=(i.er.dG g (2*l.length+1) (bp i.x.ep i.x.nx (aS l) (2*l.length))).1,x:=i.x.eJ (2*l.length+1) (i.er.dG g (2*l.length+1) (bp i.x.ep i.x.nx (aS l) (2*l.length))).2,ro:=if(i.er.dG g (2*l.length+1) (bp i.x.ep i.x.nx (aS l) (2*l.length))).2=0 then{i.ro with sl:=true,wt:=l}else i.ro};rw[b4,b1,b0];rfl
           refine(g4.qk (Bt:=Bt) (by show i.ro.wt= [];rw[n]) e3 d8 (l:=l) ⟨λp S=>?_,λm r c8 c9 f9=>?_⟩ p4 d4).1
           .obtain ⟨I,Y,a3,a4⟩:=A.val p S;exact⟨I,Y,by rw[show i.er.ro.down p.1 p.2.1=i.ro.down p.1 p.2.1 from rfl,b6];exact a3,a4⟩
           .exact A.all m r c8 c9 (a6 m r)
         have b7:i.x.ep=s.x.ep:=by rw[x4,a9]
         rw[b7]at X;have d5:s.b.aZ=none->i.b.aZ=none:=λe=>t4 (t3 (t2 (t1 e)));rcases h9 with⟨y,k5,v,w⟩|⟨v,w⟩
         .rcases X _ _ _ v with⟨-,t5,c5,x5,d6⟩|q
          .have f5:=pg f4 aa p1 v;have d7:y.ro.lz=s.ro.lz:=by rw[d6,n,W,O.1,<-c6]
           have Z:y.x.ep=s.x.ep:=by rw[x5,<-b7];rfl
           have n5:y.x.nx<=s.x.nx+1:=by rw[x5];show i.x.nx+1<=_;rw[x4];omega
           unfold lD at w;by_cases b9:y.ro.lz=true
           .rw [ao b9]at w;obtain⟨rfl,-,rfl⟩:=w;exact .inl ⟨rfl,λe=>t5 (d5 e),⟨_,_,_,c5,λ_=>rfl⟩,(λe=>by rw[d7,e]at b9;cases b9),Z,n5⟩
           .rw [aq b9]at w;have:=c5.settle (Vs:=Vs) f5 c0 (λ_=>F) w;rw[Z]at this;refine(this.back λe=>t5 (d5 e)).mono λ⟨d1,d2,d3⟩=>⟨⟨_,_,_,d1,λe=>by rw[d2]at e;cases e⟩,λ_=>⟨by rw[d2],by rw[d3]⟩,by rw[d2];exact Z,by rw[d2];exact n5⟩
          .exact absurd q.er aj
         .rcases X _ _ _ v with⟨q,-⟩|q
          .exact absurd q w
          .exact .inr (q.back d5)
        .exact absurd q aj
       .rcases kT f3 c3 Q h8 with⟨q,-⟩|⟨q1,q2,q3⟩
        .exact absurd q h9
        .exact .inr (qn.ends q3 b5 (λe=>q2 (t3 (t2 (t1 e)))) q1)
      .exact absurd q.er aj
     .rcases E _ _ _ K with⟨q,-⟩|q
      .exact absurd q h7
      .exact .inr (q.back λe=>t2 (t1 e))
    .exact absurd (q.er.symm.trans h3) aj
  .exact absurd q.er aj
 .rcases b8.room T aa F H h1 with⟨q,-⟩|q
  .exact absurd q h2
  .exact .inr q
end
theorem Fr.tn[Lo](h:Fr T aF w W)(b:n<=Lo.lo)(c:n<=w.heap.size):SC n w W:=
 ⟨h.os,h.tape,h.output,h.size,λk d=>by obtain⟨o,a⟩:∃o,a_ w k o:=⟨_,SB J⟩;rw[h.block k o a (.inr J) id,a]⟩
def Fl:Prop:=∀w:M,aE 8 #[] w λe a=>aK e ed/\au w a
def KB[Lo](P G:Nat)(Z:bm)(g:az)(a:M)(b:Option SZ)(L:Nat)(A:Nat->kL)(k:Nat)(wr:M):Prop:=(∃c V d,gO wr P G Z g c V (100000000000-250000*k) d)/\Fr TP aF a wr/\iB wr b L A
theorem vT(I:Fl)[Lo](c d f x:Nat)(y:Bool)(m:Option SZ)(L z:Nat)(A:Nat->kL)(w:QA)(h0:c<256)(h1:d<256)(h2:f<256)(h3:x<65536)(Y:iB w m L A)(e2:L<=140737488351232)(J:w.heap.size<=Lo.lo):
  aE 3 #[JZ c d f x y m L z] w λe e3=>aK e ed/\au w e3:=by
 have a9:=Y.lo;have b0:=ad (λW (e4:au w W)=>J_ c d f x y m L z A W h0 h1 h2 h3 (Y.below e4) e2);have b1:=ad (λW (e5:Lo.lo<=W.heap.size)=>EC c d f x y m L z W h0 h1 h2 h3 e5);have b2:=ad I;obtain⟨b3,p⟩:=ah (w.alloc (al (KR c d f x y m L z) 25));have b4:au w b3:=by rw[<-p];exact aI ak _
 have s:a_ b3 w.heap.size (al (KR c d f x y m L z) 25):=by rw[<-p];exact QB _ _
 obtain⟨D,B⟩:=ah w.heap.size;rw[B]at s;obtain⟨d1,d2,d3⟩:=cr s;have t:=bZ s b4 Y a9 J;have C:=aB p B;go_enter func3,ntmps3;go_wp2_with fail
 try simp only[C.out.1,C.out.2]
 refine(b0 b3 t.2.1).mono ?_;rintro e w1 ⟨r,rfl,u,E⟩;have v:=ad (t.2.1.trans (u.mono t.2.1.size));obtain⟨k0,k1,k2⟩:=kp u D d3;cases r
 case true=>go_wp2_with fail;go_ret;exact⟨rfl,v⟩
 case false=>
  obtain⟨g,b5⟩:=E rfl;have F:=aB g b5;have b6:=(u.block D d3).trans t.1;have K:=ad (b1 w1 (QE t.2.2.2.1 v.size));go_wp2_with fail;refine K.mono ?_;rintro e w2 ⟨P,G,Z,rfl,h,O,e9⟩;have b7:=ad h;have Q:=ad ((Fr.af v:Fr fT aF w w1).tr O);have S:=O.hp b6 rfl;go_wp2_with fail;refine(b2 w2).mono ?_;rintro e T ⟨rfl,j⟩;have U:=(j.block D (Z_ S)).trans S;have b8:QX (KB P G Z (mP c d f) T m L A 0 T):=⟨⟨none,rA,false,by rw[Nat.mul_zero];exact b7.below j⟩,Fr.refl _ _ _,(t.2.2.1.fr Q).below j⟩;have b9:=ad (Q.then j);have c0:=ad U;obtain⟨k0,k1,k2⟩:=cr U;go_wp2_with fail;go_loopw [5] (λs5 wr=>∃k:Nat,k<=L/\s5= ae k/\QX (KB P G Z (mP c d f) T m L A k wr)) (λs5 _=>L-(intOf s5).toNat)
  case atStart=>exact⟨0,QN _,rfl,b8⟩
  case round=>
   obtain⟨k,f0,rfl,n⟩:=hrel;obtain⟨e0,V,e1,h⟩:=n.1;have c1:=n.2.1.hp c0 rfl;obtain⟨k0,k1,k2⟩:=cr c1;have e6:L<=200:=g;by_cases i:k<L
   .have j1:(k:Int)<(L:Int):=aa;have j2:(0:Int)<=(k:Int):=aa;have X:=n.2.2.fit k i;obtain⟨b,o,c2,e7,e8⟩:=n.2.2.l.resolve_left aa;obtain⟨q0,q1,q2,q3,q4⟩:=e8 k i;have H:=JY P G Z (mP c d f) e0 V (100000000000-250000*k) e1 (A k).kd (A k).x (A k).y (A k).L (A k).lc (A k).rn (A k).rc (A k).la (A k).ra wr h aa X.u8.1 X.u8.2.1 X.u8.2.2 (A k).bk (A k).fl
     ⟨_,_,rfl,(n.2.2.aL k i).imp id λ⟨b,o,e,_,q⟩=>⟨b,o,e,q⟩⟩ (F.2 k i) X.bk X.fl
    have a:=ad H;have N:=ad i;subst c2;obtain⟨a0,c3⟩:=ah ((A k).kd);obtain⟨a1,c4⟩:=ah ((A k).x);obtain⟨a2,c5⟩:=ah ((A k).y);obtain⟨a3,c6⟩:=ah ((A k).la);obtain⟨a4,c7⟩:=ah ((A k).L);obtain⟨a5,c8⟩:=ah ((A k).lc);obtain⟨a6,c9⟩:=ah ((A k).ra);obtain⟨a7,d0⟩:=ah ((A k).rn);obtain⟨a8,d4⟩:=ah ((A k).rc);rw[c3]at q0 a;rw[c4]at q1 a;rw[c5]at q2 a;rw[c6,c7,c8]at q3 a;rw[c9,d0,d4]at q4 a;go_wp2_with(first|(go_at_call 9;refine a.mono ?_;rintro e w4 ⟨rfl,l,d5,V4,d6,M⟩;have H4:QX (KB P G Z (mP c d f) T (some (ag b o)) L A (k+1) w4):=⟨⟨d5,V4,d6,M.less aa⟩,n.2.1.tr l,n.2.2.fr l⟩));exact⟨⟨k+1,N,by go_num,H4⟩,by have:=N.out;simp[intOf];omega⟩
   .obtain rfl:k=L:=aa;obtain⟨f1,f2,f3,f4,d7,-⟩:=h.pl.aL;have d8:=ad (vx P G Z (mP c d f) e0 V _ e1 0 (mP c d f).B wr h aa aa);obtain⟨p0,p1,p2⟩:=cr d7;have d9:=ad n.2.1;have R:=ad t.2.2.2;go_wp2_with(first|(go_at_call 10;refine d8.mono ?_;rintro e w4 ⟨rfl,l,-⟩;have H4:=ad (d9.tr l)));go_ret;refine⟨rfl,?_⟩;have h5:au w T:=b9.tn R.2 (QH _);exact h5.trans (H4.tn R.2 h5.size)
abbrev gA:az:=⟨3,1,2⟩
abbrev uA:Su:=Su.born 10 false
abbrev bA:bq:=⟨1,λ_=>1,λ_ _=>7⟩
theorem zl:gA.ok:=⟨aj,aj,aj,aj,aj,aj⟩
theorem IB:bA.ok gA:=⟨λ_ _=>by show 1<gA.B;decide,λ_ _ _ _=>by show 7<256;decide⟩
abbrev vA:eW:=bA.dR gA rA
def OL(s:Rs)(u:Su):Prop:=Cx gA u 10 1 s [] rA rA/\s.x.sure=true/\Fit gA 1000000 s/\s.ro.lz=false/\s.x.nx=1/\u=uA
def OM(s:Rs)(u:Su):Prop:=(∃a L,Cx gA u 10 a s L vA vA)/\s.x.sure=true/\u=uA
theorem xA:XH gA none bA OL OM:=by
 refine⟨λs u d k ⟨h,p,f,g,i,j⟩ l=>?_,λs u d k r _ m=>?_,λs u e=>?_⟩
 .rcases h.write (Vs:=λ_=>True) f J IB (QH _) J aj trivial (λ_=>trivial) trivial (by rw[i];omega) l with⟨-,-,q⟩|q
  .obtain ⟨a,n,o,c,-⟩:=q.cx;have b:=(q.lz g).1;have:=c.jl.sure b;subst this;exact⟨⟨a,n,c⟩,b,j⟩
  .exact absurd q.er aj
 .have:=m.slot;cases this
 .exact absurd e aj
def Ak[Lo](X:Rs->Su->Prop)(a:Option Nat)(V:eW)(C:Nat)(W:M)(G:Nat)(Z:bm):Prop:=cw W G Z gA/\Lo.lo<=G/\∃s u,Inv W Z gA a V C s u/\X s u
theorem Ak.below[Lo]{X:Rs->Su->Prop}{a:Option Nat}{V:eW}{Z:bm}(h:Ak X a V C W n Z)(b:au W w):Ak X a V C w n Z:=by obtain⟨c,d,s,u,e,f⟩:=h;exact⟨(b.block _ (Z_ c)).trans c,d,s,u,e.below b,f⟩
abbrev Bo(_:Rs)(_:Su):Prop:=True
theorem KC[Lo](W:M)(c:Lo.lo<=W.heap.size):aE 16 #[.agg #[Y 3,Y 1,Y 2],Y 10,.bool false] W λe a=>∃G Z,aK e (.tuple #[H G,aG 0])/\Fr fT aF W a/\Ak OL none rA 100000000000 a G Z:=by refine YM (vu gA 10 false W zl aj c) ?_;rintro e a ⟨G,Z,rfl,d,f,g,h,i,j⟩;have b:=vm zl lO aj ⟨f,g⟩ j;exact⟨G,Z,rfl,i,d,QE c h,_,_,b,HF zl lO aj false,rfl,b.fit.less J,b.same.2.1.symm,rfl,rfl⟩
theorem MD[Lo](W:M)(G:Nat)(Z:bm)(pv:QC)(h:Ak OL none rA 100000000000 W G Z)(j:gN W pv bA):aE 11 #[H G,.agg #[.int .u8 2,Y 0,Y 0,Y 0,pv,aW]] W λe b=>∃a,aK e (cX 0 aW a)/\Fr et aF W b/\Ak OM none vA 99999750000 b G Z:=by
 obtain⟨d,k,s,u,f,g⟩:=h;have l:Z.N=10:=by rw[<-f.qq.1,g.2.2.2.2.2];rfl
 refine YM (El d f xA g J IB aj j) ?_;rintro e b ⟨q,a,rfl,i,c⟩;unfold AK at c;rw[aq (by rw[l];decide)]at c;obtain⟨rfl,m,n,o,p⟩:=c;exact⟨a,rfl,i,i.hp d rfl,k,m,n,o,p⟩
theorem HH[Lo]{Z:bm}{kv:QC}{L:Nat}{n:aQ}{fk:Nat->Nat->Bool}{R:bm->M->Prop}(A:cw w k Z g)(r:aC w Z.B b)(E:qG w kv L n fk)(F:L<=1000000)(j:Lo.lo<=k/\Lo.lo<=w.heap.size)(H:MA w Z.B (b.cut (cK L n fk)) R):
  aE 11 #[ar k,fQ 9 0 0 0 aW kv] w λe u=>∃l,aK e (cX 0 aW l)/\∃d,cw u k d g/\Fr TM aF w u/\R d u:=by
 refine(Iu w k 38 false 9 0 0 0 aW kv Z g (λz v W=>z=0/\v= aW/\∃d,cw W k d g/\Fr TM aF w W/\R d W) ⟨pD aJ,A,⟨_,r⟩,λW s=>?_,λz v W C h r=>?_,λz v W p o K x h G y=>?_⟩ rfl).mono ?_
 .refine (HE k Z g 9 0 0 aW kv L n fk b W R ((s.block _ (Z_ A)).trans A) (r.below s) (E.fr (T:= []) (Fr.af s) rfl rfl) F ⟨j.1,QE j.2 s.size⟩ ⟨λC q f=>H.call C q ((Fr.af s).tr f),H.cj,H.stay⟩).mono ?_;rintro e u ⟨q,d,f,i,t⟩;exact⟨0,none,0,0,q,⟨d,f,H.cj _ _ t⟩,i,rfl,rfl,d,f,(Fr.af s).tr i,t⟩
 .obtain ⟨q,f,d,i,t,B⟩:=h;exact⟨q,f,d,(r.block _ (Z_ i)).trans i,t.then r,H.stay _ _ _ B (Fr.af r)⟩
 .obtain ⟨q,f,d,i,t,B⟩:=h;have D:=(Fr.refl [46] aF W).set (p:=ag p o) G rfl (QE j.2 y) x;exact⟨q,f,d,D.hp i rfl,t.new y x,H.stay _ _ _ B (D.wide [46,73] rfl)⟩
 .rintro e u ⟨z,a,m,c,l,rfl,rfl,f,d,i⟩;cases f;exact⟨l,rfl,d,i⟩
theorem KD[Lo](p:kR)(W:M)(G:Nat)(Z:bm)(z:Lo.lo<=W.heap.size)(h:Ak OM none vA 99999750000 W G Z):aE 11 #[H G,.agg #[.int .u8 9,Y 0,Y 0,Y 0,aW,aW]] W λe j=>∃a c,aK e (cX 0 aW a)/\Fr TM aF W j/\Ak Bo none vA 100000000000 j G c:=by
 obtain⟨A,x,s,u,b,⟨P,L,q⟩,hs,d⟩:=h;have f:Can gA u 10 s.x.ep (λV=>V=vA) s.b:=⟨_,q.lit.dev,q.yl rfl λe=>absurd (hs.symm.trans e) aj⟩;have g:∀V,V=vA->BG gA V:=λV e=>by rw[e];exact b.gt.gd.par
 refine YM (HH (kv:= aW) (L:=0) (n:=λ_=>0) (fk:=λ_ _=>false) (R:=Pu Z.B gA u none λV=>V=vA) A b.ay.rs.cj ⟨none,0,rfl,.inl rfl⟩ J ⟨x,z⟩ ⟨λB C y=>?_,λc B r=>?_,λc Q S r y=>?_⟩) ?_
 .refine YM (HD (ep:=s.x.ep) (hs:=λ_=>true) (aw:=none) (kp:=cK 0 (λ_=>0) λ_ _=>false) (b':=s.b.cut (cK 0 (λ_=>0) λ_ _=>false)) p f b.fit.N ⟨rfl,rfl,rfl,λk D=>?_⟩ b.eK (by rw[d];rfl) (by rw[d];rfl) (λm _=>by rw[d];rfl) (by rw[d];show 1<_;omega) (by rw[d];rfl) rfl (λm _=>⟨λe=>(by cases e),λe=>(by cases e)⟩) (λm e=>by cases e) (λm v E e=>(b.fit.mem m v E e).1) (λv e=>by have:=(b.fit.gy v e).1;rw[q.jl.n]at this;exact this) g C) ?_
  .show (if k<s.b.N then _ else _)=_;rw[ao D];rfl
  .exact λe j F=>F
 .obtain ⟨V,l,o,-,-,-,-,i⟩:=r;exact⟨_,i.ay.rs.cj⟩
 .obtain ⟨V,l,o,t,w,K,O,i⟩:=r;exact⟨V,l,o,t,w,K,O,i.fr y rfl⟩
 .rintro e j ⟨a,rfl,c,t,w,V,l,o,rfl,-,-,-,i⟩;exact⟨a,c,rfl,w,t,x,l,o,i,trivial⟩
theorem HI[Lo](W:M)(G:Nat)(Z:bm)(h:Ak Bo none vA 100000000000 W G Z):aE 11 #[H G,.agg #[.int .u8 4,Y 1,Y 0,Y 0,aW,aW]] W λe b=>∃a,aK e (cX 0 aW a)/\Fr et aF W b/\Ak Bo (some 1) vA 99999999000 b G Z:=by obtain⟨c,f,s,u,g,-⟩:=h;refine YM (vy 1 c (g.qp aj) aj J) ?_;rintro e b ⟨a,rfl,d,i,j,k⟩;exact⟨a,rfl,d,d.hp c rfl,f,i,j,k,trivial⟩
theorem ME[Lo](W:M)(G:Nat)(Z:bm)(h:Ak Bo (some 1) vA 99999999000 W G Z):aE 11 #[H G,.agg #[.int .u8 1,Y 0,Y 1,Y 1,aW,aW]] W λe f=>∃a c d,aK e (cX 0 (.slice a 128 c) d)/\Fr et aF W f/\cR f (.slice a 128 c) 128 (λ_=>7)/\Ak Bo (some 1) vA 99999998000 f G Z:=by
 obtain⟨i,p,s,u,q,-⟩:=h;refine YM (En (k:=1) (n:=1) i q J aj) ?_;rintro e f ⟨a,c,d,rfl,l,g,r,t,v⟩;refine⟨a,c,d,rfl,l,?_,l.hp i rfl,p,r,t,v,trivial⟩;have w:∀j,j<128->eL gA vA (1+j/128) (j%128)=7:=λj x=>by rw[Nat.div_eq_of_lt x,yQ zl];rfl
 obtain⟨y,z,A,g⟩:=g;refine⟨y,z,A,g.imp id ?_⟩;rintro⟨b,o,B,C,D,E,F⟩;exact⟨b,o,B,C,D,E,λk m=>by rw[F k m];show some (SK ZC ((eL gA vA (1+k/128) (k%128):Nat):Int))=_;rw[w k m]⟩
theorem MF[Lo](W:M)(G:Nat)(Z:bm)(h:Ak Bo (some 1) vA 99999998000 W G Z):aE 11 #[H G,.agg #[.int .u8 3,Y 0,Y 0,Y 0,aW,aW]] W λe b=>∃a,aK e (cX 0 aW a)/\Fr et aF W b:=by obtain⟨c,g,s,u,d,-⟩:=h;refine YM (Ep c d J) ?_;rintro e b ⟨a,rfl,f,-⟩;exact⟨a,rfl,f⟩
theorem ON(w:M)(a:Nat)(h:a_ w a (N (cB 128 λ_=>7) 5)):gN (w.alloc (N #[Y 1,a' a 128 128] 61)) (a' w.heap.size 1 1) bA:=by
 refine⟨_,_,rfl,QH _,.inr ⟨_,_,_,_,rfl,QB _ _,λi b=>?_⟩⟩;obtain rfl:i=0:=Nat.lt_one_iff.1 b;refine⟨rfl,_,rfl,a,0,128,cB 128 λ_=>7,(0,0),rfl,QH _,?_,λk c=>?_⟩
 .exact ((aI ak _:au w _).block _ (Z_ h)).trans h
 .rw [RH];exact eu _ _ _ c
theorem fz{o x:Obj}(h:a_ w n o):(w.alloc x).heap[n]?=some o:=((aI ak _:au w _).block _ (Z_ h)).trans h
theorem hh(w:M)(x:Obj):au w (w.alloc x):=aI ak _
theorem vU[Lo](a:SC n w W)(c:n<=Lo.lo)(b:n<=w.heap.size)(d:Fr T aF (W.alloc O) z):SC n w z:=
 (a.trans ((hh W O).mono (QE b a.size))).trans (d.tn c (QE (QE b a.size) (hh W O).size))
abbrev Fm(a:QC)(b:Int):Obj:= N #[aG 0,a,Y b] 46
theorem xX(Q:kR):Fl:=λw=>by
 letI:Lo:=⟨w.heap.size⟩
 have S:=ad (λW U=>KC W U);have z:=ad (rC 7);have V:=ad (λW G Z pv h c3=>MD W G Z pv h c3);have X:=ad (λW G Z U h=>KD Q W G Z U h);have H:=ad (λW G Z h=>HI W G Z h);have N:=ad (λW G Z h=>ME W G Z h);have M:=ad (λW G Z h=>MF W G Z h);go_enter func8,ntmps8;go_wp2_with fail;refine(S _ (QH _)).mono ?_;rintro e w1 ⟨G,Z,rfl,R,I⟩;have A:=ad (R.tn (QH _) (QH _));have Y:=ad I;go_wp2_with fail;refine(z _).mono ?_;rintro e w2 ⟨d5,rfl,c4,J,B⟩;have a0:=ad (A.trans (B.mono A.size));have a1:=ad (Y.below B);have a2:=ad J;go_wp2_with fail;refine(V _ G Z _ (a1.below (aI ak _)) (ON _ _ a2)).mono ?_;rintro e i ⟨b,rfl,a3,a4⟩;have C:=ad (vU a0 (QH _) (QH _) a3);have a5:=ad a4;go_wp2_with fail;refine(X (i.alloc (al #[aG 0,aW,ae b] 46)) G Z (QE C.size (hh i _).size) (a5.below (hh i _))).mono ?_;rintro e m ⟨d,Z4,rfl,D,a7⟩;have a8:=ad (vU C (QH _) (QH _) D);have a9:=ad a7;have b0:QX (a_ m i.heap.size (Fm aW b)):=D.hp (QB _ _) rfl;go_wp2_with fail;refine(H (m.alloc (al #[aG 0,aW,ae d] 46)) G Z4 (a9.below (hh m _))).mono ?_;rintro e n ⟨j,rfl,t,b1⟩;have b2:=ad (vU a8 (QH _) (QH _) t);have b3:=ad b1;have E:QX (a_ n i.heap.size (Fm aW b)/\a_ n m.heap.size (Fm aW d)):=⟨t.hp (fz b0) rfl,t.hp (QB _ _) rfl⟩;go_wp2_with fail;refine(N (n.alloc (al #[aG 0,aW,ae j] 46)) G Z4 (b3.below (hh n _))).mono ?_;rintro e l ⟨x,y,r,rfl,o,b4,b5⟩;have b6:=ad (vU b2 (QH _) (QH _) o);have b7:=ad b5;have u:QX (a_ l i.heap.size (Fm aW b)/\a_ l m.heap.size (Fm aW d)/\a_ l n.heap.size (Fm aW j)):=⟨o.hp (fz E.1) rfl,o.hp (fz E.2) rfl,o.hp (QB _ _) rfl⟩;have b8:=ad b4;go_wp2_with fail;refine(M (l.alloc (al #[aG 0,.slice x 128 y,ae r] 46)) G Z4 (b7.below (hh l _))).mono ?_;rintro e p ⟨s,rfl,f⟩;have F:=ad (vU b6 (QH _) (QH _) f);have b9:QX (cR p (.slice x 128 y) 128 λ_=>7):=(b8.fr (T:= []) (Fr.af (hh l _)) rfl).fr f rfl;obtain⟨g,q⟩:=ah (p.alloc (al #[aG 0,aW,ae s] 46));have K:=ad (show au w g by rw[<-q];exact F.trans ((hh p _).mono F.size));have c0:QX (cR g (.slice x 128 y) 128 λ_=>7):=by rw[<-q];exact b9.fr (T:= []) (Fr.af (hh p _)) rfl
 obtain⟨h1,h2,h3,h4,h5⟩:a_ g i.heap.size (Fm aW b)/\a_ g m.heap.size (Fm aW d)/\a_ g n.heap.size (Fm aW j)/\a_ g l.heap.size (Fm (.slice x 128 y) r)/\a_ g p.heap.size (Fm aW s):=by rw[<-q];exact⟨fz (f.hp (fz u.1) rfl),fz (f.hp (fz u.2.1) rfl),fz (f.hp (fz u.2.2) rfl),fz (f.hp (QB _ _) rfl),QB _ _⟩
 have z1:g.cell? (ag i.heap.size 0)=some (aG 0):=(cr h1).1 0;have z2:g.cell? (ag m.heap.size 0)=some (aG 0):=(cr h2).1 0;have z3:g.cell? (ag n.heap.size 0)=some (aG 0):=(cr h3).1 0;have z4:g.cell? (ag p.heap.size 0)=some (aG 0):=(cr h5).1 0;have z5:g.cell? (ag l.heap.size 1)=some (.slice x 128 y):=(cr h4).1 1;have y1:=(cr h1).2.2;have y2:=(cr h2).2.2;have y3:=(cr h3).2.2;have y4:=(cr h5).2.2;have y5:=(cr h4).2.2;have c1:=ad q;go_wp2_with fail
 try rw[c1.out]
 go_region_held3(λL=>L.cell? (ag i.heap.size 0)=some (aG 0)/\L.cell? (ag m.heap.size 0)=some (aG 0)/\L.cell? (ag n.heap.size 0)=some (aG 0)/\L.cell? (ag p.heap.size 0)=some (aG 0)/\L.cell? (ag l.heap.size 1)=some (.slice x 128 y)) ((simp[*,go_sem];done)) (first
  |(go_at_call 17;refine(z _).mono ?_;rintro e w9 ⟨d6,rfl,c5,O,c⟩
    have v:QX (au g w9):=via (by first|go_grown|exact ak|exact cE ak _) c;obtain⟨x1,-,c7⟩:=kp c i.heap.size dJ;obtain⟨x2,-,c8⟩:=kp c m.heap.size dJ;obtain⟨x3,-,c9⟩:=kp c n.heap.size dJ;obtain⟨x4,-,d0⟩:=kp c p.heap.size dJ;obtain⟨x5,-,d1⟩:=kp c l.heap.size dJ;have c2:=ad O;clear O c)
  |(go_at_call 18;refine(BP _ _ 128 128 (λ_=>7) (λ_=>7) _ ((c0.fr (T:= []) (Fr.af v) rfl).Bz) ⟨_,_,rfl,.inr ⟨_,_,rfl,λk d2=>by rw[(cr c2.out).1,RH];exact eu _ _ _ d2⟩⟩ aj).mono ?_;rintro e d3 ⟨rfl,a⟩
    obtain⟨x6,-,-⟩:=kp a i.heap.size dJ;obtain⟨x7,-,-⟩:=kp a m.heap.size dJ;obtain⟨x8,-,-⟩:=kp a n.heap.size dJ;obtain⟨x9,-,-⟩:=kp a p.heap.size dJ;obtain⟨x0,-,-⟩:=kp a l.heap.size dJ;have P:=ad (K.trans ((v.trans (a.mono v.size)).mono K.size));clear a))
 have d4:qC 128 128 (λ_=>7) (λ_=>7)=true:=by simp[qC]
 rw[d4];go_wp2_with fail;go_ret;exact⟨rfl,P⟩
theorem MG:(Rows.topOneRow.inPlace==prog.inPlace 3)=true:=ai
theorem MH:(Rows.topOneRow.unfollowed==prog.unfollowed 3)=true:=ai
theorem MI:(Rows.topOneRow.recurses==prog.recurses 3)=true:=ai
theorem MJ:(Rows.topOneRow.named==prog.varsNamed 3)=true:=ai
theorem facts:joinedFacts prog 3 Tryz.f3 Rows.topOneSpec Rows.topOneRow=true:=by unfold joinedFacts;rw[MG,MH,MI,MJ];kernel_rfl
section
open Go.ChangeShapes Go.WideShapes Go.ChangeAt
theorem KE:∀t∈Tryz.f3.params.toList,prog.readableRec t=true/\t<prog.types.size:=by rw[params3];intro t a;simp only[UG,List.not_mem_nil,or_false]at a;subst a;exact⟨ai,of_decide_eq_true ai⟩
theorem xY(a b c d:Nat)(g:Bool)(f:Option SZ)(L h:Nat)(A:Nat->kL)(w:M)(i:a<256)(j:b<256)(k:c<256)(l:d<65536)(m:L<=140737488351232)(n:letI:Lo:=⟨w.heap.size⟩;iB w f L A):
  aE 3 #[JZ a b c d g f L h] w λe o=>aK e ed/\au w o:=by
 letI:Lo:=⟨w.heap.size⟩
 exact vT (xX EM) a b c d g f L h A w i j k l n m (QH _)
theorem lifted(y:Os)(d:y.Started)(H:Type)(enc:SV × QC->H):
  ReturnsInHanded {} checked y 3 .any (Rows.topOneSpec.pre6 enc prog Tryz.f3 Rows.topOneRow.domain false) (Rows.topOneSpec.post enc prog Tryz.f3 false true false false):=by
 refine returnsInHanded_of_change_sized (C:=checked) own d ai func3
  (ChangeSpec.witness6 (enc:=enc) (C:=checked) false ⟨#[],#[.agg #[.int .u8 0,.int .u8 0,.int .u8 0,aG 0,.bool false,aW]],[]⟩ 8 ai ai ai ai) ?_
 intro W i b z E o g B hcnd k _;have f:∀(j:Nat) t v,Tryz.f3.params[j]?=some t->b[j]?=some v->Value.okWide prog W .any i t v:=g;have l:=B;obtain⟨p,q,r,hV,rfl,F,fI⟩:=B;have s:DataW.TrodAll enc prog W 0 (λ_=>true) true Tryz.f3.params.toList b.toList z p:=r;have u:=s;have m:(DataW.weightsEach prog (Tryz.f3.params.toList++ []) (z++E)).all (· <=reachBytes)=true:=k;rw[params3]at s f m;obtain⟨D,G,d0,K,p0,q0,w,rfl,rfl,O,P⟩:=trodAll_cons s;obtain⟨rfl,rfl,rfl⟩:=trodAll_nil P;obtain rfl:b= #[D]:=by cases b;simp_all
 obtain⟨rfl,rfl⟩:=trodVars_none hV;obtain⟨Q,S,T,U,V,a,L,c,A,rfl,X,Z,N,M,R,I⟩:=AS (f 0 25 D rfl rfl) O (J' m (j:=0) rfl rfl);refine(xY Q S T U V a L c A W X Z N M R I).mono λe a0 ⟨Y,n⟩=>?_;subst Y;exact⟨_,rfl,_,_,_,[],_,[],l,trodAll_mk1 (shut_bool underlying4 _),vB ZU n _ _ _ _ KE u (λx J=>l.lt x (TJ.2 (.inl J))),rfl,n.frame _,λh=>by cases h⟩
theorem proved:Rows.TopOneSaid:=
 OpenClaim.holds_of_wide 3 Tryz.f3 rfl rfl rfl rfl rfl rfl rfl ⟨rfl,rfl,rfl,rfl,rfl⟩ rfl rfl rfl rfl rfl ai func3 facts
  (of_decide_eq_true ai) (by unfold Func.isWrapper;first|(rw[ao (by decide+kernel)];kernel_rfl)|(rw[aq (by decide+kernel)];exact⟨rfl,rfl⟩))
  (λc a H b _=>lifted c a H b)
end
end Go.Proofs.YtbimjlmclegaeaaGreat
