/- TopHole: a batch under way, the power gone, a member taken out in the dark: every block reads as ahead or as behind; part 5 of 6. Conditions: none. -/
import Derived.Test.YtbimjlmclegaeaaGreatH3
namespace Go.Proofs.YtbimjlmclegaeaaGreat
set_option linter.all false
set_option maxRecDepth 1000000
set_option maxHeartbeats 8000000
open Go.RowKit Go.Proofs.Tryz
open Go renaming World->QA,World->M,heap_alloc_new->QB,Value->QC,Value->H,cell_of_row->QS,bodyPost_ret->QT,heap_setCell_other->RJ,results->RP,Ending->RV,info_parts->SB,Addr->SR,maxLen->UE,results_cell_tmp->UF,callFunc->VF,leaves_cons->WZ,ownsRow_setCell_other->XS
open Nat renaming le_trans->QD,le_refl->QE,zero_le->QO,zero_add->RE,lt_of_lt_of_le->RL,le_of_eq->RN,not_lt_zero->RQ,mod_eq_of_lt->SA,mod_lt->SC,le_of_lt->TF,lt_succ_self->TI,lt_irrefl->TL,mul_one->TX,add_assoc->UP,le_succ->US,mul_comm->VB,add_zero->VK,zero_mul->VY,ne_of_lt->WL,div_add_mod->WN,ne_of_gt->YX,mul_le_mul_left->ZR
open List renaming setIfInBounds_toArray->QF,getElem_cons_zero->QH,getElem_cons_succ->QI,getElem_toArray->QK,set_cons_zero->QL,set_cons_succ->QM,getElem?_eq_getElem->QQ,getElem?_eq_some_iff->QR,length_append->QU,mem_of_getElem?->QV,getElem?_append_right->RA,length_map->RB,getElem?_append_left->RD,getElem?_eq_none->RF,getElem?_map->RI,mem_map->RK,mem_cons_self->RZ,length_cons->SE,getElem?_range->SF,mem_cons_of_mem->SG,map_append->SH,mem_singleton->SM,append_assoc->SV,getElem?_take->SX,mem_append->TH,ext_getElem?->TJ,map_cons->TO,range->TQ,mem_iff_getElem?->TV,mem_range->TY,append_nil->TZ,take_length->UB,cons_append->UC,take_add_one->UG,mem_cons->UH,range_succ->UL,nil_append->UN,length_take->VD,length_filter_le->VI,length_nil->VW,all_eq_true->WD,exists_mem_of_ne_nil->WH,take_append_drop->XA,take_append_of_le_length->XC,append_toArray->XL,mem_flatten->YH,getElem_mem->YI,mem_append_right->YR,mem_append_left->ZA,nodup_nil->ZI,flatten_append->ZM
open Go.IntKind renaming i64->QG,u64->VP
open Go.World renaming block_lt_of_cell?->QN,size_setCell->RT,news_of_block->RW,ownsRow_nil->SD,size_alloc->SP,cell?_alloc_lt->YW,ownsRow_made->ZP
open Go.RowKit.Below renaming heap_alloc->QW,heap_setCell->RO,refl->SU
open Go.RowKit renaming Hid->QX,Below->SK
open Option renaming map_some->QY,map_eq_some_iff->YB
open Go.Lib renaming hid->QZ
open _root_.Array renaming getElem?_eq_some_iff->RC,getElem?_eq_getElem->RU,getElem?_toList->TU,getElem?_eq_none->WT
open Go.Proofs renaming enters_of->RH
open Option.some renaming inj->RM,injEq->SI
open Go.Value renaming slice->RR,int->SJ,ownBlock->WS
open Go.Act renaming put->RS,eval->VO
open Int renaming natCast_mul->TK,ofNat_tmod->VL
open Go.Proofs.Tryz renaming underlying41->UO,prog->VR
open Go.Region renaming ready->UT,wanted->VJ,binds->XG,noSelect->YD,noSelect_spec->YM
open Go.Obj.cells renaming inj->UU
open Bool renaming and_eq_true->VN,or_eq_false_iff->ZO
open Go.Calls renaming quiet_of_same->WE,mono->YL
open List.Perm renaming refl->XX
variable {w W z:World}{n m k i j r C:Nat}{c:Int}{v x y:Value}{T:List Nat}{p:Addr}{P:Option Addr}{A:Array Value}{d:Bool}{S Q X:Nat->Prop}{t:TypeId}{L:List Value}{O:Obj}{f:aN}{F:dp}{g:aA}{K:bq}{l:List Pt}{D:Dk}{U:Dv}{b:By}{o:Ro}{s:Rs}{u:Su}
section
section
variable {P:Program} {ops:Array Oper} {Q:Exit->Act->QA->Prop} {md:Region.Mode} {S:QA->Prop} {St:List Nat}
def et(P:Program)(md:Region.Mode)(ops:Array Oper)(Q:Exit->Act->M->Prop)(S:M->Prop)(St:List Nat):Nat->Array Bool->Act->M->Prop
 |0,listed,a,w=>UT md ops listed= []/\Q .normal a w
 |fuel+1,listed,a,w=>
  (UT md ops listed= []->Q .normal a w)/\
  ∀i∈UT md ops listed,wpOp P ops Q i (λc b=>(St.contains i=true\/(S w->S b))/\et P md ops Q S St fuel (listed.setIfInBounds i true) c b) a w
theorem pW:∀(fuel:Nat) (listed:Array Bool) (a:Act) (w:M),et P md ops Q S St fuel listed a w->wpAny P md ops Q fuel listed a w
 |0,_,_,_,h=>h
 |fuel+1,_,_,_,h=>⟨h.1,λi b=>wpOp_mono (λc d e=>pW fuel _ c d e.2) (h.2 i b)⟩
def xZ(md:Region.Mode)(ops:Array Oper)(St:List Nat)(i:Nat):Bool:=
 St.all λj=>match ops[j]? with
  |some o=>o.after.any λe=>XG md e&&e.on==i
  |none=>false
theorem Bn{i j:Nat}{listed:Array Bool}(h:xZ md ops St i=true)(l:St.contains j=true)(m:i∈UT md ops listed):j∉UT md ops listed:=by
 intro n;obtain⟨_,o,p,b⟩:=mem_ready.1 n;have g:=WD.1 h j (by simpa using l);simp only[p]at g;obtain⟨e,q,d⟩:=Array.any_eq_true'.1 g;simp only[VN,beq_iff_eq]at d;have c:=b e q d.1;rw[d.2]at c;have k:=(mem_ready.1 m).1;rcases Nat.lt_or_ge i listed.size with f|f
 .simp [f]at k c;rw[k]at c;cases c
 .simp [WT f]at c
theorem s_{i:Nat}{oi:Oper}{v:QC}(E:ops[i]?=some oi)(l:∀(j:Nat) (o:Oper) s b,ops[j]?=some o->o.op≠ .select s b)(U:∀c a w,Q (.panic c) (a.put oi.dst v) w->Q (.panic c) a w)(V:xZ md ops St i=true):
  ∀(fuel:Nat) (listed:Array Bool) (a:Act) (w:QA),
   (∀j p,ops[j]?=some p->j≠i->listed.getD j true=false->(∀e∈p.after,XG md e=true->e.on≠i)->oi.apart ops p=true)->
   i∈UT md ops listed->YieldsIf P ops S oi v a->S w->
   et P md ops Q S St fuel (listed.setIfInBounds i true) (a.put oi.dst v) w->et P md ops Q S St (fuel+1) listed a w:=by
 intro fuel;induction fuel with
 |zero=>
  intro listed a w _ m B C H;refine⟨λh=>(by rw[h]at m;cases m),λj t=>?_⟩;by_cases d:j=i
  .subst d;exact B.wpOp E C ⟨.inr id,H⟩
  .have:=ready_mono t d;rw[H.1]at this;cases this
 |succ fuel W=>
  intro listed a w f m B C H;refine⟨λh=>(by rw[h]at m;cases m),λj t=>?_⟩;by_cases d:j=i
  .subst d;exact B.wpOp E C ⟨.inr id,H⟩
  .have q:=H.2 j (ready_mono t d);obtain⟨n,p,r,u⟩:=mem_ready.1 t;have F:¬St.contains j=true:=λe=>Bn V e m t;have x:∀e∈p.after,XG md e=true->e.on≠i:=λe X Z G=>by
    have q:=u e X Z;have T:=(mem_ready.1 m).1;rw[G]at q;rcases Nat.lt_or_ge i listed.size with K|K
    .simp [K]at T q;rw[T]at q;cases q
    .simp [WT K]at q
   have N:=wpOp_putIf r (f j p r d n x) (λs b=>l i oi s b E) (λs b=>l j p s b r) U B q;have g:∀k y,ops[k]?=some y->k≠i->(listed.setIfInBounds j true).getD k true=false->
     (∀e∈y.after,XG md e=true->e.on≠i)->oi.apart ops y=true:=λk y M L z O=>by
    refine f k y M L ?_ O;by_cases A:j=k
    .subst A;exact n
    .rw [getD_set_ne true A]at z;exact z
   refine wpOp_mono (λR I D=>⟨D.2.1,W (listed.setIfInBounds j true) R I g (ready_mono m (Ne.symm d)) D.1 (D.2.1.resolve_left F C) ?_⟩) N;rw[Array.setIfInBounds_comm _ _ d];exact D.2.2
theorem ku{i:Nat}{oi:Oper}{v:QC}(C:ops[i]?=some oi)(l:∀(j:Nat) (o:Oper) s b,ops[j]?=some o->o.op≠ .select s b)(O:∀c a w,Q (.panic c) (a.put oi.dst v) w->Q (.panic c) a w):
  ∀(fuel:Nat) (listed:Array Bool) (a:Act) (w:M),
   (∀j n,ops[j]?=some n->j≠i->listed.getD j true=false->(∀e∈n.after,XG md e=true->e.on≠i)->oi.apart ops n=true)->
   i∈UT md ops listed->YieldsIf P ops (λ_=>True) oi v a->
   et P md ops Q S St fuel (listed.setIfInBounds i true) (a.put oi.dst v) w->et P md ops Q S St (fuel+1) listed a w:=by
 intro fuel;induction fuel with
 |zero=>
  intro listed a w _ p A H;refine⟨λh=>(by rw[h]at p;cases p),λj B=>?_⟩;by_cases d:j=i
  .subst d;exact A.wpOp C trivial ⟨.inr id,H⟩
  .have:=ready_mono B d;rw[H.1]at this;cases this
 |succ fuel T=>
  intro listed a w f p A H;refine⟨λh=>(by rw[h]at p;cases p),λj B=>?_⟩;by_cases d:j=i
  .subst d;exact A.wpOp C trivial ⟨.inr id,H⟩
  .have q:=H.2 j (ready_mono B d);obtain⟨m,n,r,t⟩:=mem_ready.1 B;have u:∀e∈n.after,XG md e=true->e.on≠i:=λe U V D=>by
    have q:=t e U V;have L:=(mem_ready.1 p).1;rw[D]at q;rcases Nat.lt_or_ge i listed.size with E|E
    .simp [E]at L q;rw[L]at q;cases q
    .simp [WT E]at q
   have W:=wpOp_putIf r (f j n r d m u) (λs b=>l i oi s b C) (λs b=>l j n s b r) O A q;have g:∀k x,ops[k]?=some x->k≠i->(listed.setIfInBounds j true).getD k true=false->
     (∀e∈x.after,XG md e=true->e.on≠i)->oi.apart ops x=true:=λk x X F y G=>by
    refine f k x X F ?_ G;by_cases z:j=k
    .subst z;exact m
    .rw [getD_set_ne true z]at y;exact y
   refine wpOp_mono (λZ N K=>⟨K.2.1,T (listed.setIfInBounds j true) Z N g (ready_mono p (Ne.symm d)) K.1 ?_⟩) W;rw[Array.setIfInBounds_comm _ _ d];exact K.2.2
section
variable {i:Nat} {oi:Oper} {v:QC} {fuel:Nat} {listed:Array Bool} {a:Act} {w:QA}
theorem Of(b:ops[i]?=some oi)(d:∀w,S w->(execOp a.eval oi).run P w=.ok (.value v) w)(e:S w)(h:et P md ops Q S St fuel (listed.setIfInBounds i true) (a.put oi.dst v) w)(f:YD ops=true:=by kernel_rfl)(g:Region.free md ops listed i=true:=by kernel_rfl)(j:(UT md ops listed).contains i=true:=by kernel_rfl)(k:xZ md ops St i=true:=by kernel_rfl)(l:VJ oi (yielded ops a.tmps)=true:=by kernel_rfl)(m:∀c a w,Q (.panic c) (a.put oi.dst v) w->Q (.panic c) a w:=by exactλ_ _ _ h=>h):et P md ops Q S St (fuel+1) listed a w:=
 s_ b (YM f) m k fuel listed a w (Region.free_spec b g) (by simpa using j) (.inl ⟨l,d⟩) e h
theorem qg(b:ops[i]?=some oi)(d:∀w,True->(execOp a.eval oi).run P w=.ok (.value v) w)(h:et P md ops Q S St fuel (listed.setIfInBounds i true) (a.put oi.dst v) w)(e:YD ops=true:=by kernel_rfl)(f:Region.free md ops listed i=true:=by kernel_rfl)(g:(UT md ops listed).contains i=true:=by kernel_rfl)(j:VJ oi (yielded ops a.tmps)=true:=by kernel_rfl)(k:∀c a w,Q (.panic c) (a.put oi.dst v) w->Q (.panic c) a w:=by exactλ_ _ _ h=>h):et P md ops Q S St (fuel+1) listed a w:=
 ku b (YM e) k fuel listed a w (Region.free_spec b f) (by simpa using g) (.inl ⟨j,d⟩) h
theorem BP(b:ops[i]?=some oi)(h:et P md ops Q S St fuel (listed.setIfInBounds i true) (a.put oi.dst undef) w)(d:YD ops=true:=by kernel_rfl)(e:Region.free md ops listed i=true:=by kernel_rfl)(f:(UT md ops listed).contains i=true:=by kernel_rfl)(g:VJ oi (yielded ops a.tmps)=false:=by kernel_rfl)(j:∀c a w,Q (.panic c) (a.put oi.dst undef) w->Q (.panic c) a w:=by exactλ_ _ _ h=>h):et P md ops Q S St (fuel+1) listed a w:=
 ku b (YM d) j fuel listed a w (Region.free_spec b e) (by simpa using f) (.inr ⟨g,rfl⟩) h
end
theorem gS{i:Nat}{o:Oper}{fuel:Nat}{listed:Array Bool}{a:Act}{w:M}(e:UT md ops listed= [i])(f:ops[i]?=some o)(h:∀b:Act->M->Prop,(∀d c,(St.contains i=true\/(S w->S c))->et P md ops Q S St fuel (listed.setIfInBounds i true) d c->b d c)->if VJ o (yielded ops a.tmps)=true then Oper.wp P o a w b Q else b (a.put o.dst undef) w):
  et P md ops Q S St (fuel+1) listed a w:=by
 refine⟨λg=>absurd (e▸g) aJ,?_⟩;rw[e];intro j k;obtain rfl:j=i:=by simpa using k
 exact wpOp_step f λb l=>h b λd c m n=>l d c ⟨m,n⟩
theorem nI{listed:Array Bool}{a:Act}{w:M}(b:UT md ops listed= [])(h:Q .normal a w):
  ∀fuel,et P md ops Q S St fuel listed a w
 |0=>⟨b,h⟩
 |_+1=>⟨λ_=>h,by rw[b];simp⟩
theorem nJ{id:Nat}{a:Act}{w:M}(b:P.follows .mixedOrders=true)(h:et P .any ops Q S St ops.size (Array.replicate ops.size false) a w.drew):(Code.region id ops true).wp P Q a w:=
 wp_region_any b (pW _ _ _ _ h)
end
end
section
open Go.Shelf
theorem Hk(p:gQ)(b o f N t d ep sq:Nat)(F:dp)(w:M)(q:1<=N)(i:N<=4096)(s:t<N)(h:N*128<=f)(g:d<=N)(u:∀k,k<N->dR w (IB b o f N t k) (F k)/\∀j,j<128->F k j<256):
  aF 274 #[.slice (some (R b o)) (N*128) f,Y t,Y d,bg ep,bg sq] w λe l=>∃a n c r,aL e (.tuple #[.agg #[bg sq,.slice a n c],.bool r])/\aq w l/\
   ((r=true/\∃P,bL F ep sq d P/\fa w.heap.size l (.slice a n c) (bM P P.N))\/(r=false/\∀P,¬bL F ep sq d P)):=by
 refine(p b o f N t d ep sq F w q i s h g u).mono ?_;rintro e l ⟨m,a,n,c,⟨P,h1,rfl,v⟩|⟨h1,rfl⟩⟩
 .exact ⟨a,n,c,true,rfl,m,.inl ⟨rfl,P,h1,v⟩⟩
 .exact ⟨a,n,c,false,rfl,m,.inr ⟨rfl,h1⟩⟩
def Mf(S:dp)(N ep t sq:Nat)(w:M)(e:RV)(b:M):Prop:=
 aq w b/\∃L v,pU S N ep t sq L/\l_ S N ep t sq L/\bj L<=N/\(∃a c,v=.slice a L.length c)/\
  aL e (.tuple #[.agg #[v,.int .u64 (sq+L.length:Nat),Y ((t+bj L)%N:Nat),Y (bj L:Nat)],aH 0])/\m_ w.heap.size b v sq (L.map λP=>bM P P.N)
variable {S:dp} {N ep t sq F:Nat} {w wr:QA} {L:List bW}
structure EK(S:dp)(N ep t sq F:Nat)(w:M)(L:List bW)(wr:M):Prop where
 mi:pU S N ep t sq L
 used:bj L<=N
 dA:aq w wr
 aM:∃a c,wr.heap[F]? =some (ao #[.slice a L.length c,.int .u64 (sq+L.length:Nat),Y ((t+bj L)%N:Nat),Y (bj L:Nat)] 279)/\m_ (F+1) wr (.slice a L.length c) sq (L.map fun P=>bM P P.N)
theorem Og:(prog.info? 204).map (λi=>(i.zero,i.size,i.bytes))=some (some (.agg #[.int .u64 0,aO]),2,32):=aE
theorem EK.end(h:EK S N ep t sq F w L wr)(q:l_ S N ep t sq L)(hF:w.heap.size<=F)(v:sq+L.length<9223372036854775808){D:Nat}(f:w.heap.size<=D)(r:D<F){a:Option SR}{c:Nat}(i:m_ (F+1) wr (.slice a L.length c) sq (L.map λP=>bM P P.N))(o:Array H)(s:wr.heap[D]?=some (ao o 279))(j l m n:H):
  Mf S N ep t sq w (.returned (.tuple #[.agg #[.slice a L.length c,.int .u64 (sq+L.length:Nat),Y ((t+bj L)%N:Nat),Y (bj L:Nat)],aH 0])) ((((wr.setCell (R D 0) j).setCell (R D 1) l).setCell (R D 2) m).setCell (R D 3) n):=by
 refine⟨(((h.dA.setCell (p:=R D 0) f _).setCell (p:=R D 1) f _).setCell (p:=R D 2) f _).setCell (p:=R D 3) f _,L,_,h.mi,q,h.used,⟨a,c,rfl⟩,rfl,?_⟩;have d:Out (λk=>k=D) wr ((((wr.setCell (R D 0) j).setCell (R D 1) l).setCell (R D 2) m).setCell (R D 3) n):=
  ((((Out.refl (λk=>k=D) wr).setCell (p:=R D 0) (λ_=>rfl) _).setCell (p:=R D 1) (λ_=>rfl) _).setCell (p:=R D 2) (λ_=>rfl) _).setCell (p:=R D 3) (λ_=>rfl) _
 refine(i.out d (λk u e=>?_) λk b e g=>?_).wide J
 .have:=i.low u;omega
 .rw [e,s]at g;cases g;exact⟨λh=>absurd h (by show(279:Nat)≠5;decide),λh=>absurd h (by show(279:Nat)≠206;decide)⟩
def Kc(S:dp)(N ep b q c:Nat)(wr:M)(T:Nat)(r:Bool)(v:H)(a:M):Prop:=
 wr.heap.size<=T/\a.heap[T]?=some (ao #[bg q,v] 204)/\aq wr a/\((r=true/\∃P,bL (Bm S N b) ep q c P/\e' a v (bM P P.N))\/(r=false/\∀P,¬bL (Bm S N b) ep q c P))
theorem Kc.fresh{b q c W:Nat}{r:Bool}{v:H}{a:M}(d:aq wr a)(h:(r=true/\∃P,bL (Bm S N b) ep q c P/\fa W a v (bM P P.N))\/(r=false/\∀P,¬bL (Bm S N b) ep q c P)):
  Kc S N ep b q c wr a.heap.size r v (a.alloc (ao #[bg q,v] 204)):=
 ⟨d.size,QB _ _,aK d _,h.imp (λ⟨e,P,f,g⟩=>⟨e,P,f,g.yz.below (aK aj _)⟩) id⟩
theorem Kc.vY{b q c W T:Nat}{r:Bool}{v x y:H}{a:M}(i:aq wr a)(f:a.heap[T]?=some (ao #[x,y] 204))(d:wr.heap.size<=T)(h:(r=true/\∃P,bL (Bm S N b) ep q c P/\fa W a v (bM P P.N))\/(r=false/\∀P,¬bL (Bm S N b) ep q c P)):
  Kc S N ep b q c wr T r v ((a.setCell (R T 0) (bg q)).setCell (R T 1) v):=by
 refine⟨d,?_,(i.setCell (p:=R T 0) d _).setCell (p:=R T 1) d _,h.imp (λ⟨e,P,j,l⟩=>⟨e,P,j,l.yz.out (((Out.refl (λk=>k=T) a).setCell (p:=R T 0) (λ_=>rfl) _).setCell (p:=R T 1) (λ_=>rfl) _) λk o e g=>?_⟩) id⟩
 .exact heap_setCell_same _ _ 1 _ 204 _ (heap_setCell_same a T 0 _ 204 _ f)
 .rw [e,f]at g;cases g;exact⟨λh=>absurd h (by show(204:Nat)≠5;decide),λh=>absurd h (by show(204:Nat)≠206;decide)⟩
theorem Hl(o4:gQ)(b o X N t ep sq:Nat)(S:dp)(w:QA)(o5:5<=N)(l7:N<=2048)(o6:t<N)(d6:N*128<=X)(l8:cM ep sq)(l9:∀k,k<N->dR w (.slice (some ⟨b,o+k*128,none⟩) 128 (X-k*128)) (S k)/\∀j,j<128->S k j<256):
  aF 194 #[.slice (some ⟨b,o,none⟩) (N*128) X,.agg #[bg ep,bg sq,ae t]] w (Mf S N ep t sq w):=by
 have b6:=ad (λW=>vE (some ⟨b,o,none⟩) N X W aa);have m0:=ad (λW=>mn ep sq t W l8 aa);have g9:=ad (λh0 d7 m3 W (h1:h0<N) (h2:d7<=N) (h3:aq w W)=>Hk o4 b o X N h0 d7 ep m3 (Bm S N h0) W aa aa h1 d6 h2 λk _=>⟨(l9 ((h0+k)%N) (SC _ aa)).1.below h3,(l9 ((h0+k)%N) (SC _ aa)).2⟩);obtain⟨n,o1⟩:=ah (N*128);have e0:((n:Nat):Int).tmod 128=0:=by have:n%128=0:=aa;exact(show((n:Nat):Int).tmod ((128:Nat):Int)=((n%128:Nat):Int)from VL _ _).trans (by rw[this];rfl)
 have e1:decide ((N:Int)<5)=false:=decide_eq_false aa;have e2:decide ((2048:Int)<(N:Int))=false:=decide_eq_false aa;have e4:decide (N<=t)=false:=decide_eq_false aa;have h4:=aY l8 o6 o5 l7;rw[o1]at b6 g9|-;clear l9 l8 d6 o1;obtain⟨m4,h5⟩:=ah ((w.alloc (ao #[bg ep,bg sq,ae t] 156)).alloc (ao #[aO,.int .u64 0,ae 0,ae 0] 279));have h6:aq w m4:=by rw[<-h5];exact aK (aK aj _) _
 have b7:m4.heap[w.heap.size]?=some (ao #[bg ep,bg sq,ae t] 156):=by rw[<-h5];exact(QW _ _ _ aJ).trans (QB _ _)
 have b8:m4.heap[w.heap.size+1]?=some (ao #[aO,.int .u64 0,ae 0,ae 0] 279):=by rw[<-h5];have:=QB (w.alloc (ao #[bg ep,bg sq,ae t] 156)) (ao #[aO,.int .u64 0,ae 0,ae 0] 279);rwa[SP]at this
 obtain⟨D,m5⟩:=ah w.heap.size;rw[m5]at b7 b8;obtain⟨a0,a1,Z⟩:=cr b7;obtain⟨b0,b1,b2⟩:=cr b8;have l4:=aB h5 m5;have h8:=aT b7 b8 h6;clear h5 b7 b8 h6 m5;go_enter func194,ntmps194;go_wp2_with fail
 try simp only[l4.out.1,l4.out.2]
 go_step3;go_wp2_with(first|(go_at_call 149;refine(m0 _).mono ?_;rintro e w1 ⟨g1,c1,rfl,-,b9⟩;obtain⟨k0,k1,k2⟩:=kp b9 D dG;obtain⟨k3,k4,k5⟩:=kp b9 (D+1) dG;have H:=ad b9;clear b9));go_region_held3(λC=>C.cell? ⟨D,2,none⟩=some (ae t)) ((simp[*,go_sem];done)) (first|(go_at_call 273;refine(b6 _).mono ?_;rintro e w2 ⟨rfl,rfl⟩));go_wp2_with fail;go_step3;go_wp2_with fail;obtain⟨d9,c0⟩:=ah ((w1.alloc (ao #[aO,bg sq,ae t,ae 0] 279)).drew);have G:aq w1 d9:=by rw[<-c0];exact(cK (aK aj _) 1)
 have e3:aq w d9:=h8.2.2.trans ((H.trans (G.mono H.size)).mono h8.2.2.size);have f3:d9.heap[w1.heap.size]?=some (ao #[aO,bg sq,ae t,ae 0] 279):=by rw[<-c0];exact QB _ _
 obtain⟨F,hF⟩:=ah w1.heap.size;rw[c0,hF];rw[hF]at f3;have h9:w.heap.size<=F:=by rw[<-hF];exact QD h8.2.2.size H.size
 have i0:d9.heap[D]?=some (ao #[bg ep,bg sq,ae t] 156):=(G.block D k2).trans ((H.block D Z).trans h8.1);have i1:d9.heap[D+1]?=some (ao #[aO,.int .u64 0,ae 0,ae 0] 279):=(G.block (D+1) k5).trans ((H.block (D+1) b2).trans h8.2.1);have i2:D<F/\D+1<F:=by rw[<-hF];exact⟨k2,k5⟩
 have f:=ca i0 i1 i2 h9 e3;have m6:QX (EK S N ep t sq F w [] d9):=⟨pU.nil,QO _,e3,none,0,by rw[f3];simp[bj,SA h4.out.2.1],m_.nil _ _ _⟩;clear c0 G e3 f3 hF h9 i0 i1 i2 a0 Z b2 k0 k2 k3 k5 H;go_loopw [10] (λi3 wr=>∃L:List bW,QX (EK S N ep t sq F w L wr)/\QX (SK F d9 wr)) (λ_ wr=>N-(match wr.cell? ⟨F,3,none⟩with|some (.int _ x)=>x.toNat|_=>0))
 case atStart=>exact⟨[],m6,aj⟩
 case round=>
  obtain⟨L,R,f4⟩:=hrel;obtain⟨a,c,c3,f5⟩:=R.aM;have f6:=R.used;have I:=jT L;obtain⟨K,i4⟩:=ah L.length;obtain⟨u,c4⟩:=ah (bj L);obtain⟨E,c5⟩:=ah ((t+u)%N);obtain⟨q,m7⟩:=ah (sq+K);have i5:E<N:=by rw[<-c5];exact SC _ aa
  have d:=ca i4 c4 c5 m7 i5;rw[i4,c4,c5,m7]at c3;rw[i4]at f5;rw[c4]at f6 I;rw[i4]at I;have c6:=ad f5;have o7:=h4.1.2;have i6:q<9223372036854775808:=by have:=h4.2.2.2;omega
  have f8:=(f4.block D f.2.2.1.1).trans f.1;have f9:=(f4.block (D+1) f.2.2.1.2).trans f.2.1;have M:=aT c3 f8 f9;obtain⟨f0,f1,f2⟩:=cr c3;obtain⟨d0,d1,d2⟩:=cr f8;obtain⟨x0,x1,x2⟩:=cr f9;have o8:K<=2048:=by have:=h4.2.2.2;omega
  clear i4 c4 c5 m7 c3 f8 f9 f5 I;by_cases i7:q<=4611686018427387904
  .have j1:(q:Int)<=4611686018427387904:=aa;obtain⟨l5,i8⟩:=ah (N-u);have e5:QG.wrap ((N:Int)-(u:Int))=(l5:Int):=by have:=h4.2.2.2;go_arith
   have m8:=ad (λW (o9:aq wr W)=>g9.out E l5 q W i5 aa (R.dA.trans (o9.mono R.dA.size)));have g3:=ad i8;clear i8;go_wp2_with fail;go_cut [10,11] (λi3 m9 p0=>∃(T:Nat) (r:Bool) (Z:Option SR) (O c2:Nat),i3= ar T/\m9=.bool r/\QX (Kc S N ep E q l5 wr T r (.slice Z O c2) p0))
   case first=>
    go_region_held3(λC=>C.cell? ⟨F,1,none⟩=some (bg q)/\C.cell? ⟨F,2,none⟩=some (ae E)/\C.cell? ⟨F,3,none⟩=some (ae u)/\C.cell? ⟨D,0,none⟩=some (bg ep)) ((simp[*,go_sem];done)) (first
     |(go_at_call 273;refine(b6 _).mono ?_;rintro e w2 ⟨rfl,rfl⟩)
     |(go_at_call 274;refine(m8 _ bF).mono ?_;rintro e w3 ⟨Z,O,c2,r,rfl,Y,i9⟩
       (try(have h7:=(Y.block _ dG).trans (QB wr (ao #[.int .u64 0,aO] 204));obtain⟨c7,f7,z7⟩:=cr h7;have H7:=ad h7;clear h7))
       obtain⟨k0,k1,k2⟩:=kp Y F dG;obtain⟨k3,k4,k5⟩:=kp Y D dG;have j0:QX (aq wr w3):=via bF Y;have j2:=ad i9;clear Y i9))
    all_goals go_wp2
    all_goals go_meet
    all_goals first
     |exact⟨_,_,_,_,_,rfl,rfl,Kc.vY j0 H7 (QE _) j2⟩
     |exact⟨_,_,_,_,_,rfl,rfl,Kc.fresh j0 j2⟩
   case rest=>
    rename_i n0;refine n0 _ _ ?_;obtain⟨T,r,Z,O,c2,rfl,rfl,z⟩:=hcut;have c8:=z.2.2.1;have J:=(c8.block F f2).trans M.1;have a3:=(c8.block D d2).trans M.2.1;have a4:=(c8.block (D+1) x2).trans M.2.2;have y:=aT J a3 a4;clear f0 f1 f2 d0 d2 x0 x1 x2;obtain⟨f0,f1,f2⟩:=cr J;obtain⟨d0,d1,d2⟩:=cr a3;obtain⟨x0,x1,x2⟩:=cr a4;obtain⟨t0,t1,t2⟩:=cr z.2.1;clear c8 J a3 a4;cases r
    case false=>
     have n1:QX (l_ S N ep t sq L):=λP l6=>by
      rcases z.2.2.2 with⟨e,_⟩|⟨_,h⟩
      .cases e
      .rw [d.1,d.2.1,d.2.2.1,d.2.2.2.1,g3.out]at l6;exact h P l6
     have n3:QX (EK S N ep t sq F w L wc):=⟨R.mi,R.used,R.dA.trans (z.2.2.1.mono R.dA.size),a,c,by rw[d.1,d.2.1,d.2.2.1,d.2.2.2.1];exact y.1,by rw[d.1];exact c6.below z.2.2.1⟩;go_wp2;refine QT (v:=.tuple #[.agg #[.slice a K c,bg q,ae E,ae u],aH 0]) (by rw[UF rfl];simp[go_sem, *]) rfl ?_;have j3:=n3.end n1 f.2.2.2.1 (by rw[d.1,d.2.2.2.1];exact i6) (D:=D+1) (by rw[<-l4.2];omega) f.2.2.1.2 (a:=a) (c:=c) (by rw[d.1];exact c6.below z.2.2.1) _ y.2.2 (.slice a K c) (bg q) (ae E) (ae u);rw[d.1,d.2.1,d.2.2.1,d.2.2.2.1]at j3;exact j3
    case true=>
     obtain⟨P,Q,a5⟩:∃P,bL (Bm S N E) ep q l5 P/\e' wc (.slice Z O c2) (bM P P.N):=by
      rcases z.2.2.2 with⟨_,h⟩|⟨e,_⟩
      .exact h
      .cases e
     have eZ:O=P.N:=by obtain⟨_,_,e,_⟩:=a5;cases e;exact cU _ _
     have g8:=aT Q a5 eZ;have a6:=Q.room;have j4:=Q.cy;obtain⟨y3,g4⟩:=ah (2*O+1);obtain⟨y2,j5⟩:=ah (2*O);have e6:QG.wrap (2*(O:Int))=(y2:Int):=bs;have e7:QG.wrap ((y2:Int)+1)=(y3:Int):=bs;have o2:=aB g4 j5;clear Q a5 eZ a6 j4 g4 j5;obtain⟨us,A,g5,j6⟩:=c6.below z.2.2.1;rw[RB,d.1]at A g5;have a7:=aT A g5 j6;clear A g5 j6;obtain⟨p1,n4,n5,n6,n7⟩:=SB Og;go_wp2_with(first|(at_builtin;refine aU _ rfl _ _ 197 rfl (F+1) 204 p1 (.agg #[.int .u64 0,aO]) 2 32 underlying197 n4 n5 n6 n7 rfl ai (.slice a K c) K _ rfl (aP (aK aj _) a7.2.1) ⟨wc.heap.size,0,none⟩ 1 1 [bg q,.slice Z O c2] rfl rfl (RW (cs:= #[bg q,.slice Z O c2]) (t:=204) (fr:=(0,0)) (QB wc _)) (by intro u c4;simp at c4;rcases c4 with rfl|rfl<;>rfl) aa (by unfold UE;omega) aa aS ?_));intro p8 C a8 a9;obtain⟨j7,j8,rfl,-⟩:=au a8;have B:aq wc (wc.alloc (ao #[bg q,.slice Z O c2] 204)):=aK aj _;have j9:∀k,(RR a K c).ownBlock=some k->F+1<=k:=λk n8=>(bo a7.2.1 n8).2;have b3:SK (F+1) (wc.alloc (ao #[bg q,.slice Z O c2] 204)) C:=a9.below aj aS j9;have d8:QX (m_ (F+1) C (.slice j7 (K+1) j8) sq ((L++ [P]).map λP=>bM P P.N)):=by
      show m_ _ _ _ _ _;rw[SH];have c9:(L.map λP=>bM P P.N).length=K:=by rw[RB,d.1]
      refine m_.push (us:=us) (u:=.slice Z O c2) (s:=wc.heap.size+1) (W:=wc.alloc (ao #[bg q,.slice Z O c2] 204)) (lv:=.slice a K c) (by rw[a7.1,c9]) (by rw[c9];exact aP B a7.2.1) (λi p u p2 c4=>(a7.2.2 i p u p2 c4).below B) (g8.2.1.below B) (by rw[c9,d.2.2.2.1];exact a8) (by rw[c9];exact a9)
     have g0:=(b3.block F aa).trans ((B.block F f2).trans y.1);have g1:=(b3.block D (by have:=f.2.2.1.1;omega)).trans ((B.block D d2).trans y.2.1);have g2:=(b3.block (D+1) (by have:=f.2.2.1.2;omega)).trans ((B.block (D+1) x2).trans y.2.2);have k6:=ca g0 g1 g2 b3 B;clear f0 f1 f2 d0 d2 x0 x1 x2 t0 a8 a9 j9 b3 B;obtain⟨f0,f1,f2⟩:=cr g0;clear g0 g1 g2;obtain⟨q1,d3⟩:=ah (q+1);obtain⟨u1,A⟩:=ah (u+y3);obtain⟨m1,k7⟩:=ah (E+y3);obtain⟨m2,b4⟩:=ah (m1%N);have k8:y3<=5000:=by have h1:=g8.1.cy;have h2:=o2.1;have h3:=g8.2.2;omega
     have e8:VP.wrap ((q:Int)+1)=(q1:Int):=bs;have e9:QG.wrap ((u:Int)+(y3:Int))=(u1:Int):=bs;have p3:QG.wrap ((E:Int)+(y3:Int))=(m1:Int):=bs;have p4:(m1:Int).tmod (N:Int)=(m2:Int):=by rw[<-b4];exact VL _ _
     have p5:¬N=0:=aa;have p6:=aY d3 A k7 b4;clear d3 A k7 b4 k8;go_wp2_with fail;obtain⟨W9,d4⟩:=ah ((C.setCell ⟨F,0,none⟩ (.slice j7 (K+1) j8)).drew);have g6:W9.heap[F]?=some (ao #[.slice j7 (K+1) j8,bg q,ae E,ae u] 279):=by rw[<-d4];exact heap_setCell_same C F 0 _ 279 _ k6.1
     have k9:=aB g6 d4;clear f0 f1 f2;obtain⟨f0,f1,f2⟩:=cr g6;have d5:W9.cell? ⟨F,1,none⟩=some (bg q)/\W9.cell? ⟨F,2,none⟩=some (ae E)/\W9.cell? ⟨F,3,none⟩=some (ae u):=⟨f0 1,f0 2,f0 3⟩;refine nJ (S:=λV=>V.cell? ⟨F,1,none⟩=some (bg q)/\V.cell? ⟨F,2,none⟩=some (ae E)/\V.cell? ⟨F,3,none⟩=some (ae u)) (St:= [15,17,19]) aE ?_;rw[d4];clear g6 d4;refine qg (i:=0) (v:=.pointer (some ⟨F,1,none⟩)) rfl (λV _=>?_) ?_
     .go_simp
     simp only[RS,QK,QH,QI,QF,QL,QM];refine Of (i:=1) (v:= bg q) rfl (λV ⟨h1,h2,h3⟩=>?_) d5 ?_
     .go_simp
     simp only[RS,QK,QH,QI,QF,QL,QM];refine qg (i:=2) (v:= bg q1) rfl (λV _=>?_) ?_
     .go_simp
     simp only[RS,QK,QH,QI,QF,QL,QM];refine qg (i:=3) (v:=.pointer (some ⟨F,3,none⟩)) rfl (λV _=>?_) ?_
     .go_simp
     simp only[RS,QK,QH,QI,QF,QL,QM];refine Of (i:=4) (v:= ae u) rfl (λV ⟨h1,h2,h3⟩=>?_) d5 ?_
     .go_simp
     simp only[RS,QK,QH,QI,QF,QL,QM];refine qg (i:=5) (v:= ae y3) rfl (λV _=>?_) ?_
     .go_simp
     simp only[RS,QK,QH,QI,QF,QL,QM];refine qg (i:=6) (v:= ae u1) rfl (λV _=>?_) ?_
     .go_simp
     simp only[RS,QK,QH,QI,QF,QL,QM];refine qg (i:=7) (v:=.pointer (some ⟨F,2,none⟩)) rfl (λV _=>?_) ?_
     .go_simp
     simp only[RS,QK,QH,QI,QF,QL,QM];refine Of (i:=8) (v:= ae E) rfl (λV ⟨h1,h2,h3⟩=>?_) d5 ?_
     .go_simp
     simp only[RS,QK,QH,QI,QF,QL,QM];refine qg (i:=9) (v:= ae y3) rfl (λV _=>?_) ?_
     .go_simp
     simp only[RS,QK,QH,QI,QF,QL,QM];refine qg (i:=10) (v:= ae m1) rfl (λV _=>?_) ?_
     .go_simp
     simp only[RS,QK,QH,QI,QF,QL,QM];refine qg (i:=11) (v:=.slice (some ⟨b,o,none⟩) n X) rfl (λV _=>?_) ?_
     .go_simp
     simp only[RS,QK,QH,QI,QF,QL,QM];refine qg (i:=14) (v:=.pointer (some ⟨F,1,none⟩)) rfl (λV _=>?_) ?_
     .go_simp
     simp only[RS,QK,QH,QI,QF,QL,QM];refine gS (i:=12) aE rfl (λn9 l=>?_);rw[ak aE];have m:=ad l;clear l;go_simp;refine(b6 _).mono ?_;rintro e w2 ⟨rfl,rfl⟩;refine m _ _ (.inr λ_=>d5) ?_;clear m
     try simp only[RS,QK,QH,QI,QF,QL,QM]
     refine qg (i:=13) (v:= ae m2) rfl (λV _=>?_) ?_
     .go_simp
     simp only[RS,QK,QH,QI,QF,QL,QM];refine gS (i:=15) aE rfl (λn9 l=>?_);rw[ak aE];have m:=ad l;clear l;go_simp;refine m _ _ (.inl rfl) ?_;clear m
     try simp only[RS,QK,QH,QI,QF,QL,QM]
     refine qg (i:=16) (v:=.pointer (some ⟨F,3,none⟩)) rfl (λV _=>?_) ?_
     .go_simp
     simp only[RS,QK,QH,QI,QF,QL,QM];refine gS (i:=17) aE rfl (λn9 l=>?_);rw[ak aE];have m:=ad l;clear l;go_simp;refine m _ _ (.inl rfl) ?_;clear m
     try simp only[RS,QK,QH,QI,QF,QL,QM]
     refine qg (i:=18) (v:=.pointer (some ⟨F,2,none⟩)) rfl (λV _=>?_) ?_
     .go_simp
     simp only[RS,QK,QH,QI,QF,QL,QM];refine gS (i:=19) aE rfl (λn9 l=>?_);rw[ak aE];have m:=ad l;clear l;go_simp;refine m _ _ (.inl rfl) ?_;clear m
     try simp only[RS,QK,QH,QI,QF,QL,QM]
     refine nI aE ?_ _;go_wp2;have o0:Out (λk=>k=F) C W9:=by rw[<-k9.2];exact((Out.refl (λk=>k=F) C).setCell (p:=⟨F,0,none⟩) (λ_=>rfl) _).drew
     obtain⟨b5,U⟩:=ah (((W9.setCell ⟨F,1,none⟩ (bg q1)).setCell ⟨F,3,none⟩ (ae u1)).setCell ⟨F,2,none⟩ (ae m2));have l0:Out (λk=>k=F) C b5:=by rw[<-U];exact((o0.setCell (p:=⟨F,1,none⟩) (λ_=>rfl) _).setCell (p:=⟨F,3,none⟩) (λ_=>rfl) _).setCell (p:=⟨F,2,none⟩) (λ_=>rfl) _
     have l1:b5.heap[F]?=some (ao #[.slice j7 (K+1) j8,bg q1,ae m2,ae u1] 279):=by rw[<-U];exact heap_setCell_same _ F 2 _ 279 _ (heap_setCell_same _ F 3 _ 279 _ (heap_setCell_same W9 F 1 _ 279 _ k9.1))
     rw[U];clear U;have p7:=Z_ M.1;have l2:SK F wr b5:=by have h1:SK F wr wc:=z.2.2.1.mono aa;have h2:SK F wc C:=(k6.2.2.2.2.mono (TF (Z_ y.1))).trans (k6.2.2.2.1.mono aa);have h3:SK F C b5:=l0.below (λk _ e=>by have:k=F:=e;omega) (TF (Z_ k6.1));exact(h1.trans h2).trans h3
     have a6:=g8.1.room;have eZ:=g8.2.2;have g4:=o2.1;have g7:=p6.out;have o3:=g3.out;have l3:(L++ [P]).length=K+1:=by rw[QU,d.1];rfl
     have A:bj (L++ [P])=u1:=by rw[iA,d.2.1];omega
     have b4:(t+u1)%N=m2:=by rw[<-g7.2.2.2,<-g7.2.2.1,<-d.2.2.1,Nat.mod_add_mod,UP,g7.2.1]
     have d3:sq+(K+1)=q1:=by have:=d.2.2.2.1;omega
     refine⟨⟨L++ [P],⟨R.mi.snoc ?_,by rw[A];omega,R.dA.trans (l2.mono f.2.2.2.1),j7,j8,?_,?_⟩,f4.trans l2⟩,?_⟩
     .rw [d.1,d.2.1,d.2.2.1,d.2.2.2.1,g3.out];exact g8.1
     .rw [l3,A,b4,d3];exact l1
     .rw [l3];refine d8.out.out l0 (λk n8 e=>?_) λk b e g=>?_
      .have:=d8.out.low n8;have:k=F:=e;omega
      .rw [show k=F from e,k6.1]at g;cases g;exact⟨λh=>absurd h (by show(279:Nat)≠5;decide),λh=>absurd h (by show(279:Nat)≠206;decide)⟩
     .have g1:b5.cell? ⟨F,3,none⟩=some (ae u1):=(cr l1).1 3;have g2:wr.cell? ⟨F,3,none⟩=some (ae u):=(cr M.1).1 3;rw[g1,g2];simp only[Int.toNat_natCast];omega
  .have j1:¬(q:Int)<=4611686018427387904:=aa;have n1:QX (l_ S N ep t sq L):=λP l6=>by have:=l6.c.2.2;rw[d.1,d.2.2.2.1]at this;exact i7 this
   clear i7;go_wp2;refine QT (v:=.tuple #[.agg #[.slice a K c,bg q,ae E,ae u],aH 0]) (by rw[UF rfl];simp[go_sem, *]) rfl ?_;have j3:=R.end n1 f.2.2.2.1 (by rw[d.1,d.2.2.2.1];exact i6) (D:=D+1) (by rw[<-l4.2];omega) f.2.2.1.2 (a:=a) (c:=c) (by rw[d.1];exact c6) _ M.2.2 (.slice a K c) (bg q) (ae E) (ae u);rw[d.1,d.2.1,d.2.2.1,d.2.2.2.1]at j3;exact j3
end
def wa:List Nat:= [364,117]
def vG[Lo](p S:Nat)(f:aN)(q:Nat)(b:Array H)(w:M)(e:RV)(a:M):Prop:=
 aL e (.tuple #[])/\fP a p 128 f q/\a.heap[S]?=some (N b 117)/\Fr wa aG w a
theorem ma[Lo]{p S q o:Nat}(j:fP W p 128 f q)(i:Fr ka aG w W)(k:w.heap[S]?=some (N A 117))(l:Lo.lo<=S):
  fP (W.setCell (R S o) v) p 128 f q/\(W.setCell (R S o) v).heap[S]?=some (N (A.setIfInBounds o v) 117)/\Fr wa aG w (W.setCell (R S o) v):=by
 have a:=i.hp k rfl;obtain⟨g,c,m,b,d,n,h,r⟩:=j;have s:p≠S:=λe=>by rw[e,a]at b;cases b
 have t:g≠S:=λe=>by rw[e,a]at h;cases h
 exact⟨⟨g,c,m,(RO _ _ _ _ s).trans b,d,n,(RO _ _ _ _ t).trans h,r⟩,heap_setCell_same W S o _ 117 v a,(i.wide wa rfl).set (p:=R S o) a rfl l _⟩
theorem EL[Lo](n o i l p S q:Nat)(f:aN)(r:Array QC)(x:QC)(W:QA)(s:xy n o)(A:r[o]?=some x)(B:fP W p 128 f q)(P:q+8<=128)(Q:∀k,k<128->f k<256)(m:W.heap[S]?=some (ao r 117))(t:Lo.lo<=p)(u:Lo.lo<=S)(c:W.heap[i]?=some (ao #[.func (.func 220) #[] #[]] 318))(d:W.heap[l]?=some (ao #[.func (.func n) #[] #[]] 321)):
  aF 281 #[ar p,ar S,ar i,ar l] W (vG p S f (q+8) (r.setIfInBounds o (.int .u64 (dx (λj=>f (q+j)) 8:Nat))) W):=by
 have C:=ad (λD (T:aq W D)=>sW D p 128 q f (B.below T) t P ai Q);obtain⟨Z,f1,H⟩:=cr c;obtain⟨N,f2,M⟩:=cr d;have R:=s.1;have U:∀a w,(VF 220 a).run prog w=.ok (.enter 220 a) w:=λ_ _=>rfl;have V:=ad (λW=>s.2 S W);have I:¬i=S:=λe=>by rw[e,m]at c;cases c
 have Y:¬l=S:=λe=>by rw[e,m]at d;cases d
 have b:=ca m A u c d;obtain⟨y,E⟩:=ah (dx (λj=>f (q+j)) 8);simp only[E]at C|-;clear m A B s c d E;go_enter func281,ntmps281;go_region_held3(λF=>F.cell? ⟨i,0,none⟩=some (.func (.func 220) #[] #[])/\F.cell? ⟨l,0,none⟩=some (.func (.func n) #[] #[])) ((simp[*,go_sem];done)) (first|(go_at_call 220;refine(C _ bF).mono ?_;rintro e z ⟨rfl,G,K⟩;have g:QX (fP z p 128 f (q+8)/\Fr ka aG W z):=⟨G,(Fr.af bF).tr K⟩;have h:=g.2.hp b.1 rfl;obtain⟨L,J,s3⟩:=cr h;have c3:z.cell? ⟨S,o,none⟩=some x:=(L o).trans b.2.1;have b3:=(cr (g.2.hp b.2.2.2.1 rfl)).1 0;have b4:=(cr (g.2.hp b.2.2.2.2 rfl)).1 0;clear G K h L)|(refine(V _).mono ?_;rintro e w4 ⟨rfl,rfl⟩));have O:=ma (o:=o) (v:= bg y) g.1 g.2 b.1 b.2.2.1;have X:=ad O;clear O;go_wp2;go_end0;exact⟨rfl,X⟩
theorem Kd[Lo](n o i j p S q:Nat)(f:aN)(r:Array QC)(x:QC)(W:QA)(s:xy n o)(B:r[o]?=some x)(C:fP W p 128 f q)(Q:q+1<=128)(D:∀k,k<128->f k<256)(l:W.heap[S]?=some (ao r 117))(t:Lo.lo<=p)(u:Lo.lo<=S)(c:W.heap[i]?=some (ao #[.func (.func 226) #[] #[]] 325))(d:W.heap[j]?=some (ao #[.func (.func n) #[] #[]] 327)):
  aF 284 #[ar p,ar S,ar i,ar j] W (vG p S f (q+1) (r.setIfInBounds o (ae (f q:Nat))) W):=by
 have E:=ad (λF (m:aq W F)=>xP F p 128 q f (C.below m) t Q ai D);obtain⟨X,f1,Z⟩:=cr c;obtain⟨H,f2,N⟩:=cr d;have M:=s.1;have T:∀a w,(VF 226 a).run prog w=.ok (.enter 226 a) w:=λ_ _=>rfl;have U:=ad (λW=>s.2 S W);have R:¬i=S:=λe=>by rw[e,l]at c;cases c
 have I:¬j=S:=λe=>by rw[e,l]at d;cases d
 have b:=ca l B u c d;have m:=D q aa;obtain⟨y,z⟩:=ah (f q);simp only[z]at E|-;rw[z]at m;have Y:QG.wrap ((y:Nat):Int)=(y:Nat):=bs;clear l B C s c d z m;go_enter func284,ntmps284;go_region_held3(λG=>G.cell? ⟨i,0,none⟩=some (.func (.func 226) #[] #[])/\G.cell? ⟨j,0,none⟩=some (.func (.func n) #[] #[])) ((simp[*,go_sem];done)) (first|(go_at_call 226;refine(E _ bF).mono ?_;rintro e A ⟨rfl,K,L⟩;have g:QX (fP A p 128 f (q+1)/\Fr ka aG W A):=⟨K,(Fr.af bF).tr L⟩;have h:=g.2.hp b.1 rfl;obtain⟨O,J,s3⟩:=cr h;have c3:A.cell? ⟨S,o,none⟩=some x:=(O o).trans b.2.1;have b3:=(cr (g.2.hp b.2.2.2.1 rfl)).1 0;have b4:=(cr (g.2.hp b.2.2.2.2 rfl)).1 0;clear K L h O)|(refine(U _).mono ?_;rintro e w4 ⟨rfl,rfl⟩));have P:=ma (o:=o) (v:= ae y) g.1 g.2 b.1 b.2.2.1;have V:=ad P;clear P;go_wp2;go_end0;exact⟨rfl,V⟩
theorem EM[Lo](r o i l p S q:Nat)(f:aN)(s:Array QC)(x:QC)(W:QA)(t:xy r o)(C:s[o]?=some x)(D:fP W p 128 f q)(T:q+2<=128)(E:∀k,k<128->f k<256)(m:W.heap[S]?=some (ao s 117))(u:Lo.lo<=p)(z:Lo.lo<=S)(c:W.heap[i]?=some (ao #[.func (.func 235) #[] #[]] 332))(d:W.heap[l]?=some (ao #[.func (.func r) #[] #[]] 327)):
  aF 286 #[ar p,ar S,ar i,ar l] W (vG p S f (q+2) (s.setIfInBounds o (ae (dx (λj=>f (q+j)) 2:Nat))) W):=by
 have F:=ad (λG (n:aq W G)=>Hf G p 128 q f (D.below n) u T ai E);obtain⟨Z,f1,H⟩:=cr c;obtain⟨N,f2,M⟩:=cr d;have R:=t.1;have U:∀a w,(VF 235 a).run prog w=.ok (.enter 235 a) w:=λ_ _=>rfl;have V:=ad (λW=>t.2 S W);have I:¬i=S:=λe=>by rw[e,m]at c;cases c
 have Y:¬l=S:=λe=>by rw[e,m]at d;cases d
 have b:=ca m C z c d;have n:dx (λj=>f (q+j)) 2<256^2:=gM λj J=>E _ aa;obtain⟨y,A⟩:=ah (dx (λj=>f (q+j)) 2);simp only[A]at F|-;rw[A]at n;have e1:QG.wrap ((y:Nat):Int)=(y:Nat):=bs;clear m C D t c d A n;go_enter func286,ntmps286;go_region_held3(λK=>K.cell? ⟨i,0,none⟩=some (.func (.func 235) #[] #[])/\K.cell? ⟨l,0,none⟩=some (.func (.func r) #[] #[])) ((simp[*,go_sem];done)) (first|(go_at_call 235;refine(F _ bF).mono ?_;rintro e B ⟨rfl,L,O⟩;have g:QX (fP B p 128 f (q+2)/\Fr ka aG W B):=⟨L,(Fr.af bF).tr O⟩;have h:=g.2.hp b.1 rfl;obtain⟨P,s2,s3⟩:=cr h;have c3:B.cell? ⟨S,o,none⟩=some x:=(P o).trans b.2.1;have b3:=(cr (g.2.hp b.2.2.2.1 rfl)).1 0;have b4:=(cr (g.2.hp b.2.2.2.2 rfl)).1 0;clear L O h P)|(refine(V _).mono ?_;rintro e w4 ⟨rfl,rfl⟩));have Q:=ma (o:=o) (v:= ae y) g.1 g.2 b.1 b.2.2.1;have X:=ad Q;clear Q;go_wp2;go_end0;exact⟨rfl,X⟩
theorem EN[Lo](p S:Nat)(f:aN)(g:Array H)(W:M)(k:fP W p 128 f 0)(l:aX W S (N g 117))(b:Lo.lo<=p):
  aF 216 #[ar p,ar S] W (vG p S f 8 g W):=by
 have m:=I (pA W);have n:=I (λh (c:aq W h)=>zn h p 128 0 8 f (k.below c) b ai ai ai);have o:=I l;go_enter func216,ntmps216;go_wp2_with(first|(go_at_call 215;refine m.mono ?_;rintro e t ⟨⟨v,rfl,a,q,rfl,-⟩,c⟩;have i:=I c)|(go_at_call 217;refine(n _ i).mono ?_;rintro e j ⟨⟨v,rfl⟩,r,s⟩;have d:QX (fP j p 128 f 8/\Fr ka aG W j):=⟨r,(Fr.af i).tr s⟩));go_end0;exact⟨rfl,d.1,d.2.hp o rfl,d.2.wide wa rfl⟩
theorem Hm[Lo](p S q:Nat)(c a:Bool)(f:aN)(g:Array H)(s t:H)(W:M)(z:f q=(if c=true then 1 else 0)+(if a=true then 2 else 0))(h:g[8]?=some s)(i:g[9]?=some t)(A:fP W p 128 f q)(B:q+1<=128)(C:∀k,k<128->f k<256)(D:aX W S (N g 117))(j:Lo.lo<=p)(l:Lo.lo<=S):
  aF 232 #[ar p,ar S] W (vG p S f (q+1) ((g.setIfInBounds 8 (.bool c)).setIfInBounds 9 (.bool a)) W):=by
 have u:=I (xP W p 128 q f A j B ai C);rw[z]at u;have d:=aY D h i l;have m:∀b,fP b p 128 f (q+1)->Fr ka aG W b->vG p S f (q+1) ((g.setIfInBounds 8 (.bool c)).setIfInBounds 9 (.bool a)) W (.returned (.tuple #[])) ((b.setCell (R S 8) (.bool c)).setCell (R S 9) (.bool a)):=λb E F=>by obtain⟨G,K,L⟩:=ma (o:=8) (v:=.bool c) E F d.1 d.2.2.2;obtain⟨O,P,Q⟩:=ma (o:=9) (v:=.bool a) G (Fr.refl ka aG _) K d.2.2.2;exact⟨rfl,O,P,L.tr Q⟩
 have n:=I m;cases c<;>cases a
 all_goals
  go_enter func232,ntmps232;go_wp2_with(first|(go_at_call 226;refine u.mono ?_;rintro e b ⟨rfl,T,w⟩;have x:=aB T w;have r:=w.hp d.1 rfl;obtain⟨y,U,V⟩:=cr r;have X:b.cell? (R S 8)=some s:=(y 8).trans d.2.1;have Z:b.cell? (R S 9)=some t:=(y 9).trans d.2.2.1));go_end0;exact n _ x.1 x.2
theorem Bo(x:Nat)(w:M):aF 288 #[eb x] w λe a=>aL e (.bool (decide (x≠0)))/\w=a:=by
 by_cases h:x=0
 .subst h;go_enter func288,ntmps288;go_wp2;go_ret;exact⟨rfl,rfl⟩
 .have b:¬(x:Int)=0:=J;go_enter func288,ntmps288;go_wp2;go_ret;exact⟨by simp[h],rfl⟩
theorem x_(g o n c:Nat)(w:M)(m:n<=1000)(h:∀k,k<n->w.cell? ⟨g,o+k,none⟩=some (.int .u8 0)):
  aF 287 #[.slice (some (R g o)) n c,.func (.func 288) #[] #[]] w λe i=>aL e (Y (-1))/\w=i:=by
 have j:=I h;have p:∀a w,(VF 288 a).run prog w=.ok (.enter 288 a) w:=λ_ _=>rfl;go_enter func287,ntmps287;go_wp2_with fail;go_loopw [5,8] (λq d wr=>∃k:Nat,k<=n/\d= Y k/\wr=w) (λ_ d _=>n-(intOf d).toNat)
 case atStart=>exact⟨0,QO _,rfl,rfl⟩
 case round=>
  obtain⟨k,r,rfl,f⟩:=hrel;subst f;by_cases b:k<n
  .have s:(k:Int)<(n:Int):=J;have t:(0:Int)<=(k:Int):=J;have u:=j.out k b;have l:=I (Bo 0 wr);go_wp2_with(first|(refine l.mono ?_;rintro e v ⟨rfl,rfl⟩));exact⟨⟨k+1,b,by go_num,by first|rfl|trivial⟩,by first|(simp[intOf];done)|(simp[intOf];omega)⟩
  .obtain rfl:k=n:=J;go_wp2_with fail;go_ret;exact⟨rfl,rfl⟩
theorem x'[Lo](w:M)(p n q k:Nat)(f:aN)(h:fP w p n f q)(u:Lo.lo<=p)(v:1<=k)(l:k<=1000)(x:q+k<=n)(y:n<=1000000)(z:∀j,j<k->f (q+j)=0):aF 241 #[ar p,Y k] w λe o=>aL e (.tuple #[])/\fP o p n f (q+k)/\Fr ka aG w o:=by have A:=I (sU w p n q k f h v x y);have B:=I (λW (a:aq w W) g c (b:Array H) d (i:aX w g (.cells b 5 d)) (m:∀k,k<n->b[k]?=some (.int .u8 (f k)))=>x_ g q k (c-q) W l (λj C=>((QS W g _ b 5 d ((a.block _ (Z_ i)).trans i)).trans (m _ J)).trans (by rw[z j C];rfl)));have r:=aB h u;have O:QG.wrap ((q:Int)+k)=((q+k:Nat):Int):=bs;go_enter func241,ntmps241;go_wp2_with(first|(go_at_call 279;refine A.mono ?_;rintro e D ⟨⟨g,c,P,rfl,b,d,i,m⟩,a⟩;have E:=I (B D a g c b d i m);have s:=I (r.1.below a);have t:=I (λF=>Fr.reader s F r.2);have G:=I a;obtain⟨Q,S,-,K,-⟩:=id s;obtain⟨T,U,V⟩:=cr K)|(go_at_call 287;refine E.mono ?_;rintro e X ⟨rfl,L⟩;subst L));go_end0;exact⟨rfl,(t _).1,(Fr.af G).tr (t _).2⟩
theorem ya[Lo](p S q:Nat)(f:aN)(c:Array H)(W:M)(d:∀j,j<2->f (q+j)=0)(g:fP W p 128 f q)(h:q+2<=128)(i:aX W S (N c 117))(a:Lo.lo<=p):
  aF 240 #[ar p,ar S] W (vG p S f (q+2) c W):=by
 have k:=I (x' W p 128 q 2 f g a ai ai h ai d);have l:=I i;go_enter func240,ntmps240;go_wp2_with(first|(go_at_call 241;refine k.mono ?_;rintro e o ⟨rfl,m,n⟩;have b:=aB m n));go_end0;exact⟨rfl,b.1,b.2.hp l rfl,b.2.wide wa rfl⟩
theorem fP.fr[Lo](h:fP w m n f k)(a:Fr T aG w W)(b:T.contains 364=false)(d:T.contains 5=false):fP W m n f k:=by obtain⟨g,c,e,i,j,l,o,p⟩:=h;exact⟨g,c,e,a.hp i b,j,l,a.hp o d,p⟩
theorem nO.Oh[Lo](e:nO i W v n m x w)(f:W.ownsRow j t r v n L)(s:Lo.lo<=j)(u:t<1000000):Fr [t] aG W w:=by
 have b:=e.out (S:=λk=>v.ownBlock=some k) (Out.refl _ _) λ_ h _=>h;refine⟨b.os,b.tape,b.output,b.size,λk o c d _=>b.heap c λa=>?_⟩;rcases f.2 with⟨rfl,_⟩|⟨g,l,p,rfl,y,q,_⟩
 .cases a
 .cases a;rw[q]at c;obtain rfl:=RM c;rcases d with h|h
  .exact absurd (show[t].contains t=false from h) aJ
  .have z:g<Lo.lo:=h;omega
structure MO[Lo](p S q:Nat)(f st:aN)(cs:Array H)(W:M)(k:Nat)(wr:M)(v:H):Prop where
 rd:fP wr p 128 f (q+k)
 aM:wr.heap[S]? =some (N (cs.setIfInBounds 10 v) 117)
 own:wr.ownsRow W.heap.size 122 1 v k (bQ k fun j=> .int .u8 (st j:Nat))
 bY:Fr wa aG W wr
theorem Bp[Lo](p S q M:Nat)(f m:aN)(D E F G K L O P Q d:QC)(W:QA)(c5:M<=16)(I:∀j,j<M->f (q+j)=m j)(b5:fP W p 128 f q)(b6:q+M<=128)(b7:∀k,k<128->f k<256)(b1:W.heap[S]?=some (ao #[D,E,F,G,ae M,K,L,O,P,Q,aO,d] 117))(Y:Lo.lo<=p)(J:Lo.lo<=S):
  aF 243 #[ar p,ar S] W λe r=>aL e (.tuple #[])/\∃v,MO p S q f m #[D,E,F,G,ae M,K,L,O,P,Q,aO,d] W M r v:=by
 obtain⟨b8,b9,a0,a1,a2⟩:=SB oI;have b2:min (M:Int) 16=(M:Int):=aa;have H0:QX (MO p S q f m #[D,E,F,G,ae M,K,L,O,P,Q,aO,d] W 0 W aO):=⟨b5,b1,SD _ _ _ _,Fr.refl _ _ _⟩;obtain⟨s0,s1,s2⟩:=cr b1;have n:=f' b7 I Y J b6 s2;go_enter func243,ntmps243;go_wp2_with fail;go_loopw [10] (λz wr=>∃(k:Nat) (v:QC),k<=M/\z= ae k/\QX (MO p S q f m #[D,E,F,G,ae M,K,L,O,P,Q,aO,d] W k wr v)) (λz _=>M-(intOf z).toNat)
 case atStart=>exact⟨0,_,QO _,rfl,H0⟩
 case round=>
  obtain⟨k,v,b3,rfl,s⟩:=hrel;by_cases T:k<M
  .have j1:(k:Int)<(M:Int):=aa;obtain⟨N,R,rfl,-⟩:=au s.own;have a3:=n.2.1 k T;have a4:=ad (λW1 (c0:aq wr W1)=>xP W1 p 128 (q+k) f (s.rd.below c0) n.2.2.1 (by have:=n.2.2.2.2.1;omega) ai n.1);rw[a3]at a4;have a5:(RR N k R).ownBlock≠some S:=λe=>by have:=(s.own.lt S e).1;have:=n.2.2.2.2.2;omega
   have w:=s.aM;obtain⟨t0,t1,t2⟩:=cr w;have U:=aT w a5 T;obtain⟨y,b4⟩:=ah (m k);simp only[b4]at a4;have c1:=ad b4;go_wp2_with fail
   go_region_law (first|(refine df _ rfl (.tmp 16) (.tmp 19) 115 rfl W.heap.size 122 b8 (.int .u8 0) 1 1 underlying115 b9 a0 a1 a2 rfl ai (.slice N k R) k (bQ k λj=>.int .u8 (m j:Nat)) (by simp[VO]) A (ag x.heap.size 0) 1 1 [eb y] (by simp[VO]) rfl (RW (cs:= #[eb y]) (t:=122) (fr:=(0,0)) (QB x _)) (by intro u c2;rw[SM.1 c2];rfl) aa (by unfold UE;omega) aa V ?_;intro c6 r a b;obtain⟨i,l,rfl,-⟩:=au a;obtain⟨c7,c8,c9⟩:=cr (b.heap X U.2.1))|(go_simp;go_at_call 226;refine(a4 _ bF).mono ?_;rintro e x ⟨rfl,q1,q2⟩;have Z:QX (fP x p 128 f (q+k+1)/\Fr ka aG wr x):=⟨q1,(Fr.af bF).tr q2⟩;have A:QX ((x.alloc (ao #[eb y] 122)).ownsRow W.heap.size 122 1 (.slice N k R) k (bQ k λj=>.int .u8 (m j:Nat))):=(Z.2.own s.own rfl λ_ _ h=>h).alloc _;have V:QX (W.heap.size<=(x.alloc (ao #[eb y] 122)).heap.size):=(by show _<=_;rw[SP];have:=s.bY.size;have:=Z.2.size;omega);have C:=ad (Z.2.hp U.1 rfl);have X:QX ((x.alloc (ao #[eb y] 122)).heap[S]?=some (ao (#[D,E,F,G,ae M,K,L,O,P,Q,aO,d].setIfInBounds 10 (.slice N k R)) 117)):=(QW _ _ _ (Z_ C)).trans C;obtain⟨r0,r1,r2⟩:=cr C))
   all_goals
    have a6:Lo.lo<=W.heap.size:=QD n.2.2.2.1 (TF n.2.2.2.2.2);have a7:=b.Oh A a6 ai;have a8:=b.below (B:=W.heap.size) aj V λk b3=>(A.lt k b3).1;have o:=b.heap X U.2.1;have c3:=heap_setCell_same r S 10 _ 117 (.slice i (k+1) l) o;have a9:(RR i (k+1) l).ownBlock≠some S:=λe=>by have:=(a.lt S e).1;have:=n.2.2.2.2.2;omega
    have H:(bQ k λj=>SJ .u8 (m j:Nat))++ [eb y] =bQ (k+1) λj=>.int .u8 (m j:Nat):=by unfold bQ;rw[UL,SH,<-c1.out];rfl
    rw[H]at a;have h1:fP r p 128 f (q+k+1):=(Z.1.below (aK aj _)).fr a7 rfl rfl;have h2:Fr wa aG W (x.alloc (ao #[eb y] 122)):=(s.bY.tr (Z.2.wide wa rfl)).alloc _;have h3:Fr wa aG W r:=h2.low a8 (QE _);have h4:Fr wa aG W (r.setCell (ag S 10) (.slice i (k+1) l)):=h3.set (p:=ag S 10) o rfl n.2.2.2.1 _;have h5:fP (r.setCell (ag S 10) (.slice i (k+1) l)) p 128 f (q+(k+1)):=by
     obtain⟨g,c,g1,g2,b0,fr,g3,g4⟩:=h1;have e1:p≠S:=λe=>by rw[e,o]at g2;cases g2
     have e2:g≠S:=λe=>by rw[e,o]at g3;cases g3
     exact⟨g,c,g1,(RO _ _ _ _ e1).trans g2,b0,fr,(RO _ _ _ _ e2).trans g3,g4⟩
    have c4:QX (MO p S q f m #[D,E,F,G,ae M,K,L,O,P,Q,aO,d] W (k+1) (r.setCell (ag S 10) (.slice i (k+1) l)) (.slice i (k+1) l)):=⟨h5,by rw[c3];rfl,XS a a9 _,h4⟩;go_wp2_with fail;exact⟨⟨k+1,_,U.2.2,by go_num,c4⟩,by have:=U.2.2;first|(simp[intOf];done)|(simp[intOf];omega)⟩
  .obtain rfl:k=M:=aa;go_wp2_with fail;go_end0;exact⟨rfl,_,s⟩
structure KG(b:By)(k:Nat)(v:Dv):Prop where
 slot:k<b.N
 dv:b.dv k=some v
 mR:v.hf=false/\v.d.failed=false
 lit:b.bz=false/\b.aW=none
theorem KG.rd(h:KG b k U):b.op k bS=(b,0):=by
 obtain⟨o,i,a,c⟩:=b;obtain⟨p,d,⟨l,m⟩,f,g⟩:=h;simp only at d f g;subst f;subst g;have n:U.use=U:=Dv.hT l;simp only[By.op,By.out,d,n,bS,m,By.tick,By.put];simp;funext j;by_cases e:j=k
 .subst e;simp[d]
 .simp [e]
theorem pX[Lo](B k d:Nat)(b:By)(v:Dv)(w:M)(h:aC w B b)(f:KG b k v)(r:d<v.d.n):
  aF 185 #[ar B,Y k,Y d] w λe j=>(∃l,aL e (.tuple #[l,aH 0])/\dR j l (v.d.view d))/\aC j B b/\Fr TB aG w j:=by
 refine(mA B k d b w h f.slot λu i=>by rw[f.dv]at i;cases i;exact r).mono ?_;rintro e j ⟨a,n,c,rfl,m,s,p⟩;rw[f.rd]at m p|-;obtain⟨u,i,E,q,t⟩:=p rfl;rw[f.dv]at i;cases i;rw[Dv.hT f.mR.1]at q;obtain⟨F,G,x,y⟩:=q;cases x;obtain⟨g,o,z,A,rfl,C,D⟩:=y.resolve_left ai;exact⟨⟨_,rfl,g,o,c,z,A,rfl,t,C,D⟩,m,s⟩
theorem Bq(v:H)(f:aN)(a b t:Nat)(w:M)(h:dR w v f)(l:∀k,k<128->f k<256)(c:(⟨a,b,t⟩:Ck).ok)(g:aD f (aV a b t)):
  aF 193 #[v] w λe i=>aL e (.tuple #[.agg #[bg a,bg b,Y t],aH 0])/\aq w i:=by
 refine(JX v f w h l).mono ?_;rintro e i ⟨p,k,rfl,m,⟨rfl,d,n⟩|⟨_,d⟩⟩
 .have o:=Ck.cG d n;have j:=Ck.cG c (show aD f (Ck.enc ⟨a,b,t⟩)from g);rw[o]at j;subst j;exact⟨rfl,m⟩
 .exact absurd g (d ⟨a,b,t⟩ c)
theorem yb(N:Nat)(S:dp)(p:Nat)(h:p*128=N):(az N λj=>S (j/128) (j%128))++az 128 (S p)=az (N+128) λj=>S (j/128) (j%128):=by
 apply TJ;intro j;by_cases a:j<N
 .rw [RD (by rw[aI];exact a),ba _ _ _ a,ba _ _ _ J]
 .by_cases b:j<N+128
  .rw [RA (by rw[aI];omega),aI,ba _ _ _ J,ba _ _ _ b,show j/128=p by omega,show j%128=j-N by omega]
  .rw [RF (by rw[QU,aI,aI];omega),RF (by rw[aI];omega)]
def EO[Lo](B J:Nat)(b:By)(S:dp)(N g t d:Nat)(w:M)(e:RV)(f:M):Prop:=
 ∃W r a c L,aL e (.tuple #[ar W,.slice a L.length c,aH 0])/\pU S N g t d L/\l_ S N g t d L/\bj L<=N/\m_ w.heap.size f (.slice a L.length c) d (L.map λP=>bM P P.N)/\
  aC f B b/\bH f W r B J ⟨g,d+L.length,true,none,0,N,t,bj L⟩/\Fr TB aG w f/\w.heap.size<=W/\w.heap.size<=r
structure Mg[Lo](B:Nat)(b:By)(S:dp)(w w3:M)(p:Nat)(v:H)(wr:M):Prop where
 own:wr.ownsRow w3.heap.size 5 1 v (p*128) (az (p*128) fun j=>S (j/128) (j%128))
 ct:aC wr B b
 bY:Fr TB aG w3 wr
theorem Hn[Lo](d1:gQ)(B J N o z t:Nat)(b:By)(v:Dv)(S:dp)(w:QA)(h:aC w B b)(g9:KG b J v)(d2:5<=N)(O:N<=2048)(a0:2+N<=v.d.n)(P:v.d.eI)(a1:cM o z)(g4:t<N)(h0:aD (v.d.view 1) (aV o z t))(d3:∀k,k<N->S k=v.d.view (2+k)):
  aF 129 #[ar B,ae J,ae N] w (EO B J b S N o t z w):=by
 have d4:=h.lo;have d5:=h.lt;have d6:=ad (λW=>uu N W d2 O);have a2:=ad (λa3 (h8:a3<v.d.n) W (h9:aC W B b)=>pX B J a3 b v W h9 g9 h8);have d7:=ad (λc8 W (i0:dR W c8 (v.d.view 1))=>Bq c8 _ o z t W i0 (λk a4=>Dk.lO P 1 k a4) ⟨a1,show t<2048 by omega⟩ h0);have d8:=ad (λu W (i1:u<=N)=>uq N t u W d2 O g4 i1);have A:=nh d4 d5 a0 P a1 g4 d3;have i2:=ad h;have e3:decide ((N:Int)<=(t:Int))=false:=decide_eq_false aa;have i3:decide (N<=t)=false:=decide_eq_false aa;obtain⟨i4,d9,e0,e1,e2⟩:=SB kg;clear a0;go_enter func129,ntmps129;go_wp2_with(first|(go_at_call 83;refine(d6 _).mono ?_;rintro e w1 ⟨rfl,rfl⟩)|(go_at_call 185;refine(a2 1 (by have:=A.2.2.1;omega) w i2).mono ?_;rintro e w2 ⟨⟨c8,rfl,e4⟩,a6,e6⟩;have H2:=aT e4 a6 e6)|(go_at_call 193;refine(d7 c8 w2 H2.1).mono ?_;rintro e w3 ⟨rfl,e7⟩;have H3:=ad e7));obtain⟨q,r⟩:=ah (w3.alloc (ao #[bg o,bg z,ae t] 156));have U:aq w2 q:=by rw[<-r];exact aK H3 _
 have V:aX q w3.heap.size (ao #[bg o,bg z,ae t] 156):=by rw[<-r];exact QB _ _
 obtain⟨C,c9⟩:=ah w3.heap.size;rw[c9]at V;have a7:Fr TB aG w q:=H2.2.2.then U;have H4:=ca r c9 V a7 (show w.heap.size<=C by rw[<-c9];exact QD H2.2.2.size H3.size);have e8:QX (Mg B b S w q 0 aO q):=⟨by rw[VY];exact SD _ _ _ _,H2.2.1.below U,Fr.refl _ _ _⟩;clear r U V c9 a7;rw[H4.1,H4.2.1];go_loopw [12,44] (λa i wr=>∃p:Nat,i= ae p/\p<=N/\QX (Mg B b S w q p a wr)) (λ_ i _=>N-(intOf i).toNat)
 case atStart=>exact⟨0,rfl,QO _,e8⟩
 case round=>
  rename_i i5 i6;obtain⟨p,rfl,j2,D⟩:=hrel;have c:=D.own;obtain⟨g7,a8,rfl,-⟩:=au c;have X:=D.bY.hp H4.2.2.1 rfl;by_cases E:p<N
  .have i7:(p:Int)<(N:Int):=aa;obtain⟨Q,e9⟩:=ah (p*128);obtain⟨P2,Z⟩:=ah (2+p);have e5:QG.wrap (2+(p:Int))=(P2:Int):=bs;have a9:=ad (a2 P2 (by have:=A.2.2.1;omega) wr D.ct);rw[<-Z,<-d3 p E,Z]at a9;have d0:=aT e9 E X;have i8:Q<=262144:=aa;rw[e9];clear e9 Z;go_wp2_with(first
    |(go_at_call 185;refine a9.mono ?_;rintro e d ⟨⟨i9,rfl,b0⟩,F,s⟩
      obtain⟨b5,o5,c5,f0,f1,rfl,j0,m,b1⟩:=b0;have f2:QX (∀j u,(az 128 (S p))[j]?=some u->d.cell? (((ag b5 o5):SR).add j)=some u):=λj u H=>by
       by_cases b2:j<128
       .rw [ba _ _ _ b2]at H;rw[iQ,<-H];exact(QS d b5 (o5+j) f0 5 f1 m).trans (b1 j b2)
       .rw [RF (by rw[aI];omega)]at H;cases H
      have f:=s.own D.own rfl λ_ _ h=>h;rw[d0.1]at f;have g:=aT f F s;have b3:q.heap.size<=d.heap.size:=QD D.bY.size s.size;clear f F s m b1)
    |(at_builtin;refine aU _ rfl _ _ 41 rfl q.heap.size 5 i4 (.int .u8 0) 1 1 UO d9 e0 e1 e2 rfl ai (.slice g7 Q a8) Q _ rfl g.1 (ag b5 o5) 128 _ (az 128 (S p)) rfl (by rw[aI]) f2 (dr _ _) ai (by unfold UE;omega) aa b3 ?_;intro j3 w6 c b4;obtain⟨j4,j1,rfl,-⟩:=au c;have f3:=aB c b4))
   have f4:Lo.lo<=q.heap.size:=QD (QD A.1 (TF A.2.1)) H4.2.2.2.1.size;have f5:SK q.heap.size d w6:=f3.2.below aj b3 λk a4=>(bo g.1 a4).2;have f6:=d0.2.1;refine⟨⟨p+1,by go_num,f6,⟨?_,g.2.1.fn (f3.2.Oh g.1 f4 ai) rfl,(D.bY.tr g.2.2).low f5 (QE _)⟩⟩,by simp[intOf];omega⟩;rw[show(p+1)*128=Q+128 by have:=d0.1;omega,<-yb Q S p d0.1];exact f3.1
  .obtain rfl:p=N:=aa;obtain⟨g5,rfl⟩:∃g5,g7=some (ag g5 0):=by rcases au c with⟨j5,j6,e,h⟩;cases e;exact h.resolve_left aa
   have G:∀k,k<p->dR wr (.slice (some ⟨g5,0+k*128,none⟩) 128 (a8-k*128)) (S k)/\∀j,j<128->S k j<256:=λk a4=>by
    refine⟨?_,λj H=>by rw[d3 k a4];exact Dk.lO P _ _ H⟩;rcases c.2 with⟨h,_⟩|⟨g6,c6,b6,e,h1,h2,h3,h4,h5,h6⟩
    .cases h
    .cases e;refine⟨g5,0+k*128,a8-k*128,b6,_,rfl,aa,h2,λj H=>?_⟩;have h7:=congrArg (λl:List QC=>l[k*128+j]?) h6;simp only[SX]at h7;rw[ak aa,ba _ _ _ aa,show(k*128+j)/128=k by omega,show(k*128+j)%128=j by omega]at h7;rw[RE,<-TU];exact h7
   have K:p*128<=a8:=by
    rcases c.2 with⟨h,_⟩|⟨g6,c6,b6,e,h1,h2,h3,_⟩
    .cases h
    .cases e;omega
   have b7:=ad (Hl d1 g5 0 a8 p t o z S wr d2 O A.2.2.2.2.2.1 K A.2.2.2.2.1 G);have f7:=aT X D.ct D.bY;obtain⟨n,a0⟩:=ah (p*128);rw[a0]at b7|-;obtain⟨c0,c1,c2⟩:=cr X;clear G K a0;go_wp2_with(first|(go_at_call 194;refine b7.mono ?_;rintro e d ⟨m,L,j7,q1,q2,q3,⟨a5,c5,rfl⟩,rfl,q4⟩;have g:=ca m q1 q2 q3 q4;obtain⟨k0,k1,k2⟩:=kp m C c2;obtain⟨q8,M⟩:=ah (z+L.length);obtain⟨m8,b8⟩:=ah ((t+bj L)%p);obtain⟨u8,x⟩:=ah (bj L);obtain⟨l8,R⟩:=ah L.length;have H8:=aT M x R;rw[M,b8,x,R];rw[x]at q3;clear M b8 x R)|(go_at_call 84;refine(d8 u8 _ q3).mono ?_;rintro e w7 ⟨rfl,f8,I⟩;obtain⟨k3,k4,k5⟩:=kp I C dG;have h7:=(I.block _ dG).trans (QB d (ao #[.slice a5 l8 c5,bg q8,ae m8,ae u8] 279));obtain⟨k6,k7,k8⟩:=cr h7;have H7:=aT f8 I h7));go_region_held3(λf9=>f9.cell? (ag C 0)=some (bg o)/\f9.cell? (ag d.heap.size 1)=some (bg q8)/\f9.cell? (ag d.heap.size 0)=some (.slice a5 l8 c5)) ((simp[*,go_sem];done)) (first|fail)
   all_goals go_wp2
   have g0:(d.alloc (ao #[.slice a5 l8 c5,bg q8,ae m8,ae u8] 279)).heap.size=d.heap.size+1:=aJ;have g8:=H7.1;rw[g0]at g8;have g1:aq d (d.alloc (ao #[.slice a5 l8 c5,bg q8,ae m8,ae u8] 279)):=aK aj _;obtain⟨W9,Y⟩:=ah ((w7.alloc (ao #[ar B,ae J,bg o,.pointer (some ⟨d.heap.size+1,0,none⟩),bg q8,.bool true,.pointer none,aH 0] 153)).drew);have b9:aq w7 W9:=by rw[<-Y];exact a_ (aK aj _)
   have g2:aX W9 w7.heap.size (ao #[ar B,ae J,bg o,.pointer (some ⟨d.heap.size+1,0,none⟩),bg q8,.bool true,.pointer none,aH 0] 153):=by rw[<-Y];exact QB w7 _
   have y:aq d w7:=g1.trans (H7.2.1.mono aJ);have c3:aq d W9:=y.trans (b9.mono y.size);have c4:aq wr W9:=g.1.trans (c3.mono g.1.size);have c7:w.heap.size<=wr.heap.size:=QD H4.2.2.2.1.size f7.2.2.size;have f:w.heap.size<=d.heap.size:=QD c7 g.1.size;have g3:=QD A.1 (TF A.2.1);rw[Y];go_ret3;refine⟨w7.heap.size,d.heap.size+1,a5,c5,L,by rw[H8.2.2];rfl,g.2.1,g.2.2.1,g.2.2.2.1,(g.2.2.2.2.wide c7).below c3,f7.2.1.below c4,⟨none,?_,?_,rfl,?_⟩,(H4.2.2.2.1.tr f7.2.2).then c4,QD f y.size,aa⟩
   .rw [H8.1];exact g2
   .rw [H8.2.1];exact g8.fr (T:= []) (Fr.af b9) rfl
   .exact ⟨QD (QD g3 f) y.size,aa⟩
abbrev qC(g:aA)(u:Su)(a:H):Array H:= #[.bool true,bg u.id,bg u.ev,bg u.sf,Y u.rl,Y g.M,Y g.c,Y g.s,Y u.N,.bool u.lz,.bool u.lost,a,Y u.cur]
abbrev nX:Array H:= #[.bool false,.int .u64 0,.int .u64 0,.int .u64 0,Y 0,Y 0,Y 0,Y 0,Y 0,.bool false,.bool false,aO,Y 0]
def Su.sl(u:Su)(k:Nat):Su:={u with rl:=k}
structure m'(w:QA)(b cap:Nat)(g:aA)(u:Su)(hs:Nat->Bool):Prop where
 cap:g.M+1<=cap
 aM:∃cs fr,w.heap[b]? =some (.cells cs 265 fr)/\∀k,k<=g.M->∃sv,(hs k=true->ko w sv g.M u.st)/\∀(j:Nat) (x:H),(if hs k=true then qC g (u.sl k) sv else nX)[j]? =some x->cs[k*13+j]? =some x
theorem m'.below{a:Nat->Bool}(h:m' w n m g u a)(b:aq w W):m' W n m g u a:=by obtain⟨d,f,i,c,j⟩:=h;refine⟨d,f,i,(b.block n (Z_ c)).trans c,λk l=>?_⟩;obtain⟨o,p,q⟩:=j k l;exact⟨o,λe=>(p e).below b,q⟩
theorem Su.IC(h:u.ok g)(a:k<=g.M):(u.sl k).ok g:=⟨h.cJ,h.id,h.ev,a,h.ring,h.st,h.one,h.cur⟩
theorem tc{d e f g x4 i k l o p a b c:H}(h:∀(j:Nat) (x:H),(#[d,e,f,g,x4,i,k,l,o,p,a,b,c]:Array H)[j]?=some x->w.cell? ⟨n,m+j,none⟩=some x):
  w.cell? (R n m)=some d/\w.cell? ⟨n,m+1,none⟩=some e/\w.cell? ⟨n,m+2,none⟩=some f/\w.cell? ⟨n,m+3,none⟩=some g/\w.cell? ⟨n,m+4,none⟩=some x4/\w.cell? ⟨n,m+5,none⟩=some i/\w.cell? ⟨n,m+6,none⟩=some k/\w.cell? ⟨n,m+7,none⟩=some l/\w.cell? ⟨n,m+8,none⟩=some o/\w.cell? ⟨n,m+9,none⟩=some p/\w.cell? ⟨n,m+10,none⟩=some a/\w.cell? ⟨n,m+11,none⟩=some b/\w.cell? ⟨n,m+12,none⟩=some c:=
 ⟨h 0 _ rfl,h 1 _ rfl,h 2 _ rfl,h 3 _ rfl,h 4 _ rfl,h 5 _ rfl,h 6 _ rfl,h 7 _ rfl,h 8 _ rfl,h 9 _ rfl,h 10 _ rfl,h 11 _ rfl,h 12 _ rfl⟩
theorem na(b i q k:Nat)(g:aA)(u:Su)(s:Nat->Bool)(w:QA)(h:m' w b i g u s)(t:u.ok g)(F:k<=g.M)(G:aX w q (ao #[a' b (g.M+1) i] 190)):
  aF 265 #[ae k,ar q] w λe Q=>aL e (.bool (s k))/\aq w Q:=by
 obtain⟨l,S,T,m,U⟩:=h;obtain⟨v,c,V⟩:=U k F;have K:=t.cJ.m16;have W:=t.cJ.m3;obtain⟨X,x1,Z⟩:=cr G;have a:=λj x e=>(QS w b (k*13+j) S 265 T m).trans (V j x e);have H:QG.wrap (((g.M+1:Nat):Int)-1)=(g.M:Int):=bs;have N:(k:Int)<((g.M+1:Nat):Int):=aa;obtain⟨n,L⟩:=ah (g.M+1);rw[L]at X H N l;have O:=aB G L;have M:=ad t;cases d:s k
 case false=>rw[d]at a;obtain⟨R,I,Y,c3,c4,c5,J,c7,c8,c9,y,z,A⟩:=tc a;go_enter func265,ntmps265;go_wp2;go_ret;exact⟨rfl,aK aj _⟩
 case true=>
  rw[d]at a;obtain⟨R,I,Y,c3,c4,c5,J,c7,c8,c9,y,z,A⟩:=tc a;have c:=c d;obtain⟨B,C⟩:=ah (w.alloc (ao (qC g (u.sl k) v) 265));have f:aq w B:=by rw[<-C];exact aK aj _
  have o:aX B w.heap.size (ao (qC g (u.sl k) v) 265):=by rw[<-C];exact QB _ _
  obtain⟨D,P⟩:=ah w.heap.size;rw[P]at o;have E:=ad (rv g (u.sl k) v B (c.below f) (Su.IC M F));obtain⟨s1,s2,s3,s4,s5,rfl,s6⟩:=c;have p:=(f.block q Z).trans O.1;rw[O.2]at p;obtain⟨y0,y1,y2⟩:=cr p;obtain⟨d0,d1,d2⟩:=cr o;have r:=aT C P f;go_enter func265,ntmps265;go_wp2_with fail
  try rw[r.1,r.2.1]
  refine E.mono ?_;rintro e w1 ⟨rfl,m⟩;obtain⟨k0,k1,k2⟩:=kp m D d2;obtain⟨k3,k4,k5⟩:=kp m q y2;have a0:=ad m;have e3:(u.sl k).rl=k:=rfl;go_wp2;go_ret;exact⟨aJ,r.2.2.trans (a0.mono r.2.2.size)⟩
theorem vH(b a:Nat)(g:aA)(u:Su)(f:Nat->Bool)(w:QA)(h:m' w b a g u f)(i:u.ok g):
  aF 187 #[a' b (g.M+1) a] w λe c=>∃d,aL e (.func (.func 265) #[] #[ar d])/\aq w c/\c.heap[d]?=some (N #[a' b (g.M+1) a] 190):=by
 go_enter func187,ntmps187;go_wp2;go_ret;exact⟨_,rfl,aK aj _,QB _ _⟩
theorem EP(v:QC)(n:Nat)(s:aN)(w:M)(h:ko w v n s)(V:1<=n)(eZ:n<=1000):
  aF 143 #[v] w λe m=>(∃b c d,aL e (a' b n c)/\n<=c/\w.heap.size<=b/\m.heap[b]?=some (ao d 122)/\d.size=c/\∀k,k<n->d[k]?=some (.int .u8 (s k:Nat)))/\aq w m:=by
 obtain⟨b,o,f,d,D,rfl,E,G,K⟩:=h;have p:=aB G K;obtain⟨L,O,t,x,y⟩:=SB oI;have F:=λw=>Lib.run_eql_slice_nil (P:=prog) w 115 122 (some (R b o)) n f 0 0 underlying115;go_enter func143,ntmps143;go_wp2_with(first|(at_builtin;refine wpList_append_own _ rfl _ _ 115 rfl w.heap.size 122 L (.int .u8 0) 1 1 underlying115 O t x y rfl ai _ 0 [] rfl (ZP w #[] 0 (QE _) ai rfl) (R b o) n f (bQ n λk=>.int .u8 (s k:Nat)) rfl (by rw[bG,TX]) ?c1 ?c2 ?c3 ?c4 ?c5 ?_))
 case c1=>
  intro q u r;by_cases a:q<n
  .rw [cc _ _ _ a]at r;rw[iQ,YW _ _ _ (QN w _ ((QS w b (o+q) d 122 D p.1).trans (p.2 q a))),(QS w b (o+q) d 122 D p.1).trans (p.2 q a)];exact r
  .rw [RF (by rw[bG];omega)]at r;cases r
 case c2=>intro u Q;obtain⟨k,-,rfl⟩:=RK.1 Q;rfl
 case c3=>unfold UE;omega
 case c4=>omega
 case c5=>simp
 intro W m i z _;have j:aq w m:=(aK aj _).grown z aJ (λk A=>by simp[WS]at A;omega);go_wp2;go_ret;refine⟨?_,j⟩;rcases i.2 with⟨_,X⟩|⟨g,c,B,rfl,S,T,Z,H,N,U⟩
 .omega
 .refine ⟨g,c,B,aJ,J,S,T,J,λk A=>?_⟩;have C:=congrArg (λl:List QC=>l[k]?) U;simp only[UN,cc _ _ _ A,SX]at C;rw[ak J]at C;rw[<-TU];exact C
theorem Ho(g:aA)(u:Su)(k j:Nat)(c a:H)(w:M):aF 190 #[.agg (dy g (u.sl k) c),.agg (dy g (u.sl j) a)] w λe d=>aL e ec/\aq w d:=by obtain⟨h,i,l⟩:=g;obtain⟨id,m,n,o,N,p,b,q,f⟩:=u;simp only[Su.sl];go_enter func190,ntmps190;go_wp2_with fail;go_ret;exact⟨rfl,aK (aK aj _) _⟩
def hZ(g:aA)(u:Su):List (Nat × H)->List H
 | [] => []
 |p::l=>(dy g (u.sl p.1) p.2).toList++hZ g u l
theorem pY(g:aA)(u:Su):∀(l:List (Nat × H)) (p:Nat × H),hZ g u (l++ [p])=hZ g u l++(dy g (u.sl p.1) p.2).toList
 | [],p=>by simp[hZ]
 |q::l,p=>by show _++hZ g u (l++ [p])=(_++hZ g u l)++_;rw[pY g u l p,SV]
theorem rQ(g:aA)(u:Su):∀(l:List (Nat × H)) (i:Nat) (p:Nat × H),l[i]?=some p->∀(j:Nat) (x:H),(dy g (u.sl p.1) p.2)[j]?=some x->(hZ g u l)[i*12+j]?=some x
 | [],i,p,h,_,_,_=>by simp at h
 |q::l,0,p,h,j,x,a=>by simp at h;subst h;have b:j<12:=(RC.1 a).1;show((dy g (u.sl q.1) q.2).toList++hZ g u l)[0*12+j]?=_;rw[VY,RE,RD (by simpa using b),TU];exact a
 |q::l,i+1,p,h,j,x,a=>by have c:=rQ g u l i p (by simpa using h) j x a;show((dy g (u.sl q.1) q.2).toList++hZ g u l)[(i+1)*12+j]?=_;rw[RA aS,show(i+1)*12+j-(dy g (u.sl q.1) q.2).toList.length=i*12+j by simp;omega];exact c
def yc(B:Nat)(w:M)(v:H)(g:aA)(u:Su)(l:List (Nat × H)):Prop:=w.ownsRow B 117 12 v l.length (hZ g u l)
theorem Oi:(prog.info? 117).map (λi=>(i.zero,i.size,i.bytes))=some (some (.agg #[.int .u64 0,.int .u64 0,.int .u64 0,Y 0,Y 0,Y 0,Y 0,Y 0,.bool false,.bool false,aO,Y 0]),12,104):=aE
theorem yc.cell{l:List (Nat × H)}(h:yc n w (a' m l.length k) g u l){p:Nat × H}(a:l[i]?=some p)(j:Nat)(x:H)(b:(dy g (u.sl p.1) p.2)[j]?=some x):w.cell? ⟨m,i*12+j,none⟩=some x:=by have c:=h.cells (g:=m) rfl (i*12+j) x (rQ g u l i p a j x b);rwa[iQ,RE]at c
theorem td{b o:Nat}{x0 x1 x2 x3 x4 x5 x6 x7 x8 x9 x10 x11:H}(h:∀(j:Nat) (x:H),(#[x0,x1,x2,x3,x4,x5,x6,x7,x8,x9,x10,x11]:Array H)[j]?=some x->w.cell? ⟨b,o+j,none⟩=some x):
  w.cell? (R b o)=some x0/\w.cell? ⟨b,o+1,none⟩=some x1/\w.cell? ⟨b,o+2,none⟩=some x2/\w.cell? ⟨b,o+3,none⟩=some x3/\w.cell? ⟨b,o+4,none⟩=some x4/\w.cell? ⟨b,o+5,none⟩=some x5/\w.cell? ⟨b,o+6,none⟩=some x6/\w.cell? ⟨b,o+7,none⟩=some x7/\w.cell? ⟨b,o+8,none⟩=some x8/\w.cell? ⟨b,o+9,none⟩=some x9/\w.cell? ⟨b,o+10,none⟩=some x10/\w.cell? ⟨b,o+11,none⟩=some x11:=
 ⟨h 0 _ rfl,h 1 _ rfl,h 2 _ rfl,h 3 _ rfl,h 4 _ rfl,h 5 _ rfl,h 6 _ rfl,h 7 _ rfl,h 8 _ rfl,h 9 _ rfl,h 10 _ rfl,h 11 _ rfl⟩
theorem ER(B c b d k:Nat)(g:aA)(u:Su)(f:Nat × H)(l:List (Nat × H))(p:H)(w:M)(h:yc B w (a' b (l.length+1) d) g u (f::l))(q:aX w c (N #[a' b (l.length+1) d] 269)):
  aF 189 #[.agg (dy g (u.sl k) p),ar c] w λe r=>aL e iL/\aq w r:=by
 obtain⟨s,G,K⟩:=cr q;have a:=h.cell (i:=0) rfl;simp only[VY]at a;obtain⟨t,v,x,c3,c4,c5,y,z,A,C,j,m⟩:=td a;have o:=I (λW=>Ho g u k f.1 p f.2 W);obtain⟨n,D⟩:=ah (l.length+1);rw[D]at s;have L:(0:Int)<(n:Int):=J;have O:=QN w _ t;simp only[RE]at v x c3 c4 c5 y z A C j m;go_enter func189,ntmps189;go_wp2_with fail
 go_region_with (first|(go_at_call 190;refine(o _).mono ?_;rintro e P ⟨rfl,E⟩))
 all_goals
  have F:=I E
 all_goals go_wp2
 all_goals go_ret
 all_goals exact⟨rfl,(cK (aK aj _) 1:aq w _).trans (F.mono aJ)⟩
theorem ES(B c b a:Nat)(g:aA)(u:Su)(o:Nat × QC)(l:List (Nat × QC))(w:M)(h:yc B w (a' b (l.length+1) a) g u (o::l))(v:aX w c (ao #[a' b (l.length+1) a] 269))(Q:l.length<=100):
  aF 266 #[a' b (l.length+1) a,.func (.func 189) #[] #[ar c]] w λe C=>aL e (Y (-1))/\aq w C:=by
 have D:=I (λk E W (d:aq w W)=>ER B c b a k g u o l E W (aP d h) ((d.block c (Z_ v)).trans v));have F:=I (λi p (q:(o::l)[i]?=some p) W (d:aq w W)=>td λj x G=>yc.cell (aP d h) q j x G);obtain⟨n,y⟩:=ah (l.length+1);rw[y];have K:=I y;have r:n<=101:=J;go_enter func266,ntmps266;go_wp2;go_loopw [8] (λi wr=>∃k:Nat,i= Y k/\k<=n/\QX (aq w wr)) (λi _=>n-(intOf i).toNat)
 case atStart=>exact⟨0,rfl,QO _,aj⟩
 case round=>
  obtain⟨k,rfl,S,f⟩:=hrel;by_cases m:k<n
  .have z:(k:Int)<(n:Int):=J;obtain⟨p,q⟩:∃p,(o::l)[k]?=some p:=⟨_,QQ (by rw[SE,K.out];exact m)⟩;obtain⟨T,U,V,c3,c4,c5,X,Z,H,N,L,O⟩:=F.out k p q wr f;have s:=I (D p.1 p.2 wr f);have A:=I m;go_wp2_with(first|(go_at_call 189;refine s.mono ?_;rintro e P ⟨rfl,d⟩;have t:QX (aq w P):=f.trans (d.mono f.size)));exact⟨⟨k+1,by go_num,A,t⟩,by have:=A.out;simp[intOf];omega⟩
  .obtain rfl:k=n:=J;go_wp2;go_ret;exact⟨rfl,f⟩
theorem Ke(B c b a:Nat)(g:aA)(u:Su)(d:Nat × H)(l:List (Nat × H))(w:M)(h:yc B w (a' b (l.length+1) a) g u (d::l))(f:aX w c (N #[a' b (l.length+1) a] 269))(i:l.length<=100):
  aF 188 #[a' b (l.length+1) a,.func (.func 189) #[] #[ar c]] w λe j=>aL e iL/\aq w j:=by
 have k:=I (ES B c b a g u d l w h f i);go_enter func188,ntmps188;go_wp2_with(first|(go_at_call 266;refine k.mono ?_;rintro e o ⟨rfl,m⟩;have n:=I m));go_ret;exact⟨rfl,n⟩
def kb(a:Nat->Bool):Nat->Nat
 |0=>0
 |k+1=>kb a k+if a k=true then 0 else 1
theorem Kf{a:Nat->Bool}(h:a k=true):kb a (k+1)=kb a k:=by show kb a k+_=_;rw[ak h,VK]
theorem Kg{a:Nat->Bool}(h:a k=false):kb a (k+1)=kb a k+1:=by show kb a k+_=_;rw[al (by rw[h];decide)]
theorem zt(a:Nat->Bool):∀k,kb a k<=k
 |0=>QE _
 |k+1=>by have:=zt a k;unfold kb;split<;>omega
theorem vI{hs:Nat->Bool}{aw:Option Nat}:∀{k:Nat},(∀j,j<k->hs j=false->aw=some j)->kb hs k<=1/\((∀j,j<k->aw≠some j)->kb hs k=0)
 |0,_=>⟨QO _,λ_=>rfl⟩
 |k+1,h=>by
  obtain⟨d,a⟩:=vI (k:=k) λj b=>h j J;unfold kb;cases f:hs k
  case true=>simp only[if_true,VK];exact⟨d,λe=>a λj b=>e j J⟩
  case false=>
   have e:=h k J f;have g:=a λj b c=>by rw[e]at c;cases c;omega
   rw[g];exact⟨aJ,λi=>absurd e (i k J)⟩
abbrev te(g:aA)(u:Su)(a:H)(b c:Bool):Array H:= #[bg u.id,bg u.ev,bg u.sf,Y u.rl,Y g.M,Y g.c,Y g.s,Y u.N,.bool u.lz,.bool u.lost,a,Y u.cur,.bool b,.bool c]
structure Hp(D sb c:Nat)(g:aA)(u:Su)(hs:Nat->Bool)(w:QA)(k:Nat)(wr:QA):Prop where
 aM:∃ch,wr.heap[D]? =some (N (te g u (a' sb g.M c) ch true) 194)
 xu:∃cs,wr.heap[sb]? =some (N cs 122)/\∀m,m<g.M->cs[m]? =some (.int .u8 (if m<k/\hs m=false then 2 else 1:Nat))
 dA:aq w wr
theorem Br(D o c b y L:Nat)(g:aA)(u B:Su)(f:Nat->Bool)(t w:QA)(h0:Hp D o c g u f t 0 w)(x:m' t b y g B f)(C:B.ok g)(O:g.M<=c)(b0:t.heap[L]?=some (ao #[a' b (g.M+1) y] 190))(a0:u.sf<=B.ev)(b6:t.heap.size<=D)(a1:t.heap.size<=o):
  aF 192 #[ar D,a' b (g.M+1) y,.func (.func 265) #[] #[ar L]] w λe I=>aL e (ae (kb f g.M:Nat))/\Hp D o c g u f t g.M I:=by
 have P:=C.cJ.m16;have a2:=C.cJ.m3;have Q:=ad (λk W (F:k<=g.M) (G:aq t W)=>na b y L k g B f W (x.below G) C F ((G.block L (Z_ b0)).trans b0));have T:QX (∀k W,k<=g.M->f k=true->aq t W->W.cell? ⟨b,k*13+2,none⟩=some (bg B.ev)/\b<W.heap.size):=λk W F b7 G=>by obtain⟨h1,Y,b8,K,U⟩:=x;obtain⟨c4,h4,h5⟩:=U k F;rw[ak b7]at h5;have h6:=(G.block b (Z_ K)).trans K;exact⟨(QS W b (k*13+2) Y 265 b8 h6).trans (h5 2 _ rfl),Z_ h6⟩
 have a3:=ad h0;have a4:=aY b6 a1 a0 O;obtain⟨b9,d⟩:=h0.aM;obtain⟨c0,l,-⟩:=h0.xu;have a5:QX (D≠o):=λe=>by rw[e,l]at d;exact absurd (UU (RM d)).2.1 ai
 obtain⟨d0,d1,d2⟩:=cr d;obtain⟨n,b1⟩:=ah (g.M+1);obtain⟨M,E⟩:=ah g.M;rw[b1];have c1:=aB b1 E;rw[E]at P a2 d0 Q T|-;go_enter func192,ntmps192;go_wp2;go_loopw [7,17] (λa i wr=>∃k:Nat,a= ae (kb f k:Nat)/\i= ae k/\k<=M/\QX (Hp D o c g u f t k wr)) (λ_ i _=>M-(intOf i).toNat)
 case atStart=>exact⟨0,rfl,rfl,QO _,a3⟩
 case round=>
  obtain⟨k,rfl,rfl,F,q⟩:=hrel;obtain⟨c2,d⟩:=q.aM;obtain⟨Y,l,X⟩:=q.xu;rw[E]at d;obtain⟨d0,d1,d2⟩:=cr d;obtain⟨y0,y1,y2⟩:=cr l;by_cases Z:k<M
  .have b2:(k:Int)<(M:Int):=aa;have y3:=(y0 k).trans (X k (by rw[E];exact Z));rw[al aa]at y3;have A:=aY Z d l X;have J:=ad (λW (G:aq t W)=>Q.out k W F G);have c3:(u.sf:Int)<=(B.ev:Int):=by have:=a4.2.2.1;omega
   obtain⟨N,b3⟩:=ah (kb f k);have b4:N<=16:=by have:=zt f k;omega
   have b5:=ad b3;have c5:(k:Int)<(n:Int):=by have:=c1.1;omega
   rw[b3];cases r:f k
   case true=>
    obtain⟨v1,v2⟩:=T.out k wr F r q.dA;rw[r]at J;have s:=ad r;go_wp2_with fail;go_region_held3(λI=>I.cell? (ag D 2)=some (bg u.sf)/\I.cell? ⟨b,k*13+2,none⟩=some (bg B.ev)) ((simp[*,go_sem];done)) (first|(go_at_call 265;refine(J _ (q.dA.trans (Below.mono (by go_grown:aq wr _) q.dA.size))).mono ?_;rintro e H ⟨rfl,x⟩;obtain⟨k0,k1,k2⟩:=kp x D dG;obtain⟨k3,k4,k5⟩:=kp x b dG;have j:QX (aq wr H):=via bF x))
    all_goals go_wp2
    have z:=A.1;refine⟨⟨k+1,by rw[Kf s.out,b5.out],by go_num,z,⟨c2,?_⟩,⟨Y,?_,λm a6=>?_⟩,q.dA.trans (j.mono q.dA.size)⟩,by simp[intOf];omega⟩
    .rw [E];exact(j.block D d2).trans A.2.1
    .exact (j.block o y2).trans A.2.2.1
    .have K:=A.2.2.2 m a6;rw[K];by_cases e:m=k
     .subst e;simp[s.out]
     .have U:(m<k+1/\f m=false)↔(m<k/\f m=false):=⟨λh=>⟨aa,h.2⟩,λh=>⟨aa,h.2⟩⟩;simp only[U]
   case false=>
    rw[r]at J;have s:=ad r;go_wp2_with fail;refine nJ (S:=λ_=>True) (St:= []) aE ?_;refine qg (i:=0) (v:=.int .u8 1) rfl (λV _=>by go_simp) ?_;simp only[RS,QK,QH,QI,QF,QL,QM];refine qg (i:=1) (v:=.bool true) rfl (λV _=>by go_simp) ?_;simp only[RS,QK,QH,QI,QF,QL,QM];refine qg (i:=2) (v:=.bool true) rfl (λV _=>by go_simp) ?_;simp only[RS,QK,QH,QI,QF,QL,QM];refine qg (i:=3) (v:=.func (.func 265) #[] #[ar L]) rfl (λV _=>by go_simp) ?_;simp only[RS,QK,QH,QI,QF,QL,QM];refine qg (i:=4) (v:= ae k) rfl (λV _=>by go_simp) ?_;simp only[RS,QK,QH,QI,QF,QL,QM];refine gS (i:=5) aE rfl (λc6 a7=>?_);rw[ak aE];have a8:=ad a7;go_simp;refine(J _ (q.dA.trans ((cK aj 1:aq wr wr.drew).mono q.dA.size))).mono ?_;rintro e H ⟨rfl,x⟩;obtain⟨k0,k1,k2⟩:=kp x D d2;obtain⟨k3,k4,k5⟩:=kp x o y2;have j:QX (aq wr H):=(cK aj 1:aq wr wr.drew).trans x;refine a8 _ _ (.inr λ_=>trivial) ?_
    try simp only[RS,QK,QH,QI,QF,QL,QM]
    refine qg (i:=6) (v:=.bool false) rfl (λV _=>by go_simp) ?_;simp only[RS,QK,QH,QI,QF,QL,QM];refine qg (i:=7) (v:=.bool false) rfl (λV _=>by go_simp) ?_;simp only[RS,QK,QH,QI,QF,QL,QM];refine BP (i:=8) rfl ?_;refine BP (i:=9) rfl ?_;refine BP (i:=10) rfl ?_;refine BP (i:=11) rfl ?_;refine BP (i:=12) rfl ?_;refine BP (i:=13) rfl ?_;refine BP (i:=14) rfl ?_;refine BP (i:=15) rfl ?_;refine BP (i:=16) rfl ?_;refine BP (i:=17) rfl ?_;refine BP (i:=18) rfl ?_;refine BP (i:=19) rfl ?_;simp only[RS,QK,QH,QI,QF,QL,QM];refine qg (i:=20) (v:=.bool false) rfl (λV _=>by go_simp) ?_;simp only[RS,QK,QH,QI,QF,QL,QM];refine qg (i:=21) (v:=.bool false) rfl (λV _=>by go_simp) ?_;simp only[RS,QK,QH,QI,QF,QL,QM];refine nI aE ?_ _;have n1:=a5.out;have n2:=Ne.symm n1;go_wp2;have z:=A.1;have g1:=(j.block D d2).trans A.2.1;have g2:=(j.block o y2).trans A.2.2.1;have R:=A.2.2.2;have a9:=(RC.1 (R k (by rw[E];exact z))).1;refine⟨⟨k+1,by rw[Kg s.out,b5.out];go_num,by go_num,z,⟨true,?_⟩,⟨Y.setIfInBounds k (.int .u8 2),?_,λm a6=>?_⟩,?_⟩,by simp[intOf];omega⟩
    .rw [E];exact heap_setCell_same _ D 12 _ 194 ec ((RJ H (ag o k) D _ n1).trans g1)
    .exact (RJ _ (ag D 12) o _ n2).trans (heap_setCell_same H o k _ 122 (.int .u8 2) g2)
    .have K:=R m a6;by_cases e:m=k
     .subst e;simp[s.out,a9]
     .have U:(m<k+1/\f m=false)↔(m<k/\f m=false):=⟨λh=>⟨aa,h.2⟩,λh=>⟨aa,h.2⟩⟩;rw[Array.getElem?_setIfInBounds_ne (Ne.symm e),K];simp only[U]
    .exact ((q.dA.trans (j.mono q.dA.size)).setCell (p:=ag o k) a4.2.1 _).setCell (p:=ag D 12) a4.1 _
  .obtain rfl:k=M:=aa;go_wp2;go_ret;exact⟨rfl,q⟩
abbrev Bu:Array H:= #[.int .u64 0,.int .u64 0,.int .u64 0,Y 0,Y 0,Y 0,Y 0,Y 0,.bool false,.bool false,aO,Y 0,.bool false,.bool false]
structure Pg(c7:Nat)(g:aA)(u:Su)(hs:Nat->Bool)(w7:M)(k ev:Nat)(wr:M):Prop where
 dA:SK c7 w7 wr
 H':∃l v,wr.heap[c7]? =some (N #[v] 269)/\yc (c7+1) wr v g u l/\l.length<=k/\((l= []/\ev=0)\/(l≠[]/\ev=u.ev))/\∀j,j<k->hs j=true->l≠[]
theorem Bv(w:M)(D:Nat)(e f g h x4 i j l m n a b c d:H):Out (λk=>k=D) w ((((((((((((((w.setCell (R D 0) e).setCell (R D 1) f).setCell (R D 2) g).setCell (R D 3) h).setCell (R D 4) x4).setCell (R D 5) i).setCell (R D 6) j).setCell (R D 7) l).setCell (R D 8) m).setCell (R D 9) n).setCell (R D 10) a).setCell (R D 11) b).setCell (R D 12) c).setCell (R D 13) d):=
 ((((((((((((((Out.refl (λk=>k=D) w).setCell (p:=R D 0) (λ_=>rfl) _).setCell (p:=R D 1) (λ_=>rfl) _).setCell (p:=R D 2) (λ_=>rfl) _).setCell (p:=R D 3) (λ_=>rfl) _).setCell (p:=R D 4) (λ_=>rfl) _).setCell (p:=R D 5) (λ_=>rfl) _).setCell (p:=R D 6) (λ_=>rfl) _).setCell (p:=R D 7) (λ_=>rfl) _).setCell (p:=R D 8) (λ_=>rfl) _).setCell (p:=R D 9) (λ_=>rfl) _).setCell (p:=R D 10) (λ_=>rfl) _).setCell (p:=R D 11) (λ_=>rfl) _).setCell (p:=R D 12) (λ_=>rfl) _).setCell (p:=R D 13) (λ_=>rfl) _
def Oj(g:aA)(u:Su)(f:Nat->Bool)(w:QA)(e:RV)(b:QA):Prop:=
 ∃a c h d,aL e (.tuple #[.agg (te g (u.sl 0) (a' a g.M c) h true),aH 0])/\aq w b/\g.M<=c/\w.heap.size<=a/\b.heap[a]?=some (N d 122)/\∀m,m<g.M->d[m]?=some (.int .u8 (if f m=false then 2 else 1:Nat))
theorem Bw(b Q:Nat)(g:aA)(u:Su)(hs:Nat->Bool)(aw:Option Nat)(w:QA)(o1:m' w b Q g u hs)(j5:u.ok g)(j6:u.lost=false)(g2:∀m,m<g.M->u.st m=1)(o2:hs g.M=true)(g3:∀m,m<g.M->hs m=false->aw=some m):
  aF 128 #[a' b (g.M+1) Q] w (Oj g u hs w):=by
 have o3:=j5.cJ.m16;have p3:=j5.cJ.m3;obtain⟨M,o4⟩:=ah g.M;obtain⟨g4,g5⟩:=ah ((w.alloc (ao Bu 194)).alloc (ao Bu 194));have e6:aq w g4:=by rw[<-g5];exact aK (aK aj _) _
 have e7:aX g4 w.heap.size (ao Bu 194):=by rw[<-g5];exact e_ _ _ _
 have e9:aX g4 (w.heap.size+1) (ao Bu 194):=by rw[<-g5];exact eZ _ _ _
 have g6:=ad (vH b Q g u hs g4 (o1.below e6) j5);have B:=f' o1 j5 j6 g2 o2 g3;have g7:=aY g5 e6 e7 e9;obtain⟨a0,a1,a2⟩:=cr e7;obtain⟨b0,b1,b2⟩:=cr e9;obtain⟨n,k4⟩:=ah (g.M+1);rw[k4]at g6|-;have e1:¬(n:Int)<4:=aa;have e2:¬(17:Int)<(n:Int):=aa;have p4:decide ((n:Int)<4)=false:=decide_eq_false e1;have p5:decide ((17:Int)<(n:Int))=false:=decide_eq_false e2;have e3:QG.wrap ((n:Int)-1)=(M:Int):=bs;have J:=aB k4 o4;clear g5 e6 e7 e9 j6 g2 o2 g3 k4 o4;go_enter func128,ntmps128;go_wp2_with fail;rw[show(w.alloc (ao Bu 194)).alloc (ao Bu 194)=g4 from g7.1];refine g6.mono ?_;rintro e w1 ⟨b7,rfl,S,z⟩;obtain⟨w7,g8,a3,g9⟩:=qi w1 (ao #[aO] 269);obtain⟨d,h7⟩:=ah w1.heap.size;rw[h7]at g9 a3;have H7:QX (Pg d g u hs w7 0 0 w7):=⟨aj,[],_,g9,SD _ _ _ _,QE _,.inl ⟨rfl,rfl⟩,λj j7=>aa⟩;have a4:aq w w1:=g7.2.1.trans (S.mono g7.2.1.size);have d6:aq w w7:=a4.trans (a3.mono (by rw[<-h7];exact a4.size));have h0:=(a3.block w.heap.size (by rw[<-h7];exact RL a2 S.size)).trans ((S.block w.heap.size a2).trans g7.2.2.1);have h3:=(a3.block (w.heap.size+1) (by rw[<-h7];exact RL b2 S.size)).trans ((S.block (w.heap.size+1) b2).trans g7.2.2.2);have h4:=(a3.block b7 (by rw[<-h7];exact Z_ z)).trans z;have A:=nh g8 h7 d6 h0 h3 h4 (show w.heap.size+1<d/\b7<d by rw[<-h7];exact⟨RL b2 S.size,Z_ z⟩);clear g8 h7 a4 d6;go_wp2_with fail;rw[A.1,A.2.1];go_loopw [8,30] (λa i wr=>∃k f8:Nat,a= bg f8/\i= ae k/\k<=n/\QX (Pg d g u hs w7 k f8 wr)) (λ_ i _=>n-(intOf i).toNat)
 case atStart=>exact⟨0,0,rfl,rfl,QO _,H7⟩
 case round=>
  obtain⟨k,f8,rfl,rfl,r2,f9⟩:=hrel;obtain⟨l,v,D,K,h5,d7,d8⟩:=f9.H';have T:aq w wr:=A.2.2.1.trans (f9.dA.mono (by have:=A.2.2.2.2.2.2.1;omega));have z:=(f9.dA.block b7 A.2.2.2.2.2.2.2).trans A.2.2.2.2.2.1;have h6:=aB T z;by_cases k5:k<n
  .have o5:(k:Int)<(n:Int):=aa;have f0:k<=g.M:=by have:=J.1;omega
   have b8:=ad (na b Q b7 k g u hs wr (B.1.below T) B.2.1 f0 (by rw[J.1];exact z));obtain⟨h8,g0,rfl,-⟩:=au K;have E:=nh D K h5 d7 d8 k5 f0;obtain⟨p0,p1,p2⟩:=cr D;clear T f0;cases U:hs k
   case true=>
    rw[U]at b8;go_wp2_with(first|(go_at_call 265;refine b8.mono ?_;rintro e L ⟨rfl,F⟩;have f:=ad F;obtain⟨k0,k1,k2⟩:=kp F d p2));have a5:aq w L:=h6.1.trans (f.mono h6.1.size);obtain⟨-,cs,fr,X,f1⟩:=B.1.below a5;obtain⟨p6,C,G⟩:=f1 k E.2.2.2.2.2.2;rw[ak U]at G;have C:=C U;obtain⟨R,I,Y,s4,s5,rfl,s6⟩:=C;obtain⟨c0,c1,c2,c3,c4,c5,c6,p7,c8,c9,p8,p9,q0⟩:=tc λj x e=>(QS L b (k*13+j) cs 265 fr X).trans (G j x e);have h9:=Z_ X;have a6:QX ((L.alloc (ao (dy g (u.sl k) (.slice (some (ag R I)) g.M Y)) 117)).drew.ownsRow (d+1) 117 12 (.slice h8 l.length g0) l.length (hZ g u l)):=
     aP (cK aj 1) (aP (aK aj _) (aP f E.2.1))
    have i0:QX (aX L d (ao #[.slice h8 l.length g0] 269)):=(f.block d p2).trans E.1;have O:QX (∀x,x<=d->(RR h8 l.length g0).ownBlock≠some x):=λx i1 e=>by have:=(bo E.2.1 e).2;omega
    have k6:QX (cs[k*13+2]?=some (bg u.ev)):=G 2 _ rfl;have i2:QX (b<d):=by have h1:=A.2.2.2.2.2.2.1;obtain⟨-,q1,q2,k7,-⟩:=B.1;have h2:=Z_ k7;show b<d;omega
    have i3:l.length<=17:=by have:=E.2.2.1;have:=J.1;omega
    have k8:=ca X a5 U G s6;obtain⟨q3,k9,l0,l1,l2⟩:=SB Oi;obtain⟨f2,Z⟩:=ah l.length;rw[Z]at a6 i3 p0 i0 O;have l3:=ad Z;clear a5 Z
    go_region_law (refine df _ rfl (.tmp 36) (.tmp 42) 269 rfl (d+1) 117 q3 (.agg #[.int .u64 0,.int .u64 0,.int .u64 0,ae 0,ae 0,ae 0,ae 0,ae 0,.bool false,.bool false,aO,ae 0]) 12 104 underlying269 k9 l0 l1 l2 rfl ai (.slice h8 f2 g0) f2 (hZ g u l) (by simp[VO]) a6.out (ag L.heap.size 0) 1 1 (dy g (u.sl k) (.slice (some (ag R I)) g.M Y)).toList (by simp[VO]) rfl (RW (cs:=dy g (u.sl k) (.slice (some (ag R I)) g.M Y)) (t:=117) (fr:=(0,0)) (QB L _)) (by intro x i1;simp at i1;rcases i1 with rfl|rfl|rfl|rfl|rfl|rfl|rfl|rfl|rfl|rfl|rfl|rfl<;>rfl) aa (by unfold UE;omega) aa aS ?_;intro r3 b9 d9 a7;obtain⟨f3,f4,rfl,-⟩:=au d9;have q7:=a7.heap ((QW L (ao (dy g (u.sl k) (.slice (some (ag R I)) g.M Y)) 117) _ k2).trans i0) (O d (QE _));have o6:=a7.heap ((QW L (ao (dy g (u.sl k) (.slice (some (ag R I)) g.M Y)) 117) _ h9).trans k8.1) (O b (TF i2));obtain⟨m0,m1,m2⟩:=cr q7;have r4:=(QS b9 b (k*13+2) cs 265 fr o6).trans k6)
    all_goals
     have a8:QX (b9.ownsRow (d+1) 117 12 (.slice f3 (f2+1) f4) (f2+1) (hZ g u (l++ [(k,.slice (some (ag R I)) g.M Y)]))):=by show World.ownsRow _ _ _ _ _ _ _;rw[pY];exact d9
     have l4:QX (SK d L b9):=a7.below ((a_ (aK (SU L.heap.size L) _)).mono (TF k2)) aS λx i1=>by have:=O.out x;by_cases e:x<=d;exact absurd i1 (this e);omega
     have q4:=aB q7 o6;have n1:¬b=d:=by have:=i2.out;omega
     go_wp2;have q5:max (f8:Int) (u.ev:Int)=((u.ev:Nat):Int):=by rcases E.2.2.2.1 with⟨_,h⟩|⟨_,h⟩<;>omega
     have l5:=E.2.2.2.2.2.1;have l6:Out (λx=>x=d) b9 (b9.setCell (ag d 0) (.slice f3 (f2+1) f4)):=(Out.refl (λx=>x=d) b9).setCell (p:=ag d 0) (λ_=>rfl) _;refine⟨⟨k+1,u.ev,by rw[q5],by go_num,l5,(f9.dA.trans (f.mono (TF p2))).trans (l4.out.setCell (p:=ag d 0) (QE _) _),l++ [(k,.slice (some (ag R I)) g.M Y)],_,heap_setCell_same b9 d 0 _ 269 (.slice f3 (f2+1) f4) q4.1,?_,?_,.inr ⟨aJ,rfl⟩,λ_ _ _=>aJ⟩,by simp[intOf];omega⟩
     .show World.ownsRow _ _ _ _ _ _ _;rw[QU,l3.out];exact l6.own a8.out λq q6 e=>by have:=(bo a8.out q6).2;have:q=d:=e;omega
     .rw [QU];have:=E.2.2.1;simp;omega
   case false=>
    rw[U]at b8;go_wp2_with(first|(go_at_call 265;refine b8.mono ?_;rintro e L ⟨rfl,F⟩;have f:=ad F;obtain⟨k0,k1,k2⟩:=kp F d p2));have l7:=aP f E.2.1;refine⟨⟨k+1,f8,rfl,by go_num,E.2.2.2.2.2.1,f9.dA.trans (f.mono (TF p2)),l,_,(f.block d p2).trans E.1,l7,by have:=E.2.2.1;omega,E.2.2.2.1,λj j7 f5=>?_⟩,by have:=E.2.2.2.2.2.1;simp[intOf];omega⟩;by_cases e:j=k
    .subst e;rw[U]at f5;cases f5
    .exact E.2.2.2.2.1 j aa f5
  .obtain rfl:k=n:=aa;have l8:M<k:=by have:=J.1;have:=J.2;omega
   have i4:=d8 M l8 (by rw[<-J.2];exact B.2.2.2.2.1);have l9:f8=u.ev:=by
    rcases d7 with⟨h,_⟩|⟨_,h⟩
    .exact absurd h i4
    .exact h
   subst l9;obtain⟨p0,m3,rfl⟩:=List.exists_cons_of_ne_nil i4;obtain⟨h8,g0,rfl,m4⟩:=au K;obtain⟨q8,rfl⟩:=m4.resolve_left aJ;have a9:m3.length<=100:=by simp at h5;omega
   have e0:=ad (λW (b3:aq wr W)=>Ke (d+1) d q8 g0 g u p0 m3 W (aP b3 K) ((b3.block d (Z_ D)).trans D) a9);have m5:QX (∀W,aq wr W->aF 265 #[ae M,ar b7] W λe b9=>aL e ec/\aq W b9):=λW b3=>by have h:=na b Q b7 g.M g u hs W ((B.1.below T).below b3) B.2.1 (QE _) ((b3.block b7 (Z_ z)).trans (by rw[J.1];exact z));rw[B.2.2.2.2.1]at h;rw[<-J.2];exact h
   have f6:=(f9.dA.block w.heap.size (by have:=A.2.2.2.2.2.2.1;omega)).trans A.2.2.2.1;have g1:=aY D T f6 z;obtain⟨f2,Z⟩:=ah m3.length;simp only[SE,Z]at D e0;obtain⟨c0,c1,c2⟩:=cr D;obtain⟨d0,d1,d2⟩:=cr f6;clear T a9 f6 Z;go_wp2_with(first|(go_at_call 188;refine(e0 _ (by first|exact aj|go_grown)).mono ?_;rintro e L ⟨rfl,F⟩;have f:QX (aq wr L):=F));refine(m5 _ f).mono ?_;rintro e H ⟨rfl,m6⟩;have P:aq wr H:=f.trans (m6.mono f.size);have y:aq w H:=g1.2.1.trans (P.mono g1.2.1.size);obtain⟨-,cs,fr,X,f1⟩:=B.1.below y;obtain⟨p6,C,G⟩:=f1 g.M (QE _);rw[ak B.2.2.2.2.1,J.2]at G;have C:=C B.2.2.2.2.1;have i5:=ad C;obtain⟨R,I,Y,s4,s5,rfl,s6⟩:=C;obtain⟨j8,j9⟩:=ah (H.alloc (ao (te g (u.sl M) (.slice (some (ag R I)) g.M Y) false true) 194));have b4:aq H j8:=by rw[<-j9];exact aK aj _
   have d3:aX j8 H.heap.size (ao (te g (u.sl M) (.slice (some (ag R I)) g.M Y) false true) 194):=by rw[<-j9];exact QB _ _
   have h9:=Z_ X;obtain⟨z0,z1,z2,z3,z4,z5,z6,z7,z8,z9,q9,r0⟩:=td (w:=H) (b:=b) (o:=M*13+1) (x0:=.int .u64 ((u.sl M).id:Nat)) (x1:=.int .u64 ((u.sl M).ev:Nat)) (x2:=.int .u64 ((u.sl M).sf:Nat)) (x3:= ae ((u.sl M).rl:Nat)) (x4:= ae g.M) (x5:= ae g.c) (x6:= ae g.s) (x7:= ae ((u.sl M).N:Nat)) (x8:=.bool (u.sl M).lz) (x9:=.bool (u.sl M).lost) (x10:=.slice (some (ag R I)) g.M Y) (x11:= ae ((u.sl M).cur:Nat))
    λj x j7=>by have m7:j<12:=(RC.1 j7).1;have:=(QS H b (M*13+(1+j)) cs 265 fr X).trans (G (1+j) x (by rw[<-j7];match j,m7 with|0,_=>rfl|1,_=>rfl|2,_=>rfl|3,_=>rfl|4,_=>rfl|5,_=>rfl|6,_=>rfl|7,_=>rfl|8,_=>rfl|9,_=>rfl|10,_=>rfl|11,_=>rfl));rwa[<-UP]at this
   obtain⟨V,hV⟩:=ah H.heap.size;rw[hV]at d3;have m8:=ad (EP _ g.M u.st j8 (i5.below b4) aa aa);have b5:=f' j9 hV (y.trans (b4.mono y.size)) d3 (i5.below b4) s6;obtain⟨v0,v1,v2⟩:=cr d3;have i6:=(P.block w.heap.size (Z_ g1.2.2.1)).trans g1.2.2.1;have r:=ca (B.1.below y) ((P.block b7 (Z_ g1.2.2.2)).trans g1.2.2.2) y i6 b4;clear P y j9 b4 d3 hV;go_wp2_with fail;rw[show H.alloc (ao (te g (u.sl M) (.slice (some (ag R I)) g.M Y) false true) 194)=j8 from b5.1,b5.2.1];refine m8.mono ?_;rintro e d4 ⟨⟨N,c,m9,rfl,n0,i7,i8,o7,i9⟩,b6⟩;obtain⟨k0,k1,k2⟩:=kp b6 V v2;have j0:=(b6.block V v2).trans b5.2.2.2.1;have s:=f' j0 b6 n0 i7 i8 i9;have n3:(u.sl M).lost=false:=B.2.2.1;go_wp2_with fail;obtain⟨W,b3⟩:=ah ((((d4.setCell (ag V 10) (a' N g.M c)).setCell (ag V 3) (ae 0)).setCell (ag V 9) iL).setCell (ag V 1) (bg u.ev));have d5:N≠V:=by have:=s.2.2.2.1;omega
   have j1:=b5.2.1;have j2:Hp V N c g (u.sl 0) hs H 0 W:=by
    refine⟨⟨false,?_⟩,⟨m9,?_,λm j3=>?_⟩,?_⟩
    .have h1:=heap_setCell_same _ V 1 _ 194 (bg u.ev) (heap_setCell_same _ V 9 _ 194 iL (heap_setCell_same _ V 3 _ 194 (ae 0) (heap_setCell_same d4 V 10 _ 194 (a' N g.M c) s.1)));rw[b3]at h1;rw[h1];have j6:(u.sl 0).lost=false:=B.2.2.1;unfold te;rw[j6];rfl
    .rw [<-b3];exact(RJ _ (ag V 1) N _ d5).trans ((RJ _ (ag V 9) N _ d5).trans ((RJ _ (ag V 3) N _ d5).trans ((RJ d4 (ag V 10) N _ d5).trans s.2.2.2.2.1)))
    .rw [s.2.2.2.2.2 m j3,B.2.2.2.1 m j3,al aa]
    .rw [<-b3];have h1:aq H d4:=r.2.2.2.2.trans (s.2.1.mono r.2.2.2.2.size);have k3:H.heap.size<=V:=RN j1;exact(((h1.setCell (p:=ag V 10) k3 _).setCell (p:=ag V 3) k3 _).setCell (p:=ag V 9) k3 _).setCell (p:=ag V 1) k3 _
   have f7:=ad (Br V N c b Q b7 g (u.sl 0) u hs H W j2 r.1 B.2.1 s.2.2.1 (by rw[J.1];exact r.2.1) B.2.1.ev.2.1 (RN j1) (by have:=s.2.2.2.1;have:=r.2.2.2.2.size;omega));rw[J.1]at f7;rw[b3];have e4:=(vI (hs:=hs) (aw:=aw) (k:=g.M) B.2.2.2.2.2).1;obtain⟨r1,j4⟩:=ah (kb hs g.M);rw[j4]at f7 e4;have e8:¬(1:Int)<(r1:Int):=aa;clear j2 b3 j4 e4;refine f7.mono ?_;rintro e n4 ⟨rfl,hF⟩;obtain⟨n5,n6⟩:=hF.aM;obtain⟨n7,n8,n9⟩:=hF.xu;have o8:=(hF.dA.block w.heap.size (by have:=Z_ r.2.2.2.1;omega)).trans r.2.2.2.1;obtain⟨v0,v1,v2⟩:=cr n6;obtain⟨d0,d1,d2⟩:=cr o8;have n1:¬w.heap.size=V:=by have:=Z_ r.2.2.2.1;omega
   have n2:¬w.heap.size=N:=λe=>by have h:=r.2.2.2.1;have:=s.2.2.2.1;have:=r.2.2.2.2.size;have:=Z_ h;omega
   have o0:=aT hF n8 n9;clear o8;go_wp2;refine QT (v:=.tuple #[.agg (te g (u.sl 0) (a' N g.M c) n5 true),aH 0]) (by rw[UF rfl];simp[go_sem, *]) rfl ?_;have o9:=Bv n4 w.heap.size (.int .u64 ((u.sl 0).id:Nat)) (.int .u64 ((u.sl 0).ev:Nat)) (.int .u64 ((u.sl 0).sf:Nat)) (ae ((u.sl 0).rl:Nat)) (ae g.M) (ae g.c) (ae g.s) (ae ((u.sl 0).N:Nat)) (.bool (u.sl 0).lz) (.bool (u.sl 0).lost) (a' N g.M c) (ae ((u.sl 0).cur:Nat)) (.bool n5) ec;have e5:=r.2.2.1.trans (o0.1.dA.mono r.2.2.1.size);refine⟨N,c,n5,n7,rfl,e5.trans (o9.below (λk _ e=>RN e.symm) e5.size),s.2.2.1,?_,o9.heap o0.2.1 (λe=>n2 e.symm),λm j3=>?_⟩
   .have:=s.2.2.2.1;have:=b5.2.2.1.size;omega
   .have h:=o0.2.2 m j3;rw[h];simp[j3]
section
theorem Bx(g:aA){k:Nat}(h:k<13):gr g k<=gr g (k+1):=by
 match k,h with
 |0,_=>show 0<=8;omega
 |1,_=>show 8<=16;omega
 |2,_=>show 16<=24;omega
 |3,_=>show 24<=32;omega
 |4,_=>show 32<=33;omega
 |5,_=>show 33<=34;omega
 |6,_=>show 34<=35;omega
 |7,_=>show 35<=36;omega
 |8,_=>show 36<=38;omega
 |9,_=>show 38<=40;omega
 |10,_=>show 40<=42;omega
 |11,_=>show 42<=44;omega
 |12,_=>show 44<=44+g.M;omega
theorem tf(g:aA){a:Nat}:∀{b:Nat},a<=b->b<=13->gr g a<=gr g b
 |0,h,_=>by obtain rfl:a=0:=J;exact QE _
 |b+1,h,c=>by
  by_cases e:a=b+1
  .subst e;exact QE _
  .exact QD (tf g (b:=b) J J) (Bx g J)
theorem zu(g:aA)(u:Su){j i:Nat}(a:gr g j+i<gr g (j+1)):∀{n:Nat},j<n->n<=13->qu g u n (gr g j+i)=xB g u j i
 |n+1,h,c=>by
  unfold qu;by_cases e:j=n
  .subst e;exact ju
  .rw [cZ (RL a (tf g J J))];exact zu g u a J J
theorem pZ{g:aA}{u:Su}{f:aN}(c:aD f (fZ g u))(h:g.M<=16){j i:Nat}(d:j<13)(e:gr g j+i<gr g (j+1)):f (gr g j+i)=xB g u j i:=by have k:=tf g (a:=j+1) (b:=13) J (QE _);have l:gr g 13=44+g.M:=rfl;rw[c _ J];unfold fZ;rw[cZ J,cZ J];unfold kq;rw[cZ J];exact zu g u e d (QE _)
def mb(g:aA)(u:Su)(k:Nat)(sv:QC):Array QC:= #[.int .u64 (if 1<k then u.id else 0:Nat),.int .u64 (if 2<k then u.ev else 0:Nat),.int .u64 (if 3<k then u.sf else 0:Nat),Y (if 4<k then u.rl else 0:Nat),Y (if 5<k then g.M else 0:Nat),Y (if 6<k then g.c else 0:Nat),Y (if 8<k then g.s else 0:Nat),Y (if 9<k then u.N else 0:Nat),.bool (if 7<k then u.lz else false),.bool (if 7<k then u.lost else false),sv,Y (if 10<k then u.cur else 0:Nat)]
structure gT[Lo](p S:Nat)(g:aA)(u:Su)(f:aN)(W0:QA)(k:Nat)(wr:QA)(sv:QC):Prop where
 rd:fP wr p 128 f (gr g k)
 aM:wr.heap[S]? =some (N (mb g u k sv) 117)
 none:k<13->sv= aO
 own:13<=k->wr.ownsRow W0.heap.size 122 1 sv g.M (bQ g.M fun j=> .int .u8 (u.st j:Nat))
 bY:Fr wa aG W0 wr
structure jA[Lo](p S:Nat)(g:aA)(u:Su)(f:aN):Prop where
 ok:u.ok g
 eq:aD f (fZ g u)
 lt:∀k,k<128->f k<256
 lp:Lo.lo<=p
 lS:Lo.lo<=S
section
variable [Lo] {p S:Nat} {g:aA} {u:Su} {f:aN} {W0 W:QA} {sv:QC}
theorem gT.f_{k q:Nat}{c:Array QC}{e:RV}{d:M}(i:gT p S g u f W0 k W sv)(s:k+1<13)(h:vG p S f q c W e d)(j:q=gr g (k+1))(l:c=mb g u (k+1) sv):aL e (.tuple #[])/\∃a,gT p S g u f W0 (k+1) d a:=by obtain⟨m,n,o,r⟩:=h;exact⟨m,sv,by rw[<-j];exact n,by rw[<-l];exact o,λ_=>i.none J,λh=>J,i.bY.tr r⟩
theorem jA.num{k n x:Nat}(H:jA p S g u f)(a:k<13)(e:gr g k+n<=gr g (k+1))(c:x<256^n)(d:xB g u k=leB x):dx (λj=>f (gr g k+j)) n=x:=
 eT (λj h=>by rw[pZ H.eq H.ok.cJ.m16 a J,d]) c
theorem jA.one{k x:Nat}(H:jA p S g u f)(a:k<13)(e:gr g k+1<=gr g (k+1))(c:x<256)(d:xB g u k=leB x):f (gr g k)=x:=by have h:=pZ H.eq H.ok.cJ.m16 (j:=k) (i:=0) a J;rw[VK,d]at h;rw[h];unfold leB;rw[Nat.pow_zero,Nat.div_one,SA c]
def dT(p S:Nat)(g:aA)(u:Su)(f:aN)(W0 W:M)(b:aN)(k:Nat)[Lo]:Prop:=
 ∃c h,(DM b)[2*k+1]?=some (.func (.func c) #[] h)/\(∀a w,(VF c a).run prog w=.ok (.enter c a) w)/\aF c (#[ar p,ar S] ++h) W λe i=>aL e (.tuple #[])/\∃d,gT p S g u f W0 (k+1) i d
variable {F:Nat} {b:aN} (H:jA p S g u f) (hF:gg W F b)
include H hF
theorem Ol(a:gT p S g u f W0 0 W sv):dT p S g u f W0 W b 0:=by have _:=hF;refine⟨216,#[],rfl,RH func216 aE rfl,?_⟩;exact(EN p S f (mb g u 0 sv) W a.rd a.aM H.lp).mono λe c h=>a.f_ ai h rfl rfl
theorem Om(a:gT p S g u f W0 1 W sv):dT p S g u f W0 W b 1:=by have d:=jA.num H (k:=1) (n:=8) (x:=u.id) ai (by show 8+8<=16;omega) (by have:=H.ok.id;omega) rfl;refine⟨281,#[.pointer (some ⟨b 1+1,0,none⟩),.pointer (some ⟨b 1+2,0,none⟩)],rfl,RH func281 aE rfl,?_⟩;refine(EL 221 0 (b 1+1) (b 1+2) p S 8 f (mb g u 1 sv) _ W Ik rfl a.rd ai H.lt a.aM H.lp H.lS hF.f1.b2 hF.f1.b3).mono λe i h=>?_;exact a.f_ ai h rfl (by have c:dx (λj=>f (8+j)) 8=u.id:=d;rw[c];rfl)
theorem On(a:gT p S g u f W0 2 W sv):dT p S g u f W0 W b 2:=by have d:=jA.num H (k:=2) (n:=8) (x:=u.ev) ai (by show 16+8<=24;omega) (by have:=H.ok.ev;omega) rfl;refine⟨281,#[.pointer (some ⟨b 2+1,0,none⟩),.pointer (some ⟨b 2+2,0,none⟩)],rfl,RH func281 aE rfl,?_⟩;refine(EL 222 1 (b 2+1) (b 2+2) p S 16 f (mb g u 2 sv) _ W Il rfl a.rd ai H.lt a.aM H.lp H.lS hF.f2.b2 hF.f2.b3).mono λe i h=>?_;exact a.f_ ai h rfl (by have c:dx (λj=>f (16+j)) 8=u.ev:=d;rw[c];rfl)
theorem Oo(a:gT p S g u f W0 3 W sv):dT p S g u f W0 W b 3:=by have d:=jA.num H (k:=3) (n:=8) (x:=u.sf) ai (by show 24+8<=32;omega) (by have:=H.ok.ev;omega) rfl;refine⟨281,#[.pointer (some ⟨b 3+1,0,none⟩),.pointer (some ⟨b 3+2,0,none⟩)],rfl,RH func281 aE rfl,?_⟩;refine(EL 223 2 (b 3+1) (b 3+2) p S 24 f (mb g u 3 sv) _ W Im rfl a.rd ai H.lt a.aM H.lp H.lS hF.f3.b2 hF.f3.b3).mono λe i h=>?_;exact a.f_ ai h rfl (by have c:dx (λj=>f (24+j)) 8=u.sf:=d;rw[c];rfl)
theorem Oq(a:gT p S g u f W0 4 W sv):dT p S g u f W0 W b 4:=by have d:=H.ok.cJ;have i:=jA.one H (k:=4) (x:=u.rl) ai (by show 32+1<=33;omega) (by have:=H.ok.rl;have:=d.m16;omega) rfl;refine⟨284,#[.pointer (some ⟨b 4+1,0,none⟩),.pointer (some ⟨b 4+2,0,none⟩)],rfl,RH func284 aE rfl,?_⟩;refine(Kd 227 3 (b 4+1) (b 4+2) p S 32 f (mb g u 4 sv) _ W Io rfl a.rd ai H.lt a.aM H.lp H.lS hF.f4.b2 hF.f4.b3).mono λe j h=>?_;exact a.f_ ai h rfl (by have c:f 32=u.rl:=i;rw[c];rfl)
theorem Ot(a:gT p S g u f W0 5 W sv):dT p S g u f W0 W b 5:=by have d:=H.ok.cJ;have i:=jA.one H (k:=5) (x:=g.M) ai (by show 33+1<=34;omega) (by have:=d.m16;omega) rfl;refine⟨284,#[.pointer (some ⟨b 5+1,0,none⟩),.pointer (some ⟨b 5+2,0,none⟩)],rfl,RH func284 aE rfl,?_⟩;refine(Kd 228 4 (b 5+1) (b 5+2) p S 33 f (mb g u 5 sv) _ W Ip rfl a.rd ai H.lt a.aM H.lp H.lS hF.f5.b2 hF.f5.b3).mono λe j h=>?_;exact a.f_ ai h rfl (by have c:f 33=g.M:=i;rw[c];rfl)
theorem Ou(a:gT p S g u f W0 6 W sv):dT p S g u f W0 W b 6:=by have d:=H.ok.cJ;have i:=jA.one H (k:=6) (x:=g.c) ai (by show 34+1<=35;omega) (by have:=d.tC;omega) rfl;refine⟨284,#[.pointer (some ⟨b 6+1,0,none⟩),.pointer (some ⟨b 6+2,0,none⟩)],rfl,RH func284 aE rfl,?_⟩;refine(Kd 229 5 (b 6+1) (b 6+2) p S 34 f (mb g u 6 sv) _ W Iq rfl a.rd ai H.lt a.aM H.lp H.lS hF.f6.b2 hF.f6.b3).mono λe j h=>?_;exact a.f_ ai h rfl (by have c:f 34=g.c:=i;rw[c];rfl)
theorem Ov(a:gT p S g u f W0 7 W sv):dT p S g u f W0 W b 7:=by have _:=hF;have c:=jA.one H (k:=7) (x:=jt u) ai (by show 35+1<=36;omega) (by unfold jt;split<;>split<;>decide) rfl;refine⟨232,#[],rfl,RH func232 aE rfl,?_⟩;exact(Hm p S 35 u.lz u.lost f (mb g u 7 sv) _ _ W c rfl rfl a.rd ai H.lt a.aM H.lp H.lS).mono λe d h=>a.f_ ai h rfl rfl
theorem Ow(a:gT p S g u f W0 8 W sv):dT p S g u f W0 W b 8:=by have d:=H.ok.cJ;have i:=jA.num H (k:=8) (n:=2) (x:=g.s) ai (by show 36+2<=38;omega) (by have:=d.iS;omega) rfl;refine⟨286,#[.pointer (some ⟨b 8+1,0,none⟩),.pointer (some ⟨b 8+2,0,none⟩)],rfl,RH func286 aE rfl,?_⟩;refine(EM 236 6 (b 8+1) (b 8+2) p S 36 f (mb g u 8 sv) _ W Ir rfl a.rd ai H.lt a.aM H.lp H.lS hF.f8.b2 hF.f8.b3).mono λe l h=>?_;exact a.f_ ai h rfl (by have c:dx (λj=>f (36+j)) 2=g.s:=i;rw[c];rfl)
theorem Ox(a:gT p S g u f W0 9 W sv):dT p S g u f W0 W b 9:=by have d:=jA.num H (k:=9) (n:=2) (x:=u.N) ai (by show 38+2<=40;omega) (by have:=H.ok.ring;omega) rfl;refine⟨286,#[.pointer (some ⟨b 9+1,0,none⟩),.pointer (some ⟨b 9+2,0,none⟩)],rfl,RH func286 aE rfl,?_⟩;refine(EM 237 7 (b 9+1) (b 9+2) p S 38 f (mb g u 9 sv) _ W Is rfl a.rd ai H.lt a.aM H.lp H.lS hF.f9.b2 hF.f9.b3).mono λe i h=>?_;exact a.f_ ai h rfl (by have c:dx (λj=>f (38+j)) 2=u.N:=d;rw[c];rfl)
theorem Mh(a:gT p S g u f W0 10 W sv):dT p S g u f W0 W b 10:=by have d:=H.ok.cJ;have i:=jA.num H (k:=10) (n:=2) (x:=u.cur) ai (by show 40+2<=42;omega) (by have:=H.ok.cur.1;have:=d.iS;omega) rfl;refine⟨286,#[.pointer (some ⟨b 10+1,0,none⟩),.pointer (some ⟨b 10+2,0,none⟩)],rfl,RH func286 aE rfl,?_⟩;refine(EM 238 11 (b 10+1) (b 10+2) p S 40 f (mb g u 10 sv) _ W It rfl a.rd ai H.lt a.aM H.lp H.lS hF.f10.b2 hF.f10.b3).mono λe l h=>?_;exact a.f_ ai h rfl (by have c:dx (λj=>f (40+j)) 2=u.cur:=i;rw[c];rfl)
theorem Mi(a:gT p S g u f W0 11 W sv):dT p S g u f W0 W b 11:=by have _:=hF;refine⟨240,#[],rfl,RH func240 aE rfl,?_⟩;exact(ya p S 42 f (mb g u 11 sv) W (λj d=>by have h:=pZ H.eq H.ok.cJ.m16 (j:=11) (i:=j) ai (by show 42+j<44;omega);have c:f (42+j)=leB 0 j:=h;rw[c];unfold leB;rw[Nat.zero_div]) a.rd ai a.aM H.lp).mono λe k h=>a.f_ ai h rfl rfl
theorem Mj(a:gT p S g u f W0 12 W sv):dT p S g u f W0 W b 12:=by have _:=hF;have c:=H.ok.cJ;obtain rfl:=a.none ai;refine⟨243,#[],rfl,RH func243 aE rfl,?_⟩;refine(Bp p S 44 g.M f u.st _ _ _ _ _ _ _ _ _ _ W c.m16 (λj d=>by have h:=pZ H.eq c.m16 (j:=12) (i:=j) ai (by show 44+j<44+g.M;omega);have k:f (44+j)=u.st j%256:=h;rw[k];have:=H.ok.st j d;omega) a.rd (by have:=c.m16;omega) H.lt a.aM H.lp H.lS).mono λe r h=>?_;obtain⟨l,v,m,n,o,q⟩:=h;exact⟨l,v,m,by rw[n];rfl,λh=>J,λ_=>cq o a.bY.size,a.bY.tr q⟩
end
end
theorem gg.fr[Lo](h:gg w n f)(a:Fr T aG w W)(b:[238,316,318,321,323,325,327,330,332].all (λt=> !T.contains t)=true):gg W n f:=by
 simp only[List.all_cons,List.all_nil,VN,Bool.not_eq_true']at b;obtain⟨t1,t2,t3,t4,t5,t6,t7,t8,t9,-⟩:=b;exact⟨a.hp h.aM t1,⟨a.hp h.f1.b1 t2,a.hp h.f1.b2 t3,a.hp h.f1.b3 t4⟩,⟨a.hp h.f2.b1 t2,a.hp h.f2.b2 t3,a.hp h.f2.b3 t4⟩,⟨a.hp h.f3.b1 t2,a.hp h.f3.b2 t3,a.hp h.f3.b3 t4⟩,
  ⟨a.hp h.f4.b1 t5,a.hp h.f4.b2 t6,a.hp h.f4.b3 t7⟩,⟨a.hp h.f5.b1 t5,a.hp h.f5.b2 t6,a.hp h.f5.b3 t7⟩,⟨a.hp h.f6.b1 t5,a.hp h.f6.b2 t6,a.hp h.f6.b3 t7⟩,
  ⟨a.hp h.f8.b1 t8,a.hp h.f8.b2 t9,a.hp h.f8.b3 t7⟩,⟨a.hp h.f9.b1 t8,a.hp h.f9.b2 t9,a.hp h.f9.b3 t7⟩,⟨a.hp h.f10.b1 t8,a.hp h.f10.b2 t9,a.hp h.f10.b3 t7⟩⟩
theorem gT.below[Lo](h:gT n m g u f w k W v)(a:aq W z):gT n m g u f w k z v:=
 ⟨h.rd.below a,(a.block _ (Z_ h.aM)).trans h.aM,h.none,λb=>aP a (h.own b),h.bY.then a⟩
theorem zv[Lo]{b:aN}(H:jA n m g u f)(hF:gg W i b)(c:k<13)(a:gT n m g u f w k W v):dT n m g u f w W b k:=by
 match k,c,a with
 |0,_,a=>exact Ol H hF a
 |1,_,a=>exact Om H hF a
 |2,_,a=>exact On H hF a
 |3,_,a=>exact Oo H hF a
 |4,_,a=>exact Oq H hF a
 |5,_,a=>exact Ot H hF a
 |6,_,a=>exact Ou H hF a
 |7,_,a=>exact Ov H hF a
 |8,_,a=>exact Ow H hF a
 |9,_,a=>exact Ox H hF a
 |10,_,a=>exact Mh H hF a
 |11,_,a=>exact Mi H hF a
 |12,_,a=>exact Mj H hF a
theorem Bz(v d:H)(f m:aN)(w:M)(h:dR w v f)(i:kc w d 8 m)(j:∀k,k<128->f k<256)(l:∀k,k<8->f k=m k):aF 261 #[v,d] w λe q=>aL e ec/\aq w q:=by obtain⟨b,o,a,r,s,rfl,n,t,u⟩:=h;have x:∀k,k<128->w.cell? ⟨b,o+k,none⟩=some (.int .u8 (f k)):=λk c=>(QS w b _ r 5 s t).trans (u k c);have p:=mo (.slice (some (R b o)) 8 a) d 8 8 f m w ⟨_,_,rfl,.inr ⟨b,o,rfl,λk c=>x k J⟩⟩ i (λk c=>j k J) (λk c=>by rw[<-l k c];exact j k J);rw[fD l]at p;have g:=I p;obtain⟨y,z,rfl,-⟩:=i;have A:(8:Int)<=(a:Int):=J;go_enter func261,ntmps261;go_wp2_with(first|(go_at_call 264;refine g.mono ?_;rintro e B ⟨rfl,rfl⟩));go_ret;exact⟨rfl,aj⟩
theorem Hq(a:aD f (fZ g u)):dx (λk=>f (124+(0+k))) 4=dN 0 124 f:=by
 have c:∀k,k<124->f k=kq g u k:=λk b=>by rw[a k J];unfold fZ;rw[cZ J,cZ b]
 rw[hQ c];refine eT (λk b=>?_) (gW _ _ _ ai λk _=>lM g u k);rw[RE,a (124+k) J];unfold fZ;rw[cZ J,ju]
theorem Kh(b:aN)(h:k<13):∃a c,(DM b)[k*2]?=some (.func (.func a) #[] c):=by
 match k,h with
 |0,_=>exact⟨_,_,rfl⟩
 |1,_=>exact⟨_,_,rfl⟩
 |2,_=>exact⟨_,_,rfl⟩
 |3,_=>exact⟨_,_,rfl⟩
 |4,_=>exact⟨_,_,rfl⟩
 |5,_=>exact⟨_,_,rfl⟩
 |6,_=>exact⟨_,_,rfl⟩
 |7,_=>exact⟨_,_,rfl⟩
 |8,_=>exact⟨_,_,rfl⟩
 |9,_=>exact⟨_,_,rfl⟩
 |10,_=>exact⟨_,_,rfl⟩
 |11,_=>exact⟨_,_,rfl⟩
 |12,_=>exact⟨_,_,rfl⟩
theorem BA(w:M)(D:Nat)(c d e f x4 g h i j l a b:H):Out (λk=>k=D) w ((((((((((((w.setCell (R D 0) c).setCell (R D 1) d).setCell (R D 2) e).setCell (R D 3) f).setCell (R D 4) x4).setCell (R D 5) g).setCell (R D 6) h).setCell (R D 7) i).setCell (R D 8) j).setCell (R D 9) l).setCell (R D 10) a).setCell (R D 11) b):=
 (((((((((((((Out.refl (λk=>k=D) w).setCell (p:=R D 0) (λ_=>rfl) _).setCell (p:=R D 1) (λ_=>rfl) _).setCell (p:=R D 2) (λ_=>rfl) _).setCell (p:=R D 3) (λ_=>rfl) _).setCell (p:=R D 4) (λ_=>rfl) _).setCell (p:=R D 5) (λ_=>rfl) _).setCell (p:=R D 6) (λ_=>rfl) _).setCell (p:=R D 7) (λ_=>rfl) _).setCell (p:=R D 8) (λ_=>rfl) _).setCell (p:=R D 9) (λ_=>rfl) _).setCell (p:=R D 10) (λ_=>rfl) _).setCell (p:=R D 11) (λ_=>rfl) _)
def ID(g:aA)(u:Su)(w:QA)(e:RV)(d:QA):Prop:=
 ∃a,aL e (.tuple #[.agg (dy g u a),aH 0])/\ko d a g.M u.st/\aq w d/\∃b c,a= a' b g.M c/\w.heap.size<=b
abbrev ET:Array H:= #[.int .u64 0,.int .u64 0,.int .u64 0,Y 0,Y 0,Y 0,Y 0,Y 0,.bool false,.bool false,aO,Y 0]
theorem Hr(v:QC)(f:aN)(g:aA)(u:Su)(w:QA)(h:dR w v f)(h6:∀k,k<128->f k<256)(e7:u.ok g)(e9:aD f (fZ g u)):aF 186 #[v] w (ID g u w):=by
 obtain⟨l,e8⟩:=ah (w.alloc (ao ET 117));have X:aq w l:=by rw[<-e8];exact aK aj _
 have Z:aX l w.heap.size (ao ET 117):=by rw[<-e8];exact QB _ _
 obtain⟨D,H⟩:=ah w.heap.size;rw[H]at Z
 letI:Lo:=⟨l.heap.size⟩
 have q:=Hq e9;have a7:=e7.cJ.m16;have j0:=e7.cJ.m3;have Q:∀k,k<8->f k=hn k:=λk a5=>by have h:=pZ e9 a7 (j:=0) (i:=k) ai (by show 0+k<8;omega);have h0:gr g 0+k=k:=RE k;rw[h0]at h;exact h
 have L:=h.below X;have h7:=ad L;obtain⟨b,o,r,h8,h9,rfl,i0,h3,h4⟩:=id L;have f0:=ad (λv2 W (a:aq l W) (h2:kc W v2 8 hn)=>Bz _ v2 f hn W (L.below a) h2 h6 Q);have f1:=ad pA;have m:=ca X Z h6 e7 e9;have N:=aB e8 H;have c1:¬r=124:=aa;have c2:(124:Int)<=(r:Int):=aa;clear e8 H Z X L h Q e7;go_enter func186,ntmps186;go_wp2_with fail
 try simp only[N.out.1,N.out.2]
 go_wp2_with(first|(go_at_call 215;refine(f1 _).mono ?_;rintro e w1 ⟨⟨v2,rfl,a8⟩,a9⟩;have f2:=ad a8;have b0:=ad a9;clear a8 a9)|(go_at_call 261;refine(f0 _ _ b0 f2).mono ?_;rintro e w2 ⟨rfl,b1⟩;have M:=ad (via b0 b1);clear b1));have H4:QX (∀W,aq l W->cA W (.slice (some ⟨b,o+124,none⟩) 4 (r-124)) 4 λk=>f (124+k)):=λW a=>⟨_,_,rfl,.inr ⟨b,o+124,h8,h9,rfl,(a.block _ (Z_ h3)).trans h3,λk a5=>by rw[UP];exact h4 _ aa⟩⟩;have b2:QX (∀W,Fr ka aG l W->kc W (.slice (some (ag b o)) 124 r) 124 f):=λW a=>⟨_,_,rfl,.inr ⟨b,o,rfl,λk a5=>(QS W b _ h8 5 h9 (a.hp h3 rfl)).trans (h4 _ aa)⟩⟩;have R:=ad (λW (a:Fr ka aG l W)=>jD 124 _ f W (b2 W a) (λk a5=>m.2.2.1 k aa) ai);have b3:=ad (λW (a:aq w2 W)=>lY W _ 4 _ (H4 W (via M a)) ai ai);obtain⟨x,f3⟩:=ah (dN 0 124 f);rw[f3]at q;simp only[f3]at R;have f4:=ad (λp1 W (I:fP W p1 4 (λk=>f (124+k)) 0) (j3:Lo.lo<=p1)=>g_ W p1 4 0 _ I j3 ai ai λj i5=>m.2.2.1 _ aa);simp only[q]at f4;clear h3 h4 f3 q;go_region_held3(λ_=>True) ((simp[*,go_sem];done)) (first|(go_at_call 262;refine(b3 _ bF).mono ?_;rintro e w3 ⟨p1,rfl,I,b4,b5⟩;have b6:=ad I;have b7:QX (aq l w3):=via (via M bF) b5;have b8:QX (Lo.lo<=p1):=QD (via M bF:aq l _).size b4;clear I b4 b5)|(go_at_call 263;refine(f4 p1 _ (b6.below bF) b8).mono ?_;rintro e w4 ⟨rfl,-,q2⟩;have s:QX (Fr ka aG l w4):=(Fr.af (via b7 bF)).tr q2;clear q2)|(go_at_call 160;refine(R _ (by first|exact s|exact s.tr (Fr.af bF))).mono ?_;rintro e w5 ⟨rfl,a⟩;have b9:QX (Fr ka aG l w5):=(by first|exact s.tr (Fr.af a)|exact s.tr (Fr.af (via bF a)));clear a));obtain⟨S,L⟩:=ah w5.heap.size;obtain⟨w6,O⟩:=ah (w5.alloc (ao ET 117));have c0:aX w6 S (ao ET 117):=by rw[<-O,<-L];exact QB _ _
 have c3:Fr ka aG l w6:=by rw[<-O];exact b9.alloc _
 have c4:Lo.lo<=S:=by rw[<-L];exact b9.size
 have P:=aT c0 c3 c4;have c7:=aB O L;clear c0 c3 c4 O L R b3 f4 b6 b7 b8 s;have T:=ad (λW (a:Fr ka aG l W)=>lY W _ 128 f (h7.fr a rfl).eI ai ai);go_wp2_with fail
 try simp only[c7.out.1,c7.out.2]
 go_wp2_with(first|(go_at_call 262;refine(T _ P.2.1).mono ?_;rintro e w7 ⟨p,rfl,I,b4,c8⟩;have Y:=aT I (QD P.2.1.size b4) c8;clear I b4 c8)|(go_at_call 155;refine(ry w7).mono ?_;rintro e w8 ⟨F,j4,rfl,hF,c9⟩;have J:=aB hF c9;clear hF c9));have d0:QX (jA p S g u f):=⟨m.2.2.2.1,m.2.2.2.2,m.2.2.1,Y.2.1,P.2.2⟩;have f5:QX (gT p S g u f w8 0 w8 aO):=by have a:aq w6 w8:=via Y.2.2 J.2;exact⟨Y.1.below J.2,(a.block _ (Z_ P.1)).trans P.1,λ_=>rfl,λh=>aa,Fr.refl _ _ _⟩
 clear T;go_loopw [32] (λa0 wr=>∃(k:Nat) (f6:QC),k<=13/\a0= ae k/\QX (gT p S g u f w8 k wr f6)) (λa0 _=>13-(intOf a0).toNat)
 case atStart=>exact⟨0,_,ai,rfl,f5⟩
 case round=>
  obtain⟨k,f6,a5,rfl,U⟩:=hrel;have t:=J.1.fr U.bY rfl;obtain⟨t0,t1,t2⟩:=cr t.aM;by_cases y:k<13
  .have j1:(k:Int)<13:=aa;have j2:(0:Int)<=(k:Int):=aa;obtain⟨i6,i7,d1⟩:=Kh j4 y;have c5:wr.cell? ⟨F,k*2,none⟩=some (.func (.func i6) #[] i7):=(t0 _).trans d1;obtain⟨f7,f8,a1,-,-⟩:=zv d0 t y U;have c6:wr.cell? ⟨F,k*2+1,none⟩=some (.func (.func f7) #[] f8):=(t0 _).trans (by rw[VB];exact a1);have d2:QX (aq wr (wr.alloc (ao #[.func (.func i6) #[] i7,.func (.func f7) #[] f8] 238))):=aK aj _;obtain⟨f9,g0,d3,j9,z⟩:=zv d0 (t.below d2) y (U.below d2);have d4:=d3.symm.trans a1;have A:=RM d4;have e1:f9=f7:=by cases A;rfl
   have e2:g0=f8:=by cases A;rfl
   subst e1 e2;have d5:=ad z;have d6:=ad y;clear d1 a1 d3 d4 A z t0 t y;go_wp2_with fail;refine d5.mono ?_;rintro e w9 ⟨rfl,g1,d7⟩;have H9:=ad d7;clear d7 d5;go_wp2_with fail;exact⟨⟨k+1,g1,d6,by go_num,H9⟩,by have:=d6.out;first|(simp[intOf];done)|(simp[intOf];omega)⟩
  .obtain rfl:k=13:=aa;have C:aX wr S (ao (dy g u f6) 117):=U.aM;have c:=U.own (QE _);obtain⟨k3,a6,rfl,a2,g2⟩:=eP c;obtain⟨G,rfl⟩:=g2.resolve_left aa;have E:ko wr (a' G g.M a6) g.M u.st:=by
    rcases c.2 with⟨g3,_⟩|⟨k4,d8,j5,g3,a,i8,i1,i2,i3,i4⟩
    .cases g3
    .cases g3;refine⟨_,0,_,_,_,rfl,a2,i8,λj i5=>?_⟩;have K:=(bC c (k:=j) (by rw[cc _ _ _ i5])).1;rw[(cr i8).1 j]at K;rw[RE];exact K
   have g4:=ad (kL g u _ wr E m.2.2.2.1);have d9:=aT E C (c.lt G rfl).1;obtain⟨s0,s1,s2⟩:=cr C;have e0:aX wr D (ao ET 117):=by have K:Fr wa aG l wr:=((P.2.1.wide wa rfl).then (via Y.2.2 J.2)).tr U.bY;exact K.block D _ m.2.1 (.inr (Z_ m.2.1)) id
   obtain⟨r0,r1,r2⟩:=cr e0;clear C c E e0 t0 t;go_wp2_with(first|(go_at_call 88;refine g4.mono ?_;rintro e n ⟨j6,g5,rfl,a3,d⟩;have V:=ad d;have e3:=ad (mo (a' j6 128 g5) (.slice (some (ag b o)) 128 r) 128 128 (fZ g u) f n (oJ a3) ((h7.fr (((P.2.1.wide wa rfl).then (via Y.2.2 J.2)).tr U.bY) rfl).below d).wj (λk _=>od _ _ k) m.2.2.1);obtain⟨k0,k1,k2⟩:=kp d S s2;obtain⟨l0,l1,l2⟩:=kp d D r2;clear a3 d));have e4:ll 128 128 (fZ g u) f=true:=fD λk a5=>(m.2.2.2.2 k a5).symm;rw[e4]at e3;clear e4;have e5:QX (aq w n):=by have K:Fr wa aG l n:=(((P.2.1.wide wa rfl).then (via Y.2.2 J.2)).tr U.bY).then V;have h2:=K.under (QE _);exact m.1.trans (h2.mono m.1.size)
   have a4:QX (ko n (a' G g.M a6) g.M u.st/\¬G=D/\w.heap.size<=G):=by have K:=d9.2.2;have h2:w8.heap.size<=G:=K;have h3:l.heap.size<=w8.heap.size:=QD P.2.1.size (via Y.2.2 J.2).size;have h4:=Z_ m.2.1;have h5:=m.1.size;exact⟨d9.1.below V,aa,aa⟩
   go_wp2_with(first|(go_at_call 264;refine e3.mono ?_;rintro e j7 ⟨rfl,i9⟩;rw[i9];clear i9));have a3:=BA n D (bg u.id) (bg u.ev) (bg u.sf) (ae u.rl) (ae g.M) (ae g.c) (ae g.s) (ae u.N) (.bool u.lz) (.bool u.lost) (a' G g.M a6) (ae u.cur);have e6:∀g6,Out (λk=>k=D) n g6->ID g u w (.returned (.tuple #[.agg (dy g u (a' G g.M a6)),aH 0])) g6:=λg6 a3=>by refine⟨_,rfl,?_,e5.trans (a3.below (B:=w.heap.size) (λk _ e=>by have e:k=D:=e;have:=N.2;omega) e5.size),G,a6,rfl,a4.2.2⟩;obtain⟨k5,k6,d8,g7,g8,e,j8,K,h2⟩:=a4.1;cases e;exact⟨_,_,_,g7,g8,rfl,j8,a3.heap K (λe=>a4.2.1 e),h2⟩
   refine QT (v:=.tuple #[.agg (dy g u (a' G g.M a6)),aH 0]) ?_ rfl (e6 _ a3);rw[UF rfl];simp[go_sem, *]
theorem EU(h:b.dv k=none)(d:b.bz=false)(e:b.aW=none):b.op k bS=(b,51):=by obtain⟨g,f,a,c⟩:=b;simp only at h d e;subst d;subst e;simp[By.op,By.out,h,By.tick]
theorem vJ[Lo](B k d:Nat)(b:By)(w:M)(h:aC w B b)(l:k<b.N)(g:b.dv k=none)(m:b.bz=false)(o:b.aW=none):
  aF 185 #[ar B,Y k,Y d] w λe f=>(∃a n c,aL e (.tuple #[.slice a n c,aH 51]))/\aC f B b/\Fr TB aG w f:=by
 refine(mA B k d b w h l λu i=>by rw[g]at i;cases i).mono ?_;rintro e f ⟨a,n,c,rfl,j,p,-⟩;rw[EU g m o]at j|-;exact⟨⟨a,n,c,rfl⟩,j,p⟩
structure Ph(g:aA)(u:Su)(hs:Nat->Bool)(b:By)(k:Nat):Prop where
 some:hs k=true->∃v,KG b k v/\v.d.eI/\aD (v.d.view 0) (fZ g (u.sl k))/\(k<g.M->1+g.R<=v.d.n)/\(k=g.M->2+u.N<=v.d.n)
 none:hs k=false->b.dv k=none
structure yd[Lo](B:Nat)(b:By)(g:aA)(u:Su)(hs:Nat->Bool)(w:QA)(k:Nat)(v:H)(wr:QA):Prop where
 H':∃xs,wr.ownsRow w.heap.size 265 13 v k xs/\∀i,i<k->∃sv,(hs i=true->ko wr sv g.M u.st)/\∀(j:Nat) (x:H),(if hs i=true then qC g (u.sl i) sv else nX)[j]? =some x->xs[i*13+j]? =some x
 ct:aC wr B b
 bY:Fr TB aG w wr
theorem Oy:(prog.info? 265).map (λi=>(i.zero,i.size,i.bytes))=some (some (.agg nX),13,112):=aE
theorem yd.push[Lo]{l:Nat->Bool}{w wr c s:QA}{v y:Option SR}{sv:H}(V:yd n b g u l w k (.slice v k m) wr)(d:c.ownsRow w.heap.size 265 13 (.slice v k m) k L)(z:∀i,i<k->∃sv,(l i=true->ko c sv g.M u.st)/\∀(j:Nat) (x:H),(if l i=true then qC g (u.sl i) sv else nX)[j]?=some x->L[i*13+j]?=some x)(B:aC c n b)(o:Fr TB aG w c)(D:l k=true->ko c sv g.M u.st)(P:A=if l k=true then qC g (u.sl k) sv else nX)(E:Lo.lo<=w.heap.size)(p:s.ownsRow w.heap.size 265 13 (.slice y (k+1) r) (k+1) (L++A.toList))(a:nO C c (.slice v k m) k 1 (.slice y (k+1) r) s):yd n b g u l w (k+1) (.slice y (k+1) r) s:=by
 have f:=a.Oh d E ai;have F:SK w.heap.size c s:=a.below aj o.size λq Q=>(bo d Q).2;have K:L.length=k*13:=d.1;refine⟨⟨L++A.toList,p,λi S=>?_⟩,B.fn f rfl,o.low F (QE _)⟩;by_cases e:i=k
 .subst e;refine⟨sv,λh=>(D h).fr f rfl,λj x t=>?_⟩;rw[RA J,show i*13+j-L.length=j by omega,TU,P];exact t
 .obtain ⟨G,T,U⟩:=z i J;refine⟨G,λh=>(T h).fr f rfl,λj x t=>?_⟩;have O:j<13:=by have:=(RC.1 t).1;split at this<;>exact this
  rw[RD J];exact U j x t
theorem yd.Oz[Lo]{l:Nat->Bool}(h:yd n b g u l w (g.M+1) (a' m (g.M+1) i) W):m' W m i g u l:=by
 obtain⟨⟨xs,r,s⟩,-,-⟩:=h;rcases r.2 with⟨e,_⟩|⟨q,c,d,e,B,t,v,C,D,y⟩
 .cases e
 .cases e;refine⟨v,d,_,t,λk E=>?_⟩;obtain⟨z,A,f⟩:=s k J;refine⟨z,A,λj x o=>?_⟩;have p:j<13:=by have:=(RC.1 o).1;split at this<;>exact this
  have a:=f j x o;rw[<-y,SX,ak J,TU]at a;exact a
def Ki(D:Nat):List H->Nat->M->M
 | [],_,w=>w
 |x::xs,i,w=>Ki D xs (i+1) (w.setCell ⟨D,i,none⟩ x)
theorem vK(D:Nat):∀(xs:List H) (i:Nat) (w:M),Out (λk=>k=D) w (Ki D xs i w)
 | [],_,w=>Out.refl (λk=>k=D) w
 |x::xs,i,w=>((Out.refl (λk=>k=D) w).setCell (p:=R D i) (λ_=>rfl) x).tr (vK D xs (i+1) (w.setCell (R D i) x))
def OA[Lo](B:Nat)(b:By)(g:aA)(u:Su)(f:Nat->Bool)(w:QA)(e:RV)(c:QA):Prop:=
 ∃d a,aL e (.tuple #[a' d (g.M+1) a,aH 0])/\m' c d a g u f/\aC c B b/\Fr TB aG w c
theorem ye[Lo](B:Nat)(b:By)(g:aA)(u:Su)(a9:Nat->Bool)(w:QA)(h:aC w B b)(f4:b.N=g.M+1)(f5:u.ok g)(h8:b.bz=false)(h9:b.aW=none)(b9:∀k,k<=g.M->Ph g u a9 b k):
  aF 127 #[ar B] w (OA B b g u a9 w):=by
 have f6:=h.lo;have f7:=h.lt;have i0:=f5.cJ.m16;have X:QX (∀W,aC W B b->aF 49 #[ar B] W λe f8=>aL e (ae ((g.M+1:Nat)))/\W=f8):=λW f9=>by obtain⟨S,g0,i6,i7,r,wc,f,C⟩:=f9;have:=ly C;rwa[f4]at this
 have g1:=ad (λW=>lL f5.cJ W);have y:=nh f6 f7 f4 f5 h8 h9 b9;have i1:=ad h;obtain⟨n,g2⟩:=ah (g.M+1);have e7:=ad g2;rw[g2]at X;obtain⟨g3,b0,b1,b2,b3⟩:=SB Oy;have i2:n<=17:=aa;have e0:QG.wrap ((n:Int)-1)=(g.M:Int):=bs;clear f4 h8 h9 b9 g2;go_enter func127,ntmps127;go_wp2_with(first|(go_at_call 49;refine(X _ i1).mono ?_;rintro e w1 ⟨rfl,rfl⟩));have g4:QX (yd B b g u a9 w 0 aO w):=⟨⟨[],SD _ _ _ _,λi b8=>aa⟩,i1,Fr.refl _ _ _⟩;go_loopw [4,14] (λa i wr=>∃k:Nat,i= ae k/\k<=n/\QX (yd B b g u a9 w k a wr)) (λ_ i _=>n-(intOf i).toNat)
 case atStart=>exact⟨0,rfl,QO _,g4⟩
 case round=>
  rename_i s4 i8;obtain⟨k,rfl,j8,E⟩:=hrel;obtain⟨xs,c,g5⟩:=E.H';obtain⟨e8,c0,rfl,g6⟩:=au c;by_cases c1:k<n
  .have i9:(k:Int)<(n:Int):=aa;have G:k<=g.M:=by have:=e7.out;omega
   have V:=aY c g5 c1 G;have a0:=y.2.2.2.2.2.2 k G;obtain⟨e9,K⟩:=ah (wr.alloc (ao nX 265));have Z:aq wr e9:=by rw[<-K];exact aK aj _
   have H:aX e9 wr.heap.size (ao nX 265):=by rw[<-K];exact QB _ _
   obtain⟨T,f0⟩:=ah wr.heap.size;rw[f0]at H;have m:=aY K f0 Z H;have a1:=E.ct.below Z;cases N:a9 k
   case false=>
    have b4:=ad (vJ B k 0 b e9 a1 (by rw[y.2.2.1];omega) (a0.none N) y.2.2.2.2.1 y.2.2.2.2.2.1);have z:=ad N;clear K Z H f0 G;go_wp2_with fail;rw[m.1];refine b4.mono ?_;rintro e w5 ⟨⟨a5,n5,c5,rfl⟩,b5,o⟩;have M:=o.hp m.2.2.2 rfl;have b6:=o.own (aP m.2.2.1 V.1) rfl λ_ _ h=>h;have A:=aY b5 o M b6;obtain⟨x0,x1,x2⟩:=cr M;have j0:w.heap.size<=w5.heap.size:=QD (QD E.bY.size m.2.2.1.size) o.size;rw[m.2.1];go_wp2_with(first|(at_builtin;refine aU _ rfl _ _ 190 rfl w.heap.size 265 g3 (.agg nX) 13 112 underlying190 b0 b1 b2 b3 rfl ai (.slice e8 k c0) k _ rfl (aP (aK aj _) A.2.2.2) (ag w5.heap.size 0) 1 1 nX.toList rfl rfl (RW (cs:=nX) (t:=265) (fr:=(0,0)) (QB w5 _)) (by intro x C;simp at C;rcases C with rfl|rfl|rfl|rfl|rfl|rfl|rfl|rfl|rfl|rfl|rfl|rfl|rfl<;>rfl) aa (by unfold UE;omega) aa aS ?_;intro i3 w6 c p;obtain⟨i4,c2,rfl,-⟩:=au c;have a2:=aB c p));have c3:Lo.lo<=w.heap.size:=QD y.1 (TF y.2.1);have L:=V.2.2.1;refine⟨⟨k+1,by go_num,L,E.push (sv:= aO) (aP (aK aj _) A.2.2.2) (λi b8=>?_) (A.1.below (aK aj _)) ((E.bY.then m.2.2.1).tr (A.2.1.alloc _)) (λe=>?_) (by rw[z.out];rfl) c3 a2.1 a2.2⟩,by simp[intOf];omega⟩
    .obtain ⟨sv,h1,h2⟩:=V.2.1 i b8;exact⟨sv,λe=>(((h1 e).below m.2.2.1).fr A.2.1 rfl).below (aK aj _),h2⟩
    .rw [z.out]at e;cases e
   case true=>
    obtain⟨v,O,c4,c6,c7,c8⟩:=a0.some N;have e_:0<v.d.n:=by
     by_cases e:k=g.M
     .have:=c8 e;omega
     .have:=c7 aa;omega
    have b4:=ad (pX B k 0 b v e9 a1 O e_);have g7:=ad (λsv W (a9:dR W sv (v.d.view 0))=>Hr sv _ g (u.sl k) W a9 (λj j1=>Dk.lO c4 0 j j1) (Su.IC y.2.2.2.1 G) c6);have c9:QX (∀W,aC W B b->aF 51 #[ar B,ae k] W λe f8=>aL e (ae v.d.n)/\W=f8):=λW f9=>by obtain⟨S,g0,i6,i7,r,wc,f,C⟩:=f9;exact yE C k O.slot v O.dv
    have z:=aT N c7 c8;clear K Z H f0 G e_;go_wp2_with fail;rw[m.1];refine b4.mono ?_;rintro e w5 ⟨⟨g8,rfl,d3⟩,b5,o⟩;have g9:=ad (g7 g8 w5 d3);have M:=o.hp m.2.2.2 rfl;have b6:=o.own (aP m.2.2.1 V.1) rfl λ_ _ h=>h;have A:=aY b5 o M b6;rw[m.2.1];go_wp2_with fail;refine g9.mono ?_;rintro e w6 ⟨sv,rfl,d4,d5,F,cs,rfl,j2⟩;obtain⟨w7,P⟩:=ah (w6.alloc (ao (dy g (u.sl k) (a' F g.M cs)) 117));have b7:aq w5 w7:=by rw[<-P];exact aK d5 _
    have R:aX w7 w6.heap.size (ao (dy g (u.sl k) (a' F g.M cs)) 117):=by rw[<-P];exact QB _ _
    have a3:ko w7 (a' F g.M cs) g.M (u.sl k).st:=by rw[<-P];exact d4.below (aK aj _)
    obtain⟨D,h0⟩:=ah w6.heap.size;rw[h0]at R;have a4:=(b7.block T (Z_ A.2.2.1)).trans A.2.2.1;have Q:=f' P h0 b7 R a3 a4;obtain⟨d0,d1,d2⟩:=cr R;obtain⟨x0,x1,x2⟩:=cr a4;have j3:¬T=D:=by have:=Z_ A.2.2.1;have:=d5.size;omega
    clear P b7 R a3 h0;go_wp2_with fail;rw[Q.1,Q.2.1];refine(g1 _).mono ?_;rintro e w8 ⟨rfl,d⟩;obtain⟨k0,k1,k2⟩:=kp d D d2;obtain⟨k3,k4,k5⟩:=kp d T x2;have d6:=(A.1.below Q.2.2.1).below d;have U:=ad d6;have j9:=aA.iJ y.2.2.2.1.cJ;have d7:=(d.block T x2).trans Q.2.2.2.2.2;have o9:=vK T [.bool true,.int .u64 ((u.sl k).id:Nat),.int .u64 ((u.sl k).ev:Nat),.int .u64 ((u.sl k).sf:Nat),ae ((u.sl k).rl:Nat),ae g.M,ae g.c,ae g.s,ae ((u.sl k).N:Nat),.bool (u.sl k).lz,.bool (u.sl k).lost,a' F g.M cs,ae ((u.sl k).cur:Nat)] 0 w8;obtain⟨I,Y⟩:=ah (((((((((((((w8.setCell (ag T 0) ec).setCell (ag T 1) (.int .u64 ((u.sl k).id:Nat))).setCell (ag T 2) (.int .u64 ((u.sl k).ev:Nat))).setCell (ag T 3) (.int .u64 ((u.sl k).sf:Nat))).setCell (ag T 4) (ae ((u.sl k).rl:Nat))).setCell (ag T 5) (ae g.M)).setCell (ag T 6) (ae g.c)).setCell (ag T 7) (ae g.s)).setCell (ag T 8) (ae ((u.sl k).N:Nat))).setCell (ag T 9) (.bool (u.sl k).lz)).setCell (ag T 10) (.bool (u.sl k).lost)).setCell (ag T 11) (a' F g.M cs)).setCell (ag T 12) (ae ((u.sl k).cur:Nat)));simp only[Ki,RE,Nat.reduceAdd]at o9;rw[Y]at o9;have h3:=aP d (aP Q.2.2.1 A.2.2.2);have d8:∀q,(RR e8 k c0).ownBlock=some q->¬q=T:=λq i5=>by have:=(bo V.1 i5).1;have:=m.2.1;omega
    have h4:=o9.own h3 d8;have d9:Out (λq=>q=T) w5 I:=(Out.af (Q.2.2.1.trans (d.mono Q.2.2.1.size))).tr o9;have j4:w.heap.size<=I.heap.size:=QD (QD (QD (QD E.bY.size m.2.2.1.size) A.2.1.size) (QD Q.2.2.1.size d.size)) o9.size;have h5:I.heap.size=w8.heap.size:=by rw[<-Y];simp
    have a6:ko I (a' F g.M cs) g.M u.st:=by obtain⟨q1,q2,q3,q4,q5,q6,q7,q8,q9⟩:=Q.2.2.2.2.1.below d;refine⟨q1,q2,q3,q4,q5,q6,q7,o9.heap q8 λe=>?_,q9⟩;have e2:q1=T:=e;rw[e2,d7]at q8;exact absurd (UU (RM q8)).2.1 ai
    have e1:Fr TB aG w I:=((((E.bY.then m.2.2.1).tr A.2.1).then Q.2.2.1).then d).out o9 λq i5 e=>by have e2:q=T:=e;have:=m.2.1;have:=E.bY.size;omega
    have e3:Lo.lo<=T:=by have:=m.2.1;have:=E.bY.size;have:=y.1;have:=y.2.1;omega
    have e4:=jm o9 d7 e3;have a7:aC I B b:=U.fn e4 rfl;have a8:∀l,ko wr l g.M u.st->ko I l g.M u.st:=λl h=>(((((h.below m.2.2.1).fr A.2.1 rfl).below Q.2.2.1).below d).fr e4 rfl);have s:=HQ Y h4 d9 a6 h5 e1 a7 a8;clear e3 a7 a8;clear Y d8 d9 a6;by_cases e5:k=g.M
    .have gU:2+u.N<=v.d.n:=z.2.2 e5;subst e5;have j5:=y.2.2.2.1.ring.2;obtain⟨R1,J⟩:=ah (2+(u.sl g.M).N);have e6:2+u.N=R1:=J;have f2:QG.wrap (2+((u.sl g.M).N:Int))=(R1:Int):=bs;have j6:QG.wrap (1+(g.R:Int))=((1+g.R:Nat):Int):=bs;have f3:(R1:Int)<=(v.d.n:Int):=aa;clear gU J e6;go_wp2_with(first|(go_at_call 49;refine(X _ U).mono ?_;rintro e w9 ⟨rfl,rfl⟩)|(go_at_call 51;refine(c9 _ U).mono ?_;rintro e w9 ⟨rfl,rfl⟩)|(at_builtin;rw[s.1];refine aU _ rfl _ _ 190 rfl w.heap.size 265 g3 (.agg nX) 13 112 underlying190 b0 b1 b2 b3 rfl ai (.slice e8 g.M c0) g.M _ rfl (aP (aK aj _) s.2.1) (ag w8.heap.size 0) 1 1 (qC g (u.sl g.M) (a' F g.M cs)).toList (by simp[VO]) rfl (RW (cs:=qC g (u.sl g.M) (a' F g.M cs)) (t:=265) (fr:=(0,0)) (by rw[<-s.2.2.2.2.1];exact QB I _)) (by intro x C;simp at C;rcases C with rfl|rfl|rfl|rfl|rfl|rfl|rfl|rfl|rfl|rfl|rfl|rfl|rfl<;>rfl) aa (by unfold UE;omega) aa aS ?_;intro i3 h6 c p;obtain⟨i4,c2,rfl,-⟩:=au c;have a2:=aB c p));have L:=V.2.2.1;refine⟨⟨g.M+1,by go_num,L,E.push (sv:= a' F g.M cs) (aP (aK aj _) s.2.1) (λi b8=>?_) (s.2.2.2.2.2.2.1.below (aK aj _)) (s.2.2.2.2.2.1.alloc _) (λ_=>s.2.2.2.1.below (aK aj _)) (by rw[z.1];rfl) (QD y.1 (TF y.2.1)) a2.1 a2.2⟩,by simp[intOf];omega⟩;obtain⟨l,h1,h2⟩:=V.2.1 i b8;exact⟨l,λe=>(s.2.2.2.2.2.2.2 l (h1 e)).below (aK aj _),h2⟩
    .have gU:1+g.R<=v.d.n:=z.2.1 (by have:=V.2.2.2;omega);have f1:¬(k:Int)=(g.M:Int):=aa;obtain⟨R1,J⟩:=ah (1+g.R);have f2:QG.wrap (1+(g.R:Int))=(R1:Int):=bs;have f3:(R1:Int)<=(v.d.n:Int):=aa;clear gU J;go_wp2_with(first|(go_at_call 49;refine(X _ U).mono ?_;rintro e w9 ⟨rfl,rfl⟩)|(go_at_call 51;refine(c9 _ U).mono ?_;rintro e w9 ⟨rfl,rfl⟩)|(at_builtin;rw[s.1];refine aU _ rfl _ _ 190 rfl w.heap.size 265 g3 (.agg nX) 13 112 underlying190 b0 b1 b2 b3 rfl ai (.slice e8 k c0) k _ rfl (aP (aK aj _) s.2.1) (ag w8.heap.size 0) 1 1 (qC g (u.sl k) (a' F g.M cs)).toList (by simp[VO]) rfl (RW (cs:=qC g (u.sl k) (a' F g.M cs)) (t:=265) (fr:=(0,0)) (by rw[<-s.2.2.2.2.1];exact QB I _)) (by intro x C;simp at C;rcases C with rfl|rfl|rfl|rfl|rfl|rfl|rfl|rfl|rfl|rfl|rfl|rfl|rfl<;>rfl) aa (by unfold UE;omega) aa aS ?_;intro i3 h6 c p;obtain⟨i4,c2,rfl,-⟩:=au c;have a2:=aB c p));have L:=V.2.2.1;refine⟨⟨k+1,by go_num,L,E.push (sv:= a' F g.M cs) (aP (aK aj _) s.2.1) (λi b8=>?_) (s.2.2.2.2.2.2.1.below (aK aj _)) (s.2.2.2.2.2.1.alloc _) (λ_=>s.2.2.2.1.below (aK aj _)) (by rw[z.1];rfl) (QD y.1 (TF y.2.1)) a2.1 a2.2⟩,by simp[intOf];omega⟩;obtain⟨l,h1,h2⟩:=V.2.1 i b8;exact⟨l,λe=>(s.2.2.2.2.2.2.2 l (h1 e)).below (aK aj _),h2⟩
  .obtain rfl:k=n:=aa;obtain⟨j7,rfl⟩:=g6.resolve_left (by have:=e7.out;omega);have h7:=E;go_wp2;go_ret2;have h:=h7.out;rw[<-e7.out]at h;exact⟨j7,c0,by rw[e7.out];rfl,h.Oz,h.ct,h.bY⟩
theorem tg(A h:Nat)(f g:Array H)(Q:M->Prop)(w:M)(E:∀d w,(VF h d).run prog w=.ok (.enter h d) w)(q:aF h (f++g) w λe i=>(∃s:Int,aL e (.agg #[Y s,aH 0]))/\Q i)(r:∀a b,Q a->aq a b->Q b):
  aF 134 #[ar A,.func (.func h) f g] w λe i=>aL e (.tuple #[])/\Q i:=by
 have t:=I q;have u:=I r;go_enter func134,ntmps134;go_wp2_with fail;refine t.mono ?_;rintro e j ⟨⟨s,rfl⟩,v⟩;have x:=I v;go_wp2_with fail;obtain⟨n,k⟩:=ah (j.alloc (N #[Y s,aH 0] 172));have o:=QB j (N #[Y s,aH 0] 172);have p:=I (u _ _ x (aK aj (N #[Y s,aH 0] 172)));rw[k]at o p|-;obtain⟨y,z,B⟩:=cr o;obtain⟨c,l⟩:=ah j.heap.size;rw[l]at y z B|-;go_loopw [4] (λC wr=>C= ar c/\QX (wr=n)) (λ_ _=>0)
 case atStart=>exact⟨rfl,rfl⟩
 case round=>obtain⟨rfl,D⟩:=hrel;have m:wr=n:=D;subst m;go_wp2_with fail;go_end0;exact⟨rfl,p⟩
theorem Hs[Lo](C c A R B:Nat)(D:Array QC)(E:Option SR)(g:aA)(F:Nat)(d:Ro)(b:By)(l:List Pt)(pv:QC)(w:QA)(L:aX w C (ao #[ar A] 71))(q:aX w c (ao #[pv] 162))(O:aX w A (ao D 120))(P:D[13]?=some (ar R))(h:fg w R B E g F d)(r:aC w B b)(Q:e' w pv l)(S:g.ok)(T:b.N=g.M+1)(U:∀p,p∈l->p.1<g.M/\p.2.1<g.R)(f:(l.map gq).Nodup)(i:l.length<=50000)(a:∀m v,m<g.M->b.dv m=some v->1+g.R<=v.d.n/\v.d.cn+l.length<1000000000000):
  aF 135 #[ar C,ar c] w (Lz B b d l w):=by
 have s:=ad (λW (t:aq w W)=>uP R B E g F d b l pv W (h.below t) (r.below t) (Q.below t) S T U f i a);obtain⟨Y,J,a2⟩:=cr L;obtain⟨b0,b1,b2⟩:=cr q;obtain⟨d0,d1,d2⟩:=cr O;have d13:=(d0 13).trans P;have V:=r.lo;have X:=r.lt;have Z:Lo.lo<=w.heap.size:=aa;have H:=aB Z (show aq w w from aj);go_enter func135,ntmps135;go_wp2_with fail
 go_region_with (first|(go_at_call 136;refine(s _ bF).mono ?_;rintro e N ⟨u,x,rfl,y,j⟩;obtain⟨G,K,k⟩:=cC (b.run ((fK d u).map gY)).2.1 (b.run ((fK d u).map gY)).2.2;rw[k];have n:=j.hp (QB w (ao #[ae 0,aH 0] 172)) rfl;obtain⟨q1,q2,q3⟩:=cr n))
 all_goals
  have o:=ca x k y j n;go_wp2
 all_goals
  have z:Fr TB aG w N:=(Fr.af (a_ (aK aj _))).tr o.2.2.2.1;obtain⟨M,I,-⟩:=dI z o.2.2.1 o.2.2.2.2 (QE _) H.1 (ae G) (.int .u16 K);refine QT (v:=.agg #[ae G,.int .u16 K]) (by simp[RP,results135,go_sem];go_simp) rfl ⟨u,o.1,by rw[o.2.1],I,M⟩
def Mk[Lo](W r B J:Nat)(x:Wl)(b:By)(w:M)(e:RV)(a:M):Prop:=
 ∃s:Int,aL e (.agg #[Y s,.int .u16 ((b.ck J (aV (x.ep+1) x.nx ((x.t+x.u)%x.N))).2:Nat)])/\aC a B (b.ck J (aV (x.ep+1) x.nx ((x.t+x.u)%x.N))).1/\bH a W r B J (x.qo (x.ep+1) (b.ck J (aV (x.ep+1) x.nx ((x.t+x.u)%x.N))).2)/\Fr fV aG w a
theorem Ht[Lo](i j W r B:Nat)(Z:bm)(g:aA)(u:Su)(n:Bool)(x:Wl)(b:By)(w:QA)(o:w.heap[i]?=some (ao #[ar Z.A] 71))(q:w.heap[j]?=some (ao #[ar W] 112))(G:lK w Z g u n)(K:bH w W r B g.M x)(h:aC w B b)(L:g.M<b.N)(O:cM (x.ep+1) x.nx)(s:∀v,b.dv g.M=some v->2+x.N<=v.d.n/\v.d.cn<1000000000000)(t:x.bad=0)(y:x.sure=true):
  aF 138 #[ar i,ar j] w (Mk W r B g.M x b w):=by
 have c:=ad (λV (hV:aq w V)=>As W r B g.M x b V (K.fr (T:= []) (Fr.af hV) rfl rfl rfl rfl) (h.below hV) L O s t y);have P:=ad (λV (hV:aq w V)=>dK Z g u n V (G.fr (T:= []) (Fr.af hV) rfl rfl));obtain⟨M,R,Q⟩:=cr o;obtain⟨I,Y,S⟩:=cr q;have U:=h.lo;have X:=h.lt;have H:=ad (show Lo.lo<=w.heap.size by omega);have d:=aB o q;clear s t y;unfold Mk;obtain⟨E,z⟩:=ah (b.ck g.M (aV (x.ep+1) x.nx ((x.t+x.u)%x.N)));rw[z]at c|-;obtain⟨N,A⟩:=E;clear z;go_enter func138,ntmps138;go_wp2_with fail;go_region_held3(λC=>C.cell? ⟨i,0,none⟩=some (ar Z.A)/\C.cell? ⟨j,0,none⟩=some (ar W)) ((simp[*,go_sem];done)) (first|(go_at_call 107;refine(P _ bF).mono ?_;rintro e J ⟨rfl,rfl⟩)|(go_at_call 139;refine(c _ bF).mono ?_;rintro e D ⟨rfl,k,l,a⟩;have f:=a.hp (QB w (ao #[ae 0,aH 0] 172)) rfl;obtain⟨q1,q2,q3⟩:=cr f;obtain⟨r0,-,-⟩:=cr (a.hp ((QW w (ao #[ae 0,aH 0] 172) i Q).trans d.1) rfl);obtain⟨r1,-,-⟩:=cr (a.hp ((QW w (ao #[ae 0,aH 0] 172) j S).trans d.2) rfl)))
 all_goals go_wp2
 have m:Fr fV aG w D:=(Fr.af (a_ (aK aj _))).tr a;have F:=jm (ns D w.heap.size (ae g.M) (aH A)) f H;refine QT (v:=.agg #[ae g.M,aH A]) (by simp[RP,results138,go_sem];go_simp) rfl ⟨_,rfl,k.fn F rfl,l.fr F rfl rfl rfl rfl,(m.new (p:=⟨w.heap.size,0,none⟩) (QE _) _).new (p:=⟨w.heap.size,1,none⟩) (QE _) _⟩
theorem Hu(j:g.ok)(a r:Nat)(w:QA)(k:a<g.M)(l:r<g.R):
  aF 131 #[g.V,Y a,Y r] w λe c=>(∃(x:Int) (y:Bool),aL e (.tuple #[Y x,.bool y,aH 0]))/\aq w c:=by
 have h:=aA.gm j;have b:(r:Int)<(g.s:Nat)*(g.c:Nat):=by
  have:((g.R:Nat):Int)=(g.s:Nat)*(g.c:Nat):=by unfold aA.R;rw[TK]
  omega
 by_cases i:tn (g.M:Nat) (g.c:Nat) a r=(g.M:Nat)-1
 .exact (yp (g.M:Nat) (g.c:Nat) (g.s:Nat) a r w h J J J b i).mono λe c ⟨d,f⟩=>⟨⟨_,_,d⟩,f⟩
 .exact (yq (g.M:Nat) (g.c:Nat) (g.s:Nat) a r w h J J J b i).mono λe c ⟨d,f⟩=>⟨⟨_,_,d⟩,f⟩
def cb(L:List bW):List Pt:=(L.map λP=>bM P P.N).flatten
theorem jB:∀L:List bW,(cb L).length<=bj L
 | [] =>QE _
 |P::l=>by have:=jB l;have e:cb (P::l)=bM P P.N++cb l:=rfl;rw[e,QU,cU];show P.N+(cb l).length<=2*P.N+1+bj l;omega
theorem gC(L:List bW)(P:bW):cb (L++ [P])=cb L++bM P P.N:=by simp[cb]
theorem nb{L:List bW}{P:bW}(h:L[i]?=some P):cb (L.take (i+1))=cb (L.take i)++bM P P.N:=by rw[UG,h];exact gC _ _
theorem qD{L:List bW}{p:Pt}(h:p∈cb (L.take i)):p∈cb L:=by
 have:cb L=cb (L.take i)++cb (L.drop i):=by
  conv=>lhs;rw[<-XA i L]
  unfold cb;rw[SH,ZM]
 rw[this];exact ZA _ h
structure BQ(ps l:List Pt):Prop where
 mg:(l.map gq).Nodup
 val:∀p,p∈l->bx ps (gq p)=some p.2.2
 all:∀q,bx ps q≠none->q∈l.map gq
 len:l.length<=ps.length
theorem BQ.perm{b l c:List Pt}(h:BQ b l)(a:c.Perm l):BQ b c:=
 ⟨(a.map gq).nodup_iff.2 h.mg,λp d=>h.val p (a.mem_iff.1 d),λq e=>(a.map gq).mem_iff.2 (h.all q e),by rw[a.length_eq];exact h.len⟩
theorem p_{a:Nat × Nat->Nat->Nat}:∀l:List (Nat × Nat),(l.map (d' a)).map gq=l
 | [] =>rfl
 |q::l=>by rw[TO,TO,p_ l];rfl
theorem BQ.of{e a:List (Nat × Nat)}{f:Nat × Nat->Nat->Nat}(g:∀q,q∈a↔bx l q≠none)(h:∀q,q∈a->bx l q=some (f q))(i:a.Nodup)(b:a.length<=l.length)(c:e.Perm a):BQ l (e.map (d' f)):=by refine⟨by rw[p_];exact c.nodup_iff.2 i,λp j=>?_,λq d=>by rw[p_];exact c.mem_iff.2 ((g q).2 d),by rw[RB,c.length_eq];exact b⟩;obtain⟨q,d,rfl⟩:=RK.1 j;exact h q (c.mem_iff.1 d)
theorem mc:∀{b:List Pt} {q:Nat × Nat} {f:aN},bx b q=some f->∃p,p∈b/\gq p=q/\p.2.2=f
 | [],q,f,h=>by cases h
 |p::l,q,f,h=>by
  unfold bx at h;cases a:bx l q with
  |some g=>rw[a]at h;cases h;obtain⟨c,d,i,j⟩:=mc a;exact⟨c,SG _ d,i,j⟩
  |none=>
   rw[a]at h;by_cases e:gq p=q
   .simp [e]at h;exact⟨p,RZ,e,h⟩
   .simp [e]at h
theorem BQ.mem{e l:List Pt}(h:BQ e l){p:Pt}(i:p∈l):p∈e:=by
 obtain⟨f,j,d,g⟩:=mc (h.val p i);have:f=p:=by obtain⟨a,b,c⟩:=f;obtain⟨x,y,z⟩:=p;simp only[gq,Prod.mk.injEq]at d;simp only at g;rw[d.1,d.2,g]
 exact this▸j
structure Rm(g:aA)(N C:Nat)(b:By):Prop where
 dC:b.N=g.M+1
 mem:∀m v,m<g.M->b.dv m=some v->1+g.R<=v.d.n/\v.d.cn+C<1000000000000
 gB:∀v,b.dv g.M=some v->2+N<=v.d.n/\v.d.cn+C<1000000000000
theorem Rm.run(h:Rm g n C b){l:List fR}(f:∀a,a∈l->LK a)(r:k+l.length<=C):Rm g n k (b.run l).1:=by
 refine⟨by rw[By.gb];exact h.dC,λm v i c=>?_,λv c=>?_⟩
 .obtain ⟨d,e,j,o⟩:=By.gI f c;obtain⟨p,q⟩:=h.mem m d i e;omega
 .obtain ⟨d,e,j,o⟩:=By.gI f c;obtain⟨p,q⟩:=h.gB d e;omega
theorem Rm.NM(h:Rm g n C b)(c:200<=C):KB b:=λk v d a=>by
 by_cases e:k=g.M
 .subst e;have:=h.gB v a;omega
 .have:=h.mem k v (by have:=h.dC;omega) a;omega
def Su.zw(u:Su)(a:Nat->Bool):Su:={u.sl 0 with st:=λm=>if a m=false then 2 else 1}
def EV(g:aA)(u:Su):Ro:=(⟨u.lz,λ_=>none,[],false⟩:Ro).marks g u g.M
def cQ(g:aA)(u:Su):Ro:=(EV g u).marks g u.told g.M
def Ml(g:aA)(u:Su)(b:By):=b.run (eX g u.tell)
def KH(g:aA)(u:Su)(b:By)(l:List Pt):=(Ml g u b).1.run ((fK (cQ g u) l).map gY)
def EW(g:aA)(u:Su)(b:By)(l:List Pt):=(KH g u b l).1.run ((ob g (cQ g u)).map dq)
def BS(g:aA)(u:Su)(b:By)(l:List Pt)(x:Wl):=(EW g u b l).1.ck g.M (aV (x.ep+1) x.nx ((x.t+x.u)%x.N))
structure Kj(g:aA)(u:Su)(b:By)(l:List Pt)(x:Wl):Prop where
 e1:(Ml g u b).2.2=0
 e2:(KH g u b l).2.2=0
 e3:(EW g u b l).2.2=0
 e4:(BS g u b l x).2=0
abbrev Hv(a t b N:Nat)(L:List bW):Wl:=⟨a,b+L.length,true,none,0,N,t,bj L⟩
def Kk[Lo](B:Nat)(b:By)(g:aA)(u:Su)(S:dp)(a t c:Nat)(w:M)(e:RV)(d:M):Prop:=
 ∃(Z:bm) (L:List bW) (l:List Pt),aL e (.tuple #[ar Z.A,aH 0])/\Z.B=B/\Z.N=u.N/\Z.lz=u.lz/\pU S u.N a t c L/\l_ S u.N a t c L/\bj L<=u.N/\BQ (cb L) l/\
  de d Z g ⟨(BS g u b l (Hv a t c u.N L)).1,(Hv a t c u.N L).cz (a+1),cQ g u⟩ u.told false/\Fr mO aG w d
theorem Fr.Pj[Lo](a:Out S w W)(d:∀k o,S k->w.heap[k]?=some o->T.contains (ty o)=true/\Lo.lo<=k):Fr T aG w W:=
 ⟨a.os,a.tape,a.output,a.size,λk o c b _=>(a.block k (Z_ c) λe=>by
  obtain⟨f,g⟩:=d k o e c;rcases b with b|b
  .rw [f]at b;cases b
  .omega).trans c⟩
theorem all_nil(L a:Nat)(v:QC)(b:Nat × Nat->QC)(c:Nat × Nat->Nat->Nat)(w:M)(h:bd w L a v [] b c):
  aF 133 #[ar L] w λe d=>aL e aO/\Out (λk=>k=L) w d:=by
 have f:=I (rh L v w h.Gs);go_enter func133,ntmps133;go_wp2_with fail;refine f.mono ?_;rintro e g ⟨rfl,i⟩;have j:=I (show Out (λk=>k=L) w (g.alloc (N #[Y 0,Y 0,aO] 206))from i.then (aK aj _));go_wp2_with fail;go_loopw [3,4,5] (λl _ m wr=>l= aO/\m=.bool false/\QX (Out (λk=>k=L) w wr)) (λ_ _ _ _=>0)
 case atStart=>exact⟨rfl,rfl,j⟩
 case round=>obtain⟨rfl,rfl,H⟩:=hrel;go_wp2_with fail;go_ret;exact⟨rfl,H⟩
theorem Kl[Lo](L d:Nat)(v:H)(j:List (Nat × Nat))(s:Nat × Nat->H)(t:Nat × Nat->Nat->Nat)(w:M)(h:bd w L d v j s t)(D:j.length<=50000)(m:∀k,LZ L d v k->Lo.lo<=k):
  aF 133 #[ar L] w λe n=>∃pv y,aL e pv/\List.Perm y j/\fa w.heap.size n pv (y.map (d' t))/\Out (LZ L d v) w n/\Fr [286,289,1000002] aG w n:=by
 by_cases e:j= []
 .subst e;refine(all_nil L d v s t w h).mono ?_;rintro e n ⟨rfl,r⟩;refine⟨_,[],rfl,XX _,fa.nil _ _,r.mono λk _ l=>.inl l,Fr.Pj r λk o l a=>?_⟩;subst l;obtain⟨E,z⟩:=h.row;rw[z]at a;cases a;exact⟨rfl,m _ (.inl rfl)⟩
 .refine (Hj L d v j s t w h D).mono ?_;rintro _ n ⟨pv,y,rfl,F,G,r⟩;refine⟨pv,y,rfl,F,G,r,Fr.Pj r λk o l a=>⟨?_,m k l⟩⟩;rcases l with f|f|f
  .subst f;obtain⟨E,z⟩:=h.row;rw[z]at a;cases a;rfl
  .subst f;obtain⟨C,c,K,O,X,P⟩:=h.map;rw[K]at a;cases a;obtain⟨p,Q⟩:=WH j e;have this:(bZ p C.toList 0).map (·.2)=some (s p):=(P p).trans (ak Q);cases d:bZ p C.toList 0 with
   |none=>rw[d]at this;cases this
   |some x=>obtain⟨i,u⟩:=x;obtain⟨e,S,_,_⟩:=jq p _ i u d;have g:=QV S;obtain⟨q,T⟩:=O e g;rw[Ds g q T];rfl
  .have U:=h.lH.own;rcases U.2 with⟨A,-⟩|⟨b,V,W,A,-,B,-⟩
   .rw [A]at f;cases f
   .rw [A]at f;cases f;rw[B]at a;cases a;rfl
section
variable [Lo] {Z:bm} {g:aA} {u:Su} {yg:Bool} {c6 c7 c18:Nat} {w:QA}
theorem OB{b:By}{x:Wl}{d:Ro}{l:List Pt}{pv:H}(h:de w Z g ⟨b,x,d⟩ u yg)(y:aX w c6 (ao #[ar Z.A] 71))(r:aX w c18 (ao #[pv] 162))(z:e' w pv l)(A:g.ok)(B:b.N=g.M+1)(C:∀p,p∈l->p.1<g.M/\p.2.1<g.R)(j:(l.map gq).Nodup)(k:l.length<=50000)(f:∀m v,m<g.M->b.dv m=some v->1+g.R<=v.d.n/\v.d.cn+l.length<1000000000000)(D:∀c:List Pt,c.Perm l->(b.run ((fK d c).map gY)).2.2=0):
  aF 134 #[ar Z.A,.func (.func 135) #[] #[ar c6,ar c18]] w λe i=>aL e (.tuple #[])/\∃c:List Pt,c.Perm l/\de i Z g ⟨(b.run ((fK d c).map gY)).1,x,d⟩ u yg/\Fr TB aG w i:=by
 obtain⟨E,-,F⟩:=h.arr.aM;have G:=Hs c6 c18 Z.A Z.R Z.B _ (some (ag Z.W 0)) g Z.fb d b l pv w y r F rfl h.rs.row h.rs.ct z A B C j k f;refine tg Z.A 135 #[] #[ar c6,ar c18] (λi=>∃c:List Pt,c.Perm l/\de i Z g ⟨(b.run ((fK d c).map gY)).1,x,d⟩ u yg/\Fr TB aG w i) w (RH func135 aE rfl) (G.mono λe i ⟨c,o,s,t,q⟩=>?_) λa L ⟨c,o,s,t⟩ n=>⟨c,o,s.below n,t.then n⟩;have K:=D c o;refine⟨⟨0,?_⟩,c,o,⟨h.arr.fr q rfl rfl,⟨h.rs.row.fr q rfl rfl rfl rfl,t,bH.fr h.rs.kj q rfl rfl rfl rfl,h.rs.lo⟩⟩,q⟩;rw[s,K];rfl
theorem OC{s:Rs}{C:Nat}(h:de w Z g s u yg)(hF:Fit g C s)(f:(s.b.run ((ob g s.ro).map dq)).2.2=0):
  aF 134 #[ar Z.A,.func (.func 137) #[ar Z.R] #[]] w λe c=>aL e (.tuple #[])/\de c Z g {s with b:=(s.b.run ((ob g s.ro).map dq)).1} u yg/\Fr iN aG w c:=by
 have p:=px Z.R Z.B Z.W Z.r g Z.fb s C w h.rs hF;refine tg Z.A 137 #[ar Z.R] #[] (λc=>de c Z g {s with b:=(s.b.run ((ob g s.ro).map dq)).1} u yg/\Fr iN aG w c) w (RH func137 aE rfl) (p.mono λe c ⟨m,k,q,⟨n,r,t⟩,i,j,o⟩=>?_) λa v ⟨i,j⟩ d=>⟨i.below d,j.then d⟩;rw[n]at f;have f:q=0:=f;subst f;have l:m={s with b:=m.b}:=by rw[<-r,<-t]
 refine⟨⟨0,by rw[i];rfl⟩,⟨h.arr.fr o rfl rfl,?_⟩,o⟩;rw[n,<-l];exact j
theorem OD{s:Rs}(h:de w Z g s u yg)(n:aX w c6 (ao #[ar Z.A] 71))(o:aX w c7 (ao #[ar Z.W] 112))(p:g.M<s.b.N)(i:cM (s.x.ep+1) s.x.nx)(q:∀v,s.b.dv g.M=some v->2+s.x.N<=v.d.n/\v.d.cn<1000000000000)(r:s.x.bad=0)(t:s.x.sure=true)(y:(s.b.ck g.M (aV (s.x.ep+1) s.x.nx ((s.x.t+s.x.u)%s.x.N))).2=0):
  aF 134 #[ar Z.A,.func (.func 138) #[] #[ar c6,ar c7]] w λe c=>aL e (.tuple #[])/\de c Z g {s with b:=(s.b.ck g.M (aV (s.x.ep+1) s.x.nx ((s.x.t+s.x.u)%s.x.N))).1,x:=s.x.cz (s.x.ep+1)} u yg/\Fr fV aG w c:=by
 have i:=Ht c6 c7 Z.W Z.r Z.B Z g u yg s.x s.b w n o h.arr h.rs.kj h.rs.ct p i q r t;refine tg Z.A 138 #[] #[ar c6,ar c7] (λc=>de c Z g {s with b:=(s.b.ck g.M (aV (s.x.ep+1) s.x.nx ((s.x.t+s.x.u)%s.x.N))).1,x:=s.x.cz (s.x.ep+1)} u yg/\Fr fV aG w c) w (RH func138 aE rfl) (i.mono λe c ⟨k,f,j,m,l⟩=>?_) λa z ⟨f,j⟩ d=>⟨f.below d,j.then d⟩;rw[y]at f m;exact⟨⟨k,f⟩,⟨h.arr.fr l rfl rfl,⟨h.rs.row.fr l rfl rfl rfl rfl,j,m,h.rs.lo⟩⟩,l⟩
end
theorem m'.fr[Lo]{a:Nat->Bool}(h:m' w n m g u a)(b:Fr T aG w W)(d:T.contains 265=false)(f:T.contains 122=false):m' W n m g u a:=by obtain⟨c,i,j,l,o⟩:=h;refine⟨c,i,j,b.hp l d,λk p=>?_⟩;obtain⟨q,r,s⟩:=o k p;exact⟨q,λe=>(r e).fr b f,s⟩
abbrev Mm(B:Nat)(g:aA)(u:Su)(a c:Nat)(b d:Option SR):Array H:= #[ar B,bg u.id,bg u.ev,bg u.sf,Y u.rl,Y g.M,Y g.c,Y g.s,Y u.N,.bool u.lz,.bool u.lost,a' a g.M c,Y u.cur,.pointer b,.pointer d,.bool false,aH 0,.bool true,.bool true]
structure P_[Lo](w:QA)(B:Nat)(b:By)(g:aA)(u:Su)(hs:Nat->Bool)(D A c6 sb c:Nat)(w4:QA):Prop where
 d:w4.heap[D]? =some (N #[aH 0] 35)
 a:w4.heap[A]? =some (N (Mm B g (u.sl 0) sb c none none) 120)
 ptr:w4.heap[c6]? =some (N #[ar A] 71)
 xu:∃cs,w4.heap[sb]? =some (N cs 122)/\∀m,m<g.M->cs[m]? =some (.int .u8 (if hs m=false then 2 else 1:Nat))
 ct:aC w4 B b
 bY:Fr TB aG w w4
 cap:g.M<=c
 new:w.heap.size<=D/\w.heap.size<=A/\w.heap.size<=c6/\w.heap.size<=sb
theorem EO.base[Lo]{e:RV}(h:EO n m b F k i j C W e z)(d:aq w W):EO n m b F k i j C w e z:=by obtain⟨f,r,a,c,L,g,l,o,p,q,s,t,u,x,v⟩:=h;have:=d.size;exact⟨f,r,a,c,L,g,l,o,p,q.wide this,s,t,(Fr.af d).tr u,J,J⟩
theorem Hw{b a:Array H}{f c:Nat × Nat}(h:w.heap[n]?=some (.cells b k f))(d:w.heap[m]?=some (.cells a i c))(g:k≠i):¬n=m:=λe=>by rw[e,d]at h;exact g (UU (RM h)).2.1.symm
theorem vL(A:Nat)(a:Array H)(M:Nat)(w:QA)(h:aX w A (N a 120))(b:a[5]?=some (Y M)):
  aF 107 #[ar A] w λe c=>aL e (Y M)/\w=c:=by
 obtain⟨k,f,z⟩:=cr h;have d:=(k 5).trans b;go_enter func107,ntmps107;go_wp2;go_ret;exact⟨rfl,rfl⟩
theorem m_.xg{L:List (List Pt)}(h:m_ n w v m L)(b:w.heap[p.block]?=some O)(c:ty O≠204/\ty O≠5/\ty O≠206)(x:H):m_ n (w.setCell p x) v m L:=by
 refine h.out (S:=λk=>k=p.block) ((Out.refl (λk=>k=p.block) w).setCell (p:=p) (λ_=>rfl) x) (λk d e=>?_) λk l e a=>?_
 .subst e;obtain⟨o,-,a,-⟩:=h;rcases a.2 with⟨rfl,-⟩|⟨g,f,i,rfl,-,j,-⟩
  .cases d
  .cases d;rw[j]at b;cases b;exact c.1 rfl
 .subst e;rw[b]at a;cases a;exact c.2
theorem kV.below(h:kV w n l z)(a:aq z W):kV w n l W:=by obtain⟨b,v,c,d,e,f,g⟩:=h.lift;exact⟨h.dA.trans (a.mono h.dA.size),h.new,⟨b,v,c,d,e,f.below a,g⟩,((kp a n (QN _ _ h.c0)).1 0).trans h.c0⟩
theorem Fr.Mn[Lo](h:Fr T aG w W)(a:Out S W z)(d:∀k,k<w.heap.size->¬S k):Fr T aG w z:=
 ⟨a.os.trans h.os,a.tape.trans h.tape,a.output.trans h.output,QD h.size a.size,λk o b e f=>by have c:=h.block k o b e f;exact(a.block k (Z_ c) (d k (Z_ b))).trans c⟩
theorem Fr.P'[Lo](h:Fr T aG w W)(a:Fr T S W z)(d:∀k,k<w.heap.size->¬S k):Fr T aG w z:=
 ⟨a.os.trans h.os,a.tape.trans h.tape,a.output.trans h.output,QD h.size a.size,λk o b c e=>a.block k o (h.block k o b c e) c (d k (Z_ b))⟩
theorem Su.yf{b:Nat->Bool}(a:u.ok g)(c:∀m,m<g.M->u.st m=1):(u.zw b).ok g:=by
 refine⟨a.cJ,a.id,a.ev,QO _,a.ring,λm _=>?_,λm k _ _ d _=>?_,a.cur.1,λe=>?_⟩
 .show (if b m=false then 2 else 1)=1\/(if b m=false then 2 else 1)=2\/_;split<;>simp
 .have d:(if b m=false then 2 else 1)=3:=d;split at d<;>omega
 .obtain ⟨m,f,h⟩:=a.cur.2 e;rw[c m f]at h;omega
structure Qa[Lo](B:Nat)(b:By)(g:aA)(u:Su)(S:dp)(ep t sq:Nat)(w0 w4:QA)(D T W r cL:Nat)(a:Option SR)(L:List bW)(wx:QA):Prop where
 mi:pU S u.N ep t sq L/\l_ S u.N ep t sq L/\bj L<=u.N
 Qb:m_ w4.heap.size wx (.slice a L.length cL) sq (L.map fun P=>bM P P.N)
 ct:aC wx B b
 kj:bH wx W r B g.M (Hv ep t sq u.N L)
 bY:Fr (35::TB) aG w4 wx
 OE:Fr TB aG w0 wx
 tp:wx.heap[T]? =some (ao #[ar W] 112)
 d:wx.heap[D]? =some (ao #[aH 0] 35)
 new:w4.heap.size<=T/\w4.heap.size<=W/\w4.heap.size<=r
theorem yf[Lo](N2:gQ)(B:Nat)(b:By)(g:aA)(u:Su)(i6:Nat->Bool)(R2:Option Nat)(S:dp)(b8 t Y:Nat)(v:Dv)(w:QA)(h:aC w B b)(b9:u.ok g)(i9:u.lost=false)(F4:∀m,m<g.M->u.st m=1)(S5:b.bz=false)(S6:b.aW=none)(N3:∀k,k<=g.M->Ph g u i6 b k)(S7:i6 g.M=true)(N4:∀m,m<g.M->i6 m=false->R2=some m)(q0:KG b g.M v)(N5:v.d.eI)(i2:cM b8 Y)(N6:t<u.N)(S8:aD (v.d.view 1) (aV b8 Y t))(S9:∀k,k<u.N->S k=v.d.view (2+k))(M5:Rm g u.N 10000 b)(F5:u.ev<4000000000000000000)(F6:b8<4000000000000000000/\Y<4000000000000000000)(R3:∀L l,pU S u.N b8 t Y L->l_ S u.N b8 t Y L->bj L<=u.N->BQ (cb L) l->Kj g (u.zw i6) b l (Hv b8 t Y u.N L))(F7:∀L p,pU S u.N b8 t Y L->l_ S u.N b8 t Y L->p∈cb L->p.1<g.M/\p.2.1<g.R):
  aF 72 #[ar B] w (Kk B b g (u.zw i6) S b8 t Y w):=by
 have T0:=h.lo;have j0:=h.lt;have T1:=b9.cJ.m3;have R4:=b9.cJ.m16;have F2:=M5.dC;have N7:QX (∀W,aC W B b->aF 49 #[ar B] W λe E=>aL e (ae ((g.M+1:Nat)))/\W=E):=λW N8=>by obtain⟨S,d6,U8,U9,r,wc,f,F8⟩:=N8;have:=ly F8;rwa[F2]at this
 obtain⟨D,R5⟩:=ah w.heap.size;obtain⟨w1,r6⟩:=ah (w.alloc (ao #[aH 0] 35));have r7:aq w w1:=by rw[<-r6];exact aK aj _
 have F9:aX w1 D (ao #[aH 0] 35):=by rw[<-r6,<-R5];exact QB _ _
 have N9:=ad (ye B b g u i6 w1 (h.below r7) F2 b9 S5 S6 N3);have O0:=ad (λW M6 d6 (T2:m' W M6 d6 g u i6)=>Bw M6 d6 g u i6 R2 W T2 b9 i9 F4 S7 N4);have O1:=ad (λA r0 W (B5:aX W A (ao r0 120)) (h5:r0[5]?=some (ae g.M))=>vL A r0 g.M W B5 h5);have O2:=ad (λW (N8:aC W B b)=>Hn N2 B g.M u.N b8 Y t b v S W N8 q0 b9.ring.1 b9.ring.2 ((M5.gB v q0.dv).1) N5 i2 N6 S8 S9);have r8:=aT r7 F9 (h.below r7);have f5:=aB r6 R5;have H:=ad (show Lo.lo<=D by omega);have e1:decide (((g.M+1:Nat):Int)<4)=false:=decide_eq_false aa;have T3:decide (g.M+1<4)=false:=decide_eq_false aa;clear r7 F9 r6
 go_enter_defers func72,ntmps72
 go_wp2_with fail;rw[f5.1];obtain⟨d0,d1,d2⟩:=cr r8.2.1;go_wp2_with(first|(go_at_call 49;refine(N7 _ r8.2.2).mono ?_;rintro e w2 ⟨rfl,rfl⟩)|(go_at_call 127;refine N9.mono ?_;rintro e w2 ⟨M6,d6,rfl,b3⟩;have H2:=ad b3;have B6:=Fr.hp b3.2.2 r8.2.1 rfl;have r9:=ad B6;clear b3 d0 d1 d2;obtain⟨d0,d1,d2⟩:=cr B6;clear B6)|(go_at_call 128;have B7:=(Fr.refl [35] aG w2).set (p:=ag D 0) r9 rfl H (aH 0);refine(O0 _ M6 d6 (H2.1.fr B7 rfl rfl)).mono ?_;rintro e w3 ⟨g6,c,R6,r0,rfl,b3⟩;have B8:=(b3.1.block D (by rw[RT];exact Z_ r9)).trans (heap_setCell_same w2 D 0 _ 35 (aH 0) r9);have H3:=aT B7 B8 b3;clear b3 d0 d1 d2 B7;obtain⟨d0,d1,d2⟩:=cr B8;clear B8));obtain⟨w4,j5⟩:=ah ((((w3.setCell (ag D 0) (aH 0)).alloc (ao (te g (u.sl 0) (a' g6 g.M c) R6 true) 194)).alloc (ao (Mm B g (u.sl 0) g6 c none none) 120)).alloc (ao #[.pointer (some ⟨w3.heap.size+1,0,none⟩)] 71));rw[j5];obtain⟨A,B5⟩:=ah (w3.heap.size+1);have F:QX (P_ w B b g u i6 D A (A+1) g6 c w4):=by
  obtain⟨q1,q2,q3,q4,q5,q6⟩:=H3.out;have G0:Fr TB aG w w2:=(Fr.af r8.1).tr H2.2.2;have G1:w.heap.size<=D:=RN f5.2;have d7:Fr TB aG w w3:=(G0.new (p:=ag D 0) G1 (aH 0)).then q3;have O3:=(Fr.refl [35] aG w3).set (p:=ag D 0) q2 rfl H (aH 0);have s0:SK (w3.setCell (ag D 0) (aH 0)).heap.size (w3.setCell (ag D 0) (aH 0)) w4:=by rw[<-j5];exact aK (aK (aK aj _) _) _
  have v1:(w3.setCell (ag D 0) (aH 0)).heap.size=w3.heap.size:=RT _ _ _;have T4:D<w2.heap.size:=Z_ r9;rw[RT]at q5;obtain⟨O4,e1,e2⟩:∃r0,aX w3 g6 (ao r0 122)/\∀m,m<g.M->r0[m]?=some (.int .u8 (if i6 m=false then 2 else 1:Nat)):=⟨_,q6⟩;have O5:=Z_ q2;refine⟨(s0.block D (by rw[v1];exact O5)).trans (heap_setCell_same w3 D 0 _ 35 (aH 0) q2),?_,?_,⟨O4,(s0.block g6 (by rw[v1];exact Z_ e1)).trans ((RJ w3 (ag D 0) g6 (aH 0) (by show g6≠D;omega)).trans e1),e2⟩,?_,(d7.new (p:=ag D 0) G1 (aH 0)).then s0,q4,?_⟩
  .rw [<-j5,<-B5,<-v1];exact(QW _ _ _ aJ).trans (eZ _ _ _)
  .rw [<-j5,<-B5,show w3.heap.size+1+1=(((w3.setCell (ag D 0) (aH 0)).alloc (ao (te g (u.sl 0) (a' g6 g.M c) R6 true) 194)).alloc (ao (Mm B g (u.sl 0) g6 c none none) 120)).heap.size by simp];exact QB _ _
  .exact (((H2.2.1.fn q1 rfl).below q3).fn O3 rfl).below s0
  .have:=d7.size;omega
 rw[show w3.heap.size+1+1=A+1 by rw[B5]]
 try rw[B5]
 clear d0 d1 d2 j5 B5;obtain⟨d0,d1,d2⟩:=cr F.d;obtain⟨J,a1,a2⟩:=cr F.a;obtain⟨N,p1,p2⟩:=cr F.ptr;have a8:w4.cell? (ag A 8)=some (ae u.N):=J 8;clear J;have n1:¬D=A:=Hw F.d F.a ai;have n2:¬A=D:=λe=>n1 e.symm;have n3:¬D=A+1:=Hw F.d F.ptr ai;have n4:¬A+1=D:=λe=>n3 e.symm;have l1:=Z_ F.ptr;have l2:=Z_ F.a;have l3:=Z_ F.d;have n5:¬w4.heap.size=A+1:=YX l1;have n6:¬A+1=w4.heap.size:=WL l1;have n7:¬w4.heap.size=A:=YX l2;have n8:¬A=w4.heap.size:=WL l2;have n9:¬w4.heap.size=D:=YX l3;have O6:¬D=w4.heap.size:=WL l3;have G2:=ad (λW (G:aq w4 W)=>O1.out A _ W ((G.block A (Z_ F.a)).trans F.a) rfl);have G3:QX (∀W,aq w4 W->aF 129 #[ar B,ae g.M,ae u.N] W λe E=>EO B g.M b S u.N b8 t Y w4 e E/\Fr TB aG W E):=λW G=>(O2 W (F.ct.below G)).mono λe E b3=>⟨b3.base G,by obtain⟨_,_,_,_,_,_,_,_,_,_,_,_,q,_⟩:=b3;exact q⟩;go_cut [7,8]from 78 to 188 (λs7 s8 T5=>∃(T W r F3:Nat) (a:Option SR) (L:List bW),s7= ar T/\s8=.slice a L.length F3/\QX (Qa B b g u S b8 t Y w w4 D T W r F3 a L T5))
 case first=>
  go_region_held3(λE=>E.cell? ⟨A+1,0,none⟩=some (ar A)/\E.cell? (ag A 8)=some (ae u.N)) ((simp[*,go_sem];done)) (first|(go_at_call 107;refine(G2 _ bF).mono ?_;rintro e w5 ⟨rfl,rfl⟩)|(go_at_call 129;refine(G3 _ bF).mono ?_;rintro e w6 ⟨⟨W,r,a,F3,L,rfl,b3⟩,G4⟩;(try(have h7:=Fr.hp G4 (QB _ (ao #[.pointer none] 112)) rfl;obtain⟨c7,f7,z7⟩:=cr h7;have H7:=ad h7;clear h7));have j6:=b3.2.2.2.2.2.2.1;have a6:w6.cell? (ag A 8)=some (ae u.N):=(cr (Fr.hp j6 F.a rfl)).1 8;have a7:=Z_ (Fr.hp j6 F.a rfl);obtain⟨p3,p4,p5⟩:=cr (Fr.hp j6 F.ptr rfl);obtain⟨d3,d4,d5⟩:=cr (Fr.hp j6 F.d rfl);have m1:¬w6.heap.size=A+1:=YX p5;have m2:¬A+1=w6.heap.size:=WL p5;have m3:¬w6.heap.size=A:=YX a7;have m4:¬A=w6.heap.size:=WL a7;have m5:¬w6.heap.size=D:=YX d5;have m6:¬D=w6.heap.size:=WL d5;clear N p1 p2 d0 d1 d2 a1 a2 a8;have H6:=ad b3;clear b3 j6 G4))
  all_goals go_wp2
  all_goals go_meet
  all_goals(obtain⟨q1,q2,q3,q4,q5,q6,q7,q8,q9⟩:=H6.out;have s1:=Fr.hp q7 F.d rfl;have G5:Lo.lo<=D:=H.out;have f1:=(Fr.refl [35] aG w6).set (p:=ag D 0) s1 rfl G5 (aH 0))
  .have G:=(aK aj (ao #[ar W] 112):SK (w6.setCell (ag D 0) (aH 0)).heap.size (w6.setCell (ag D 0) (aH 0)) _);have v1:(w6.setCell (ag D 0) (aH 0)).heap.size=w6.heap.size:=RT _ _ _;refine⟨_,W,r,F3,a,L,rfl,rfl,⟨q1,q2,q3⟩,(q4.xg (p:=ag D 0) s1 ai _).below G,(aC.fr q5 f1 rfl λ_ _ h=>h.elim).below G,bH.fr (T:= []) (bH.fr q6 f1 rfl rfl rfl rfl) (Fr.af G) rfl rfl rfl rfl,((q7.wide (35::TB) rfl).tr (f1.wide (35::TB) rfl)).then G,((F.bY.tr q7).new (p:=ag D 0) F.new.1 _).then G,?_,(G.block D (by rw[v1];exact d5)).trans (heap_setCell_same w6 D 0 _ 35 _ s1),q7.size,q8,q9⟩;have:=QB (w6.setCell (ag D 0) (aH 0)) (ao #[ar W] 112);rwa[v1]at this
  all_goals
   have f2:=(Fr.refl [112] aG w6).set (p:=ag w4.heap.size 0) H7 rfl (QD H (TF l3)) (ar W);have T6:=heap_setCell_same w6 w4.heap.size 0 _ 112 (ar W) H7;have B9:=(RJ w6 (ag w4.heap.size 0) D (ar W) O6).trans s1;have f3:=(Fr.refl [35] aG _).set (p:=ag D 0) B9 rfl G5 (aH 0);refine⟨_,W,r,F3,a,L,rfl,rfl,⟨q1,q2,q3⟩,((q4.xg (p:=ag w4.heap.size 0) H7 ai _).xg (p:=ag D 0) B9 ai _),aC.fr (aC.fr q5 f2 rfl λ_ _ h=>h.elim) f3 rfl λ_ _ h=>h.elim,bH.fr (bH.fr q6 f2 rfl rfl rfl rfl) f3 rfl rfl rfl rfl,(((q7.wide (35::TB) rfl).new (p:=ag w4.heap.size 0) (QE _) _)).tr (f3.wide (35::TB) rfl),(((F.bY.tr q7).new (p:=ag w4.heap.size 0) F.bY.size _)).new (p:=ag D 0) F.new.1 _,?_,heap_setCell_same _ D 0 _ 35 _ B9,QE _,q8,q9⟩;exact(RJ _ (ag D 0) w4.heap.size (aH 0) n9).trans T6
 case rest=>
  rename_i T7;refine T7 _ _ ?_;obtain⟨T,W,r,F3,V0,L,rfl,rfl,z⟩:=hcut;have s2:=ad (Fr.hp z.bY F.a rfl);have G6:=ad (Fr.hp z.bY F.ptr rfl);obtain⟨d3,d4,d5⟩:=cr z.d;obtain⟨a3,a4,a5⟩:=cr s2;obtain⟨p3,p4,p5⟩:=cr G6;obtain⟨t3,t4,t5⟩:=cr z.tp;clear d0 d1 d2 a1 a2 a8 N p1 p2 G2 G3;have O7:=ad (λW=>yR W);go_wp2_with(first|(go_at_call 130;refine(O7 _).mono ?_;rintro e w7 ⟨r3,C0,rfl,G7,G8,G9,O8,f6⟩;have O9:=ad f6;have H0:QX (kV wc r3 [] w7):=⟨f6,G9,⟨C0,_,[],_,_,G7,λq=>⟨λe=>(by cases e),λe=>absurd rfl e⟩,λq e=>(by cases e),QE _,O8,λx e=>(by cases e)⟩,G8⟩;obtain⟨d0,d1,d2⟩:=kp f6 D d5;obtain⟨J,a1,a2⟩:=kp f6 A a5;obtain⟨N,p1,p2⟩:=kp f6 (A+1) p5;obtain⟨t0,t1,t2⟩:=kp f6 T t5;clear f6 G7 G8));obtain⟨C1,s3⟩:=ah L.length;rw[s3];have s4:=ad s3;have T8:C1<=2048:=by rw[<-s3];exact QD (jT L) (QD z.mi.2.2 b9.ring.2)
  clear s3;go_loopw [102] (λj7 wr=>∃i:Nat,i<=C1/\j7= ae i/\QX (kV wc r3 (cb (L.take i)) wr)) (λj7 _=>C1-(intOf j7).toNat)
  case atStart=>exact⟨0,QO _,rfl,H0⟩
  case round=>
   obtain⟨i,V1,rfl,M7⟩:=hrel;clear H0 O9 d0 d1 d2 J a1 a2 N p1 p2 t0 t1 t2;obtain⟨d9,rfl⟩:∃d9:QA,d9=wr:=⟨_,rfl⟩;have d:=M7.dA;obtain⟨d0,d1,d2⟩:=kp d D d5;obtain⟨J,a1,a2⟩:=kp d A a5;obtain⟨N,p1,p2⟩:=kp d (A+1) p5;obtain⟨t0,t1,t2⟩:=kp d T t5;by_cases j0:i<C1
   .obtain ⟨P,P0⟩:∃P,L[i]?=some P:=⟨_,QQ (by rw[s4.out];exact j0)⟩;have s5:=ad P0;obtain⟨H1,H8,U,v2⟩:=z.Qb;have C2:i<H1.length:=by rw[H8,RB,s4.out];exact j0
    obtain⟨f1,f2⟩:=rP Y H1 i H1[i] (QQ C2);have H9:=v2 i _ _ (by rw[RI,P0];rfl) (QQ C2);rw[RB,s4.out]at U;rcases U.2 with⟨-,e⟩|⟨R7,d6,T9,e1,-,C3,-,-,P1,I0⟩
    .omega
    cases e1;obtain⟨V2,I1⟩:=ah (H1[i] );rw[I1]at f2 H9;have P2:∀k v,k<C1*2->(jz Y H1)[k]?=some v->d9.cell? (ag R7 k)=some v:=λk v e0 e=>by rw[(kp d R7 (Z_ C3)).1 k,(cr C3).1 k,<-TU];rwa[<-I0,List.getElem?_take_of_lt e0]at e
    have x1:=P2 _ _ aa f1;have x2:=P2 _ _ aa f2;obtain⟨C4,C5,rfl,P3,v4⟩:=H9;obtain⟨v5,s6⟩:=ah ((bM P P.N).length);rw[s6]at x2 P3;have C6:=ad s6;have P4:=ad v4;have U0:v5<=1023:=by rw[<-s6,cU];exact(z.mi.1 i P s5).cy.2
    have j1:(i:Int)<(C1:Int):=aa;have j2:(0:Int)<=(i:Int):=aa;have I2:=ad j0;clear P2 f1 f2 v2 U C3 I0 v4 s6 I1 P0 j0 H8 C2 P1;go_wp2_with fail;obtain⟨w8,C7⟩:=ah (d9.alloc (ao #[.int .u64 ((Y:Int)+i),.slice C4 v5 C5] 204));rw[C7];have I3:QX (kV wc r3 (cb (L.take i)++(bM P P.N).take 0) w8):=by rw[List.take_zero,TZ,<-C7];exact M7.below (aK aj _)
    clear C7 d0 d1 d2 J a1 a2 N p1 p2 t0 t1 t2 x1 x2 d;go_loopw [109] (λj8 wr=>∃j:Nat,j<=v5/\j8= ae j/\QX (kV wc r3 (cb (L.take i)++(bM P P.N).take j) wr)) (λj8 _=>v5-(intOf j8).toNat)
    case atStart=>exact⟨0,QO _,rfl,I3⟩
    case round=>
     obtain⟨j,V3,rfl,M8⟩:=hrel;clear I3;obtain⟨i7,rfl⟩:∃i7:QA,i7=wr:=⟨_,rfl⟩;have d:=M8.dA;obtain⟨d0,d1,d2⟩:=kp d D d5;obtain⟨J,a1,a2⟩:=kp d A a5;obtain⟨N,p1,p2⟩:=kp d (A+1) p5;obtain⟨t0,t1,t2⟩:=kp d T t5;by_cases I4:j<v5
     .obtain ⟨p,g7⟩:∃p,(bM P P.N)[j]?=some p:=⟨_,QQ (by rw[C6.out];exact I4)⟩;rcases P4.out with e|⟨M9,P5,r0,V4,rfl,j9,I5⟩
      .rw [e]at g7;simp at g7
      obtain⟨e1,e2,v3,e3,C8⟩:=I5 j p g7;have s9:=kp d M9 (Z_ j9);have x1:i7.cell? ⟨M9,P5+j*3,none⟩=some (ae p.1):=by rw[s9.1,QS _ _ _ _ _ _ j9];exact e1
      have x2:i7.cell? ⟨M9,P5+j*3+1,none⟩=some (ae p.2.1):=by rw[s9.1,QS _ _ _ _ _ _ j9];exact e2
      have x3:i7.cell? ⟨M9,P5+j*3+2,none⟩=some v3:=by rw[s9.1,QS _ _ _ _ _ _ j9];exact e3
      have v6:p∈cb L:=qD (i:=i+1) (by rw[nb s5.out];exact YR _ (QV g7));obtain⟨r1,r2⟩:=F7 L p z.mi.1 z.mi.2.1 v6;obtain⟨C9,D0,P6⟩:=C8.eI.form;subst P6;have t6:=aY C8 g7 r1 r2;have D1:=ad (λW=>show aF 131 #[.agg #[ae g.M,ae g.c,ae g.s],ae p.1,ae p.2.1] W _ from Hu b9.cJ p.1 p.2.1 W r1 r2);obtain⟨P7,D2⟩:=ah p.1;obtain⟨P8,D3⟩:=ah p.2.1;rw[D2]at x1 D1;rw[D3]at x2 D1;have I6:=aB D2 D3;have j3:(j:Int)<(v5:Int):=aa;have j4:(0:Int)<=(j:Int):=aa;have I7:=ad I4;clear j9 I5 e1 e2 e3 C8 g7 v6 r1 r2 D2 D3 s9;go_wp2_with fail;obtain⟨w9,I8,t7,D4⟩:=qi i7 (ao #[ae P7,ae P8,.slice C9 128 D0] 206);rw[I8];obtain⟨X,D5⟩:=ah i7.heap.size;rw[D5]at D4;rw[D5];have D6:=aB t7 D5;obtain⟨y0,y1,y2⟩:=cr D4;obtain⟨y3,y4,y5⟩:=kp t7 A a2;obtain⟨y6,y7,y8⟩:=kp t7 (A+1) p2;have z5:w9.cell? (ag A 5)=some (ae g.M):=by rw[y3,J,a3];rfl
      have z6:w9.cell? (ag A 6)=some (ae g.c):=by rw[y3,J,a3];rfl
      have z7:w9.cell? (ag A 7)=some (ae g.s):=by rw[y3,J,a3];rfl
      have z8:w9.cell? ⟨A+1,0,none⟩=some (ar A):=by rw[y6,N,p3];rfl
      have z9:w9.cell? (ag X 0)=some (ae P7):=by rw[y0];rfl
      have U1:w9.cell? (ag X 1)=some (ae P8):=by rw[y0];rfl
      have U2:w9.cell? (ag X 2)=some (.slice C9 128 D0):=by rw[y0];rfl
      clear I8 t7 D4 D5 y0 y1 y3 y4 y6 y7 d0 d1 d2 J a1 a2 N p1 p2 t0 t1 t2 x1 x2 x3 d;go_region_held3(λE=>E.cell? ⟨A+1,0,none⟩=some (ar A)/\E.cell? (ag A 5)=some (ae g.M)/\E.cell? (ag A 6)=some (ae g.c)/\E.cell? (ag A 7)=some (ae g.s)/\E.cell? (ag X 0)=some (ae P7)/\E.cell? (ag X 1)=some (ae P8)) ((simp[*,go_sem];done)) (first
       |(go_at_call 131;refine(D1 _).mono ?_;rintro e O ⟨⟨x,y,rfl⟩,f8⟩;have n:aq w9 O:=by first|exact f8|exact via (cK aj _) f8
         obtain⟨k0,k1,k2⟩:=kp n A y5;obtain⟨k3,k4,k5⟩:=kp n (A+1) y8;obtain⟨k6,k7,k8⟩:=kp n X y2;have s:=ad n;clear f8 n))
      have I9:=ad (λW (G:aq w9 W)=>EJ (p:=p) (u:=.slice C9 128 D0) M8 (D6.1.trans (G.mono D6.1.size)) ((((t6.1.eI).below M8.dA).below D6.1).below G) (by have:=t6.2.2.1;omega) (by have:=t6.2.2.2;have:=aA.iJ b9.cJ;omega) (by
       have D7:=jB L;have h1:(cb (L.take i)).length+v5<=(cb L).length:=by
        have:=s5.out;have e1:=nb this;have e2:cb L=cb (L.take (i+1))++cb (L.drop (i+1)):=by
         conv=>lhs;rw[<-XA (i+1) L]
         unfold cb;rw[SH,ZM]
        rw[e2,e1,QU,QU,C6.out];omega
       have:=z.mi.2.2;have:=b9.ring.2;rw[QU,VD];omega))
      rw[I6.1,I6.2]at I9;go_wp2_with(first|(go_at_call 132;refine(I9 _ (by first|exact s|exact s.trans ((cK aj _).mono s.size))).mono ?_;rintro e f9 ⟨rfl,b3⟩;have a9:=ad b3;clear b3));have P9:(bM P P.N).take (j+1)=(bM P P.N).take j++ [p]:=by rw[UG,t6.2.1];rfl
      have Q0:QX (kV wc r3 (cb (L.take i)++(bM P P.N).take (j+1)) f9):=by rw[P9,<-SV];exact a9
      exact⟨⟨j+1,I7,by go_num,Q0⟩,by have:=I7.out;simp[intOf];omega⟩
     .obtain rfl:j=v5:=aa;have Q0:QX (kV wc r3 (cb (L.take (i+1))) i7):=by have:=M8.out;rw[<-C6.out,UB,<-nb s5.out]at this;exact this
      clear d0 d1 d2 J a1 a2 N p1 p2 t0 t1 t2 d;go_wp2_with fail;exact⟨⟨i+1,I2,by go_num,Q0⟩,by have:=I2.out;simp[intOf];omega⟩
   .obtain rfl:i=C1:=aa;have U3:QX (kV wc r3 (cb L) d9):=by have:=M7.out;rw[<-s4.out,UB]at this;exact this
    clear M7;go_wp2_with fail;obtain⟨d8,g0⟩:=ah (d9.setCell (ag A 14) (ar W));have D8:aX d9 A (ao (Mm B g (u.sl 0) g6 c none none) 120):=(d.block A a5).trans s2;have J0:aX d8 A (ao (Mm B g (u.sl 0) g6 c none (some (ag W 0))) 120):=by rw[<-g0];exact heap_setCell_same d9 A 14 _ 120 _ D8
    have J1:Fr [120] aG d9 d8:=by rw[<-g0];exact(Fr.refl [120] aG d9).set (p:=ag A 14) D8 rfl (QD (QD (by rw[f5.2];exact H) (QE _)) F.new.2.1) _
    have J2:Out (λk=>k=A) d9 d8:=by rw[<-g0];exact(Out.refl (λk=>k=A) d9).setCell (p:=ag A 14) (λ_=>rfl) _
    have Q1:d8.heap.size=d9.heap.size:=by rw[<-g0];exact RT _ _ _
    have t8:∀k o,k≠A->aX d9 k o->aX d8 k o:=λk o e0 e=>by rw[<-g0];exact(RJ d9 (ag A 14) k _ e0).trans e
    rw[g0];have M:=aY J0 J1 Q1 J2;have t9:=ad (t8 D _ n1 ((d.block D d5).trans z.d));have J3:=ad (t8 (A+1) _ aa ((d.block (A+1) p5).trans G6));have u0:=ad (t8 T _ (λe=>by have:=z.tp;rw[e,s2.out]at this;cases this) ((d.block T t5).trans z.tp));clear g0 D8 J0 J1 t8 J2 d0 d1 d2 J a1 a2 N p1 p2 t0 t1 t2;obtain⟨d0,d1,d2⟩:=cr t9;obtain⟨J,a1,a2⟩:=cr M.1;obtain⟨N,p1,p2⟩:=cr J3;obtain⟨t0,t1,t2⟩:=cr u0;have z0:d8.cell? ⟨A+1,0,none⟩=some (ar A):=N 0;have z1:d8.cell? (ag T 0)=some (ar W):=t0 0;have z2:d8.cell? (ag A 5)=some (ae g.M):=J 5;have z3:d8.cell? (ag A 6)=some (ae g.c):=J 6;have z4:d8.cell? (ag A 7)=some (ae g.s):=J 7;have z5:d8.cell? (ag A 9)=some (.bool u.lz):=J 9;have z6:d8.cell? (ag A 13)=some (.pointer none):=J 13;have z7:d8.cell? (ag D 0)=some (aH 0):=d0 0;have v7:aC d8 B b:=aC.fr (z.ct.below d) M.2.1 rfl λ_ _ h=>h.elim;have Q2:QX (∀V,aq d8 V->aF 57 #[ar B,.agg #[ae g.M,ae g.c,ae g.s],ar W,.bool u.lz] V (IA B (some (ag W 0)) g u.lz V)):=λV G=>zf B (some (ag W 0)) g u.lz b V (v7.below G) b9.cJ F2;have o1:¬T=A:=Hw u0 M.1 ai;have o2:¬A=T:=λe=>o1 e.symm;have o3:¬T=D:=Hw u0 t9 ai;have o4:¬D=T:=λe=>o3 e.symm;clear J N t0 d0;go_region_held3(λE=>E.cell? ⟨A+1,0,none⟩=some (ar A)/\E.cell? (ag T 0)=some (ar W)/\E.cell? (ag A 5)=some (ae g.M)/\E.cell? (ag A 6)=some (ae g.c)/\E.cell? (ag A 7)=some (ae g.s)/\E.cell? (ag A 9)=some (.bool u.lz)) ((simp[*,go_sem];done)) (first
     |(go_at_call 57;refine(Q2 _ bF).mono ?_;rintro e O ⟨R,v8,rfl,J4,J5,u1,f8⟩;have n:aq d8 O:=by first|exact f8|exact via bF f8
       obtain⟨k0,k1,k2⟩:=kp n A a2;obtain⟨k3,k4,k5⟩:=kp n (A+1) p2;obtain⟨k6,k7,k8⟩:=kp n T t2;obtain⟨k9,Q3,U4⟩:=kp n D d2;have s:=aY J4 J5 u1 n;clear f8 n J4 J5 u1))
    obtain⟨i8,e4⟩:=ah ((O.setCell (ag A 13) (ar R)).setCell (ag D 0) (aH 0));obtain⟨Z,N0⟩:∃Z:bm,Z=⟨A,B,R,W,r,v8,g6,u.N,u.lz⟩:=⟨_,rfl⟩;obtain⟨C,e5⟩:=ah (u.zw i6);have v9:Fr mO aG w O:=((((z.OE.then d).wide mO rfl).tr (M.2.1.wide mO rfl)).then s.2.2.2);have l0:=(s.2.2.2.block A a2).trans M.1;have w0:=(s.2.2.2.block D d2).trans t9;have e6:=heap_setCell_same O A 13 _ 120 (ar R) l0;have b5:=(RJ O (ag A 13) D (ar R) n1).trans w0;have u2:aX i8 A (ao (DF Z g C c true) 120):=by rw[<-e4,N0,<-e5];exact(RJ _ (ag D 0) A (aH 0) n2).trans e6
    have D9:aX i8 D (ao #[aH 0] 35):=by rw[<-e4];exact heap_setCell_same _ D 0 _ 35 _ b5
    have KL:∀k o,k≠A->k≠D->aX O k o->aX i8 k o:=λk o h1 h2 e=>by rw[<-e4];exact(RJ _ (ag D 0) k (aH 0) h2).trans ((RJ O (ag A 13) k _ h1).trans e)
    have l4:Fr [35,120] aG O i8:=by rw[<-e4];exact((Fr.refl [35,120] aG O).set (p:=ag A 13) l0 rfl (QD (by rw[f5.2];exact H) F.new.2.1) _).set (p:=ag D 0) b5 rfl H _
    have J6:Out (λk=>k=A\/k=D) O i8:=by rw[<-e4];exact((Out.refl (λk=>k=A\/k=D) O).setCell (p:=ag A 13) (λ_=>.inl rfl) _).setCell (p:=ag D 0) (λ_=>.inr rfl) _
    have J7:Fr mO aG w i8:=by rw[<-e4];exact(v9.new (p:=ag A 13) F.new.2.1 _).new (p:=ag D 0) F.new.1 _
    rw[e4];clear e4 l0 w0 e6 b5 v9;have u3:Lo.lo<=d8.heap.size:=QD H (TF d2);have E0:d8.heap.size<=R:=s.2.1;have E1:d8.heap.size<=v8:=s.2.2.1;have Q4:Lo.lo<=A:=QD (by rw[f5.2];exact H) F.new.2.1;have Q5:Lo.lo<=g6:=QD (by rw[f5.2];exact H) F.new.2.2.2;obtain⟨x,F8⟩:=ah (Hv b8 t Y u.N L);have E2:de i8 Z g ⟨b,x,⟨u.lz,λ_=>none,[],false⟩⟩ C true:=by
     subst N0;refine⟨⟨⟨c,F.cap,u2⟩,?_,Q4,Q5⟩,⟨s.1.fr l4 rfl rfl rfl rfl,aC.fr (v7.below s.2.2.2) l4 rfl λ_ _ h=>h.elim,?_,QD u3 E0,QD u3 E1⟩⟩
     .obtain ⟨r0,e1,e2⟩:=F.xu;refine⟨r0,l4.hp ((s.2.2.2.block _ ?_).trans (M.2.1.hp ((d.block _ (Z_ (z.bY.hp e1 rfl))).trans (z.bY.hp e1 rfl)) rfl)) rfl,λm C0=>by rw[e2 m C0,<-e5];rfl⟩;exact Z_ (M.2.1.hp ((d.block _ (Z_ (z.bY.hp e1 rfl))).trans (z.bY.hp e1 rfl)) rfl)
     .rw [<-F8];exact bH.fr (bH.fr (T:= []) (bH.fr (bH.fr (T:= []) z.kj (Fr.af d) rfl rfl rfl rfl) M.2.1 rfl rfl rfl rfl) (Fr.af s.2.2.2) rfl rfl rfl rfl) l4 rfl rfl rfl rfl
    have E3:C.ok g:=by rw[<-e5];exact Su.yf b9 F4
    have I:QX (Z.A=A/\Z.B=B/\Z.R=R/\Z.W=W/\Z.r=r/\Z.fb=v8/\Z.sb=g6/\Z.N=u.N/\Z.lz=u.lz):=by subst N0;exact⟨rfl,rfl,rfl,rfl,rfl,rfl,rfl,rfl,rfl⟩
    have R8:QX (aF 58 #[ar A] i8 (LG Z g (EV g C) i8)):=by have:=oc Z g _ C true i8 E2 E3;rw[I.1]at this;rw[<-e5];rw[<-e5]at this;exact this
    have r4:=aT E2 E3 e5;have u4:=ca u2 D9 KL J6 J7;have E4:=KL (A+1) _ aa aa ((s.2.2.2.block _ p2).trans J3);have J8:=KL T _ o1 o3 ((s.2.2.2.block _ t2).trans u0);have J9:=aB E4 J8;have e7:=aY u3 E0 E1 F8;obtain⟨c0,c1,c2⟩:=cr D9;obtain⟨c3,c4,c5⟩:=cr E4;obtain⟨c6,c7,c8⟩:=cr u2;have c9:i8.cell? (ag A 2)=some (bg u.ev):=by rw[c6,<-e5];rfl
    have U5:∀(R9:Fn) (first d6:Array QC) (w:QA),(Instr.makeFunc R9 first d6).run prog w=.ok (.func R9 first d6) w:=λ_ _ _ _=>rfl;clear E2 E3 u2 D9 KL J6 J7 E4 J8 u3 E0 E1 l4 F8 N0 e5 c6 k0 k1 k3 k4 k6 k7 k9 Q3 z0 z1 z2 z3 z4 z5 z6 z7;have e2:¬(4611686018427387904:Int)<=(u.ev:Nat):=aa;go_wp2_with fail;refine R8.mono ?_;rintro e f9 ⟨rfl,K0,g1⟩;have K1:d9.heap.size<=v8:=by have:=M.2.2.1;have:=e7.2.2.1;omega
    have K2:=d.size;have g2:Z.fb=v8:=I.2.2.2.2.2.1;rw[g2]at g1;have l5:∀k o,k<d9.heap.size->aX i8 k o->aX f9 k o:=λk o e0 e=>(g1.block k (Z_ e) aa).trans e;have b5:=l5 D _ aa u4.2.1;have e6:=l5 A _ aa u4.1;have x0:=l5 (A+1) _ aa J9.1;have x9:=l5 T _ aa J9.2;obtain⟨E5,Q6,Q7,S0,N1,Q8,K3,K4,y9,K5,U⟩:=U3.lift;have u5:=Q8.Me;have E6:∀k,LZ r3 E5 Q6 k->wc.heap.size<=k:=λk e0=>by
     rcases e0 with e|e|e
     .rw [e];exact G9
     .rw [e];exact K5
     .exact U k e
    have l6:bd f9 r3 E5 Q6 Q7 S0 N1:=by
     refine bd.out (bd.out (bd.below (bd.out Q8 M.2.2.2 aa aa (λk e0 e=>by have:=U k e0;omega) λk o e r5=>?_) s.2.2.2) u4.2.2.2.1 aa aa (λk e0 e=>by have:=U k e0;omega) λk o e r5=>?_) g1 (λe=>by have:=u5 _ (.inl rfl);omega) (λe=>by have:=u5 _ (.inr (.inl rfl));omega) (λk e0 e=>by have:=u5 _ (.inr (.inr e0));omega) λk o e r5=>?_
     .rw [e,(d.block A a5).trans s2.out]at r5;cases r5;exactλh=>absurd h (by show(120:Nat)≠5;decide)
     .rcases e with e|e
      .rw [e,(s.2.2.2.block A a2).trans M.1]at r5;cases r5;exactλh=>absurd h (by show(120:Nat)≠5;decide)
      .rw [e,(s.2.2.2.block D d2).trans t9.out]at r5;cases r5;exactλh=>absurd h (by show(35:Nat)≠5;decide)
     .have:=r4.1.rs.row.fJ;rw[g2]at this;rw[e,this]at r5;cases r5;exactλh=>absurd h (by show(3:Nat)≠5;decide)
    have D7:Q7.length<=2048:=by have:=jB L;have:=z.mi.2.2;have:=b9.ring.2;omega
    have A0:de f9 Z g ⟨b,x,EV g C⟩ C true:=by have b3:=r4.1;refine⟨lK.out b3.arr (by rw[g2];exact g1) b3.rs.row.fJ b3.rs.lo.2,?_⟩;exact cl.mark b3.rs K0 (by rw[g2];exact g1)
    have A1:Fr mO aG w f9:=u4.2.2.2.2.Mn g1 λk e0 e=>by have:=e7.2.2.1;have:=F.new;omega
    have A2:=ad (Kl r3 E5 Q6 Q7 S0 N1 f9 l6 aa λk e0=>by have:=E6 k e0;have:=H.out;omega);have a9:=KN A0 A1 K3 K4 y9 l6.mg E6 e6 K1;have i3:=aT b5 x0 x9;clear c0 c1 c2 c3 c4 c5 c7 c8 c9 K0 g1 l5 b5 e6 x0 x9 Q8 K3 K4 y9 K5 U u5 E6 l6 D7 A0 A1 g2 R8;obtain⟨d0,d1,d2⟩:=cr i3.1;obtain⟨N,p1,p2⟩:=cr i3.2.1;obtain⟨t0,t1,t2⟩:=cr i3.2.2;go_wp2_with fail;refine A2.mono ?_;rintro e g3 ⟨pv,l1,rfl,K6,u6,K7,i4⟩;obtain⟨C4,C5,Q9⟩:∃a c,pv=.slice a (l1.map (d' N1)).length c:=by obtain⟨a,c,h,-⟩:=u6.yz;exact⟨a,c,h⟩
    subst Q9;obtain⟨l,E7⟩:=ah (l1.map (d' N1));rw[E7]at u6|-;have l7:BQ (cb L) l:=by rw[<-E7];exact BQ.of a9.2.2.1 a9.2.2.2.1 a9.2.2.2.2.2.1 a9.2.2.2.2.1 K6
    have l8:=a9.1.fr i4 rfl;have A3:Fr mO aG w g3:=a9.2.1.Mn K7 λk e0 e=>by have:=a9.2.2.2.2.2.2.1 k e;have:=z.OE.size;omega
    have K8:QX (∀V,aq g3 V->aF 121 #[ar A] V (OW Z g ⟨b,x,EV g C⟩ C true V)):=λV G=>by have h0:=(R3 L l z.mi.1 z.mi.2.1 z.mi.2.2 l7).e1;rw[r4.2.2]at h0;have:=nE Z g ⟨b,x,EV g C⟩ C true V (l8.below G) r4.2.1 (by rw[<-r4.2.2];show u.ev<_;omega) (by rw[<-r4.2.2];exact i9) (M5.NM aa) F2 h0;rwa[I.1]at this
    obtain⟨X,D5⟩:=ah g3.heap.size;have K9:=QB g3 (ao #[.slice C4 l.length C5] 162);have g8:v8<g3.heap.size:=RL (by have:=Z_ a9.1.rs.row.fJ;rwa[I.2.2.2.2.2.1]at this) i4.size;have K:=nh l7 l8 A3 u6.yz D5 K9 g8;have b6:=aT (i4.hp i3.1 rfl) (i4.hp i3.2.1 rfl) (i4.hp i3.2.2 rfl);have A4:=aB F5 F6;have L0:QX (True/\cM b8 Y):=⟨trivial,i2⟩;clear d0 d1 d2 N p1 p2 t0 t1 t2 E7 l7 l8 A3 u6 K6 K7 i4 A2 K9 g8 D5 F5 F6 e2;obtain⟨d0,d1,d2⟩:=cr b6.1;obtain⟨N,p1,p2⟩:=cr b6.2.1;obtain⟨t0,t1,t2⟩:=cr b6.2.2;obtain⟨L1,L2⟩:=ah l.length;rw[L2]at K|-;go_wp2_with fail;refine(K8 _ (by first|exact aK aj _|exact aK (cK aj _) _)).mono ?_;rintro e l9 ⟨rfl,e8,g9⟩;obtain⟨i7,u7⟩:=ah (g3.alloc (ao #[.slice C4 L1 C5] 162));have g4:aq g3 i7:=by rw[<-u7];exact aK aj _
    rw[u7]at g9;have L3:aX i7 X (ao #[.slice C4 L1 C5] 162):=by rw[<-u7,<-K.2.2.2.2.1];exact K.2.2.2.2.2.1
    have g8:v8<X:=by rw[<-K.2.2.2.2.1];exact K.2.2.2.2.2.2
    have g2:Z.fb=v8:=I.2.2.2.2.2.1;have R0:=M.2.2.1;have u1:=a9.2.2.2.2.2.2.2.2;have K2:=d.size;have E8:=K.2.1.below g4;have d7:Fr eG aG i7 l9:=g9.a.wide E8.rs.row.fJ E8.rs.lo.2;have A5:Fr mO aG w l9:=(K.2.2.1.then g4).P' g9.a λk e0 e=>by have:=z.OE.size;omega
    have L4:e' l9 (.slice C4 L1 C5) l:=(K.2.2.2.1.fr (T:= []) (Fr.af g4) rfl rfl).fr d7 rfl rfl;have m0:=aY e8 A5 L4 (d7.hp L3 rfl);have b0:=aT (d7.hp ((g4.block D d2).trans b6.1) rfl) (d7.hp ((g4.block _ p2).trans b6.2.1) rfl) (d7.hp ((g4.block _ t2).trans b6.2.2) rfl);clear d0 d1 d2 N p1 p2 t0 t1 t2 u7 g4 L3 g8 g2 R0 u1 K2 E8 d7 A5 L4 e8 g9 K8;obtain⟨d0,d1,d2⟩:=cr b0.1;obtain⟨N,p1,p2⟩:=cr b0.2.1;obtain⟨t0,t1,t2⟩:=cr b0.2.2;have m7:∀l2:List Pt,l2.Perm l->Kj g C b l2 x:=λl2 g7=>by have:=R3 L l2 z.mi.1 z.mi.2.1 z.mi.2.2 (K.1.perm g7);rwa[r4.2.2,e7.2.2.2]at this
    have D7:L1<=2048:=by rw[<-L2];have:=K.1.len;have:=jB L;have:=z.mi.2.2;have:=b9.ring.2;omega
    have u8:Rm g u.N 9000 (Ml g C b).1:=M5.run (λa L5=>by
     obtain⟨k,-,rfl|rfl⟩:=gO L5
     .exact sO _ _ _
     .exact zb _) (by
     have:=lP b9.cJ C.tell g.M (QE _);unfold eX;simp only[QU,RB,SE,VW];omega)
    have e8:de l9 Z g ⟨(Ml g C b).1,x,cQ g C⟩ C.told true:=m0.1;have L6:QX (∀V,aq l9 V->aF 134 #[ar A,.func (.func 135) #[] #[.pointer (some ⟨A+1,0,none⟩),ar X]] V λe E=>aL e (.tuple #[])/\∃l2:List Pt,l2.Perm l/\de E Z g ⟨(KH g C b l2).1,x,cQ g C⟩ C.told true/\Fr TB aG V E):=λV G=>by have:=OB (c6:=A+1) (c18:=X) (pv:=.slice C4 L1 C5) (l:=l) (e8.below G) ((G.block _ p2).trans (by rw[I.1];exact b0.2.1)) ((G.block _ (Z_ m0.2.2.2)).trans m0.2.2.2) (m0.2.2.1.fr (T:= []) (Fr.af G) rfl rfl) b9.cJ u8.dC (λp g7=>F7 L p z.mi.1 z.mi.2.1 (K.1.mem g7)) K.1.mg aa (λm v C0 q0=>by have:=u8.mem m v C0 q0;omega) λl2 g7=>(m7 l2 g7).e2;rw[I.1]at this;exact this
    have L7:=ad m7;have L8:=ad u8;clear m7 u8 e8;go_wp2_with fail;rw[K.2.2.2.2.1];refine(L6 _ (by first|exact aj|exact cK aj _)).mono ?_;rintro e m8 ⟨rfl,l2,u9,A6,h6⟩;have i2:=L7.out l2 u9;have m9:Rm g u.N 6000 (KH g C b l2).1:=L8.run (λa L5=>gH a L5) (by rw[RB];have h1:(fK (cQ g C) l2).length<=l2.length:=VI _ _;have h2:=u9.length_eq;omega);have n0:cM (b8+1) (Y+L.length)/\Y+L.length<4500000000000000000:=by have h1:=A4.2;have h2:1<=Y:=L0.out.2.2.1;have h3:=jT L;have h4:=z.mi.2.2;have h5:=b9.ring.2;exact⟨⟨aa,aa,aa⟩,aa⟩
    have g5:x.ep=b8/\x.nx=Y+L.length/\x.bad=0/\x.sure=true/\x.N=u.N:=by rw[<-e7.2.2.2];exact⟨rfl,rfl,rfl,rfl,rfl⟩
    have L9:Fit g 0 ⟨(KH g C b l2).1,x,cQ g C⟩:=by
     refine⟨b9.cJ,m9.dC,λm v C0 q0=>?_,λv q0=>?_,g5.2.2.1,⟨?_,?_,?_⟩,QO _,λp g7=>(by cases g7),ZI⟩
     .have:=m9.mem m v C0 q0;exact⟨this.1,aa⟩
     .have:=m9.gB v q0;exact⟨by rw[g5.2.2.2.2];exact this.1,aa⟩
     .show x.ep+0<=_;rw[g5.1];have:=A4.2.1;omega
     .show 1<=x.nx;rw[g5.2.1];exact n0.1.2.1
     .show x.nx+0<=_;rw[g5.2.1];omega
    have o0:=h6.hp b0.1 rfl;have o5:=h6.hp b0.2.1 rfl;have o6:=h6.hp b0.2.2 rfl;have A7:Fr mO aG w m8:=m0.2.1.tr (h6.wide mO rfl);have M0:QX (∀V,aq m8 V->aF 134 #[ar A,.func (.func 137) #[ar R] #[]] V λe E=>aL e (.tuple #[])/\de E Z g ⟨(EW g C b l2).1,x,cQ g C⟩ C.told true/\Fr iN aG V E):=λV G=>by have:=OC (A6.below G) L9 i2.e3;rw[I.1,I.2.2.1]at this;exact this
    obtain⟨S1,E9,h8⟩:=A6.arr.aM;rw[I.1]at h8;have b4:=IG u9 i2 m9 n0 g5 A7 o0 o5 o6 h8;clear d0 d1 d2 N p1 p2 t0 t1 t2 u9 i2 m9 n0 g5 L9 A7 E9;obtain⟨d0,d1,d2⟩:=cr o0;obtain⟨N,p1,p2⟩:=cr o5;obtain⟨t0,t1,t2⟩:=cr o6;obtain⟨J,a1,a2⟩:=cr h8;have z0:m8.cell? ⟨A+1,0,none⟩=some (ar A):=N 0;have z1:m8.cell? (ag A 13)=some (ar R):=by rw[J,<-I.2.2.1];rfl
    clear N J d0 t0 o0 o5 o6 h8 L6 L7 L8;go_wp2_with fail;go_region_held3(λE=>E.cell? ⟨A+1,0,none⟩=some (ar A)/\E.cell? (ag A 13)=some (ar R)) ((simp[*,go_sem];done)) (first
     |(go_at_call 134;refine(M0 _ bF).mono ?_;rintro e o7 ⟨rfl,o8,F0⟩;have o9:Fr iN aG m8 o7:=by first|exact F0|exact(Fr.af (cK aj _)).tr F0
       have p6:=o9.hp b4.2.2.2.2.2.2.2.1 rfl;obtain⟨S2,p7,h9⟩:=o8.arr.aM;rw[I.1]at h9;obtain⟨k0,k1,k2⟩:=cr p6;obtain⟨k3,k4,k5⟩:=cr h9;have y0:o7.cell? ⟨A+1,0,none⟩=some (ar A):=k0 0;have y1:o7.cell? (ag A 13)=some (ar R):=by rw[k3,<-I.2.2.1];rfl
       have e9:=ca o8 o9 p6 p7 h9;clear k0 k3 F0 o9 o8 p6 h9 p7))
    have M1:Rm g u.N 5000 (EW g C b l2).1:=b4.2.2.1.run (λa L5=>xe a L5) (by rw[RB];have:=sG b9.cJ (cQ g C);omega);have f0:=e9.2.1.hp b4.2.2.2.2.2.2.2.2.1 rfl;have A8:=e9.2.1.hp b4.2.2.2.2.2.2.1 rfl;have A9:Fr mO aG w o7:=b4.2.2.2.2.2.1.tr (e9.2.1.wide mO rfl);have M2:QX (∀V,aq o7 V->aF 134 #[ar A,.func (.func 138) #[] #[.pointer (some ⟨A+1,0,none⟩),ar T]] V λe E=>aL e (.tuple #[])/\de E Z g ⟨(BS g C b l2 x).1,x.cz (b8+1),cQ g C⟩ C.told true/\Fr fV aG V E):=λV G=>by obtain⟨x1,x2,x3,x4,x5⟩:=b4.2.2.2.2.1;have:=OD (c6:=A+1) (c7:=T) (e9.1.below G) ((G.block _ (Z_ e9.2.2.1)).trans (by rw[I.1];exact e9.2.2.1)) ((G.block _ (Z_ f0)).trans (by rw[I.2.2.2.1];exact f0)) (by show g.M<(EW g C b l2).1.N;rw[M1.dC];omega) (by show cM (x.ep+1) x.nx;rw[x1,x2];exact b4.2.2.2.1.1) (λv q0=>by have:=M1.gB v q0;exact⟨by show 2+x.N<=_;rw[x5];exact this.1,aa⟩) x3 x4 b4.2.1.e4;rw[I.1]at this;rw[<-x1];exact this
    have F1:=aT f0 A8 A9;clear y0 y1 z0 z1 k1 k4 a1 p1 t1 d1 M0 A8;obtain⟨d0,d1,d3⟩:=cr F1.2.1;obtain⟨N,p1,p3⟩:=cr e9.2.2.1;obtain⟨t0,t1,t3⟩:=cr f0;clear f0 A9;go_wp2_with fail;refine(M2 _ (by first|exact aj|exact cK aj _)).mono ?_;rintro e v0 ⟨rfl,b1,i0⟩;have b7:=i0.hp F1.2.1 rfl;have B0:=i0.hp e9.2.2.1 rfl;have f4:Fr mO aG w v0:=F1.2.2.tr (i0.wide mO rfl);obtain⟨S3,p8,b2⟩:=b1.arr.aM;have Q:=b2;rw[I.1]at Q;obtain⟨y3,y4,y5⟩:=cr Q;obtain⟨y6,y7,y8⟩:=cr B0;obtain⟨x6,x7,x8⟩:=cr b7;have U6:=ca b1 p8 b2 f4 b7;have S4:v0.cell? (ag A 18)=some ec:=by rw[y3];rfl
    clear d0 d1 d3 N p1 p3 t0 t1 t3 b1 i0 f4 b2 Q p8 b7 B0 y3 M2;go_wp2_with fail;have i5:∃W,(v0.setCell (ag A 18) iL).setCell (ag D 0) (aH 0)=W:=⟨_,rfl⟩;obtain⟨W,i5⟩:=i5;obtain⟨b1,M3,b2,f4,b7⟩:=U6.out;have i1:=b1.set M3 b2 18 iL (u':=C.told) (yg':=false) rfl rfl;rw[I.1]at i1;have p9:=i1.2.1.hp b7 rfl;have B1:aX W D (ao #[aH 0] 35):=by rw[<-i5];exact heap_setCell_same _ _ _ _ _ _ p9
    have B2:Fr [35] aG (v0.setCell (ag A 18) iL) W:=by rw[<-i5];exact(Fr.refl _ _ _).set (p:=ag D 0) p9 rfl H _
    have B3:=i1.1.fr B2 rfl;have B4:Fr mO aG w W:=by have Q:=b2;rw[I.1]at Q;have:=f4.set (p:=ag A 18) Q rfl (by have:=b1.arr.lo.1;rwa[I.1]at this) iL;rw[<-i5];exact this.new (p:=ag D 0) (RN f5.2) _
    have c0:W.cell? (ag D 0)=some (aH 0):=(cr B1).1 0;have M4:Kk B b g (u.zw i6) S b8 t Y w (.returned (.tuple #[ar A,aH 0])) W:=by
     have F2:C.N=u.N:=by rw[<-r4.2.2];rfl
     have v1:C.lz=u.lz:=by rw[<-r4.2.2];rfl
     rw[r4.2.2];unfold Kk;rw[F2,v1];refine⟨Z,L,l2,by rw[I.1],I.2.1,I.2.2.2.2.2.2.2.1,I.2.2.2.2.2.2.2.2,z.mi.1,z.mi.2.1,z.mi.2.2,K.1.perm (by first|exact b4.1|exact b4.1.symm),?_,B4⟩;rw[show(Hv b8 t Y u.N L)=x from e7.2.2.2];exact B3
    clear i1 p9 B1 B2 B3 B4 b1 b2 f4 b7 M3;rw[i5];refine WZ (f:=98) (args:= #[ar D]) aJ (by simp[go_sem]) ?_;refine(cY (ag D 0) _).mono ?_;rintro e u' U7 ⟨rfl,rfl,R1⟩;rw[R1];simp[Leaves,settle,RP,results72,go_sem,c0];exact M4
section
def Dk.nK(d:Dk)(a:Nat)(P:(Nat->Nat)->Prop):Prop:=P (d.gn a)/\∀i,i<d.cn->d.cat i=a->P (d.bV i)
variable {d:Dk} {a b:Nat} {P Q:(Nat->Nat)->Prop} {f:aN}
theorem Dk.nK.mono(h:d.nK a P)(q:∀f,P f->Q f):d.nK a Q:=⟨q _ h.1,λi c e=>q _ (h.2 i c e)⟩
theorem Dk.nK.view(h:d.nK a P):P (d.view a):=by
 rcases d.pB a with e|⟨i,c,g,e⟩
 .rw [e];exact h.1
 .rw [e];exact h.2 i c g
theorem Dk.nK.wr(h:d.nK a P)(e:a=b->P f):(d.wr b f).nK a P:=by
 refine⟨h.1,λi g j=>?_⟩;have k:i<d.cn+1:=g;have c:(if i=d.cn then b else d.cat i)=a:=j;show P (if i=d.cn then f else d.bV i);by_cases q:i=d.cn
 .rw [ak q]at c|-;exact e c.symm
 .rw [al q]at c|-;exact h.2 i J c
theorem Dk.nK.clean(c:d.cn=0)(h:P (d.view a)):d.nK a P:=⟨by rw[<-Dk.hS c];exact h,λi e=>J⟩
theorem Dk.nK.fl(h:P (d.view a)):(d.settled λ_=>true).nK a P:=⟨by rw[Dk.jw];exact h,λi c=>absurd c (RQ _)⟩
theorem nL{g:dp}{cat:aN}{c:dp}{kp:Nat->Bool}(h:P (g a)):∀n,(∀i,i<n->cat i=a->P (c i))->P (bJ g cat c kp n a)
 |0,_=>h
 |n+1,j=>by
  have k:=nL (kp:=kp) h n λi l=>j i J;unfold bJ;split
  .show P (if a=cat n then c n else bJ g cat c kp n a);split
   .exact j n (TI n) (by rename_i e;exact e.symm)
   .exact k
  .exact k
theorem Dk.nK.cut(h:d.nK a P)(kp:Nat->Bool):P ((d.settled kp).view a):=by rw[Dk.hS rfl];exact nL h.1 _ h.2
def JD(N t:Nat)(M W:Nat->(Nat->Nat)->Prop)(d:Dk):Prop:=∀q,q<N->d.nK (2+(t+q)%N) (M q)/\W q (d.view (2+(t+q)%N))
variable {N t:Nat} {M W M' W':Nat->(Nat->Nat)->Prop}
theorem EX{x y:Nat}(i:x<N)(j:y<N)(e:(t+x)%N=(t+y)%N):x=y:=by
 have c:=WN (t+x) N;have k:=WN (t+y) N;rw[e]at c;have g:(t+x)/N=(t+y)/N:=by
  rcases Nat.lt_trichotomy ((t+x)/N) ((t+y)/N)with h|h|h
  .have:=ZR N (show(t+x)/N+1<=(t+y)/N by omega);rw[Nat.mul_succ]at this;omega
  .exact h
  .have:=ZR N (show(t+y)/N+1<=(t+x)/N by omega);rw[Nat.mul_succ]at this;omega
 rw[g]at c;omega
theorem JD.mono(h:JD N t M W d)(e:∀q f,q<N->M q f->M' q f)(g:∀q f,q<N->W q f->W' q f):JD N t M' W' d:=λq c=>⟨(h q c).1.mono λf=>e q f c,g q _ c (h q c).2⟩
theorem JD.wr(h:JD N t M W d){c:Nat}(i:c<N)(l:∀q f,q<N->M q f->M' q f)(m:M' c f)(n:∀q f,q<N->q≠c->W q f->W' q f)(j:W' c f):JD N t M' W' (d.wr (2+(t+c)%N) f):=λq g=>by
 have e:2+(t+q)%N=2+(t+c)%N->q=c:=λe=>EX (t:=t) g i J;refine⟨((h q g).1.mono λf=>l q f g).wr λk=>by rw[e k];exact m,?_⟩;rw[Dk.eU];by_cases q:q=c
 .rw [q,ak rfl];exact j
 .rw [al λk=>q (e k)];exact n _ _ g q (h _ g).2
theorem JD.else(h:JD N t M W d)(g:a<2):JD N t M W (d.wr a f):=λq c=>by refine⟨(h q c).1.wr λe=>J,?_⟩;rw[Dk.eU,al J];exact(h q c).2
theorem Dk.mf(d:Dk)(a:Nat):(d.settled λ_=>true).view a=d.view a:=by rw[Dk.hS rfl,Dk.jw]
theorem JD.fl(h:JD N t M W d):JD N t W W (d.settled λ_=>true):=λq c=>⟨.fl (h q c).2,by rw[Dk.mf];exact(h q c).2⟩
theorem JD.mz{P W:(Nat->Nat)->Prop}(h:JD N t (λ_=>P) (λ_=>W) d)(i:t<N){c:Nat}:JD N c (λ_=>P) (λ_=>W) d:=λq j=>by
 have g:(c+q)%N<N:=SC _ J;generalize (c+q)%N=p at g;by_cases e:t<=p
 .have:=h (p-t) J;rwa[show t+(p-t)=p by omega,SA g]at this
 .have:=h (p+N-t) J;rwa[show t+(p+N-t)=p+N by omega,Nat.add_mod_right,SA g]at this
structure kx(n:Nat)(f:aN):Prop where
 hd:∀h:Hd,h.ok->aD f h.enc->h.sq<n
 cm:∀h:Cm,h.ok->aD f h.enc->h.sq<n
theorem kx.mono{n c:Nat}(h:kx n f)(e:n<=c):kx c f:=⟨λx a b=>RL (h.hd x a b) e,λx a b=>RL (h.cm x a b) e⟩
theorem kx.congr{n:Nat}{c:aN}(h:kx n f)(e:aD f c):kx n c:=⟨λx a b=>h.hd x a (e.trans b),λx a b=>h.cm x a (e.trans b)⟩
theorem rR{c:Nat}(h:gN c f):hE f=true:=rJ h.Iv
theorem yh{h:Hd}(e:aD f h.enc):gN 1 f:=gN.of ai (λk=>lj _ _ _ _ _ _ k) e
theorem yi{h:Cm}(e:aD f h.enc):gN 2 f:=gN.of ai (λk=>cW (cI _) (cI _) k) e
theorem kx.plain{n:Nat}(h:hE f=false):kx n f:=
 ⟨λx _ b=>(Bool.noConfusion (h.symm.trans (rR (yh b)))),λx _ b=>(Bool.noConfusion (h.symm.trans (rR (yi b))))⟩
theorem kx.nC{n:Nat}(f:aN):kx n (eh f):=.plain<|by
 rcases vB f with⟨_,h⟩|⟨_,h⟩
 .exact h
 .unfold xR at h;unfold hE;simp only[decide_eq_true_eq,decide_eq_false_iff_not]at h|-;omega
theorem kx.head{n:Nat}{h:Hd}(c:h.ok)(e:h.sq<n):kx n h.enc:=
 ⟨λx a b=>by rw[<-Hd.cG a b,Hd.cG c (aD.refl _)];exact e,λx _ b=>absurd ((yh (aD.refl h.enc)).kind.symm.trans (yi b).kind) ai⟩
theorem kx.sZ{n:Nat}{h:Cm}(c:h.ok)(e:h.sq<n):kx n h.enc:=
 ⟨λx _ b=>absurd ((yi (aD.refl h.enc)).kind.symm.trans (yh b).kind) ai,λx a b=>by rw[<-Cm.cG a b,Cm.cG c (aD.refl _)];exact e⟩
structure nY(P:bW):Prop where
 ok:P.ok
 n:1<=P.N/\P.N<=1023
theorem nY.vY{P:bW}(h:nY P){e c n j:Nat}(g:cM e c)(i:c<n)(k:j<=2*P.N):kx n (bh e c P j):=by
 unfold bh;split
 .exact kx.sZ (h:=⟨e,c,P.N,fE e c P P.N⟩) ⟨g,h.n,ln e c P P.N⟩ i
 .split
  .exact kx.head (h:=kS e c P (j/2)) (en h.ok g h.n J) i
  .exact kx.nC _
structure BB(P Q:bW):Prop where
 n:P.N=Q.N
 at_:∀i,i<P.N->P.me i=Q.me i/\P.row i=Q.row i/\aD (P.da i) (Q.da i)
theorem Mo{f h:aN}(e:hE f=hE h)(j:aD (eh f) (eh h)):aD f h:=λk l=>by
 have:=j k l;unfold eh at this;rw[e]at this;by_cases c:hE h=true/\k<4
 .have g:=e.trans c.1;have i:=c.1;unfold hE at g i;simp only[decide_eq_true_eq]at g i;have:k=0\/k=1\/k=2\/k=3:=J;rcases this with rfl|rfl|rfl|rfl<;>omega
 .rwa [al c,al c]at this
theorem bL.uniq{F:dp}{j k c:Nat}{P Q:bW}(h:bL F j k c P)(g:bL F j k c Q):BB P Q:=by
 have l:∀i,i<P.N->i<Q.N->kS j k P i=kS j k Q i:=λi a b=>by rw[<-Hd.cG (en h.ok h.c h.cy a) (h.head a),Hd.cG (en g.ok g.c g.cy b) (g.head b)]
 have n:P.N=Q.N:=congrArg Hd.cy (l 0 h.cy.1 g.cy.1);refine⟨n,λi m=>?_⟩;have e:=l i m J;exact⟨congrArg Hd.me e,congrArg Hd.row e,Mo (congrArg Hd.nC e) ((h.data m).symm.trans (g.data J))⟩
theorem EY{F:dp}{l k j c:Nat}(h:∀x:Hd,x.ok->aD (F 0) x.enc->x.sq=k->x.cy=c)(m:2*c+1<=j->kx k (F (2*c)))(P:bW):¬bL F l k j P:=λg=>by have e:P.N=c:=h _ (en g.ok g.c g.cy (i:=0) g.cy.1) (g.head g.cy.1) rfl;have:=(m (by rw[<-e];exact g.room)).cm ⟨l,k,P.N,fE l k P P.N⟩ ⟨g.c,g.cy,ln l k P P.N⟩ (by rw[<-e];exact g.sZ);exact TL _ this
theorem zx{F:dp}{j g c:Nat}(h:1<=c->kx g (F 0))(P:bW):¬bL F j g c P:=λe=>
 TL _ ((h (by have:=e.room;omega)).hd _ (en e.ok e.c e.cy (i:=0) e.cy.1) (e.head e.cy.1))
end
section
def g'(ep:Nat):Nat->List bW->Nat->Nat->Nat
 |_,[],_=>zB
 |sq,P::l,q=>if q<=2*P.N then bh ep sq P q else g' ep (sq+1) l (q-(2*P.N+1))
theorem eY{ep:Nat}{P:bW}{j:Nat}(a:j<=2*P.N):∀{L:List bW} {sq i:Nat},L[i]?=some P->g' ep sq L (bj (L.take i)+j)=bh ep (sq+i) P j
 | [],_,_,h=>by simp at h
 |Q::l,sq,0,h=>by simp at h;subst h;show(if 0+j<=2*Q.N then bh ep sq Q (0+j)else _)=_;rw[RE,ak a];rfl
 |Q::l,sq,i+1,h=>by show(if 2*Q.N+1+bj (l.take i)+j<=2*Q.N then _ else g' ep (sq+1) l (2*Q.N+1+bj (l.take i)+j-(2*Q.N+1)))=_;rw[al J,show 2*Q.N+1+bj (l.take i)+j-(2*Q.N+1)=bj (l.take i)+j by omega,eY a (sq:=sq+1) (show l[i]?=some P from h),show sq+1+i=sq+(i+1)by omega]
theorem nc{L:List bW}{P:bW}{i:Nat}(h:L[i]?=some P):bj (L.take (i+1))=bj (L.take i)+(2*P.N+1):=by rw[UG,h];exact iA _ _
theorem Hx(L:List bW)(i:Nat):bj (L.take i)<=bj L:=by have:=iz (L.take i) (L.drop i);rw[XA]at this;omega
theorem ha:∀{L:List bW} {q:Nat},q<bj L->∃i P j,L[i]?=some P/\j<=2*P.N/\q=bj (L.take i)+j
 | [],_,h=>absurd h (RQ _)
 |P::l,q,h=>by
  by_cases e:q<=2*P.N
  .exact ⟨0,P,q,rfl,e,by show q=0+q;omega⟩
  .have c:bj (P::l)=2*P.N+1+bj l:=rfl;obtain⟨i,Q,j,a,b,d⟩:=ha (L:=l) (q:=q-(2*P.N+1)) J;exact⟨i+1,Q,j,a,b,by show q=2*P.N+1+bj (l.take i)+j;omega⟩
variable {S:dp} {N ep t sq:Nat} {L L':List bW}
theorem kW(S:dp)(N t a j:Nat):Bm S N ((t+a)%N) j=S ((t+(a+j))%N):=by unfold Bm;rw[Nat.mod_add_mod,UP]
theorem pU.of(c:∀P,P∈L->nY P)(d:∀i,i<L.length->cM ep (sq+i))(g:bj L<=N)(h:∀q,q<bj L->aD (S ((t+q)%N)) (g' ep sq L q)):pU S N ep t sq L:=λi P a=>by have k:=nc a;have l:=Hx L (i+1);have e:i<L.length:=(QR.1 a).1;have b:=c P (QV a);refine⟨b.ok,b.n,d i e,J,λj f=>?_⟩;rw[kW,<-eY f a];exact h _ J
theorem pU.uniq(h:pU S N ep t sq L)(o:l_ S N ep t sq L)(l:pU S N ep t sq L')(g:l_ S N ep t sq L'):dY BB L L':=by
 have b:∀i,i<=L.length->i<=L'.length->bj (L.take i)=bj (L'.take i)/\∀k P Q,k<i->L[k]?=some P->L'[k]?=some Q->BB P Q:=by
  intro i;induction i with
  |zero=>exactλ_ _=>⟨rfl,λk P Q m=>absurd m (RQ _)⟩
  |succ i p=>
   intro u v;obtain⟨e,q⟩:=p J J;have j:L[i]?=some L[i]:=QQ J;have d:L'[i]?=some L'[i]:=QQ J;have r:=h i _ j;have a:=l i _ d;rw[<-e]at a;have n:=r.uniq a;refine⟨by rw[nc j,nc d,e,n.n],λk P Q m x y=>?_⟩;by_cases s:k=i
   .subst s;rw[j]at x;rw[d]at y;cases x;cases y;exact n
   .exact q k P Q J x y
 have f:L.length=L'.length:=by
  rcases Nat.lt_trichotomy L.length L'.length with c|c|c
  .have d:L'[L.length]?=some L'[L.length]:=QQ c;have a:=l _ _ d;rw[<-(b L.length (QE _) J).1,UB]at a;exact absurd a (o _)
  .exact c
  .have d:L[L'.length]?=some L[L'.length]:=QQ c;have a:=h _ _ d;rw[(b L'.length J (QE _)).1,UB]at a;exact absurd a (g _)
 exact⟨f,λi P Q x y=>(b L.length (QE _) J).2 i P Q (QR.1 x).1 x y⟩
def OF(p q:Pt):Prop:=gq p=gq q/\aD p.2.2 q.2.2
def Pm:Option (Nat->Nat)->Option (Nat->Nat)->Prop
 |some f,some h=>aD f h
 |none,none=>True
 |_,_=>False
theorem nM:∀{c d:List Pt} (_:dY OF c d) (x:Nat × Nat),Pm (bx c x) (bx d x)
 | [],[],_,_=>trivial
 | [],_::_,h,_=>absurd h.1 aJ
 |_::_,[],h,_=>absurd h.1 aJ
 |p::c,q::d,h,x=>by
  obtain⟨f,g⟩:=h.tail;have e:=nM g x;unfold bx;cases a:bx c x<;>cases b:bx d x<;>rw[a,b]at e
  .show Pm (if gq p=x then some p.2.2 else none) (if gq q=x then some q.2.2 else none);rw[f.1];split
   .exact f.2
   .trivial
  .exact e.elim
  .exact e.elim
  .exact e
theorem dY.app{α β:Type}{P:α->β->Prop}{a f:List α}{b g:List β}(h:dY P a b)(j:dY P f g):dY P (a++f) (b++g):=by
 refine⟨by rw[QU,QU,h.1,j.1],λi x y c d=>?_⟩;by_cases e:i<a.length
 .rw [RD e]at c;rw[RD (by rw[<-h.1];exact e)]at d;exact h.2 i x y c d
 .rw [RA J]at c;rw[RA (by rw[<-h.1];omega),<-h.1]at d;exact j.2 _ x y c d
theorem BB.Qc{P Q:bW}(h:BB P Q):dY OF (bM P P.N) (bM Q Q.N):=by
 refine⟨by rw[cU,cU,h.n],λi x y d e=>?_⟩;have f:i<P.N:=by have:=(QR.1 d).1;rwa[cU]at this
 have g:i<Q.N:=by rw[<-h.n];exact f
 unfold bM at d e;rw[RI,SF f,QY]at d;rw[RI,SF g,QY]at e;cases d;cases e;obtain⟨a,b,c⟩:=h.at_ i f;exact⟨by show(P.me i,P.row i)=(Q.me i,Q.row i);rw[a,b],c⟩
theorem p':∀{L L':List bW},dY BB L L'->dY OF (cb L) (cb L')
 | [],[],_=>⟨rfl,λi x y a=>by simp[cb]at a⟩
 | [],_::_,h=>absurd h.1 aJ
 |_::_,[],h=>absurd h.1 aJ
 |P::l,Q::d,h=>by obtain⟨b,c⟩:=h.tail;exact b.Qc.app (p' c)
theorem jU:∀(b a:List Pt) (x:Nat × Nat),bx (b++a) x=match bx a x with|some f=>some f|none=>bx b x
 | [],a,x=>by show bx a x=_;cases bx a x<;>rfl
 |p::b,a,x=>by show(match bx (b++a) x with|some f=>some f|none=>if gq p=x then some p.2.2 else none)=_;rw[jU b a x];cases bx a x<;>rfl
end
section
abbrev cp:=Nat->Nat->Nat->Nat
structure Cp where
 t:Nat
 K:(Nat->Nat)->Prop
 KW:(Nat->Nat)->Prop
 M:Nat->(Nat->Nat)->Prop
 W:Nat->(Nat->Nat)->Prop
 k_:Nat->Nat->Prop
 V:cp
structure Km(g:aA)(u:Su)(c:Cp)(k:Nat)(d:Dk):Prop where
 sup:d.nK 0 fun f=>aD f (fZ g (u.sl k))
 row:∀r,r<g.R->¬c.k_ k r->d.nK (1+r) fun f=>aD f (c.V k r)
structure Qd(g:aA)(u:Su)(N:Nat)(c:Cp)(d:Dk):Prop where
 sup:d.nK 0 fun f=>aD f (fZ g (u.sl g.M))
 ck:d.nK 1 c.K
 kw:c.KW (d.view 1)
 ring:JD N c.t c.M c.W d
def CQ(g:aA)(u:Su)(N:Nat)(c:Cp)(k:Nat)(d:Dk):Prop:=(k<g.M->Km g u c k d)/\(k=g.M->Qd g u N c d)
structure Fd(g:aA)(N ep:Nat)(Vs:cp->Prop)(c:Cp)(f:aN)(S:dp)(t sq:Nat)(L:List bW)(V:cp):Prop where
 ck:aD f (aV ep sq t)
 tN:t<N
 cn:cM ep sq
 mi:pU S N ep t sq L
 BC:l_ S N ep t sq L
 used:bj L<=N
 lim:ep<4000000000000000000/\sq+L.length<4000000000000000000
 vs:Vs V
 gq:∀p,p∈cb L->p.1<g.M/\p.2.1<g.R
 val:∀m r f,bx (cb L) (m,r)=some f->aD f (V m r)
 vY:∀m r,m<g.M->r<g.R->bx (cb L) (m,r)=none->¬c.k_ m r/\aD (c.V m r) (V m r)
def Yl(g:aA)(N a:Nat)(Vs:cp->Prop)(c:Cp):Prop:=c.t<N/\∀f S,c.K f->(∀q,q<N->c.M q (S ((c.t+q)%N)))->∃t sq L V,Fd g N a Vs c f S t sq L V
def Can(g:aA)(u:Su)(N a:Nat)(Vs:cp->Prop)(b:By):Prop:=∃c,tt none (CQ g u N c) b/\Yl g N a Vs c
structure Jl(g:aA)(N sq:Nat)(x:Wl)(L:List bW)(Vp V:cp):Prop where
 n:x.N=N
 t:x.t<N
 u:x.u=bj L
 uN:x.u<=N
 nx:x.nx=sq+L.length
 c:cM x.ep x.nx
 lim:x.ep<4000000000000000000/\x.nx<4000000000000000000
 sq:1<=sq
 pk:∀P,P∈L->nY P
 pl:∀p,p∈cb L->p.1<g.M/\p.2.1<g.R
 val:∀m r f,bx (cb L) (m,r)=some f->aD f (V m r)
 sure:x.sure=true->Vp=V
 tail:x.sure=false->∃L' T,L=L'++ [T]/\(∀m r f,bx (cb L') (m,r)=some f->aD f (Vp m r))/\∀m r,m<g.M->r<g.R->bx (bM T T.N) (m,r)=none->aD (Vp m r) (V m r)
def Mp(x:Wl)(sq:Nat)(L:List bW)(P:bW)(q:Nat)(f:aN):Prop:=
 if q<x.u then aD f (g' x.ep sq L q)\/(x.sure=false/\q+1=x.u/\kx (x.nx-1) f)else kx x.nx f\/(q<x.u+2*P.N/\aD f (bh x.ep x.nx P (q-x.u)))
def Wp(x:Wl)(sq:Nat)(L:List bW)(P:bW)(j q:Nat)(f:aN):Prop:=
 if q<x.u then aD f (g' x.ep sq L q)else if q<x.u+j then aD f (bh x.ep x.nx P (q-x.u))else kx x.nx f
def th(x:Wl)(L:List bW)(m r:Nat):Prop:=bx (cb (if x.sure=true then L else L.dropLast)) (m,r)≠none
def qa(x:Wl)(sq:Nat)(L:List bW)(P:bW)(j:Nat)(Vp:cp):Cp:=⟨x.t,λf=>aD f (aV x.ep sq x.t),λf=>aD f (aV x.ep sq x.t),Mp x sq L P,Wp x sq L P j,th x L,Vp⟩
variable {g:aA} {u:Su} {N sq:Nat} {x:Wl} {L:List bW} {Vp V:cp} {Vs:cp->Prop} {S:dp} {P:bW}
theorem cM.le{a n k:Nat}(h:cM a n)(b:1<=k)(c:k<=n):cM a k:=⟨h.1,b,QD c h.2.2⟩
theorem jV(L:List bW)(T:bW):(L++ [T]).dropLast=L:=aJ
theorem Jl.vY(h:Jl g N sq x L Vp V){q:Nat}{f:aN}(a:Mp x sq L P q f)(c:q<x.u):kx x.nx f:=by
 unfold Mp at a;rw[ak c]at a;rcases a with a|⟨-,-,a⟩
 .obtain ⟨i,Q,j,b,d,rfl⟩:=ha (L:=L) (by rw[<-h.u];exact c);rw[eY d b]at a;have e:i<L.length:=(QR.1 b).1;have:=h.nx;have:=h.sq;exact((h.pk Q (QV b)).vY (h.c.le J J) (show sq+i<x.nx by omega) d).congr a.symm
 .exact a.mono (Nat.sub_le _ _)
theorem Jl.BC(h:Jl g N sq x L Vp V)(l:P.N=0\/nY P)(i:P.N≠0->x.u+2*P.N+1<=N)(e:∀q,q<N->Mp x sq L P q (S ((x.t+q)%N))):l_ S N x.ep x.t sq L:=by
 intro Q;rw[<-h.u,<-h.nx];by_cases b:P.N=0
 .refine zx (λm=>?_) Q;rw[kW];have:=e (x.u+0) J;unfold Mp at this;rw[al J]at this;rcases this with a|⟨a,-⟩
  .exact a
  .omega
 .have d:=l.resolve_left b;have i:=i b;refine EY (c:=P.N) (λy j f o=>?_) (λ_=>?_) Q
  .rw [kW]at f;have:=e (x.u+0) J;unfold Mp at this;rw[al J]at this;rcases this with a|⟨-,a⟩
   .exact absurd (a.hd y j f) J
   .have n:aD (kS x.ep x.nx P 0).enc y.enc:=by
     have k:=a.symm.trans f;rw[show x.u+0-x.u=2*0 by omega,mq _ _ _ _ d.n.1]at k;exact k
    have:=(Hd.cG (en d.ok h.c d.n d.n.1) (aD.refl _)).symm.trans (Hd.cG j n);rw[<-this];rfl
  .rw [kW];have:=e (x.u+2*P.N) J;unfold Mp at this;rw[al J]at this;rcases this with a|⟨a,-⟩
   .exact a
   .omega
theorem nY.Qe(h:nY P){a sq:Nat}(c:cM a sq){f:aN}(d:aD f (bh a sq P 0)){y:Hd}(e:y.ok)(i:aD f y.enc):y.cy=P.N:=by have b:=d.symm.trans i;rw[show(0:Nat)=2*0 by omega,mq _ _ _ _ h.n.1]at b;have:=(Hd.cG (en h.ok c h.n h.n.1) (aD.refl (kS a sq P 0).enc)).symm.trans (Hd.cG e b);rw[<-this];rfl
theorem Jl.yl(h:Jl g N sq x L Vp V)(Z:P.N=0\/nY P)(B:P.N≠0->x.u+2*P.N+1<=N)(j:Nat)(H:Vs V)(C:x.sure=false->Vs Vp):Yl g N x.ep Vs (qa x sq L P j Vp):=by
 refine⟨h.t,λf S K A=>?_⟩;have a3:=h.u;have D:=h.nx;have M:=h.sq;have R:=h.uN;have l:∀i,i<L.length+1->cM x.ep (sq+i):=λi O=>h.c.le aa aa;by_cases E:(∀q,q<x.u->aD (S ((x.t+q)%N)) (g' x.ep sq L q))
 .refine ⟨x.t,sq,L,V,K,h.t,l 0 aa,pU.of h.pk (λi O=>l i aa) aa (λq n=>E q aa),h.BC Z B A,aa,by have:=h.lim;omega,H,h.pl,h.val,λm r I B o=>?_⟩;cases d:x.sure with
  |true=>refine⟨?_,by rw[show(qa x sq L P j Vp).V=Vp from rfl,h.sure d];exact aD.refl _⟩;show¬th x L m r;unfold th;rw[d,ak rfl];exactλa=>a o
  |false=>
   obtain⟨k,T,rfl,U,W⟩:=h.tail d;rw[gC,jU]at o;cases v:bx (bM T T.N) (m,r)with
   |some f=>rw[v]at o;cases o
   |none=>rw[v]at o;refine⟨?_,W m r I B v⟩;show¬th x _ m r;unfold th;rw[d,al ai,jV];exactλa=>a o
 .
  have d:x.sure=false:=by
   cases d:x.sure with
   |false=>rfl
   |true=>refine absurd (λq n=>?_) E;have:=A q aa;simp only[qa,Mp,ak n,d]at this;exact this.resolve_right λa=>by simp at a
  obtain⟨k,T,rfl,U,W⟩:=h.tail d;have Y:=iA k T;rw[QU,List.length_singleton]at D l;have s:∀q,q+1<x.u->aD (S ((x.t+q)%N)) (g' x.ep sq (k++ [T]) q):=λq n=>by have:=A q aa;simp only[qa,Mp,ak (show q<x.u by omega)]at this;exact this.resolve_right λa=>aa
  have v:=h.pk T (YR _ (SM.2 rfl));have w:kx (x.nx-1) (S ((x.t+(x.u-1))%N)):=by
   have:=A (x.u-1) aa;simp only[qa,Mp,ak (show x.u-1<x.u by omega)]at this;refine(this.resolve_left λa=>E λq n=>?_).2.2;by_cases e:q+1<x.u
   .exact s q e
   .rwa [show q=x.u-1 by omega]
  have F:∀i Q,k[i]?=some Q->(k++ [T])[i]?=some Q:=λi Q n=>by rw[RD (QR.1 n).1];exact n
  have t:∀q,q<bj k->g' x.ep sq (k++ [T]) q=g' x.ep sq k q:=λq n=>by obtain⟨i,Q,j,a,b,rfl⟩:=ha (L:=k) n;rw[eY b a,<-eY b (F i Q a),XC (by have:=(QR.1 a).1;omega)]
  refine⟨x.t,sq,k,Vp,K,h.t,l 0 aa,pU.of (λQ J=>h.pk Q (ZA _ J)) (λi O=>l i aa) aa (λq n=>by rw[<-t q n];exact s q aa),λQ=>?_,aa,by have:=h.lim;omega,C d,λp a0=>h.pl p (by rw[gC];exact ZA _ a0),U,λm r _ _ o=>⟨?_,aD.refl _⟩⟩
  .have z:(k++ [T])[k.length]?=some T:=aJ;have G:∀j,j<=2*T.N->g' x.ep sq (k++ [T]) (bj k+j)=bh x.ep (sq+k.length) T j:=λj a1=>by have:=eY (ep:=x.ep) (sq:=sq) a1 z;rwa[List.take_left' rfl]at this
   refine EY (c:=T.N) (λy a2 X a4=>?_) (λ_=>?_) Q
   .rw [kW]at X;have:=s (bj k+0) (by have:=v.n;omega);rw[G 0 aa]at this;exact v.Qe (l _ aa) this a2 X
   .rw [kW,show bj k+2*T.N=x.u-1 by omega,show sq+k.length=x.nx-1 by omega];exact w
  .show ¬th x _ m r;unfold th;rw[d,al ai,jV];exactλa=>a o
def KI(x:Wl)(sq:Nat)(L:List bW)(P:bW)(V:cp)(a:aN):Cp:=⟨x.t,λf=>aD f (aV x.ep sq x.t)\/aD f a,λf=>aD f a,Mp x sq L P,Wp x sq L P 0,λ_ _=>False,V⟩
theorem Jl.Qg(h:Jl g N sq x L Vp V)(j:P.N=0)(k:x.sure=true)(l:Vs V):Yl g N x.ep Vs (KI x sq L P V (aV x.ep x.nx ((x.t+x.u)%x.N))):=by
 refine⟨h.t,λf S b d=>?_⟩;rcases b with b|b
 .obtain ⟨t,i,s,v,q⟩:=(h.yl (Vs:=Vs) (.inl j) (λa=>absurd j a) 0 l λa=>by rw[k]at a;cases a).2 f S b d;exact⟨t,i,s,v,q.ck,q.tN,q.cn,q.mi,q.BC,q.used,q.lim,q.vs,q.gq,q.val,λm r w y z=>⟨λa=>a,by rw[show(KI x sq L P V (aV x.ep x.nx ((x.t+x.u)%x.N))).V=V from rfl,<-h.sure k];exact(q.vY m r w y z).2⟩⟩
 .rw [h.n]at b;have n:0<N:=Nat.lt_of_le_of_lt (QO _) h.t;refine⟨_,_,[],V,b,SC _ n,h.c,pU.nil,λQ=>zx (λ_=>?_) Q,QO _,h.lim,l,λp A=>by simp[cb]at A,λm r f b=>(by cases b),λm r _ _ _=>⟨λa=>a,aD.refl _⟩⟩;rw[kW];have c:∀q,q<N->kx x.nx (S ((x.t+q)%N)):=λq o=>by
   by_cases e:q<x.u
   .exact h.vY (d q o) e
   .have:=d q o;simp only[KI,Mp,al e]at this;exact this.resolve_right λa=>J
  show kx x.nx (S (((x.t+x.u)%N+0)%N));have:=c (x.u%N) (SC _ n);rwa[Nat.add_mod_mod,<-Nat.mod_mod (x.t+x.u) N]at this
end
section
def By.er(b:By):By:={b with aW:=none}
theorem By.nN{b:By}{k:Nat}{a:Dv->Dv × Nat}(h:(b.op k a).2=0):b.er.op k a=((b.op k a).1.er,0):=by
 unfold By.op at h|-;by_cases d:b.out=true
 .rw [ak d]at h;cases h
 .rw [al d]at h|-;have f:b.er.out=false:=by
   unfold By.out at d|-;show(b.bz||(none:Option Nat)==some 0)=false;cases i:b.bz with
   |true=>rw[i]at d;exact absurd rfl d
   |false=>rfl
  rw[f,al ai];show(match b.dv k with|none=>(b.er.tick,51)|some v=>(b.er.tick.put k (a v.use).1,(a v.use).2))=_;cases e:b.dv k with
  |none=>rw[e]at h;cases h
  |some v=>rw[e]at h;exact Prod.ext rfl h
theorem By.vM{b:By}:∀{l:List fR},(b.run l).2.2=0->(b.run l).2.1=0:=by
 intro l;induction l generalizing b with
 |nil=>exactλ_=>rfl
 |cons a f d=>
  intro h;unfold By.run at h|-;by_cases e:(b.op a.1 a.2).2=0
  .rw [ak e]at h|-;exact d h
  .rw [al e]at h;exact absurd h e
theorem By.nd:∀(l:List fR) {b:By},(b.run l).2.2=0->b.er.run l=((b.run l).1.er,0,0)
 | [],_,_=>rfl
 |a::d,b,h=>by
  unfold By.run at h|-;by_cases e:(b.op a.1 a.2).2=0
  .rw [ak e]at h|-;rw[By.nN e,ak rfl];exact By.nd d h
  .rw [al e]at h;exact absurd h e
theorem By.EZ{b:By}{J:Nat}{a:aN}{d:dp}:∀n,(b.db J a d n).2=0->b.er.db J a d n=((b.db J a d n).1.er,0)
 |0,_=>rfl
 |n+1,h=>by
  unfold By.db at h|-;by_cases e:(b.db J a d n).2=0
  .rw [ak e]at h|-;rw[By.EZ n e,ak rfl];exact By.nN h
  .rw [al e]at h;exact absurd h e
theorem By.E_{b:By}{J:Nat}{a:aN}{d:dp}{n:Nat}(h:(b.hM J a d n).2=0):b.er.hM J a d n=((b.hM J a d n).1.er,0):=by
 unfold By.hM at h|-;by_cases e:(b.db J a d n).2=0
 .rw [ak e]at h|-;rw[By.EZ n e,ak rfl];exact By.nN h
 .rw [al e]at h;exact absurd h e
theorem By.Mq{b:By}{J:Nat}{f:aN}(h:(b.ck J f).2=0):b.er.ck J f=((b.ck J f).1.er,0):=by
 unfold By.ck at h|-;by_cases e:(b.op J (aR 1 f)).2=0
 .rw [ak e]at h|-;rw[By.nN e,ak rfl];exact By.nN h
 .rw [al e]at h;exact absurd h e
def Rs.er(s:Rs):Rs:={s with b:=s.b.er}
variable {g:aA} {s s':Rs} {k:Nat}
theorem jW(h:dh s s' k 0):dh s.er s'.er k 0:=by
 obtain⟨l,d,a,f,i⟩:=h;have e:(s.b.run ((fK s.ro l).map gY)).2.2=0:=by rw[a]
 refine⟨l,d,?_,f,i⟩;show s.b.er.run ((fK s.ro l).map gY)=_;have b:=By.vM e;rw[By.nd _ e,a];rw[a]at b;rw[show k=0 from b];rfl
theorem BD(h:cd s s' k 0):cd s.er s'.er k 0:=by
 unfold cd at h|-;show if s.x.sure=true then _ else _
 split at h
 .rename_i c;rw[ak c];exact jW h
 .rename_i c;rw[al c];exact⟨by rw[h.1],h.2⟩
theorem rS(h:(s.synced g).2=0):s.er.synced g=((s.synced g).1.er,0):=by
 unfold Rs.synced at h|-;show(if s.x.sure=true then(s.er,0)else _)=_;by_cases c:s.x.sure=true
 .rw [ak c,ak c]
 .rw [al c]at h|-;rw[al c];have e:(s.b.op g.M be).2=0:=h;have a:s.er.b.op g.M be=((s.b.op g.M be).1.er,0):=By.nN e;rw[a,e];rfl
theorem ng(h:bT g s s' k 0):bT g s.er s'.er k 0:=by have a:=ea h;unfold bT at h|-;rw[rS a,ak rfl];rw[ak a]at h;exact BD h
theorem kX(h:dZ g s s' k 0):dZ g s.er s'.er k 0:=by
 obtain⟨a,d,f⟩:=h;have e:(s.b.run ((ob g s.ro).map dq)).2.2=0:=by rw[a]
 refine⟨?_,d,f⟩;show s.b.er.run ((ob g s.ro).map dq)=_;have b:=By.vM e;rw[By.nd _ e,a];rw[a]at b;rw[show k=0 from b];rfl
theorem kY(h:fL g s s' k 0):fL g s.er s'.er k 0:=by obtain⟨d,f,a⟩:=h;have e:s.er.nu g s.x.ep=((s.nu g s.x.ep).1.er,0):=By.Mq a.symm;refine⟨?_,f,by show 0=(s.er.nu g s.x.ep).2;rw[e]⟩;show s'.er={s.er with b:=(s.er.nu g s.x.ep).1,x:=s.x.qo s.x.ep (s.er.nu g s.x.ep).2};rw[e,d,<-a];rfl
theorem Lit.Hy{Q d:Nat->Dk->Prop}{b:By}(h:Lit none Q b){a:fR}(e:a.1<b.N)(f:ff Q d a):((b.op a.1 a.2).2=0/\Lit none d (b.op a.1 a.2).1)\/((b.op a.1 a.2).2=50/\b.aW≠none/\qv none Q (b.op a.1 a.2).1):=by
 rcases h.op e f with q|⟨-,q,-⟩|⟨i,j,l⟩
 .exact .inl q
 .cases q
 .exact .inr ⟨i,by rw[j];simp,l⟩
theorem Lit.Hz{Q:Nat->Nat->Dk->Prop}{b:By}{l:List fR}(h:Lit none (Q 0) b)(d:∀i a,l[i]?=some a->a.1<b.N/\ff (Q i) (Q (i+1)) a):
  ((b.run l).2.2=0/\Lit none (Q l.length) (b.run l).1)\/((b.run l).2.2=50/\b.aW≠none/\∃i,i<=l.length/\qv none (Q i) (b.run l).1):=by
 rcases Lit.run l Q b h d with q|⟨-,q,-⟩|q
 .exact .inl q
 .cases q
 .exact .inr q
variable {u:Su} {N:Nat} {c c':Cp}
theorem Km.else{d:Dk}{r:Nat}{f:aN}(h:Km g u c k d)(a:c.k_ k r):Km g u c k (d.wr (1+r) f):=
 ⟨h.sup.wr λe=>J,λj b i=>(h.row j b i).wr λe=>absurd a (by rwa[show r=j by omega])⟩
def Cp.le(g:aA)(c c':Cp):Prop:=∀m r,m<g.M->r<g.R->¬c'.k_ m r->¬c.k_ m r/\aD (c.V m r) (c'.V m r)
theorem Cp.le.refl(a:c'.k_=c.k_)(b:c'.V=c.V):Cp.le g c c':=λm r _ _ h=>by rw[a]at h;rw[b];exact⟨h,aD.refl _⟩
theorem Km.le{d:Dk}(h:Km g u c k d)(b:k<g.M)(e:Cp.le g c c'):Km g u c' k d:=
 ⟨h.sup,λr a i=>(h.row r a (e k r b a i).1).mono λf j=>j.trans (e k r b a i).2⟩
theorem zy{q0:Nat}{f:aN}(l:∀j,j<128->f j<256)(m:q0<N)(n:c'.t=c.t)(o:c'.K=c.K)(a:c'.KW=c.KW)(p:∀q f,q<N->c.M q f->c'.M q f)(b:c'.M q0 f)(r:∀q f,q<N->q≠q0->c.W q f->c'.W q f)(i:c'.W q0 f)(t:Cp.le g c c'):
  ff (CQ g u N c) (CQ g u N c') (g.M,aR (2+(c.t+q0)%N) f):=
 ej l (λd h=>⟨λe=>absurd e (TL _),λ_=>by
  obtain⟨v,w,x,y⟩:=h.2 rfl;refine⟨v.wr λe=>J,?_,?_,?_⟩
  .rw [o];exact w.wr λe=>J
  .rw [a,Dk.eU,al J];exact x
  .rw [n];exact y.wr m p b r i⟩)
  λj d z h=>⟨λe=>(h.1 e).le e t,λe=>absurd e z⟩
theorem E'(n:c'.t=c.t)(i:∀f,c.KW f->c'.K f/\c'.KW f)(l:∀q f,q<N->c.W q f->c'.M q f/\c'.W q f)(o:Cp.le g c c'):ff (CQ g u N c) (CQ g u N c') (dq g.M):=
 fB (λd h=>⟨λe=>absurd e (TL _),λ_=>by
  obtain⟨p,v,m,r⟩:=h.2 rfl;refine⟨.fl p.view,.fl (i _ m).1,?_,?_⟩
  .rw [Dk.mf];exact(i _ m).2
  .rw [n];exact r.fl.mono (λq f b a=>(l q f b a).1) λq f b a=>(l q f b a).2⟩)
  λj d t h=>⟨λe=>(h.1 e).le e o,λe=>absurd e t⟩
theorem Kn{p:Pt}(a:∀j,j<128->p.2.2 j<256)(b:p.1<g.M)(f:c.k_ p.1 p.2.1):ff (CQ g u N c) (CQ g u N c) (gY p):=
 ej a (λd h=>⟨λe=>(h.1 e).else f,λe=>absurd b J⟩) λj d i h=>h
theorem Mr{f:aN}(b:∀j,j<128->f j<256)(i:c'.t=c.t)(l:∀f,c.K f->c'.K f)(a:c'.K f/\c'.KW f)(m:∀q f,q<N->c.M q f->c'.M q f)(n:∀q f,q<N->c.W q f->c'.W q f)(o:Cp.le g c c'):ff (CQ g u N c) (CQ g u N c') (g.M,aR 1 f):=
 ej b (λd h=>⟨λe=>absurd e (TL _),λ_=>by
  obtain⟨p,r,w,t⟩:=h.2 rfl;refine⟨p.wr λe=>J,(r.mono l).wr λ_=>a.1,?_,?_⟩
  .rw [Dk.eU,ak rfl];exact a.2
  .rw [i];exact(t.mono m n).else J⟩)
  λj d v h=>⟨λe=>(h.1 e).le e o,λe=>absurd e v⟩
theorem CQ.mono{d:Dk}{j:Nat}(h:CQ g u N c j d)(b:c'.t=c.t)(i:∀f,c.K f->c'.K f)(a:∀f,c.KW f->c'.KW f)(l:∀q f,q<N->c.M q f->c'.M q f)(m:∀q f,q<N->c.W q f->c'.W q f)(n:Cp.le g c c'):CQ g u N c' j d:=
 ⟨λe=>(h.1 e).le e n,λe=>⟨(h.2 e).sup,(h.2 e).ck.mono i,a _ (h.2 e).kw,by rw[b];exact(h.2 e).ring.mono l m⟩⟩
end
section
def bW.no:bW:=⟨0,λ_=>0,λ_=>0,λ_ _=>0⟩
structure Cx(g:aA)(u:Su)(N sq:Nat)(s:Rs)(L:List bW)(Vp V:cp):Prop where
 jl:Jl g N sq s.x L Vp V
 lit:Lit none (CQ g u N (qa s.x sq L bW.no 0 Vp)) s.b
 gt:Gt g none V s.er
 wt:∀p,p∈s.ro.wt->bx (cb L) (p.1,p.2.1)≠none
structure ZU(g:aA)(u:Su)(N ep:Nat)(Vs:cp->Prop)(b b':By)(er:Nat):Prop where
 er:er=50
 aW:b.aW≠none
 bz:b'.bz=true
 can:Can g u N ep Vs b'
def qh(g:aA)(u:Su)(N ep:Nat)(Vs:cp->Prop)(b b':By)(er:Nat)(A:Prop):Prop:=(er=0/\(b.aW=none->b'.aW=none)/\A)\/ZU g u N ep Vs b b' er
variable {g:aA} {u:Su} {N sq ep:Nat} {s s':Rs} {L:List bW} {Vp V:cp} {Vs:cp->Prop} {k er:Nat} {c c':Cp} {b b' b1:By} {A B:Prop}
theorem qv.ends(h:qv none (CQ g u N c) b')(a:Yl g N ep Vs c)(d:b.aW≠none)(e:er=50):ZU g u N ep Vs b b' er:=⟨e,d,h.bz,c,h.dev,a⟩
theorem ZU.back(h:ZU g u N ep Vs b1 b' er)(a:b.aW=none->b1.aW=none):ZU g u N ep Vs b b' er:=⟨h.er,λe=>h.aW (a e),h.bz,h.can⟩
theorem qh.mono(h:qh g u N ep Vs b b' er A)(a:A->B):qh g u N ep Vs b b' er B:=h.imp (λ⟨d,e,f⟩=>⟨d,e,a f⟩) id
theorem qh.back(h:qh g u N ep Vs b1 b' er A)(a:b.aW=none->b1.aW=none):qh g u N ep Vs b b' er A:=h.imp (λ⟨d,f,i⟩=>⟨d,λe=>f (a e),i⟩) λh=>h.back a
theorem Yl.le(h:Yl g N ep Vs c)(d:c'.t=c.t)(n:∀f,c'.K f->c.K f)(o:∀q f,q<N->c'.M q f->c.M q f)(p:∀m r,c'.k_ m r->c.k_ m r)(hV:c'.V=c.V):Yl g N ep Vs c':=by refine⟨by rw[d];exact h.1,λf S v w=>?_⟩;obtain⟨t,sq,L,V,q⟩:=h.2 f S (n f v) λq e=>o q _ e (by rw[<-d];exact w q e);exact⟨t,sq,L,V,q.ck,q.tN,q.cn,q.mi,q.BC,q.used,q.lim,q.vs,q.gq,q.val,λm r i j l=>⟨λa=>(q.vY m r i j l).1 (p m r a),by rw[hV];exact(q.vY m r i j l).2⟩⟩
theorem Lit.zz{Q a:Nat->Dk->Prop}(h:Lit none Q b)(e:∀j d,Q j d->a j d):Lit none a b:=h.mono λj d _=>e j d
theorem qv.mono{Q a:Nat->Dk->Prop}(h:qv none Q b)(e:∀j d,Q j d->a j d):qv none a b:=⟨h.bz,h.dev.mono λj d _=>e j d⟩
theorem Cx.yl(h:Cx g u N sq s L Vp V)(e:Vs V)(d:s.x.sure=false->Vs Vp):Yl g N s.x.ep Vs (qa s.x sq L bW.no 0 Vp):=h.jl.yl (.inl rfl) (λa=>absurd rfl a) 0 e d
theorem Fa(h:Jl g N sq s.x L Vp V){q:Nat}{f:aN}(a:Wp s.x sq L bW.no 0 q f):kx s.x.nx f:=by
 unfold Wp at a;split at a
 .rename_i e;exact h.vY (P:=bW.no) (q:=q) (by unfold Mp;rw[ak e];exact .inl a) e
 .split at a
  .omega
  .exact a
theorem Jl.Pn(h:Jl g N sq s.x L Vp V)(l:c.k_=th s.x L)(n:c.V=Vp)(o:c'.k_=λm r=>bx (cb L) (m,r)≠none)(p:c'.V=V):Cp.le g c c':=λm r q t d=>by
 rw[o]at d;have d:bx (cb L) (m,r)=none:=Decidable.not_not.1 d;rw[l,n,p];unfold th;cases i:s.x.sure with
 |true=>exact⟨by rw[ak rfl];exactλa=>a d,by rw[h.sure i];exact aD.refl _⟩
 |false=>
  obtain⟨w,T,j,-,v⟩:=h.tail i;rw[j,gC,jU]at d;cases e:bx (bM T T.N) (m,r)with
  |some f=>rw[e]at d;cases d
  |none=>rw[e]at d;exact⟨by rw[al ai,j,jV];exactλa=>a d,v m r q t e⟩
theorem Jl.Fb(h:Jl g N sq s.x L Vp V)(lg:Option (Nat × (Nat->Nat))):Jl g N sq {s.x with sure:=true,lg:=lg,bad:=0} L V V:=
 ⟨h.n,h.t,h.u,h.uN,h.nx,h.c,h.lim,h.sq,h.pk,h.pl,h.val,λ_=>rfl,λe=>by cases e⟩
theorem vN{x:Wl}(h:x.sure=true):th x L=λm r=>bx (cb L) (m,r)≠none:=by funext m r;unfold th;rw[ak h]
theorem Cx.sync(h:Cx g u N sq s L Vp V)(w:Vs V)(o:s.x.sure=false->Vs Vp):
  qh g u N s.x.ep Vs s.b (s.synced g).1.b (s.synced g).2 (Cx g u N sq (s.synced g).1 L V V/\(s.synced g).1.x={s.x with sure:=true,bad:=if s.x.sure=true then s.x.bad else 0}/\(s.synced g).1.ro=s.ro):=by
 by_cases j:s.x.sure=true
 .unfold Rs.synced;rw[ak j,ak j];have:=h.jl.sure j;subst this;exact .inl ⟨rfl,λe=>e,h,by rw[<-j],rfl⟩
 .have y:s.x.sure=false:=by simpa using j
  have p:g.M<s.b.N:=by have:=h.gt.gd.N;have:s.b.N=g.M+1:=this;omega
  have v:∀er,er=0->({s.x with bad:=er,sure:=er==0}:Wl)={s.x with sure:=true,bad:=0}:=λer e=>by subst e;rfl
  have l:ff (CQ g u N (qa s.x sq L bW.no 0 Vp)) (CQ g u N (qa {s.x with sure:=true,bad:=0} sq L bW.no 0 V)) (dq g.M):=by
   refine E' rfl (λf d=>⟨d,d⟩) (λq f F d=>⟨?_,d⟩) (h.jl.Pn rfl rfl (vN rfl) rfl);show Mp {s.x with sure:=true,bad:=0} sq L bW.no q f;have d:Wp s.x sq L bW.no 0 q f:=d;unfold Wp at d;unfold Mp;show if q<s.x.u then _ else _
   split
   .rename_i e;rw[ak e]at d;exact .inl d
   .rename_i e;rw[al e,al J]at d;exact .inl d
  have r:=h.lit.Hy (a:=dq g.M) p l;have m:s.synced g=({s with b:=(s.b.op g.M be).1,x:={s.x with bad:=(s.b.op g.M be).2,sure:=(s.b.op g.M be).2==0}},(s.b.op g.M be).2):=by unfold Rs.synced;rw[al j]
  rcases r with⟨z,C⟩|⟨D,t,E⟩
  .have i:(s.b.op g.M be).2=0:=z;have n:=(h.gt.sync).2.1;rw[rS (by rw[m];exact i)]at n;rw[m]at n|-;refine .inl ⟨i,λe=>By.dz e,?_,by rw[al j];exact v _ i,rfl⟩;simp only[v _ i]at n|-;exact⟨h.jl.Fb s.x.lg,C,n,h.wt⟩
  .rw [m];exact .inr (qv.ends E (h.yl w o) t D)
theorem kZ{C:Nat}(hF:Fit g C s)(n:Lit none (CQ g u N c) s.b)(o:∀p,p∈s.ro.wt->c.k_ p.1 p.2.1)(d:dh s s' k er):
  (er=0/\(s.b.aW=none->s'.b.aW=none)/\Lit none (CQ g u N c) s'.b)\/(er=50/\s.b.aW≠none/\qv none (CQ g u N c) s'.b):=by
 obtain⟨l,q,j,x,y⟩:=d;have:=n.Hz (Q:=λ_=>CQ g u N c) (l:=(fK s.ro l).map gY) λi a r=>by obtain⟨p,d,rfl⟩:=RK.1 (QV r);have m:p∈s.ro.wt:=q.mem_iff.1 (jO.1 d).1;obtain⟨t,z,v⟩:=hF.wt p m;exact⟨by show p.1<s.b.N;have:=hF.N;omega,Kn v t (o p m)⟩
 rw[j]at this;rcases this with⟨f,h⟩|⟨f,h,i,-,w⟩
 .refine .inl ⟨f,λe=>?_,h⟩;have:=By.eA e ((fK s.ro l).map gY);rwa[j]at this
 .exact .inr ⟨f,h,w⟩
theorem Cx.k_(h:Cx g u N sq s L Vp V)(a:s.x.sure=true):∀p,p∈s.ro.wt->th s.x L p.1 p.2.1:=λp d=>by unfold th;rw[ak a];exact h.wt p d
theorem Cx.eV{C:Nat}(hF:Fit g C s)(h:Cx g u N sq s L V V)(l:s.x.sure=true)(n:Vs V)(a:dh s s' k er):qh g u N s.x.ep Vs s.b s'.b er (Cx g u N sq s' L V V/\s'.x=s.x/\s'.ro={s.ro with wt:= []}):=by
 rcases kZ hF h.lit (h.k_ l) a with⟨d,f,i⟩|⟨d,f,i⟩
 .subst d;obtain⟨o,q,g3⟩:=h.gt.eV (jW a);have j:s'.x=s.x:=q;have m:s'.ro={s.ro with wt:= []}:=by
   rcases g3 with g3|g3
   .exact g3.2
   .exact absurd rfl g3.1.gone.ne
  refine .inl ⟨rfl,f,⟨by rw[j];exact h.jl,by rw[j];exact i,o,λp a=>by rw[m]at a;cases a⟩,j,m⟩
 .exact .inr (qv.ends i (h.yl n λe=>by rw[l]at e;cases e) f d)
theorem Cx.settle{C:Nat}(hF:Fit g C s)(h:Cx g u N sq s L Vp V)(d:Vs V)(t:s.x.sure=false->Vs Vp)(f:bT g s s' k er):
  qh g u N s.x.ep Vs s.b s'.b er (Cx g u N sq s' L V V/\s'.x={s.x with sure:=true,bad:=if s.x.sure=true then s.x.bad else 0}/\s'.ro={s.ro with wt:= []}):=by
 unfold bT at f;rcases h.sync d t with⟨x,y,z,l,r⟩|q
 .rw [ak x]at f;unfold cd at f;have n:(s.synced g).1.x.sure=true:=by rw[l]
  rw[ak n]at f;have w:Fit g C (s.synced g).1:=by
   have D:(s.synced g).1.b.N=s.b.N:=by
    unfold Rs.synced;split
    .rfl
    .exact By.fW _ _ _
   have o:∀j v,(s.synced g).1.b.dv j=some v->∃i,s.b.dv j=some i/\v.d.n=i.d.n/\v.d.cn<=i.d.cn:=λj v d=>by
    unfold Rs.synced at d;split at d
    .exact ⟨v,d,rfl,QE _⟩
    .by_cases e:j=g.M
     .subst e;exact By.jh (m:=0) dX d
     .have d:(s.b.op g.M be).1.dv j=some v:=d;rw[By.ei _ e]at d;exact⟨v,d,rfl,QE _⟩
   refine⟨hF.cJ,D.trans hF.N,λm v E d=>?_,λv d=>?_,?_,?_,by rw[r];exact hF.h',by rw[r];exact hF.wt,by rw[r];exact hF.mg⟩
   .obtain ⟨i,p,F,G⟩:=o m v d;have:=hF.mem m i E p;omega
   .obtain ⟨i,p,F,G⟩:=o g.M v d;have:=hF.gB i p;rw[l];show 2+s.x.N<=_/\_;omega
   .rw [l];show(if s.x.sure=true then s.x.bad else 0)=0;split
    .exact hF.bad
    .rfl
   .rw [l];exact hF.cy
  have p:(s.synced g).1.x.ep=s.x.ep:=by rw[l]
  have:=z.eV w n d f;rw[p]at this;exact(this.mono λ⟨a,b,c⟩=>⟨a,b.trans l,by rw[c,r]⟩).back y
 .have K:¬(s.synced g).2=0:=by rw[q.er];decide
  rw[al K]at f;obtain⟨rfl,-,rfl⟩:=f;exact .inr q
theorem Fc(n:Nat)(p:Nat->Bool)(h:∀m,m<n->p m=true):ZZ n p=TQ n:=List.filter_eq_self.2 λm a=>h m (TY.1 a)
def HA(x:Wl)(sq:Nat)(L:List bW)(V:cp)(i:Nat):Cp:={qa x sq L bW.no 0 V with k_:=λm r=>th x L m r/\i<=m}
theorem Cx.eW(h:Cx g u N sq s L V V)(H:s.x.sure=true)(W:s.ro.wt= [])(w:Vs V)(q:dZ g s s' k er):qh g u N s.x.ep Vs s.b s'.b er (Cx g u N sq s' L V V/\Lit none (CQ g u N (HA s.x sq L V g.M)) s'.b/\s'.x=s.x/\s'.ro=s.ro):=by
 obtain⟨G,F,K⟩:=q;have x:∀m r,s.ro.down m r=false:=λm r=>by
  cases e:s.ro.down m r with
  |false=>rfl
  |true=>have:=h.gt.gd.dn m r e;cases this
 have y:ob g s.ro=TQ g.M:=Fc _ _ λm _=>by rw[x];rfl
 have M:s.b.N=g.M+1:=h.gt.gd.N;have n:tt none (eH g s.ro (λ_ _=>True) s.ro.fv V λ_=>True) s.b:=h.gt.gd.dev;have z:Lit none (λk d=>eH g s.ro (λ_ _=>True) s.ro.fv V (λ_=>True) k d/\CQ g u N (HA s.x sq L V 0) k d) s.b:=
  ⟨h.lit.bz,λj t=>⟨(n j t).1,λv w=>⟨((n j t).2 v w).eI,((n j t).2 v w).mR,λX=>⟨((n j t).2 v w).holds X,(((h.lit.dev j t).2 v w).holds X).mono rfl (λ_ a=>a) (λ_ a=>a) (λ_ _ _ a=>a) (λ_ _ _ a=>a) λm r _ _ C=>⟨λa=>C ⟨a,QO _⟩,aD.refl _⟩⟩⟩⟩⟩
 have O:∀m r,¬s.ro.fv m r:=λm r ⟨p,q,_⟩=>by rw[W]at q;cases q
 have o:=z.Hz (Q:=λi k d=>eH g s.ro (λ_ _=>True) s.ro.fv V (λ_=>True) k d/\CQ g u N (HA s.x sq L V i) k d) (l:=(ob g s.ro).map dq) λi a D=>by
  rw[y,RI]at D;have R:i<g.M:=by
   rcases Nat.lt_or_ge i g.M with c|c
   .exact c
   .rw [RF (by simpa using c)]at D;cases D
  rw[SF R]at D;cases D;refine⟨by show i<s.b.N;omega,fB (λd f=>⟨f.1.fl,λE=>?_,λe=>aa⟩) λj d t f=>⟨f.1,λE=>⟨(f.2.1 E).sup,λr P C=>(f.2.1 E).row r P λa=>C ⟨a.1,?_⟩⟩,λe=>⟨(f.2.2 e).sup,(f.2.2 e).ck,(f.2.2 e).kw,(f.2.2 e).ring⟩⟩⟩
  .have I:=f.2.1 E;exact⟨.fl I.sup.view,λr P _=>.fl ((f.1.1 E).view r P (x i r) (O i r))⟩
  .have e1:j≠i:=t;have e2:i<=j:=a.2;omega
 rw[G]at o;have S:=h.yl (Vs:=Vs) w λe=>by rw[H]at e;cases e
 rcases o with⟨T,U⟩|⟨T,U,i,-,Y⟩
 .subst T;have J:=(h.gt.eW (kX ⟨G,F,K⟩)).1;have Z:Lit none (CQ g u N (HA s.x sq L V g.M)) s'.b:=by refine U.zz λj d f=>?_;rw[RB,y,List.length_range]at f;exact f.2
  refine .inl ⟨rfl,λe=>?_,⟨by rw[F];exact h.jl,?_,J,λp q=>by rw[K,W]at q;cases q⟩,Z,F,K⟩
  .have:=By.eA e ((ob g s.ro).map dq);rwa[G]at this
  .rw [F];refine Z.zz λj d f=>f.mono rfl (λ_ a=>a) (λ_ a=>a) (λ_ _ _ a=>a) (λ_ _ _ a=>a) λm r _ _ C=>⟨λa=>C a.1,aD.refl _⟩
 .exact .inr (qv.ends (Y.mono λj d f=>f.2) (S.le (c':=HA s.x sq L V i) rfl (λ_ a=>a) (λ_ _ _ a=>a) (λm r a=>a.1) rfl) U T)
theorem Cx.gu{C:Nat}(hF:Fit g C s)(h:Cx g u N sq s L V V)(a0:Lit none (CQ g u N (HA s.x sq L V g.M)) s.b)(O:s.x.sure=true)(a3:s.ro.wt= [])(R:Vs V)(n:fL g s s' k er):
  qh g u N s.x.ep Vs s.b s'.b er (Cx g u N s.x.nx s' [] V V/\s'.x=s.x.cz s.x.ep/\s'.ro=s.ro):=by
 have i:=h.jl;have a4:s.b.N=g.M+1:=h.gt.gd.N;have a5:=h.gt;have z:=n;obtain⟨o,-,D⟩:=n;obtain⟨f,x⟩:=ah (aV s.x.ep s.x.nx ((s.x.t+s.x.u)%s.x.N));have t:∀j,j<128->f j<256:=λj i=>by rw[<-x];exact hL _ _ _ j i
 have Q:s.nu g s.x.ep=s.b.ck g.M f:=by unfold Rs.nu;rw[x]
 rw[Q]at o D;have S:Yl g N s.x.ep Vs (KI s.x sq L bW.no V f):=by rw[<-x];exact i.Qg rfl O R
 have a1:ff (CQ g u N (HA s.x sq L V g.M)) (CQ g u N (KI s.x sq L bW.no V f)) (g.M,aR 1 f):=
  Mr t rfl (λ_ a=>.inl a) ⟨.inr (aD.refl f),aD.refl f⟩ (λ_ _ _ a=>a) (λ_ _ _ a=>a) λm r a6 _ _=>⟨λa=>TL _ (RL a6 a.2),aD.refl _⟩
 have a7:Yl g N s.x.ep Vs (HA s.x sq L V g.M):=(h.yl (Vs:=Vs) R λe=>by rw[O]at e;cases e).le (c':=HA s.x sq L V g.M) rfl (λ_ a=>a) (λ_ _ _ a=>a) (λm r a=>a.1) rfl;obtain⟨T,l⟩:∃T:Cp,T=⟨s.x.t,λy=>aD y f,λy=>aD y f,λ_=>kx s.x.nx,λ_=>kx s.x.nx,λ_ _=>False,V⟩:=⟨_,rfl⟩;have a2:ff (CQ g u N (KI s.x sq L bW.no V f)) (CQ g u N T) (dq g.M):=by subst l;exact E' rfl (λy a=>⟨a,a⟩) (λq y _ a=>⟨Fa i a,Fa i a⟩) λm r _ _ _=>⟨λa=>a,aD.refl _⟩
 have v:s.b.ck g.M f=if(s.b.op g.M (aR 1 f)).2=0 then(s.b.op g.M (aR 1 f)).1.op g.M be else s.b.op g.M (aR 1 f):=rfl
 have E:g.M<s.b.N:=aa;rcases a0.Hy (a:=(g.M,aR 1 f)) E a1 with⟨F,U⟩|⟨F,U,q3⟩
 .have W:(s.b.op g.M (aR 1 f)).2=0:=F;rw[ak W]at v;rcases U.Hy (a:=dq g.M) (by rw[By.fW];exact E) a2 with⟨r1,r2⟩|⟨r1,r2,r3⟩
  .have h0:(s.b.ck g.M f).2=0:=by rw[v];exact r1
   rw[h0]at o D;subst D;have G:s'.b=((s.b.op g.M (aR 1 f)).1.op g.M be).1:=by rw[o,v]
   have w:s'.x=s.x.cz s.x.ep:=by rw[o];rfl
   have K:s'.ro=s.ro:=by rw[o]
   have X:=a5.gu (kY z);refine .inl ⟨rfl,λe=>?_,⟨?_,?_,X.1,λp n=>by rw[K,a3]at n;cases n⟩,w,K⟩
   .rw [G];exact By.dz (By.dz e)
   .rw [w];have Z:0<N:=Nat.lt_of_le_of_lt (QO _) i.t;exact⟨i.n,by show(s.x.t+s.x.u)%s.x.N<N;rw[i.n];exact SC _ Z,rfl,QO _,rfl,i.c,i.lim,by have:=i.nx;have:=i.sq;omega,λP a8=>(by cases a8),λp n=>by simp[cb]at n,λm r f x=>(by cases x),λ_=>rfl,λe=>by rw[show(s.x.cz s.x.ep).sure=s.x.sure from rfl,O]at e;cases e⟩
   .rw [G,w];refine r2.zz λj d H=>⟨λe=>?_,λe=>?_⟩
    .refine ⟨(H.1 e).sup,λr a9 _=>?_⟩;have:=(H.1 e).row r a9 (by rw[l];exactλa=>a);rw[l]at this;exact this
    .obtain ⟨x1,I,Y,x4⟩:=H.2 e;rw[l]at I Y x4;have J:∀y,aD y f->aD y (aV (s.x.cz s.x.ep).ep s.x.nx (s.x.cz s.x.ep).t):=λy a=>by rw[<-x]at a;exact a
     refine⟨x1,I.mono J,J _ Y,(x4.mz i.t).mono (λq y _ a=>?_) λq y _ a=>?_⟩
     .show Mp (s.x.cz s.x.ep) s.x.nx [] bW.no q y;unfold Mp;rw[al (show¬q<(s.x.cz s.x.ep).u from RQ q)];exact .inl a
     .show Wp (s.x.cz s.x.ep) s.x.nx [] bW.no 0 q y;unfold Wp;rw[al (show¬q<(s.x.cz s.x.ep).u from RQ q),al (show¬q<(s.x.cz s.x.ep).u+0 from RQ q)];exact a
  .have M:(s.b.ck g.M f).2=50:=by rw[v];exact r1
   refine .inr (qv.ends ?_ S (λe=>r2 (By.dz e)) (by rw[D,M]));rw[o,v];exact r3
 .have M:(s.b.ck g.M f).2=50:=by
   rw[v,al (by have:(s.b.op g.M (aR 1 f)).2=50:=F;rw[this];decide)];exact F
  refine .inr (qv.ends ?_ a7 U (by rw[D,M]));rw[o,v,al (by have:(s.b.op g.M (aR 1 f)).2=50:=F;rw[this];decide)];exact q3
theorem Cx.room{C:Nat}{Bt:bq}(hF:Fit g C s)(U:20000<=C)(h:Cx g u N sq s L Vp V)(r:Vs V)(j:s.x.sure=false->Vs Vp)(f:dj g Bt s s' k er):
  qh g u N s.x.ep Vs s.b s'.b er (∃t K l,Cx g u N t s' K l V/\(s'.x.sure=false->Vs l)/\s'.x.ep=s.x.ep/\s'.x.nx=s.x.nx):=by
 unfold dj at f;split at f
 .obtain ⟨rfl,-,rfl⟩:=f;exact .inl ⟨rfl,λe=>e,sq,L,Vp,h,j,rfl,rfl⟩
 .have m:∀i v n,bT g s i v n->_:=λi v n f=>h.settle hF r j f;rcases f with⟨i,v,o,w⟩|⟨o,w⟩
  .rcases m _ _ _ o with⟨-,t1,⟨G,x,O⟩⟩|q
   .have y:=eE hF J (ea o) o;have a:i.x.sure=true:=by rw[x]
    have d:i.ro.wt= []:=by rw[O]
    have n:i.x.ep=s.x.ep:=by rw[x]
    rcases w with⟨z,W,b1,D⟩|⟨b1,D⟩
    .rcases G.eW a d r b1 with⟨-,t2,⟨P,Q,p,S⟩⟩|q
     .have E:=fM y J b1;have:=P.gu E (by rw[p];exact Q) (by rw[p];exact a) (by rw[S];exact d) r D;rw[show z.x.ep=s.x.ep by rw[p,n]]at this;refine(this.back t2).back t1|>.mono λ⟨T,F,c3⟩=>⟨_,_,_,T,λe=>?_,by rw[F];rfl,by rw[F,p,x];rfl⟩;rw[F,show(z.x.cz s.x.ep).sure=z.x.sure from rfl,p,a]at e;cases e
     .exact absurd q.er ai
    .have:=G.eW a d r b1;rw[n]at this;rcases this.back t1 with⟨q,-⟩|q
     .exact absurd q D
     .exact .inr q
   .exact absurd q.er ai
  .rcases m _ _ _ o with⟨q,-⟩|q
   .exact absurd q w
   .exact .inr q
end
section
theorem Lit.Ko{aw:Option Nat}{Q:Nat->Nat->Dk->Prop}{b:By}{l:List fR}(h:Lit aw (Q 0) b)(e:b.aW=none)(d:∀i a,l[i]?=some a->a.1<b.N/\aw≠some a.1/\ff (Q i) (Q (i+1)) a):
  (b.run l).2.2=0/\Lit aw (Q l.length) (b.run l).1/\(b.run l).1.aW=none/\(b.run l).1.N=b.N:=by
 refine(?_:(b.run l).2.2=0/\Lit aw (Q l.length) (b.run l).1).elim λx y=>⟨x,y,By.eA e l,By.gb b l⟩;rcases Lit.run l Q b h λi a c=>⟨(d i a c).1,(d i a c).2.2⟩with q|⟨f,j,-⟩|⟨-,q,-⟩
 .exact q
 .obtain ⟨a,k,m⟩:=By.hU f.ne;obtain⟨i,c⟩:=TV.1 k;exact absurd (by rw[m];exact j) (d i a c).2.1
 .exact absurd e q
theorem By.Fe(b:By)(J:Nat)(f:aN):(b.ck J f).1=(b.run [(J,aR 1 f),dq J]).1/\(b.ck J f).2=(b.run [(J,aR 1 f),dq J]).2.2:=by
 unfold By.ck;by_cases e:(b.op J (aR 1 f)).2=0
 .have h:b.run [(J,aR 1 f),dq J] =(b.op J (aR 1 f)).1.run [dq J]:=ak e;rw[ak e,h,By.yP];by_cases a:((b.op J (aR 1 f)).1.op (dq J).1 (dq J).2).2=0
  .rw [ak a];exact⟨rfl,a⟩
  .rw [al a];exact⟨rfl,rfl⟩
 .have h:b.run [(J,aR 1 f),dq J] =((b.op J (aR 1 f)).1,J,(b.op J (aR 1 f)).2):=al e;rw[al e,h];exact⟨rfl,rfl⟩
structure Mt(g:aA)(aw:Option Nat)(hs:Nat->Bool)(L:List bW)(V:cp)(b:By):Prop where
 lit:Lit aw (fun k d=>k<g.M->∀r,r<g.R->bx (cb L) (k,r)=none->aD (d.view (1+r)) (V k r)) b
 aW:b.aW=none
 N:b.N=g.M+1
 hs:∀m,m<g.M->(hs m=false↔aw=some m)
 qw:∀m,aw=some m->m<g.M
 pl:∀p,p∈cb L->p.1<g.M/\p.2.1<g.R/\∀j,j<128->p.2.2 j<256
 val:∀m r f,bx (cb L) (m,r)=some f->aD f (V m r)
 par:tD g V
variable {g:aA} {aw:Option Nat} {hs:Nat->Bool} {L:List bW} {V:cp} {b:By} {u:Su} {l:List Pt}
theorem vO(m:Nat):(cQ g u).fr m=if m<g.M then fu g u m else none:=by show(if m<g.M then fu g u.told m else(if m<g.M then fu g u m else none))=_;split<;>rfl
theorem Mt.down(h:Mt g aw hs L V b)(d:∀m,m<g.M->u.st m=if hs m=false then 2 else 1)(m r:Nat):(cQ g u).down m r=true↔aw=some m:=by
 unfold Ro.down;rw[vO];by_cases c:m<g.M
 .rw [ak c];unfold fu;rw[d m c];cases e:hs m with
  |false=>simp[(h.hs m c).1 e]
  |true=>
   have:aw≠some m:=λa=>by rw[(h.hs m c).2 a]at e;cases e
   simp[this]
 .rw [al c];have:aw≠some m:=λa=>c (h.qw m a);simp[this]
theorem Mt.gm(h:Mt g aw hs L V b)(S:BQ (cb L) l)(a5:∀m,m<g.M->u.st m=if hs m=false then 2 else 1)(x y:Wl):Kj g u b l x/\Gt g aw V ⟨(BS g u b l x).1,y,cQ g u⟩:=by
 have T:aw≠some g.M:=λe=>TL _ (h.qw _ e);have U:∀k,k<g.M->u.st k≠2->aw≠some k:=λk q e a=>by rw[a5 k q,ak ((h.hs k q).2 a)]at e;exact e rfl
 have w:=h.down a5;obtain⟨a1,a2,a3,O⟩:=zc (g:=g) (u:=u.tell) h.lit h.aW h.N T U (λj d f n A r s v=>by rw[Dk.eU,al aa];exact n A r s v) (λj d n A r s v=>by rw[Dk.mf];exact n A r s v);have W:∀p,p∈fK (cQ g u) l->p.1<g.M/\p.2.1<g.R/\(∀j,j<128->p.2.2 j<256)/\aw≠some p.1/\aD p.2.2 (V p.1 p.2.1):=λp X=>by obtain⟨D,C⟩:=jO.1 X;obtain⟨Z,H,N⟩:=h.pl p (S.mem D);exact⟨Z,H,N,λa=>(by rw[(w _ _).2 a]at C;cases C),h.val _ _ _ (S.val p D)⟩
 obtain⟨b1,b2,b3,M⟩:=Lit.Ko (Q:=λi k d=>k<g.M->aw≠some k->∀r,r<g.R->(k,r)∉((fK (cQ g u) l).drop i).map gq->aD (d.view (1+r)) (V k r)) (l:=(fK (cQ g u) l).map gY) (b:=(b.run (eX g u.tell)).1)
  (a2.mono λk d _ n q o r s v=>n q r s (by
   cases e:bx (cb L) (k,r)with
   |none=>rfl
   |some f=>
    exfalso;obtain⟨p,D,C⟩:=RK.1 (S.all (k,r) (by rw[e];simp));refine v (RK.2 ⟨p,jO.2 ⟨D,?_⟩,C⟩);cases C;cases e2:(cQ g u).down p.1 p.2.1 with
    |false=>rfl
    |true=>exact absurd ((w _ _).1 e2) o)) a3 λi a t=>by
  rw[RI]at t;cases e:(fK (cQ g u) l)[i]? with
  |none=>rw[e]at t;cases t
  |some p=>
   rw[e]at t;cases t;obtain⟨D,C,Z,H,N⟩:=W p (QV e);have E:(fK (cQ g u) l).drop i=p::(fK (cQ g u) l).drop (i+1):=List.drop_eq_getElem?_toList_append.trans (by rw[e];rfl);refine⟨by rw[O];show p.1<g.M+1;omega,H,ej Z (λd n q o r s v=>?_) λj d A n q o r s v=>n q o r s λc=>?_⟩
   .have v:(p.1,r)∉((fK (cQ g u) l).drop (i+1)).map gq:=v;show aD ((d.wr (1+p.2.1) p.2.2).view (1+r)) (V p.1 r);rw[Dk.eU];by_cases R:r=p.2.1
    .rw [ak (by rw[R]),R];exact N
    .rw [al aa];refine n q o r s λc=>?_;rw[E,TO,UH]at c;rcases c with c|c
     .exact R (congrArg Prod.snd c)
     .exact v c
   .rw [E,TO,UH]at c;rcases c with c|c
    .exact A (congrArg Prod.fst c)
    .exact v c
 have I:∀m,m∈ob g (cQ g u)->m<g.M/\aw≠some m:=λm Y=>by obtain⟨m1,P⟩:=br.1 Y;exact⟨m1,λa=>by rw[(w _ _).2 a]at P;cases P⟩
 have F:∀(k:Nat) (d:Dk),(k<g.M->aw≠some k->∀r,r<g.R->(k,r)∉((fK (cQ g u) l).drop ((fK (cQ g u) l).map gY).length).map gq->aD (d.view (1+r)) (V k r))->k<g.M->aw≠some k->∀r,r<g.R->aD (d.view (1+r)) (V k r):=λk d n q o r s=>
  n q o r s (by rw[RB,List.drop_length];simp)
 obtain⟨c1,c2,c3,c4⟩:=Lit.Ko (Q:=λ_ k d=>k<g.M->aw≠some k->∀r,r<g.R->aD (d.view (1+r)) (V k r)) (l:=(ob g (cQ g u)).map dq) (b:=((b.run (eX g u.tell)).1.run ((fK (cQ g u) l).map gY)).1) (b2.mono λk d _ n=>F k d n) b3 λi a t=>by obtain⟨m,Y,rfl⟩:=RK.1 (QV t);obtain⟨m1,P⟩:=I m Y;exact⟨by rw[M,O];show m<g.M+1;omega,P,fB (λd n q o r s=>by rw[Dk.mf];exact n q o r s) λ_ _ _ n=>n⟩
 obtain⟨f,a6⟩:=ah (aV (x.ep+1) x.nx ((x.t+x.u)%x.N));have B:∀j,j<128->f j<256:=λj A=>by rw[<-a6];exact hL _ _ _ j A
 have z:EW g u b l=((b.run (eX g u.tell)).1.run ((fK (cQ g u) l).map gY)).1.run ((ob g (cQ g u)).map dq):=rfl;have J:=Lit.Ko (Q:=λ_ k d=>k<g.M->aw≠some k->∀r,r<g.R->aD (d.view (1+r)) (V k r)) (l:= [(g.M,aR 1 f),dq g.M]) (b:=(EW g u b l).1) (by rw[z];exact c2) (by rw[z];exact c3) λi a t=>by
  have G:(EW g u b l).1.N=g.M+1:=by rw[z,c4,M,O]
  match i,t with
  |0,t=>cases t;exact⟨by rw[G];exact TI _,T,ej B (λd _ q=>absurd q (TL _)) λ_ _ _ n=>n⟩
  |1,t=>cases t;exact⟨by rw[G];exact TI _,T,fB (λd _ q=>absurd q (TL _)) λ_ _ _ n=>n⟩
  |i+2,t=>simp at t
 have K:(BS g u b l x).1=((EW g u b l).1.run [(g.M,aR 1 f),dq g.M]).1/\(BS g u b l x).2=((EW g u b l).1.run [(g.M,aR 1 f),dq g.M]).2.2:=by unfold BS;rw[a6];exact By.Fe _ _ _
 obtain⟨d1,d2,d3,d4⟩:=J;refine⟨⟨a1,b1,c1,by rw[K.2];exact d1⟩,⟨⟨?_,?_,λp X=>(by cases X),λm r e=>(w m r).1 e,h.qw,h.par⟩,?_,?_⟩⟩
 .show tt aw (eH g (cQ g u) (λ_ _=>True) (cQ g u).fv V λ_=>True) (BS g u b l x).1;rw[K.1];refine d2.dev.mono λk d q n=>⟨λa0=>⟨λr s E _=>n a0 (λa=>by rw[(w k r).2 a]at E;cases E) r s,λr _ _ v=>absurd trivial v⟩,λ_=>trivial⟩
 .show (BS g u b l x).1.N=g.M+1;rw[K.1,d4,z,c4,M,O]
 .show (BS g u b l x).1.bz=false;rw[K.1];exact d2.bz
 .show (BS g u b l x).1.aW=none;rw[K.1];exact d3
end
structure Qh(hs:Nat->Bool)(kp:Nat->Nat->Bool)(b b':By):Prop where
 N:b'.N=b.N
 bz:b'.bz=false
 aW:b'.aW=none
 dv:∀k,k<b.N->b'.dv k=if hs k=true then (b.dv k).map (Dv.nn (kp k)) else none
def OG[Lo](B:Nat)(g:aA)(u:Su)(a:Option Nat)(b:cp->Prop)(Z:bm)(W:M):Prop:=∃V s c,b V/\Z.B=B/\Z.N=u.N/\Z.lz=u.lz/\Inv W Z g a V 100000000000 s c
theorem HC{P:bW}(h:P.ok)(c:n<=P.N){p:Pt}(a:p∈bM P n):∀j,j<128->p.2.2 j<256:=by obtain⟨i,b,rfl⟩:=RK.1 a;exact h.da i (by have:=TY.1 b;omega)
theorem Kp{L:List bW}{p:Pt}(h:p∈cb L):∃P,P∈L/\p∈bM P P.N:=by obtain⟨l,a,b⟩:=YH.1 h;obtain⟨P,c,rfl⟩:=RK.1 a;exact⟨P,c,b⟩
theorem zA[Lo](b5:gQ){N ep B:Nat}{b6:cp->Prop}{hs:Nat->Bool}{aw:Option Nat}{kp:Nat->Nat->Bool}{b b':By}(e7:Can g u N ep b6 b)(b7:b.N=g.M+1)(x:Qh hs kp b b')(F:u.ok g)(b8:u.N=N)(D:u.lost=false)(b9:∀m,m<g.M->u.st m=1)(c0:u.ev<4000000000000000000)(a3:u.cur=0)(c1:hs g.M=true)(O:∀m,m<g.M->(hs m=false↔aw=some m))(a4:∀m,aw=some m->m<g.M)(a5:∀m v,m<g.M->b.dv m=some v->1+g.R<=v.d.n)(a6:∀v,b.dv g.M=some v->2+N<=v.d.n)(c2:∀V,b6 V->tD g V)(h:aC w B b'):
  aF 72 #[ar B] w λe c3=>∃Z:bm,aL e (.tuple #[ar Z.A,aH 0])/\Z.B=B/\Fr mO aG w c3/\OG B g u aw b6 Z c3:=by
 subst b8;obtain⟨c,a7,c4⟩:=e7;have Q:∀k,k<g.M+1->∃v,b.dv k=some v/\v.hf=false/\v.d.failed=false/\v.d.eI/\CQ g u u.N c k v.d:=λk S=>by
  obtain⟨h1,h2⟩:=a7 k aa;cases e:b.dv k with
  |none=>have:=h1 e;cases this
  |some v=>have q:=h2 v e;obtain⟨w1,w2⟩:=q.mR aJ;exact⟨v,rfl,w1,w2,q.eI,q.holds w2⟩
 obtain⟨v0,e0,w1,w2,c5,q0⟩:=Q g.M (TI _);have d8:=q0.2 rfl;have a8:b'.dv g.M=some (Dv.nn (kp g.M) v0):=by rw[x.dv _ aa,ak c1,e0];rfl
 obtain⟨v,c6⟩:=ah (Dv.nn (kp g.M) v0);rw[c6]at a8;have I:v.d=v0.d.settled (kp g.M):=by rw[<-c6];rfl
 have a9:v.hf=false/\v.d.failed=false/\v.d.n=v0.d.n/\v.d.cn=0:=by rw[<-c6];exact⟨w1,w2,rfl,rfl⟩
 have c7:v.d.eI:=by rw[I];exact Dk.fN c5 _
 obtain⟨t,T,Y,V,n⟩:=c4.2 (v.d.view 1) (λk=>v.d.view (2+k)) (by rw[I];exact d8.ck.cut _) λq e8=>by show c.M q (v.d.view (2+(c.t+q)%u.N));rw[I];exact(d8.ring q e8).1.cut _
 have U:b'.N=g.M+1:=by rw[x.N,b7]
 have J:∀k b0,k<g.M+1->b'.dv k=some b0->∃y,b.dv k=some y/\b0=Dv.nn (kp k) y/\hs k=true:=λk b0 S e=>by
  rw[x.dv k aa]at e;by_cases d:hs k=true
  .rw [ak d]at e;obtain⟨y,o,G⟩:=YB.1 e;exact⟨y,o,G.symm,d⟩
  .rw [al d]at e;cases e
 have A:Rm g u.N 900000000000 b':=⟨U,λm s C e=>by
   obtain⟨y,o,G,-⟩:=J m s aa e;subst G;exact⟨a5 m y C o,by show 0+_<_;omega⟩,λs e=>by
   obtain⟨y,o,G,-⟩:=J g.M s aa e;subst G;exact⟨a6 y o,by show 0+_<_;omega⟩⟩
 have b1:=c2 V n.vs;have z:∀L,pU (λk=>v.d.view (2+k)) u.N ep t T L->l_ (λk=>v.d.view (2+k)) u.N ep t T L->Mt g aw hs L V b':=λL K W=>by
  have c8:=n.mi.uniq n.BC K W;have a0:=p' c8;have b2:=nM a0;refine⟨⟨x.bz,λk S=>⟨λe=>?_,λb0 e=>?_⟩⟩,x.aW,U,O,a4,λp a1=>?_,λm r f c9=>?_,b1⟩
  .rw [U]at S;obtain⟨y,o,-⟩:=Q k S;rw[x.dv k aa,o]at e;by_cases d:hs k=true
   .rw [ak d]at e;cases e
   .have j:k≠g.M:=λG=>d (by rw[G];exact c1);exact(O k aa).1 (by simpa using d)
  .rw [U]at S;obtain⟨y,o,rfl,-⟩:=J k b0 S e;obtain⟨v2,G,x1,x2,x3,x4⟩:=Q k S;rw[o]at G;cases G;refine⟨Dk.fN x3 _,λ_=>⟨x1,x2⟩,λ_ j r a2 e9=>?_⟩;have d0:bx (cb Y) (k,r)=none:=by
    have:=b2 (k,r);rw[e9]at this;cases X:bx (cb Y) (k,r)with
    |none=>rfl
    |some f=>rw[X]at this;exact this.elim
   obtain⟨y1,y2⟩:=n.vY k r j a2 d0;exact(((x4.1 j).row r a2 y1).cut (kp k)).trans y2
  .obtain ⟨i,d9⟩:=TV.1 a1;obtain⟨P,d1,d2⟩:=Kp a1;obtain⟨f1,d3⟩:=TV.1 d1;have b3:i<(cb Y).length:=by rw[a0.1];exact(QR.1 d9).1
   have e4:=(a0.2 i _ p (QQ b3) d9).1;have a2:=n.gq _ (YI b3);have d4:((cb Y)[i]).1=p.1:=by have:=congrArg Prod.fst e4;exact this
   have d5:((cb Y)[i]).2.1=p.2.1:=by have:=congrArg Prod.snd e4;exact this
   rw[d4,d5]at a2;exact⟨a2.1,a2.2,HC (K f1 P d3).ok (QE _) d2⟩
  .have:=b2 (m,r);rw[c9]at this;cases X:bx (cb Y) (m,r)with
   |none=>rw[X]at this;exact this.elim
   |some f0=>rw[X]at this;have this:aD f0 f:=this;exact this.symm.trans (n.val m r f0 X)
 have R:∀m,m<g.M->(u.zw hs).st m=if hs m=false then 2 else 1:=λm _=>rfl
 refine(yf b5 B b' g u hs aw (λk=>v.d.view (2+k)) ep t T v w h F D b9 x.bz x.aW (λk S=>⟨λd=>?_,λd=>?_⟩) c1 (λm C e=>(O m C).1 e) ⟨aa,a8,⟨a9.1,a9.2.1⟩,x.bz,x.aW⟩ c7 n.cn n.tN n.ck (λ_ _=>rfl) ⟨A.dC,λm s C e=>⟨(A.mem m s C e).1,by have:=(A.mem m s C e).2;omega⟩,λs e=>⟨(A.gB s e).1,by have:=(A.gB s e).2;omega⟩⟩ c0 ⟨n.lim.1,by have:=n.lim.2;omega⟩ (λL l K W _ b4=>((z L K W).gm b4 R _ (Wl.fresh 0 0)).1) (λL p K W a1=>⟨((z L K W).pl p a1).1,((z L K W).pl p a1).2.1⟩)).mono ?_
 .obtain ⟨y,o,x1,x2,x3,x4⟩:=Q k aa;refine⟨Dv.nn (kp k) y,⟨aa,by rw[x.dv k aa,ak d,o];rfl,⟨x1,x2⟩,x.bz,x.aW⟩,Dk.fN x3 _,?_,λj=>a5 k y j o,λj=>?_⟩
  .by_cases j:k<g.M
   .exact ((x4.1 j).sup).cut _
   .have:k=g.M:=aa;subst this;exact((x4.2 rfl).sup).cut _
  .subst j;exact a6 y o
 .rw [x.dv k aa,al (by rw[d];decide)]
 .rintro e c3 ⟨Z,L,l,rfl,z1,z2,z3,K,W,f2,b4,d6,c9⟩;have d1:=z L K W;obtain⟨-,d7⟩:=d1.gm b4 R (Hv ep t T u.N L) ((Hv ep t T u.N L).cz (ep+1));have e5:Y.length=L.length:=(n.mi.uniq n.BC K W).1;have e6:=n.lim;have f3:l.length<=2048:=by have:=b4.len;have:=jB L;have:=F.ring.2;have f4:bj L<=u.N:=f2;omega
  have E:Rm g u.N 200000000000 (BS g (u.zw hs) b' l (Hv ep t T u.N L)).1:=by
   have r1:Rm g u.N 800000000000 (Ml g (u.zw hs) b').1:=A.run (λa H=>by
    obtain⟨k,-,rfl|rfl⟩:=gO H
    .exact sO _ _ _
    .exact zb _) (by
    have:=lP F.cJ (u.zw hs).tell g.M (QE _);unfold eX;simp only[QU,RB,SE,VW];omega)
   have r2:Rm g u.N 700000000000 (KH g (u.zw hs) b' l).1:=r1.run (λa H=>gH a H) (by rw[RB];have:(fK (cQ g (u.zw hs)) l).length<=l.length:=VI _ _;omega);have r3:Rm g u.N 600000000000 (EW g (u.zw hs) b' l).1:=r2.run (λa H=>xe a H) (by rw[RB];have:=sG F.cJ (cQ g (u.zw hs));omega);have r4:=r3.run (l:= [(g.M,aR 1 (aV (ep+1) (T+L.length) ((t+bj L)%u.N))),dq g.M]) (k:=200000000000) (λa H=>by
    rcases UH.1 H with rfl|H
    .exact λv=>ey _ _ v
    .rw [SM.1 H];exact zb _) (by show 200000000000+2<=_;omega)
   rw[<-(By.Fe _ _ _).1]at r4;exact r4
  refine⟨Z,rfl,z1,c9,V,_,_,n.vs,z1,z2,z3,d6,d7,?_,λm=>?_,λm C M=>?_,?_,?_,?_,⟨rfl,rfl,D⟩,z2.symm,z3.symm⟩
  .refine Su.sP ?_ (by show u.ev<_;omega);exact⟨F.cJ,F.id,F.ev,QO _,F.ring,λm _=>by by_cases e:hs m=false;exact Or.inr (Or.inl (ak e));exact Or.inl (al e),λm k C S h3=>by have h3:(if hs m=false then 2 else 1)=3:=h3;split at h3<;>omega,by show u.cur<g.s;exact F.cur.1,λf5=>absurd a3 f5⟩
  .show (cQ g (u.zw hs)).fr m=_;rw[vO];rfl
  .have M:(if hs m=false then 2 else 1)≠1:=M;refine(O m C).1 ?_;by_cases o:hs m=false
   .exact o
   .rw [al o]at M;exact absurd rfl M
  .rintro ⟨m,C,X⟩;have X:(if hs m=false then 2 else 1)=3:=X;split at X<;>omega
  .refine ⟨F.cJ,E.dC,λm s C e=>⟨(E.mem m s C e).1,by have:=(E.mem m s C e).2;omega⟩,λs e=>⟨(E.gB s e).1,by have:=(E.gB s e).2;omega⟩,rfl,⟨?_,?_,?_⟩,QO _,λp a1=>(by cases a1),ZI⟩
   .show ep+1+100000000000<=_;omega
   .show 1<=T+L.length;have:=n.cn.2.1;omega
   .show T+L.length+100000000000<=_;omega
  .show u.ev+1+100000000000<=_;omega
structure Mu[Lo](w:M)(B:Nat)(b:By)(R:bm->M->Prop):Prop where
 call:∀W,aC W B b->Fr TB aG w W->aF 72 #[ar B] W fun e w'=>∃Z:bm,aL e (.tuple #[ar Z.A,aH 0])/\Z.B=B/\Fr mO aG W w'/\R Z w'
 ct:∀Z W,R Z W->∃b,aC W Z.B b
 stay:∀Z W W',R Z W->Fr [46,73] aG W W'->R Z W'
theorem HD[Lo](G:Nat)(Z:bm)(g:aA)(X:Nat)(N M:Int)(pv m:QC)(L:Nat)(n:aN)(O:Nat->Nat->Bool)(b:By)(w:QA)(R:bm->QA->Prop)(I:bX w G Z g)(a9:aC w Z.B b)(b0:gG w m L n O)(b4:L<=1000000)(Y:Lo.lo<=G/\Lo.lo<=w.heap.size)(H:Mu w Z.B (b.cut (cE L n O)) R):
  aF 38 #[ar G,fO X N 0 M pv m] w λe f=>aL e (dw 0 aO 0)/\∃h,bX f G h g/\Fr TM aG w f/\R h f:=by
 obtain⟨J,bA,x,b1,y,z,P,Q,c⟩:=pL w X N 0 M pv m;have d:=(c.block _ (Z_ I)).trans I;obtain⟨a1,a2,a3⟩:=cr P;obtain⟨s1,s2,s3⟩:=cr d;have b5:QX (∀W,aq J W->aF 71 #[ar Z.B,m] W λe f=>aL e (.tuple #[])/\aC f Z.B (b.cut (cE L n O))/\Fr TB aG J f):=λW a0=>(FP Z.B b m L n O W ((a9.below c).below a0) ((b0.fr (T:= []) (Fr.af c)).fr (T:= []) (Fr.af a0)) b4).mono λe f ⟨h1,h2,h3⟩=>⟨h1,h2,(Fr.af a0).tr h3⟩;have b2:=ad H;have b6:=ad jQ;have A:QX (∀T:List Nat,(T.contains 73||T.contains 50||T.contains 46)=false->∀i,Fr T aG J i->aX i G (ao #[ar Z.B,ar Z.A,ae g.R,ae g.M,ae g.c,ae g.s] 73)/\aX i bA (ao #[eb X,ae N,ae 0,ae M,pv,m] 50)/\aX i x z46):=λT S i o=>by simp only[ZO]at S;exact⟨o.hp d S.1.1,o.hp P S.1.2,o.hp Q S.2⟩
 have B:=ca P Q d c Y;have j:=aT b1 y z;have C:¬G=x:=gU d Q ai;have a4:¬x=G:=λe=>C e.symm;clear I H b1 y z P Q c d a9 b0;go_enter func38,ntmps38;go_wp2_with fail;rw[j.1,j.2.2,j.2.1];go_region_held3(λf=>f.cell? (ag G 0)=some (ar Z.B)/\f.cell? (ag bA 5)=some m) ((simp[*,go_sem];done)) (first
  |(go_at_call 71;refine(b5 _ (by first|exact aj|exact cK aj _)).mono ?_;rintro e i ⟨rfl,D,o⟩
    have k:=A.out TB rfl i o;obtain⟨v1,v2,v3⟩:=cr k.1;obtain⟨v4,v5,v6⟩:=cr k.2.1;have U:=aT D o k;clear D o k))
 go_wp2_with(first
  |(go_at_call 72;refine(b2.call _ (U.1.below (by first|exact aj|exact cK aj _)) (((Fr.af B.2.2.2.1).tr U.2.1).then (by first|exact aj|exact cK aj _))).mono ?_;rintro e u ⟨h,rfl,b3,q,E⟩
    have r:=A.out mO rfl u ((U.2.1.wide mO rfl).tr (((Fr.af (by first|exact aj|exact cK aj _):Fr mO aG i _)).tr q));obtain⟨u1,u2,u3⟩:=cr r.1;have l:=aY b3 E r ((U.2.1.wide mO rfl).tr (((Fr.af (by first|exact aj|exact cK aj _):Fr mO aG i _)).tr q));clear b3 q E r)
  |(go_at_call 21;refine(b6 0 _).mono ?_;rintro e w4 ⟨rfl,a⟩
    have F:=(a.block _ (Z_ (heap_setCell_same _ _ _ _ _ _ l.2.2.1.1))).trans (heap_setCell_same _ _ _ _ _ _ l.2.2.1.1);have s:=(RJ u (ag G 1) x (ar h.A) (by first|exact a4|exact C)).trans l.2.2.1.2.2;have t:=(a.block _ (Z_ s)).trans s;obtain⟨r7,r8,r9⟩:=cr t;have V:=aT a F t;clear a F s t)
  |fail)
 have a5:w.heap.size<=x:=by have:=j.2.2;omega
 obtain⟨y1,y2,y3⟩:=xJ (w:=w) V.2.2 rfl a5 B.2.2.2.2.2 (aH 0) aO (ae 0);have c0:=(cr y1).1 0;have c1:=(cr y1).1 1;have c2:=(cr y1).1 2;have a6:Fr TM aG w u:=((Fr.af B.2.2.2.1).tr l.2.2.2).wide TM rfl;have a7:Fr TM aG w (u.setCell (ag G 1) (ar h.A)):=a6.set (p:=ag G 1) l.2.2.1.1 rfl B.2.2.2.2.1 _;have a8:Fr [46,73] aG u (u.setCell (ag G 1) (ar h.A)):=(Fr.refl _ _ _).set (p:=ag G 1) l.2.2.1.1 rfl B.2.2.2.2.1 _;have K:bX w4 G h g:=by have:=V.2.1;rw[<-l.1]at this;exact this
 refine QT (v:=dw 0 aO 0) (by simp[RP,results38,go_sem,c0,c1,c2]) rfl ⟨rfl,h,y2.hp K rfl,y3 (a7.then V.1),b2.stay h _ _ l.2.1 ((a8.then V.1).tr (y2.wide [46,73] rfl))⟩
section
theorem Lit.Mv{Q:Nat->Nat->Dk->Prop}{b:By}{l:List fR}(h:Lit none (Q 0) b)(c:b.aW=none)(d:∀i a,l[i]?=some a->a.1<b.N/\ff (Q i) (Q (i+1)) a):Lit none (Q l.length) (b.run l).1/\(b.run l).1.aW=none/\(b.run l).1.N=b.N:=by
 rcases h.Hz d with⟨-,q⟩|⟨-,q,-⟩
 .exact ⟨q,By.eA c l,By.gb b l⟩
 .exact absurd c q
abbrev KJ(f:aN):Prop:=aD f λ_=>0
def ti(_:Nat)(d:Dk):Prop:=∀a,d.nK a KJ
theorem Ff{k a:Nat}:ff ti ti (k,aR a λ_=>0):=ej (λ_ _=>ai) (λd h x=>(h x).wr λ_=>aD.refl _) λ_ _ _ h=>h
theorem Lit.Mw{b:By}(h:Lit none ti b)(e:b.aW=none){J:Nat}(f:J<b.N){pl:aN}:∀n,Lit none ti (b.db J pl (λ_ _=>0) n).1/\(b.db J pl (λ_ _=>0) n).1.aW=none/\(b.db J pl (λ_ _=>0) n).1.N=b.N
 |0=>⟨h,e,rfl⟩
 |n+1=>by
  obtain⟨i,c,d⟩:=Lit.Mw h e f n;unfold By.db;split
  .rcases i.Hy (a:=(J,aR (pl n) λ_=>0)) (by rw[d];exact f) Ff with⟨-,q⟩|⟨-,q,-⟩
   .exact ⟨q,By.dz c,by rw[By.fW,d]⟩
   .exact absurd c q
  .exact ⟨i,c,d⟩
def vP(g:aA)(k:Nat):Nat:=if k=g.M then 0 else k+1
structure Kq(g:aA)(u:Su)(i k:Nat)(d:Dk):Prop where
 mem:k<g.M->∀r,d.nK (1+r) KJ
 gB:k=g.M->d.nK 1 (fun f=>aD f (aV 1 1 0))/\∀q,d.nK (2+q) KJ
 told:k<=g.M->vP g k<i->aD (d.view 0) (fZ g (u.sl k))
 fl:k<=g.M->vP g k+(g.M+1)<i->d.nK 0 fun f=>aD f (fZ g (u.sl k))
theorem qc{g:aA}{j k:Nat}(a:j<g.M+1)(h:k≠ek g j):vP g k≠j:=by unfold ek at h;unfold vP;split at h<;>split<;>omega
theorem vQ{g:aA}{j:Nat}(a:j<g.M+1):vP g (ek g j)=j:=by
 unfold ek vP;split
 .rw [ak rfl];omega
 .rw [al J];omega
variable {g:aA} {N:Nat} {lz:Bool} {b:By}
theorem Fg(K:g.ok)(h:qA g N b)(I:N<=2048)(u:Su):Lit none (CQ g u N (qa (Wl.fresh N 1) 1 [] bW.no 0 om)) (qz g N u b):=by
 have O:Lit none ti b:=⟨h.bz,λk s=>by rw[h.dv k (by rw[<-h.bN];exact s)];refine⟨λe=>(by cases e),λv P=>?_⟩;cases P;exact⟨Dk.rB _,λ_=>⟨rfl,rfl⟩,λ_ a=>.clean rfl (by rw[Dk.hS rfl];exact aD.refl _)⟩⟩;obtain⟨S,T,D⟩:=O.Mv (Q:=λ_=>ti) (l:=eO g g.M) h.aW λi a t=>by obtain⟨Y,r,-,U⟩:=lR (QV t);refine⟨by rw[h.bN];omega,?_⟩;rw[U];exact Ff
 rw[h.bN]at D;obtain⟨L,C,E⟩:=Lit.Mw (J:=g.M) (pl:=λp=>2+p) S T (by rw[D];omega) N;rw[D]at E;obtain⟨w,z⟩:=ah (((b.run (eO g g.M)).1.db g.M (λp=>2+p) (λ_ _=>0) N).1);rw[z]at L C E;have V:j' g N b=(w.ck g.M (aV 1 1 0)).1:=by rw[<-z];rfl
 have A:Lit none (Kq g u 0) (w.ck g.M (aV 1 1 0)).1/\(w.ck g.M (aV 1 1 0)).1.aW=none/\(w.ck g.M (aV 1 1 0)).1.N=g.M+1:=by
  have W:ff ti (λk d=>(k<g.M->ti k d)/\(k=g.M->aD (d.view 1) (aV 1 1 0)/\∀q,d.nK (2+q) KJ)) (g.M,aR 1 (aV 1 1 0)):=
   ej (λj m=>hL 1 1 0 j m) (λd c=>⟨λe=>absurd e (TL _),λ_=>⟨by rw[Dk.eU,ak rfl];exact aD.refl _,λq=>(c _).wr λe=>aa⟩⟩) λj d m c=>⟨λ_=>c,λe=>absurd e m⟩
  have X:ff (λk d=>(k<g.M->ti k d)/\(k=g.M->aD (d.view 1) (aV 1 1 0)/\∀q,d.nK (2+q) KJ)) (Kq g u 0) (dq g.M):=
   fB (λd c=>⟨λe=>absurd e (TL _),λ_=>⟨.fl (c.2 rfl).1,λq=>.fl ((c.2 rfl).2 q).view⟩,λ_ e=>absurd e (RQ _),λ_ e=>absurd e (RQ _)⟩) λj d m c=>⟨λe r=>c.1 e _,λe=>absurd e m,λ_ e=>absurd e (RQ _),λ_ e=>absurd e (RQ _)⟩
  rcases L.Hy (a:=(g.M,aR 1 (aV 1 1 0))) aa W with⟨Z,H⟩|⟨-,q,-⟩
  .have F:(w.op g.M (aR 1 (aV 1 1 0))).2=0:=Z;unfold By.ck;rw[ak F];rcases H.Hy (a:=dq g.M) (by show g.M<_;rw[By.fW];omega) X with⟨-,r2⟩|⟨-,r,-⟩
   .exact ⟨r2,By.dz (By.dz C),by rw[By.fW,By.fW,E]⟩
   .exact absurd (By.dz C) r
  .exact absurd C q
 rw[<-V]at A;obtain⟨M,R,c3⟩:=A;have n:=M.Mv (Q:=λi=>Kq g u i) (l:=xH g u) R λi a t=>by
  have a0:i<2*(g.M+1):=by rw[<-oq g u];exact(QR.1 t).1
  by_cases e:i<g.M+1
  .have:=sT (u:=u) (i:=0) e aa;rw[VY,RE,t,ak rfl]at this;cases this;refine⟨by rw[c3];exact oo K e,ej (λj _=>od _ _ j) (λd c=>⟨λx r=>(c.mem x r).wr λy=>aa,λx=>⟨(c.gB x).1.wr λy=>aa,λq=>((c.gB x).2 q).wr λy=>aa⟩,λ_ _=>?_,λ_ x=>?_⟩) λj d m c=>⟨c.mem,c.gB,λy x=>c.told y ?_,λy x=>c.fl y ?_⟩⟩
   .rw [Dk.eU,ak rfl];exact aD.refl _
   .omega
   .have:=qc e (show j≠ek g i from m);omega
   .omega
  .obtain ⟨j,rfl⟩:∃j,i=g.M+1+j:=⟨i-(g.M+1),aa⟩;have m:j<g.M+1:=aa;have:=sT (u:=u) (i:=1) m aa;rw[Nat.one_mul,t,al ai]at this;cases this;refine⟨by rw[c3];exact oo K m,fB (λd c=>⟨λx r=>.fl (c.mem x r).view,λx=>⟨.fl (c.gB x).1.view,λq=>.fl ((c.gB x).2 q).view⟩,λy _=>?_,λy x=>.fl (c.told y ?_)⟩) λk d s c=>⟨c.mem,c.gB,λy x=>c.told y ?_,λy x=>c.fl y ?_⟩⟩
   .rw [Dk.mf];refine c.told y ?_;rw[vQ m];omega
   .rw [vQ m];omega
   .have:=qc m (show k≠ek g j from s);unfold vP at x|-;split at x<;>split<;>omega
   .have:=qc m (show k≠ek g j from s);omega
 have o:∀f,KJ f->kx 1 f:=λf G=>kx.plain (by unfold hE;simp[G 0 aa]);refine n.1.mono λk d s c=>?_;rw[oq]at c;have s:k<g.M+1:=by
  have:(qz g N u b).N=g.M+1:=by rw[<-c3];exact n.2.2
  omega
 have B:=c.fl aa (by unfold vP;split<;>omega);refine⟨λe=>⟨B,λr _ _=>c.mem e r⟩,λe=>⟨by subst e;exact B,(c.gB e).1,(c.gB e).1.view,λq a4=>⟨((c.gB e).2 _).mono λf G=>?_,?_⟩⟩⟩
 .show Mp (Wl.fresh N 1) 1 [] bW.no q f;unfold Mp;rw[al (show¬q<(Wl.fresh N 1).u from RQ q)];exact .inl (o f G)
 .show Wp (Wl.fresh N 1) 1 [] bW.no 0 q _;unfold Wp;rw[al (show¬q<(Wl.fresh N 1).u from RQ q),al (show¬q<(Wl.fresh N 1).u+0 from RQ q)];exact o _ ((c.gB e).2 _).view
theorem zC(c:g.ok)(h:qA g N b)(d:5<=N/\N<=2048)(lz:Bool):Cx g (Su.born N lz) N 1 (oj g N lz (qz g N (Su.born N lz) b)) [] om om:=by
 obtain⟨i,j,-⟩:=pJ c h d.2 lz;refine⟨⟨rfl,by show 0<N;omega,rfl,QO _,rfl,by show cM 1 1;unfold cM;omega,by show 1<_/\1<_;omega,QE _,λP k=>(by cases k),λp a=>by simp[cb]at a,λm r f l=>(by cases l),λ_=>rfl,λe=>by cases e⟩,Fg c h d.2 _,?_,λp a=>by cases a⟩;have e:(oj g N lz (qz g N (Su.born N lz) b)).er=oj g N lz (qz g N (Su.born N lz) b):=by
  have:(qz g N (Su.born N lz) b).er=qz g N (Su.born N lz) b:=by unfold By.er;rw[<-j.aW]
  unfold Rs.er;rw[show(oj g N lz (qz g N (Su.born N lz) b)).b=qz g N (Su.born N lz) b from rfl,this];rfl
 rw[e];exact i
end
section
variable {g:aA} {u:Su} {N sq ep:Nat} {s s':Rs} {L:List bW} {Vp V V':cp} {Vs:cp->Prop} {k er:Nat} {P:bW} {l:List Pt}
def Fv(x:Wl)(sq:Nat)(L:List bW)(P:bW)(V:cp):Cp:={qa x sq L P (2*P.N) V with M:=Wp x sq L P (2*P.N)}
theorem IE(x:Wl)(j:Nat):x.pl j=2+(x.t+(x.u+j))%x.N:=by unfold Wl.pl;rw[Nat.mod_add_mod,UP]
theorem zD{b:By}{x:Wl}(p:Lit none (CQ g u N (qa x sq L P 0 Vp)) b)(d:g.M<b.N)(h:x.N=N)(r:nY P)(t:x.u+2*P.N+1<=N):∀n,n<=2*P.N->
  ((b.db g.M x.pl (bh x.ep x.nx P) n).2=0/\(b.aW=none->(b.db g.M x.pl (bh x.ep x.nx P) n).1.aW=none)/\Lit none (CQ g u N (qa x sq L P n Vp)) (b.db g.M x.pl (bh x.ep x.nx P) n).1)\/
  ((b.db g.M x.pl (bh x.ep x.nx P) n).2=50/\b.aW≠none/\∃j,qv none (CQ g u N (qa x sq L P j Vp)) (b.db g.M x.pl (bh x.ep x.nx P) n).1)
 |0,_=>.inl ⟨rfl,λe=>e,p⟩
 |n+1,y=>by
  unfold By.db;rcases zD p d h r t n J with⟨i,m,o⟩|⟨i,m,o⟩
  .rw [ak i];have v:ff (CQ g u N (qa x sq L P n Vp)) (CQ g u N (qa x sq L P (n+1) Vp)) (g.M,aR (x.pl n) (bh x.ep x.nx P n)):=by
    rw[IE,h];refine zy (c:=qa x sq L P n Vp) (q0:=x.u+n) (oe r.ok J) J rfl rfl rfl (λ_ _ _ a=>a) ?_ (λq f _ w a=>?_) ?_ (.refl rfl rfl)
    .show Mp x sq L P _ _;unfold Mp;rw[al J,show x.u+n-x.u=n by omega];exact .inr ⟨J,aD.refl _⟩
    .have a:Wp x sq L P n q f:=a;show Wp x sq L P (n+1) q f;unfold Wp at a|-;split
     .rename_i e;rwa[ak e]at a
     .rename_i e;rw[al e]at a;split
      .rwa [ak J]at a
      .rwa [al J]at a
    .show Wp x sq L P (n+1) _ _;unfold Wp;rw[al J,ak J,show x.u+n-x.u=n by omega];exact aD.refl _
   rcases o.Hy (a:=(g.M,aR (x.pl n) (bh x.ep x.nx P n))) (by rw[By.ki];exact d) v with⟨r1,r2⟩|⟨r1,r2,r3⟩
   .exact .inl ⟨r1,λe=>By.dz (m e),r2⟩
   .exact .inr ⟨r1,λe=>r2 (m e),n,r3⟩
  .rw [al (by rw[i];decide)];exact .inr ⟨i,m,o⟩
theorem Cx.log(h:Cx g u N sq s L Vp V)(A:nY (aQ l))(G:s.x.u+2*l.length+1<=N)(K:Vs V)(B:s.x.sure=false->Vs Vp)(O:qt g l s s' k er):
  qh g u N s.x.ep Vs s.b s'.b er (Lit none (CQ g u N (Fv s'.x sq L (aQ l) V)) s'.b/\Jl g N sq s'.x L V V/\s'.x.sure=true/\s'.ro=s.ro/\Gt g none V s'.er/\s'.x=s.x.cN (2*l.length+1) (bh s.x.ep s.x.nx (aQ l) (2*l.length)) 0):=by
 have Q:s.b.N=g.M+1:=h.gt.gd.N;have o:Lit none (CQ g u N (qa s.x sq L (aQ l) 0 Vp)) s.b:=h.lit.zz λj d S=>S.mono rfl (λ_ a=>a) (λ_ a=>a) (λq f _ a=>by
   have a:Mp s.x sq L bW.no q f:=a;show Mp s.x sq L (aQ l) q f;unfold Mp at a|-;split
   .rename_i e;rwa[ak e]at a
   .rename_i e;rw[al e]at a;exact .inl (a.resolve_right λb=>by have:=b.1;simp only[bW.no]at this;omega)) (λq f _ a=>by
   have a:Wp s.x sq L bW.no 0 q f:=a;show Wp s.x sq L (aQ l) 0 q f;unfold Wp at a|-;split
   .rename_i e;rwa[ak e]at a
   .rename_i e;rw[al e,al J]at a;rw[al J];exact a) (.refl rfl rfl)
 have p:∀j,Yl g N s.x.ep Vs (qa s.x sq L (aQ l) j Vp):=λj=>h.jl.yl (.inr A) (λ_=>G) j K B;obtain⟨n,C,w⟩:=O;have T:=zD o J h.jl.n A G (2*l.length) (QE _);have i:s.gK g l=if(s.b.db g.M s.x.pl (bh s.x.ep s.x.nx (aQ l)) (2*l.length)).2=0 then(s.b.db g.M s.x.pl (bh s.x.ep s.x.nx (aQ l)) (2*l.length)).1.op g.M be else s.b.db g.M s.x.pl (bh s.x.ep s.x.nx (aQ l)) (2*l.length):=rfl
 have U:=h.gt;rcases T with⟨x,y,D⟩|⟨x,y,j,D⟩
 .rw [ak x]at i;obtain⟨z,c⟩:=ah (s.x.cN (2*l.length+1) (bh s.x.ep s.x.nx (aQ l) (2*l.length)) 0);have r:z.sure=true:=by rw[<-c];rfl
  have t:∀q f,Wp s.x sq L (aQ l) (2*l.length) q f->Wp z sq L (aQ l) (2*(aQ l).N) q f:=λq f a=>by rw[<-c];exact a
  have W:ff (CQ g u N (qa s.x sq L (aQ l) (2*l.length) Vp)) (CQ g u N (Fv z sq L (aQ l) V)) (dq g.M):=
   E' (by rw[<-c];rfl) (λf v=>by rw[<-c];exact⟨v,v⟩) (λq f Z v=>⟨t q f v,t q f v⟩) (h.jl.Pn rfl rfl (vN r) rfl)
  rcases D.Hy (a:=dq g.M) (by show g.M<_;rw[By.ki];omega) W with⟨r1,r2⟩|⟨r1,r2,r3⟩
  .have E:(s.gK g l).2=0:=by rw[i];exact r1
   have F:qt g l s.er s'.er k 0:=by have:s.er.gK g l=((s.gK g l).1.er,0):=By.E_ E;refine⟨?_,C,by rw[this]⟩;show s'.er=_;rw[this,n,E];rfl
   rw[E]at w n;subst w;have m:s'.x=z:=by rw[n,<-c]
   refine .inl ⟨rfl,λe=>?_,?_,?_,by rw[m];exact r,by rw[n],(U.log A.ok F).1,by rw[m,c]⟩
   .rw [n,i];exact By.dz (y e)
   .rw [m,n,i];exact r2
   .rw [m,<-c];exact h.jl.Fb _
  .have X:(s.gK g l).2=50:=by rw[i];exact r1
   refine .inr (qv.ends ?_ (p (2*l.length)) (λe=>r2 (y e)) (by rw[w,X]));rw[n,i];exact r3
 .rw [al (by rw[x];decide)]at i;refine .inr (qv.ends ?_ (p j) y (by rw[w,i,x]));rw[n,i];exact D
theorem BF(l:List Pt):bM (aQ l) (aQ l).N=l:=by
 apply TJ;intro i;unfold bM;rw[RI];by_cases h:i<l.length
 .rw [SF (show i<(aQ l).N from h),QY];show some ((((l[i]?).map (·.1)).getD 0),(((l[i]?).map (·.2.1)).getD 0),(((l[i]?).map (·.2.2)).getD λ_=>0))=_;rw[QQ h];rfl
 .rw [RF (show l.length<=i by omega),RF (by rw[List.length_range];exact Nat.le_of_not_lt h)];rfl
theorem yj{x:Wl}(h:Jl g N sq x L Vp V)(P:bW):(∀q,q<x.u->g' x.ep sq (L++ [P]) q=g' x.ep sq L q)/\∀j,j<=2*P.N->g' x.ep sq (L++ [P]) (x.u+j)=bh x.ep x.nx P j:=by
 have d:=h.u;refine⟨λq m=>?_,λj e=>?_⟩
 .obtain ⟨i,Q,j,a,b,rfl⟩:=ha (L:=L) (q:=q) J;have f:=(QR.1 a).1;have c:(L++ [P])[i]?=some Q:=by rw[RD f];exact a
  have:=eY (ep:=x.ep) (sq:=sq) b c;rw[XC J]at this;rw[this,eY b a]
 .have c:(L++ [P])[L.length]?=some P:=aJ;have:=eY (ep:=x.ep) (sq:=sq) e c;rwa[List.take_left' rfl,<-d,<-h.nx]at this
theorem HE(i:Jl g N sq s.x L V V)(M:s.x.sure=true)(R:Lit none (CQ g u N (Fv s.x sq L (aQ l) V)) s.b)(K:g.M<s.b.N)(O:nY (aQ l))(S:s.x.u+2*l.length+1<=N)(I:s.x.nx+1<4000000000000000000)(w:∀p,p∈l->p.1<g.M/\p.2.1<g.R/\aD p.2.2 (V' p.1 p.2.1))(v:∀m r,m<g.M->r<g.R->bx l (m,r)=none->aD (V m r) (V' m r))(H:Vs V)(x:lI g l s s' k er)(Y:er=0->Gt g none V' s'.er):
  qh g u N s.x.ep Vs s.b s'.b er (Cx g u N sq s' (L++ [aQ l]) V V'/\s'.x=s.x.eo (2*l.length+1) 0/\s'.ro={s.ro with sl:=true,wt:=l}):=by
 obtain⟨o,-,T⟩:=x;have y:=BF l;have n:∀q,bx (cb (L++ [aQ l])) q=match bx l q with|some f=>some f|none=>bx (cb L) q:=λq=>by rw[gC,jU,y] <;>cases bx l q<;>rfl
 obtain⟨h,d⟩:=ah (s.x.eo (2*l.length+1) 0);obtain⟨J,F⟩:=yj i (aQ l);have C:(aQ l).N=l.length:=rfl;rw[C]at F;have D:h.u=s.x.u+(2*l.length+1):=by rw[<-d];rfl
 have eZ:h.nx=s.x.nx+1:=by rw[<-d];rfl
 have j:h.ep=s.x.ep:=by rw[<-d];rfl
 have t:h.t=s.x.t:=by rw[<-d];rfl
 have z:h.sure=false:=by rw[<-d];rfl
 have U:Jl g N sq h (L++ [aQ l]) V V':=by
  refine⟨by rw[<-d];exact i.n,by rw[t];exact i.t,?_,aa,?_,by rw[j,eZ];have:=i.c;unfold cM at this|-;omega,by rw[j,eZ];exact⟨i.lim.1,I⟩,i.sq,λQ a0=>?_,λp x=>?_,λm r f A=>?_,λe=>(by rw[z]at e;cases e),λ_=>⟨L,aQ l,rfl,i.val,λm r a1 S a2=>v m r a1 S (by rw[<-y];exact a2)⟩⟩
  .rw [iA,D,i.u,C]
  .rw [eZ,i.nx,QU];rfl
  .rcases TH.1 a0 with e|e
   .exact i.pk Q e
   .rw [SM.1 e];exact O
  .rw [gC,y]at x;rcases TH.1 x with e|e
   .exact i.pl p e
   .exact ⟨(w p e).1,(w p e).2.1⟩
  .rw [n]at A;cases B:bx l (m,r)with
   |some a5=>rw[B]at A;cases A;obtain⟨p,a,b,rfl⟩:=mc B;cases b;exact(w p a).2.2
   |none=>rw[B]at A;obtain⟨p,a,b,-⟩:=mc A;have:=i.pl p a;cases b;exact(i.val _ _ f A).trans (v _ _ this.1 this.2 B)
 have a3:ff (CQ g u N (Fv s.x sq L (aQ l) V)) (CQ g u N (qa h sq (L++ [aQ l]) bW.no 0 V)) (g.M,aR (s.x.pl (2*l.length+1-1)) (bh s.x.ep s.x.nx (aQ l) (2*l.length))):=by
  rw[show 2*l.length+1-1=2*l.length by omega,IE,i.n];have conv:∀q f,q≠s.x.u+2*l.length->Wp s.x sq L (aQ l) (2*l.length) q f->Wp h sq (L++ [aQ l]) bW.no 0 q f:=λq f E a=>by
   unfold Wp at a|-;rw[D,eZ,j];by_cases W:q<s.x.u
   .rw [ak W]at a;rw[ak aa,J q W];exact a
   .rw [al W]at a;by_cases G:q<s.x.u+2*l.length
    .rw [ak G]at a;rw[ak aa,show q=s.x.u+(q-s.x.u)by omega,F _ aa];exact a
    .rw [al G]at a;rw[al aa,al aa];exact a.mono aa
  refine zy (c:=Fv s.x sq L (aQ l) V) (q0:=s.x.u+2*l.length) (oe O.ok (QE _)) aa t (by show(λf=>aD f (aV h.ep sq h.t))=λf=>aD f (aV s.x.ep sq s.x.t);rw[j,t]) (by show(λf=>aD f (aV h.ep sq h.t))=λf=>aD f (aV s.x.ep sq s.x.t);rw[j,t]) (λq f _ a=>?_) ?_ (λq f _ E a=>conv q f E a) ?_ (.refl ?_ rfl)
  .show Mp h sq (L++ [aQ l]) bW.no q f;by_cases e:q=s.x.u+2*l.length
   .subst e;have a:Wp s.x sq L (aQ l) (2*l.length) _ f:=a;unfold Wp at a;rw[al aa,al aa]at a;unfold Mp;rw[ak aa,eZ];exact .inr ⟨z,aa,a⟩
   .have a:=conv q f e a
    unfold Wp at a;unfold Mp;split
    .rename_i e;rw[ak e]at a;exact .inl a
    .rename_i e;rw[al e,al aa]at a;exact .inl a
  .show Mp h sq (L++ [aQ l]) bW.no _ _;unfold Mp;rw[ak aa,j,F _ (QE _)];exact .inl (aD.refl _)
  .show Wp h sq (L++ [aQ l]) bW.no 0 _ _;unfold Wp;rw[ak aa,j,F _ (QE _)];exact aD.refl _
  .show th h (L++ [aQ l])=th s.x L;funext m r;unfold th;rw[z,M,al ai,ak rfl,jV]
 rcases R.Hy (a:=(g.M,aR (s.x.pl (2*l.length+1-1)) (bh s.x.ep s.x.nx (aQ l) (2*l.length)))) K a3 with⟨X,Z⟩|⟨X,Z,q3⟩
 .have h0:(s.cT g (2*l.length+1) (bh s.x.ep s.x.nx (aQ l) (2*l.length))).2=0:=X;rw[h0]at o T;subst T;rw[ak rfl,d]at o;refine .inl ⟨rfl,λe=>by rw[o];exact By.dz e,⟨by rw[o];exact U,by rw[o];exact Z,Y rfl,λp x=>?_⟩,by rw[o,d],by rw[o]⟩;rw[o]at x;rw[n];have:bx l (p.1,p.2.1)≠none:=rO.1 ⟨p,x,rfl⟩;cases B:bx l (p.1,p.2.1)with
  |some f=>simp
  |none=>exact absurd B this
 .have h5:(s.cT g (2*l.length+1) (bh s.x.ep s.x.nx (aQ l) (2*l.length))).2=50:=X;have a4:Yl g N s.x.ep Vs (Fv s.x sq L (aQ l) V):=(i.yl (P:=aQ l) (Vp:=V) (.inr O) (λ_=>S) (2*l.length) H λ_=>H).le (c':=Fv s.x sq L (aQ l) V) rfl (λ_ a=>a) (λq f _ a=>by
   have a:Wp s.x sq L (aQ l) (2*l.length) q f:=a;show Mp s.x sq L (aQ l) q f;unfold Wp at a;unfold Mp;split
   .rename_i e;rw[ak e]at a;exact .inl a
   .rename_i e;rw[al e]at a;split at a
    .rename_i G;exact .inr ⟨G,a⟩
    .exact .inl a) (λ_ _ a=>a) rfl
  refine .inr (qv.ends ?_ a4 Z (by rw[T,h5]));rw[o];exact q3
end
section
variable {g:aA} {u:Su} {N sq ep C:Nat} {s s':Rs} {L:List bW} {Vp V:cp} {Vs:cp->Prop} {k er:Nat} {Bt:bq}
theorem Cx.bU(h:Cx g u N sq s L Vp V){l:List Nat}(m:∀k,k∈l->k<g.M+1/\∃r,s.ro.down k r=false)(p:Vs V)(d:s.x.sure=false->Vs Vp):
  qh g u N s.x.ep Vs s.b (s.b.bU l).1 (s.b.bU l).2.2 (Cx g u N sq {s with b:=(s.b.bU l).1} L Vp V):=by
 have f:s.b.N=g.M+1:=h.gt.gd.N;have n:=h.lit.Hz (Q:=λ_=>CQ g u N (qa s.x sq L bW.no 0 Vp)) (l:=l.map Lq) λi a q=>by obtain⟨k,t,rfl⟩:=RK.1 (QV q);exact⟨by rw[f];exact(m k t).1,uW _ k⟩
 rw[<-By.dJ]at n;rcases n with⟨c,j⟩|⟨c,j,i,-,v⟩
 .refine .inl ⟨c,λe=>by rw[By.dJ];exact By.eA e _,h.jl,j,?_,h.wt⟩;have o:=(h.gt.bU (l:=l) m).1;have e:s.er.b.bU l=((s.b.bU l).1.er,0,0):=by rw[By.dJ,By.dJ];exact By.nd _ (by rw[<-By.dJ];exact c)
  rw[e]at o;exact o
 .exact .inr (qv.ends v (h.yl p d) j c)
structure OH(g:aA)(u:Su)(N:Nat)(Vs:cp->Prop)(V V':cp)(s s':Rs):Prop where
 cx:∃sq L Vp,Cx g u N sq s' L Vp V'/\(s'.x.sure=false->Vp=V)
 lz:s.ro.lz=false->s'.x.sure=true/\s'.ro.wt= []
 ep:s'.x.ep=s.x.ep
 nx:s'.x.nx<=s.x.nx+1
theorem Fit.MP(h:Fit g C s):Fit g C s.er:=⟨h.cJ,h.N,h.mem,h.gB,h.bad,h.cy,h.h',h.wt,h.mg⟩
theorem Cx.write(h:Cx g u N sq s L Vp V)(hF:Fit g C s)(f7:100000<=C)(d8:Bt.ok g)(e_:1<=Bt.n)(f8:N<=2048)(d9:2*Bt.c_ g+1<=N)(F:Vs V)(H:s.x.sure=false->Vs Vp)(c0:Vs (Bt.fQ g V))(e0:s.x.nx+1<4000000000000000000)(S:eS g Bt s s' k er):
  qh g u N s.x.ep Vs s.b s'.b er (OH g u N Vs V (Bt.fQ g V) s s'):=by
 have e3:=hF.cJ;have b8:Cx g u N sq s.fe L Vp V:=⟨h.jl,h.lit,h.gt.fe,h.wt⟩;have T:=hF.sl false;have e6:s.x.N=N:=h.jl.n;rcases S with⟨j,k1,h1,h2⟩|⟨h1,h2⟩
 .rcases b8.room T aa F H h1 with⟨-,t1,t,G,M,c1,v1,e1,n1⟩|q
  .have e1:j.x.ep=s.x.ep:=e1;have n1:j.x.nx=s.x.nx:=n1;have e4:j.x.N=N:=c1.jl.n;obtain⟨r1,r2,r3,r4⟩:Gt g none V j.er/\(j.ro=s.fe.ro\/j.ro={s.fe.ro with wt:= []})/\2*Bt.c_ g+1<=j.x.N-j.x.u/\Fit g (C-20000) j:=by
    have R:dj g Bt s.fe.er j.er k1 0:=by
     unfold dj at h1|-;show if 2*Bt.c_ g+1<=s.fe.x.N-s.fe.x.u then _ else _
     split at h1
     .rename_i c;rw[ak c];exact⟨by rw[h1.1],h1.2⟩
     .rename_i c;rw[al c];obtain⟨a,e7,b1,b2⟩:=eF h1;obtain⟨d,e8,b3,b4⟩:=eF b2;exact .inl ⟨a.er,e7,ng b1,.inl ⟨d.er,e8,kX b3,kY b4⟩⟩
    obtain⟨I,Y,a3,a4⟩:=b8.gt.room (Bt:=Bt) (by show 2*Bt.c_ g+1<=s.x.N;omega) R;refine⟨I,Y,?_,?_⟩
    .rcases a4 with a4|a4
     .exact a4.2
     .exact absurd rfl a4.gone.ne
    .have:=b8.gt.vg T.MP aa R;exact⟨this.cJ,this.N,this.mem,this.gB,this.bad,this.cy,this.h',this.wt,this.mg⟩
   have c6:j.ro.lz=s.ro.lz:=by rcases r2 with r2|r2<;>rw[r2] <;>rfl
   have z:=c1.bU (Vs:=Vs) (l:=dO g j.ro (Bt.bP g) (Bt.eM g)) (λk e9=>by obtain⟨x1,x2⟩:=vd r1.gd.dn k e9;exact⟨aa,x2⟩) F v1;have f0:=r4.bU (dO g j.ro (Bt.bP g) (Bt.eM g));rw[e1]at z;rcases h2 with⟨h3,h4,J,K⟩|⟨h3,e5,h4,J⟩
   .rcases z with⟨q,-⟩|q
    .exact absurd q h3
    .subst h4 J K;exact .inr (q.back t1)
   .rcases z with⟨-,t2,c2⟩|q
    .have a0:dY (pb g j.er.b j.er.ro (Bt.bP g)) e5 (Bt.eM g):=h4;have a5:(j.er.hl g Bt).2.2=0:=by show(j.b.er.bU _).2.2=0;rw[By.dJ,By.nd _ (by rw[<-By.dJ];exact h3)]
     obtain⟨p1,p2,p3,p4⟩:=r1.xF r4.MP d8 e_ (by show j.x.N<=2048;omega) r3 a0 a5;have A:=mS e3 r1.gd a0 a5;obtain⟨l,f1⟩:=ah e5.flatten;rw[f1]at J p1 p2 p3 p4 A;have p3:2*l.length+1<=j.x.N-j.x.u:=p3;have f2:j.x.u<=N:=c1.jl.uN;have c7:nY (aQ l):=⟨p4,p2,by show l.length<=1023;omega⟩;have a6:∀m r,j.ro.down m r=false:=λm r=>by
      cases e:j.ro.down m r with
      |false=>rfl
      |true=>have:=r1.gd.dn m r e;cases this
     have U:∀m r,m<g.M->r<g.R->bx l (m,r)=none->aD (V m r) (Bt.fQ g V m r):=λm r c8 c9 f6=>by
      rcases A.all m r c8 c9 (a6 m r)with⟨p,a,b,c⟩|e
      .exact absurd f6 (rO.1 ⟨p,a,by unfold gq;rw[b,c]⟩)
      .rw [e];exact aD.refl _
     obtain⟨B,D⟩:∃B:Rs,{j with b:=(j.hl g Bt).1}=B:=⟨_,rfl⟩;have O:B.ro=j.ro/\B.x=j.x/\B.b=(j.hl g Bt).1:=by rw[<-D];exact⟨rfl,rfl,rfl⟩
     have c2:Cx g u N t B G M V:=by rw[<-D];exact c2
     have t2:j.b.aW=none->B.b.aW=none:=by rw[<-D];exact t2
     have d0:Fit g (C-20000) B:=by rw[<-D];exact f0
     rw[D]at J;have v2:B.x.sure=false->Vs M:=by rw[O.2.1];exact v1
     have a7:B.x.ep=s.x.ep:=by rw[O.2.1,e1]
     have E:∀o k3 er,qt g l B o k3 er->_:=λo k3 er K=>c2.log c7 (by rw[O.2.1];omega) F v2 K;rw[a7]at E;rcases J with⟨o,k3,K,h7⟩|⟨K,h7⟩
     .rcases E _ _ _ K with⟨-,t3,c3,j3,a8,W,g3,x3⟩|q
      .have f3:=sI d0 aa aa K;have a9:o.x.ep=s.x.ep:=by rw[x3,<-a7];rfl
       have Q:∀p,p∈o.ro.wt->(Fv o.x t G (aQ l) V).k_ p.1 p.2.1:=λp S=>by show th o.x G p.1 p.2.1;unfold th;rw[ak a8];exact c2.wt p (by rw[<-W];exact S)
       have u3:o.x.u=j.x.u/\o.x.nx=j.x.nx:=by rw[x3,O.2.1];exact⟨rfl,rfl⟩
       have b5:Yl g N o.x.ep Vs (Fv o.x t G (aQ l) V):=(j3.yl (P:=aQ l) (Vp:=V) (.inr c7) (λ_=>by show o.x.u+2*l.length+1<=N;omega) (2*l.length) F λ_=>F).le (c':=Fv o.x t G (aQ l) V) rfl (λ_ a=>a) (λq f _ a=>by
        have a:Wp o.x t G (aQ l) (2*l.length) q f:=a;show Mp o.x t G (aQ l) q f;unfold Wp at a;unfold Mp;split
        .rename_i e;rw[ak e]at a;exact .inl a
        .rename_i e;rw[al e]at a;split at a
         .rename_i O;exact .inr ⟨O,a⟩
         .exact .inl a) (λ_ _ a=>a) rfl
       rw[a9]at b5;rcases h7 with⟨i,k4,h8,h9⟩|⟨h8,h9⟩
       .rcases kZ f3 c3 Q h8 with⟨-,t4,c4⟩|⟨q,-⟩
        .have f4:=gJ f3 aa h8;obtain⟨g4,x4,n⟩:=g3.eV (jW h8);have x4:i.x=o.x:=x4;have n:i.ro={o.ro with wt:= []}:=by
          rcases n with n|n
          .exact n.2
          .exact absurd rfl n.1.gone.ne
         have b6:∀m r,i.ro.down m r=j.ro.down m r:=λm r=>GO (by rw[n,W,O.1]);have X:∀y k5 er,lI g l i y k5 er->qh g u N i.x.ep Vs i.b y.b er (Cx g u N t y (G++ [aQ l]) V (Bt.fQ g V)/\y.x=i.x.eo (2*l.length+1) 0/\y.ro={i.ro with sl:=true,wt:=l}):=λy k5 er v=>by
          refine HE (by rw[x4];exact j3) (by rw[x4];exact a8) (by rw[x4];exact c4) (by have:=f4.N;omega) c7 (by rw[x4];omega) ?_ (λp S=>?_) U F v λe=>?_
          .rw [x4];omega
          .obtain ⟨I,Y,-,a4⟩:=A.val p S;exact⟨I,Y,a4⟩
          .subst e;have d4:lI g l i.er y.er k5 0:=by obtain⟨b1,b2,b3⟩:=v;have b0:(i.cT g (2*l.length+1) (bh i.x.ep i.x.nx (aQ l) (2*l.length))).2=0:=b3.symm;have b4:i.er.cT g (2*l.length+1) (bh i.x.ep i.x.nx (aQ l) (2*l.length))=((i.cT g (2*l.length+1) (bh i.x.ep i.x.nx (aQ l) (2*l.length))).1.er,0):=By.nN b0;refine⟨?_,b2,by show 0=(i.er.cT g _ (bh i.x.ep i.x.nx (aQ l) (2*l.length))).2;rw[b4]⟩;show y.er={b:=(i.er.cT g (2*l.length+1) (bh i.x.ep i.x.nx (aQ l) (2*l.length))).1,x:=i.x.eo (2*l.length+1) (i.er.cT g (2*l.length+1) (bh i.x.ep i.x.nx (aQ l) (2*l.length))).2,ro:=if(i.er.cT g (2*l.length+1) (bh i.x.ep i.x.nx (aQ l) (2*l.length))).2=0 then{i.ro with sl:=true,wt:=l}else i.ro};rw[b4,b1,b0];rfl
           refine(g4.qs (Bt:=Bt) (by show i.ro.wt= [];rw[n]) e3 d8 (l:=l) ⟨λp S=>?_,λm r c8 c9 f9=>?_⟩ p4 d4).1
           .obtain ⟨I,Y,a3,a4⟩:=A.val p S;exact⟨I,Y,by rw[show i.er.ro.down p.1 p.2.1=i.ro.down p.1 p.2.1 from rfl,b6];exact a3,a4⟩
           .exact A.all m r c8 c9 (a6 m r)
         have b7:i.x.ep=s.x.ep:=by rw[x4,a9]
         rw[b7]at X;have d5:s.b.aW=none->i.b.aW=none:=λe=>t4 (t3 (t2 (t1 e)));rcases h9 with⟨y,k5,v,w⟩|⟨v,w⟩
         .rcases X _ _ _ v with⟨-,t5,c5,x5,d6⟩|q
          .have f5:=pz f4 aa p1 v;have d7:y.ro.lz=s.ro.lz:=by rw[d6,n,W,O.1,<-c6]
           have Z:y.x.ep=s.x.ep:=by rw[x5,<-b7];rfl
           have n5:y.x.nx<=s.x.nx+1:=by rw[x5];show i.x.nx+1<=_;rw[x4];omega
           unfold hj at w;by_cases b9:y.ro.lz=true
           .rw [ak b9]at w;obtain⟨rfl,-,rfl⟩:=w;exact .inl ⟨rfl,λe=>t5 (d5 e),⟨_,_,_,c5,λ_=>rfl⟩,(λe=>by rw[d7,e]at b9;cases b9),Z,n5⟩
           .rw [al b9]at w;have:=c5.settle (Vs:=Vs) f5 c0 (λ_=>F) w;rw[Z]at this;refine(this.back λe=>t5 (d5 e)).mono λ⟨d1,d2,d3⟩=>⟨⟨_,_,_,d1,λe=>by rw[d2]at e;cases e⟩,λ_=>⟨by rw[d2],by rw[d3]⟩,by rw[d2];exact Z,by rw[d2];exact n5⟩
          .exact absurd q.er ai
         .rcases X _ _ _ v with⟨q,-⟩|q
          .exact absurd q w
          .exact .inr (q.back d5)
        .exact absurd q ai
       .rcases kZ f3 c3 Q h8 with⟨q,-⟩|⟨q1,q2,q3⟩
        .exact absurd q h9
        .exact .inr (qv.ends q3 b5 (λe=>q2 (t3 (t2 (t1 e)))) q1)
      .exact absurd q.er ai
     .rcases E _ _ _ K with⟨q,-⟩|q
      .exact absurd q h7
      .exact .inr (q.back λe=>t2 (t1 e))
    .exact absurd (q.er.symm.trans h3) ai
  .exact absurd q.er ai
 .rcases b8.room T aa F H h1 with⟨q,-⟩|q
  .exact absurd q h2
  .exact .inr q
end
theorem Fr.tj[Lo](h:Fr T aG w W)(b:n<=Lo.lo)(c:n<=w.heap.size):SK n w W:=
 ⟨h.os,h.tape,h.output,h.size,λk d=>by obtain⟨o,a⟩:∃o,aX w k o:=⟨_,RU J⟩;rw[h.block k o a (.inr J) id,a]⟩
def Fh:Prop:=∀w:M,aF 8 #[] w λe a=>aL e ec/\aq w a
abbrev gA:aA:=⟨3,1,2⟩
abbrev uA:Su:=Su.born 10 false
abbrev bA:bq:=⟨1,λ_=>1,λ_ _=>7⟩
theorem zE:gA.ok:=⟨ai,ai,ai,ai,ai,ai⟩
theorem IF:bA.ok gA:=⟨λ_ _=>by show 1<gA.B;decide,λ_ _ _ _=>by show 7<256;decide⟩
abbrev vA:cp:=bA.fQ gA om
def OI(s:Rs)(u:Su):Prop:=Cx gA u 10 1 s [] om om/\s.x.sure=true/\Fit gA 1000000 s/\s.ro.lz=false/\s.x.nx=1/\u=uA
def OJ(s:Rs)(u:Su):Prop:=(∃a L,Cx gA u 10 a s L vA vA)/\s.x.sure=true/\u=uA
theorem xA:XH gA none bA OI OJ:=by
 refine⟨λs u d k ⟨h,p,f,g,i,j⟩ l=>?_,λs u d k r _ m=>?_,λs u e=>?_⟩
 .rcases h.write (Vs:=λ_=>True) f J IF (QE _) J ai trivial (λ_=>trivial) trivial (by rw[i];omega) l with⟨-,-,q⟩|q
  .obtain ⟨a,n,o,c,-⟩:=q.cx;have b:=(q.lz g).1;have:=c.jl.sure b;subst this;exact⟨⟨a,n,c⟩,b,j⟩
  .exact absurd q.er ai
 .have:=m.slot;cases this
 .exact absurd e ai
def Ak[Lo](X:Rs->Su->Prop)(a:Option Nat)(V:cp)(C:Nat)(W:M)(G:Nat)(Z:bm):Prop:=bX W G Z gA/\Lo.lo<=G/\∃s u,Inv W Z gA a V C s u/\X s u
theorem Ak.below[Lo]{X:Rs->Su->Prop}{a:Option Nat}{V:cp}{Z:bm}(h:Ak X a V C W n Z)(b:aq W w):Ak X a V C w n Z:=by obtain⟨c,d,s,u,e,f⟩:=h;exact⟨(b.block _ (Z_ c)).trans c,d,s,u,e.below b,f⟩
abbrev BG(_:Rs)(_:Su):Prop:=True
theorem Kr[Lo](W:M)(c:Lo.lo<=W.heap.size):aF 16 #[.agg #[Y 3,Y 1,Y 2],Y 10,.bool false] W λe a=>∃G Z,aL e (.tuple #[ar G,aH 0])/\Fr fV aG W a/\Ak OI none om 100000000000 a G Z:=by refine YL (vu gA 10 false W zE ai c) ?_;rintro e a ⟨G,Z,rfl,d,f,g,h,i,j⟩;have b:=pK zE hX ai ⟨f,g⟩ j;exact⟨G,Z,rfl,i,d,QD c h,_,_,b,zC zE hX ai false,rfl,b.fit.less J,b.same.2.1.symm,rfl,rfl⟩
theorem Mx[Lo](W:M)(G:Nat)(Z:bm)(pv:H)(h:Ak OI none om 100000000000 W G Z)(j:fj W pv bA):aF 11 #[ar G,.agg #[.int .u8 2,Y 0,Y 0,Y 0,pv,aO]] W λe b=>∃a,aL e (dw 0 aO a)/\Fr eG aG W b/\Ak OJ none vA 99999750000 b G Z:=by
 obtain⟨d,k,s,u,f,g⟩:=h;have l:Z.N=10:=by rw[<-f.v_.1,g.2.2.2.2.2];rfl
 refine YL (Ev d f xA g J IF ai j) ?_;rintro e b ⟨q,a,rfl,i,c⟩;unfold Bb at c;rw[al (by rw[l];decide)]at c;obtain⟨rfl,m,n,o,p⟩:=c;exact⟨a,rfl,i,i.hp d rfl,k,m,n,o,p⟩
theorem zF[Lo]{Z:bm}{kv:QC}{L:Nat}{n:aN}{fk:Nat->Nat->Bool}{R:bm->M->Prop}(A:bX w k Z g)(r:aC w Z.B b)(E:gG w kv L n fk)(F:L<=1000000)(j:Lo.lo<=k/\Lo.lo<=w.heap.size)(H:Mu w Z.B (b.cut (cE L n fk)) R):
  aF 11 #[ar k,fO 9 0 0 0 aO kv] w λe u=>∃l,aL e (dw 0 aO l)/\∃d,bX u k d g/\Fr TM aG w u/\R d u:=by
 refine(Iz w k 38 false 9 0 0 0 aO kv Z g (λz v W=>z=0/\v= aO/\∃d,bX W k d g/\Fr TM aG w W/\R d W) ⟨pM aJ,A,⟨_,r⟩,λW s=>?_,λz v W C h r=>?_,λz v W p o K x h G y=>?_⟩ rfl).mono ?_
 .refine (HD k Z g 9 0 0 aO kv L n fk b W R ((s.block _ (Z_ A)).trans A) (r.below s) (E.fr (T:= []) (Fr.af s)) F ⟨j.1,QD j.2 s.size⟩ ⟨λC q f=>H.call C q ((Fr.af s).tr f),H.ct,H.stay⟩).mono ?_;rintro e u ⟨q,d,f,i,t⟩;exact⟨0,none,0,0,q,⟨d,f,H.ct _ _ t⟩,i,rfl,rfl,d,f,(Fr.af s).tr i,t⟩
 .obtain ⟨q,f,d,i,t,B⟩:=h;exact⟨q,f,d,(r.block _ (Z_ i)).trans i,t.then r,H.stay _ _ _ B (Fr.af r)⟩
 .obtain ⟨q,f,d,i,t,B⟩:=h;have D:=(Fr.refl [46] aG W).set (p:=ag p o) G rfl (QD j.2 y) x;exact⟨q,f,d,D.hp i rfl,t.new y x,H.stay _ _ _ B (D.wide [46,73] rfl)⟩
 .rintro e u ⟨z,a,m,c,l,rfl,rfl,f,d,i⟩;cases f;exact⟨l,rfl,d,i⟩
theorem Ks[Lo](p:gQ)(W:M)(G:Nat)(Z:bm)(x:Lo.lo<=W.heap.size)(h:Ak OJ none vA 99999750000 W G Z):aF 11 #[ar G,.agg #[.int .u8 9,Y 0,Y 0,Y 0,aO,aO]] W λe j=>∃a c,aL e (dw 0 aO a)/\Fr TM aG W j/\Ak BG none vA 100000000000 j G c:=by
 obtain⟨A,y,s,u,b,⟨P,L,q⟩,hs,d⟩:=h;have f:Can gA u 10 s.x.ep (λV=>V=vA) s.b:=⟨_,q.lit.dev,q.yl rfl λe=>absurd (hs.symm.trans e) ai⟩;have g:∀V,V=vA->tD gA V:=λV e=>by rw[e];exact b.gt.gd.par
 refine YL (zF (kv:= aO) (L:=0) (n:=λ_=>0) (fk:=λ_ _=>false) (R:=OG Z.B gA u none λV=>V=vA) A b.ay.rs.ct ⟨x,none,0,rfl,.inl rfl⟩ J ⟨y,x⟩ ⟨λB C z=>?_,λc B r=>?_,λc Q S r z=>?_⟩) ?_
 .refine YL (zA (ep:=s.x.ep) (hs:=λ_=>true) (aw:=none) (kp:=cE 0 (λ_=>0) λ_ _=>false) (b':=s.b.cut (cE 0 (λ_=>0) λ_ _=>false)) p f b.fit.N ⟨rfl,rfl,rfl,λk D=>?_⟩ b.kr (by rw[d];rfl) (by rw[d];rfl) (λm _=>by rw[d];rfl) (by rw[d];show 1<_;omega) (by rw[d];rfl) rfl (λm _=>⟨λe=>(by cases e),λe=>(by cases e)⟩) (λm e=>by cases e) (λm v E e=>(b.fit.mem m v E e).1) (λv e=>by have:=(b.fit.gB v e).1;rw[q.jl.n]at this;exact this) g C) ?_
  .show (if k<s.b.N then _ else _)=_;rw[ak D];rfl
  .exact λe j F=>F
 .obtain ⟨V,l,o,-,-,-,-,i⟩:=r;exact⟨_,i.ay.rs.ct⟩
 .obtain ⟨V,l,o,t,w,K,O,i⟩:=r;exact⟨V,l,o,t,w,K,O,i.fr z rfl⟩
 .rintro e j ⟨a,rfl,c,t,w,V,l,o,rfl,-,-,-,i⟩;exact⟨a,c,rfl,w,t,y,l,o,i,trivial⟩
theorem HF[Lo](W:M)(G:Nat)(Z:bm)(h:Ak BG none vA 100000000000 W G Z):aF 11 #[ar G,.agg #[.int .u8 4,Y 1,Y 0,Y 0,aO,aO]] W λe b=>∃a,aL e (dw 0 aO a)/\Fr eG aG W b/\Ak BG (some 1) vA 99999999000 b G Z:=by obtain⟨c,f,s,u,g,-⟩:=h;refine YL (Ex 1 c (g.DT ai) ai J) ?_;rintro e b ⟨a,rfl,d,i,j,k⟩;exact⟨a,rfl,d,d.hp c rfl,f,i,j,k,trivial⟩
theorem My[Lo](W:M)(G:Nat)(Z:bm)(h:Ak BG (some 1) vA 99999999000 W G Z):aF 11 #[ar G,.agg #[.int .u8 1,Y 0,Y 1,Y 1,aO,aO]] W λe f=>∃a c d,aL e (dw 0 (.slice a 128 c) d)/\Fr eG aG W f/\cA f (.slice a 128 c) 128 (λ_=>7)/\Ak BG (some 1) vA 99999998000 f G Z:=by
 obtain⟨i,p,s,u,q,-⟩:=h;refine YL (xL (k:=1) (n:=1) i q J ai) ?_;rintro e f ⟨a,c,d,rfl,l,⟨g,-⟩,r,t,v⟩;refine⟨a,c,d,rfl,l,?_,l.hp i rfl,p,r,t,v,trivial⟩;have w:∀j,j<128->cR gA vA (1+j/128) (j%128)=7:=λj x=>by rw[Nat.div_eq_of_lt x,sQ zE];rfl
 obtain⟨y,z,A,g⟩:=g;refine⟨y,z,A,g.imp id ?_⟩;rintro⟨b,o,B,C,D,E,F⟩;exact⟨b,o,B,C,D,E,λk m=>by rw[F k m];show some (SJ IntKind.u8 ((cR gA vA (1+k/128) (k%128):Nat):Int))=_;rw[w k m]⟩
theorem Mz[Lo](W:M)(G:Nat)(Z:bm)(h:Ak BG (some 1) vA 99999998000 W G Z):aF 11 #[ar G,.agg #[.int .u8 3,Y 0,Y 0,Y 0,aO,aO]] W λe b=>∃a,aL e (dw 0 aO a)/\Fr eG aG W b:=by obtain⟨c,g,s,u,d,-⟩:=h;refine YL (JP c d J) ?_;rintro e b ⟨a,rfl,f,-⟩;exact⟨a,rfl,f⟩
theorem OK(w:M)(a:Nat)(h:aX w a (N (cw 128 λ_=>7) 5)):fj (w.alloc (N #[Y 1,a' a 128 128] 61)) (a' w.heap.size 1 1) bA:=by
 refine⟨_,_,rfl,QE _,.inr ⟨_,_,_,_,rfl,QB _ _,λi b=>?_⟩⟩;obtain rfl:i=0:=Nat.lt_one_iff.1 b;refine⟨rfl,_,rfl,a,0,128,cw 128 λ_=>7,(0,0),rfl,QE _,?_,λk c=>?_⟩
 .exact ((aK aj _:aq w _).block _ (Z_ h)).trans h
 .rw [RE];exact dV _ _ _ c
theorem fC{o x:Obj}(h:aX w n o):(w.alloc x).heap[n]?=some o:=((aK aj _:aq w _).block _ (Z_ h)).trans h
theorem hq(w:M)(x:Obj):aq w (w.alloc x):=aK aj _
theorem vR[Lo](a:SK n w W)(c:n<=Lo.lo)(b:n<=w.heap.size)(d:Fr T aG (W.alloc O) z):SK n w z:=
 (a.trans ((hq W O).mono (QD b a.size))).trans (d.tj c (QD (QD b a.size) (hq W O).size))
abbrev Fi(a:H)(b:Int):Obj:= N #[aH 0,a,Y b] 46
theorem yk(Q:gQ):Fh:=λw=>by
 letI:Lo:=⟨w.heap.size⟩
 have S:=ad (λW U=>Kr W U);have z:=ad (rH 7);have V:=ad (λW G Z pv h c3=>Mx W G Z pv h c3);have X:=ad (λW G Z U h=>Ks Q W G Z U h);have H:=ad (λW G Z h=>HF W G Z h);have N:=ad (λW G Z h=>My W G Z h);have M:=ad (λW G Z h=>Mz W G Z h);go_enter func8,ntmps8;go_wp2_with fail;refine(S _ (QE _)).mono ?_;rintro e w1 ⟨G,Z,rfl,R,I⟩;have A:=ad (R.tj (QE _) (QE _));have Y:=ad I;go_wp2_with fail;refine(z _).mono ?_;rintro e w2 ⟨d5,rfl,c4,J,B⟩;have a0:=ad (A.trans (B.mono A.size));have a1:=ad (Y.below B);have a2:=ad J;go_wp2_with fail;refine(V _ G Z _ (a1.below (aK aj _)) (OK _ _ a2)).mono ?_;rintro e i ⟨b,rfl,a3,a4⟩;have C:=ad (vR a0 (QE _) (QE _) a3);have a5:=ad a4;go_wp2_with fail;refine(X (i.alloc (ao #[aH 0,aO,ae b] 46)) G Z (QD C.size (hq i _).size) (a5.below (hq i _))).mono ?_;rintro e m ⟨d,Z4,rfl,D,a7⟩;have a8:=ad (vR C (QE _) (QE _) D);have a9:=ad a7;have b0:QX (aX m i.heap.size (Fi aO b)):=D.hp (QB _ _) rfl;go_wp2_with fail;refine(H (m.alloc (ao #[aH 0,aO,ae d] 46)) G Z4 (a9.below (hq m _))).mono ?_;rintro e n ⟨j,rfl,t,b1⟩;have b2:=ad (vR a8 (QE _) (QE _) t);have b3:=ad b1;have E:QX (aX n i.heap.size (Fi aO b)/\aX n m.heap.size (Fi aO d)):=⟨t.hp (fC b0) rfl,t.hp (QB _ _) rfl⟩;go_wp2_with fail;refine(N (n.alloc (ao #[aH 0,aO,ae j] 46)) G Z4 (b3.below (hq n _))).mono ?_;rintro e l ⟨x,y,r,rfl,o,b4,b5⟩;have b6:=ad (vR b2 (QE _) (QE _) o);have b7:=ad b5;have u:QX (aX l i.heap.size (Fi aO b)/\aX l m.heap.size (Fi aO d)/\aX l n.heap.size (Fi aO j)):=⟨o.hp (fC E.1) rfl,o.hp (fC E.2) rfl,o.hp (QB _ _) rfl⟩;have b8:=ad b4;go_wp2_with fail;refine(M (l.alloc (ao #[aH 0,.slice x 128 y,ae r] 46)) G Z4 (b7.below (hq l _))).mono ?_;rintro e p ⟨s,rfl,f⟩;have F:=ad (vR b6 (QE _) (QE _) f);have b9:QX (cA p (.slice x 128 y) 128 λ_=>7):=(b8.fr (T:= []) (Fr.af (hq l _)) rfl).fr f rfl;obtain⟨g,q⟩:=ah (p.alloc (ao #[aH 0,aO,ae s] 46));have K:=ad (show aq w g by rw[<-q];exact F.trans ((hq p _).mono F.size));have c0:QX (cA g (.slice x 128 y) 128 λ_=>7):=by rw[<-q];exact b9.fr (T:= []) (Fr.af (hq p _)) rfl
 obtain⟨h1,h2,h3,h4,h5⟩:aX g i.heap.size (Fi aO b)/\aX g m.heap.size (Fi aO d)/\aX g n.heap.size (Fi aO j)/\aX g l.heap.size (Fi (.slice x 128 y) r)/\aX g p.heap.size (Fi aO s):=by rw[<-q];exact⟨fC (f.hp (fC u.1) rfl),fC (f.hp (fC u.2.1) rfl),fC (f.hp (fC u.2.2) rfl),fC (f.hp (QB _ _) rfl),QB _ _⟩
 have z1:g.cell? (ag i.heap.size 0)=some (aH 0):=(cr h1).1 0;have z2:g.cell? (ag m.heap.size 0)=some (aH 0):=(cr h2).1 0;have z3:g.cell? (ag n.heap.size 0)=some (aH 0):=(cr h3).1 0;have z4:g.cell? (ag p.heap.size 0)=some (aH 0):=(cr h5).1 0;have z5:g.cell? (ag l.heap.size 1)=some (.slice x 128 y):=(cr h4).1 1;have y1:=(cr h1).2.2;have y2:=(cr h2).2.2;have y3:=(cr h3).2.2;have y4:=(cr h5).2.2;have y5:=(cr h4).2.2;have c1:=ad q;go_wp2_with fail
 try rw[c1.out]
 go_region_held3(λL=>L.cell? (ag i.heap.size 0)=some (aH 0)/\L.cell? (ag m.heap.size 0)=some (aH 0)/\L.cell? (ag n.heap.size 0)=some (aH 0)/\L.cell? (ag p.heap.size 0)=some (aH 0)/\L.cell? (ag l.heap.size 1)=some (.slice x 128 y)) ((simp[*,go_sem];done)) (first
  |(go_at_call 17;refine(z _).mono ?_;rintro e w9 ⟨d6,rfl,c5,O,c⟩
    have v:QX (aq g w9):=via (by first|go_grown|exact aj|exact cK aj _) c;obtain⟨x1,-,c7⟩:=kp c i.heap.size dG;obtain⟨x2,-,c8⟩:=kp c m.heap.size dG;obtain⟨x3,-,c9⟩:=kp c n.heap.size dG;obtain⟨x4,-,d0⟩:=kp c p.heap.size dG;obtain⟨x5,-,d1⟩:=kp c l.heap.size dG;have c2:=ad O;clear O c)
  |(go_at_call 18;refine(wF _ _ 128 128 (λ_=>7) (λ_=>7) _ ((c0.fr (T:= []) (Fr.af v) rfl).wj) ⟨_,_,rfl,.inr ⟨_,_,rfl,λk d2=>by rw[(cr c2.out).1,RE];exact dV _ _ _ d2⟩⟩ ai).mono ?_;rintro e d3 ⟨rfl,a⟩
    obtain⟨x6,-,-⟩:=kp a i.heap.size dG;obtain⟨x7,-,-⟩:=kp a m.heap.size dG;obtain⟨x8,-,-⟩:=kp a n.heap.size dG;obtain⟨x9,-,-⟩:=kp a p.heap.size dG;obtain⟨x0,-,-⟩:=kp a l.heap.size dG;have P:=ad (K.trans ((v.trans (a.mono v.size)).mono K.size));clear a))
 have d4:ll 128 128 (λ_=>7) (λ_=>7)=true:=by simp[ll]
 rw[d4];go_wp2_with fail;go_ret;exact⟨rfl,P⟩
abbrev zG:List PanicEntry:= [{v:=.iface 245 (.agg #[aH 50]),recovered:=false}]
theorem BH(A:Nat)(a:Array H)(w:M)(h:aX w A (N a 120))(b:16<a.size):aF 176 #[ar A,aH 50] w λe c=>e=.panicked zG/\c=w.setCell (R A 16) (aH 50):=by obtain⟨k,f,z⟩:=cr h;go_enter func176,ntmps176;go_wp2;simp[bodyPost]
theorem tk(A k:Nat)(a:Array H)(w:M)(h:aX w A (N a 120))(b:16<a.size):aF 111 #[ar A,.agg #[Y k,aH 50]] w λe f=>e=.panicked zG/\∃c,aq w c/\f=c.setCell (R A 16) (aH 50):=by have d:aq w (w.alloc (N #[Y k,aH 50] 172)):=aK aj _;have g:=QB w (N #[Y k,aH 50] 172);have i:=I (BH A a (w.alloc (N #[Y k,aH 50] 172)) ((d.block A (Z_ h)).trans h) b);obtain⟨t1,t2,t3⟩:=cr g;have j:=I d;go_enter func111,ntmps111;go_wp2_with(go_at_call 176;refine i.mono ?_;rintro e l ⟨rfl,rfl⟩);simp[bodyPost];exact⟨_,j,rfl⟩
theorem vS(v:H)(W:M):(Instr.typeAssert (.iface 245 v) 20 245 true).run prog W=.ok (.tuple #[v,.bool true]) W:=aE
theorem ym(D:Nat)(x:H)(w:M)(h:w.heap[D]?=some (.cells #[x] 35 (0,0))):
  CallsD VR 98 #[.pointer (some ⟨D,0,none⟩)] (.panicking zG) w λe f g=>
   e=.returned (.tuple #[])/\f=.panicking [{v:=.iface 245 (.agg #[.int .u16 50]),recovered:=true}]/\∃b,SK w.heap.size w b/\g=b.setCell ⟨D,0,none⟩ (.int .u16 50):=by
 refine callsD_of_wpS Tryz.func98 rfl λi m j=>?_;apply wpS_seq;apply wpS_region;simp[wpOpsS,go_sem,recoverD,j,Tryz.ntmps98,Exit.thenS];apply wpS_seq;apply wpS_region;simp[wpOpsS,go_sem,Exit.thenS];refine wpS_cond (t:=true) (by simp[VO,Array.replicate]) ?_;simp only[if_true];refine wpS_of_wp ?_;have a:SK w.heap.size w (w.alloc (.cells #[.int .u16 50] 245)):=aK (SU _ _) _;have c:=QB w (.cells #[.int .u16 50] 245);have d:=(a.block D (Z_ h)).trans h;obtain⟨t1,t2,t3⟩:=cr c;obtain⟨d1,d2,d3⟩:=cr d;have k:=QZ a;have l:=vS (.agg #[.int .u16 50]);clear c a d h;simp only[<-List.toArray_replicate,List.replicate_succ,List.replicate_zero,QF,QM,QL,XL,UC,UN];go_wp2;cases i
 simp_all [bodyPostS,RP,Tryz.results98]
 exact⟨_,k.out,rfl⟩
section
variable {g:aA} {s s':Rs} {k er:Nat} {Bt:bq} {l:List Pt}
theorem h_{p q:Rs->Rs->Nat->Nat->Prop}(c:∀{a b:Rs} {k:Nat},p a b k 0->p a.er b.er k 0)(d:∀{a b:Rs} {k:Nat},q a b k 0->q a.er b.er k 0)(h:iH p q s s' k 0):iH p q s.er s'.er k 0:=by obtain⟨a,e,f,i⟩:=eF h;exact .inl ⟨a.er,e,c f,d i⟩
theorem tl(h:dj g Bt s s' k 0):dj g Bt s.er s'.er k 0:=by
 unfold dj at h|-;show if 2*Bt.c_ g+1<=s.x.N-s.x.u then _ else _
 split at h
 .rename_i c;rw[ak c];exact⟨by rw[h.1],h.2⟩
 .rename_i c;rw[al c];exact h_ (λa=>ng a) (λa=>h_ (λa=>kX a) (λa=>kY a) a) h
theorem Kt(h:qt g l s s' k 0):qt g l s.er s'.er k 0:=by obtain⟨b,c,a⟩:=h;have e:s.er.gK g l=((s.gK g l).1.er,0):=By.E_ a.symm;refine⟨?_,c,by rw[e]⟩;rw[b,e,<-a];rfl
theorem HG(h:lI g l s s' k 0):lI g l s.er s'.er k 0:=by obtain⟨d,e,f⟩:=h;have a:(s.cT g (2*l.length+1) (bh s.x.ep s.x.nx (aQ l) (2*l.length))).2=0:=f.symm;have c:s.er.cT g (2*l.length+1) (bh s.x.ep s.x.nx (aQ l) (2*l.length))=((s.cT g (2*l.length+1) (bh s.x.ep s.x.nx (aQ l) (2*l.length))).1.er,0):=By.nN a;refine⟨?_,e,by show 0=(s.er.cT g _ (bh s.x.ep s.x.nx (aQ l) (2*l.length))).2;rw[c]⟩;show s'.er={b:=(s.er.cT g (2*l.length+1) (bh s.x.ep s.x.nx (aQ l) (2*l.length))).1,x:=s.x.eo (2*l.length+1) (s.er.cT g (2*l.length+1) (bh s.x.ep s.x.nx (aQ l) (2*l.length))).2,ro:=if(s.er.cT g (2*l.length+1) (bh s.x.ep s.x.nx (aQ l) (2*l.length))).2=0 then{s.ro with sl:=true,wt:=l}else s.ro};rw[c,d,a];rfl
theorem HH(h:Proofs.YtbimjlmclegaeaaGreat.hj g s s' k 0):Proofs.YtbimjlmclegaeaaGreat.hj g s.er s'.er k 0:=by
 unfold Proofs.YtbimjlmclegaeaaGreat.hj at h|-;show if s.ro.lz=true then _ else _
 split at h
 .rename_i c;rw[ak c];obtain⟨a,b,d⟩:=h;exact⟨by rw[a],b,d⟩
 .rename_i c;rw[al c];exact ng h
theorem zH(h:(s.hl g Bt).2.2=0):s.er.hl g Bt=((s.hl g Bt).1.er,0,0):=by show s.b.er.bU _=((s.b.bU _).1.er,0,0);rw[By.dJ,By.dJ];exact By.nd _ (by rw[<-By.dJ];exact h)
theorem HI(h:yU g Bt s s' k 0):yU g Bt s.er s'.er k 0:=by
 rcases h with⟨h1,-,-,b⟩|⟨h1,c,b,d⟩
 .exact absurd b.symm h1
 .have e:=zH h1;refine .inr ⟨by rw[e],c,b,?_⟩;have f:=h_ (p:=qt g c.flatten) (q:=xq g c.flatten) (λa=>Kt a) (λa=>h_ (λa=>jW a) (λa=>h_ (λa=>HG a) (λa=>HH a) a) a) d;rw[e];exact f
theorem Fj(h:eS g Bt s s' k 0):eS g Bt s.er s'.er k 0:=h_ (p:=dj g Bt) (q:=yU g Bt) (s:=s.fe) (λa=>tl a) (λa=>HI a) h
theorem BI{f:Option Nat}{V:cp}{C:Nat}(h:Gt g f V s.er)(hF:Fit g C s)(i:100000<=C)(j:Bt.ok g)(e_:1<=Bt.n)(m:s.x.N<=2048)(a:2*Bt.c_ g+1<=s.x.N):Gy g Bt s:=by
 have e:=h.LN hF.MP i j e_ m a;refine⟨λb c d r n=>?_,λb c o d p t=>?_⟩
 .have q:=e.rows b.er c (tl d) r n;exact⟨⟨q.fit.ok,q.fit.rr,q.fit.N,q.fit.h',q.fit.room⟩,q.row,q.one,q.h',q.eI,q.new⟩
 .exact e.LD b.er c o (tl d) p (by rw[zH t])
end
section
def eu(n:Nat)(c:aN)(b:By):Prop:=b.N=n/\∀k v,b.dv k=some v->c k<=v.d.n
def Fk(a:Dv->Dv × Nat):Prop:=∀v:Dv,(a v).1.d.n=v.d.n/\(a v).1.d.cn<=v.d.cn+1
theorem MA:Fk bS:=λ_=>⟨rfl,US _⟩
theorem vT{a:Nat}{f:aN}:Fk (aR a f):=λv=>ey a f v
theorem zI:Fk be:=λv=>⟨(dX v).1,Nat.le_succ_of_le (dX v).2⟩
variable {n:Nat} {c:aN}
theorem eu.op{b:By}(h:eu n c b){k:Nat}{a:Dv->Dv × Nat}(f:Fk a):eu n c (b.op k a).1:=by
 refine⟨(By.fW ..).trans h.1,λj v d=>?_⟩;by_cases e:j=k
 .subst e;obtain⟨i,l,m,-⟩:=By.jh f d;rw[m];exact h.2 j i l
 .rw [By.ei a e]at d;exact h.2 j v d
theorem eu.run:∀(l:List fR) {b:By},eu n c b->(∀a,a∈l->Fk a.2)->eu n c (b.run l).1
 | [],_,h,_=>h
 |a::e,b,h,d=>by
  simp only[By.run];split
  .exact eu.run e (h.op (d a RZ)) λx f=>d x (SG _ f)
  .exact h.op (d a RZ)
theorem eu.bU{b:By}(h:eu n c b)(l:List Nat):eu n c (b.bU l).1:=by rw[By.dJ];exact h.run _ λa d=>by obtain⟨j,-,rfl⟩:=RK.1 d;exact MA
theorem eu.db{b:By}(h:eu n c b){J:Nat}{pl:aN}{sf:dp}:∀m,eu n c (b.db J pl sf m).1
 |0=>h
 |m+1=>by
  unfold By.db;split
  .exact (eu.db h m).op vT
  .exact eu.db h m
theorem eu.hM{b:By}(h:eu n c b){J:Nat}{a:aN}{d:dp}(m:Nat):eu n c (b.hM J a d m).1:=by
 unfold By.hM;split
 .exact (h.db m).op zI
 .exact h.db m
theorem eu.ck{b:By}(h:eu n c b){J:Nat}{f:aN}:eu n c (b.ck J f).1:=by
 unfold By.ck;split
 .exact (h.op (vT)).op zI
 .exact h.op (vT)
section
variable {g:aA} {s s':Rs} {k er:Nat}
theorem eu.eV(h:eu n c s.b)(b:dh s s' k er):eu n c s'.b:=by
 obtain⟨l,-,d,-⟩:=b;have:=h.run ((fK s.ro l).map gY) λa e=>by obtain⟨j,-,rfl⟩:=RK.1 e;exact vT
 rw[d]at this;exact this
theorem eu.finish(h:eu n c s.b)(a:cd s s' k er):eu n c s'.b:=by
 unfold cd at a;split at a
 .exact h.eV a
 .rw [a.1];exact h
theorem eu.synced(h:eu n c s.b):eu n c (s.synced g).1.b:=by
 unfold Rs.synced;split
 .exact h
 .exact h.op zI
theorem eu.settle(h:eu n c s.b)(a:bT g s s' k er):eu n c s'.b:=by
 unfold bT at a;split at a
 .exact (h.synced (g:=g)).finish a
 .rw [a.1];exact h.synced
theorem eu.eW(h:eu n c s.b)(b:dZ g s s' k er):eu n c s'.b:=by
 have:=h.run ((ob g s.ro).map dq) λa d=>by obtain⟨j,-,rfl⟩:=RK.1 d;exact zI
 rw[b.1]at this;exact this
theorem eu.gu(h:eu n c s.b)(a:fL g s s' k er):eu n c s'.b:=by rw[a.1];exact h.ck
theorem eu.then'{p q:Rs->Rs->Nat->Nat->Prop}(d:∀{a b:Rs} {k er:Nat},eu n c a.b->p a b k er->eu n c b.b)(e:∀{a b:Rs} {k er:Nat},eu n c a.b->q a b k er->eu n c b.b)(h:eu n c s.b)(f:iH p q s s' k er):eu n c s'.b:=by
 rcases f with⟨j,l,h1,i⟩|⟨h1,-⟩
 .exact e (d h h1) i
 .exact d h h1
theorem eu.empty(h:eu n c s.b)(d:fY g s s' k er):eu n c s'.b:=
 eu.then' (λa b=>a.settle b) (λa b=>eu.then' (λa b=>a.eW b) (λa b=>a.gu b) a b) h d
theorem eu.room{B:bq}(h:eu n c s.b)(a:dj g B s s' k er):eu n c s'.b:=by
 unfold dj at a;split at a
 .rw [a.1];exact h
 .exact h.empty a
theorem eu.hj(h:eu n c s.b)(a:Proofs.YtbimjlmclegaeaaGreat.hj g s s' k er):eu n c s'.b:=by
 unfold Proofs.YtbimjlmclegaeaaGreat.hj at a;split at a
 .rw [a.1];exact h
 .exact h.settle a
theorem eu.write{B:bq}(h:eu n c s.b)(e:eS g B s s' k er):eu n c s'.b:=by
 refine eu.then' (s:=s.fe) (λa b=>a.room b) (λ{a b k er} d f=>?_) h e;rcases f with⟨-,i,-⟩|⟨-,l,-,j⟩
 .rw [i];exact d.bU _
 .refine eu.then' (s:={a with b:=(a.hl g B).1}) (λa b=>?_) (λa b=>eu.then' (λa b=>a.eV b) (λa b=>eu.then' (λa b=>?_) (λa b=>a.hj b) a b) a b) (d.bU _) j
  .rw [b.1];exact a.hM _
  .rw [b.1];exact a.op (vT)
end
end
section
structure ky[Lo](w:M)(Z:bm)(g:aA)(V:cp)(C:Nat)(s:Rs)(sq:Nat)(L:List bW)(Vp:cp):Prop where
 ay:de w Z g s (Su.born Z.N Z.lz) false
 kQ:5<=Z.N/\Z.N<=2048
 cx:Cx g (Su.born Z.N Z.lz) Z.N sq s L Vp V
 fit:Fit g C s
 lz:s.ro.lz=Z.lz
 lim:s.x.nx+C<=4000000000000000000
 sure:Z.lz=false->s.x.sure=true
def KK(g:aA)(N k:Nat):Nat:=if k<g.M then 1+g.R else if k=g.M then 2+N else 0
def qE[Lo](w:QA)(Z:bm)(g:aA)(Vs:cp->Prop):Prop:=∃b a,aC w Z.B b/\Can g (Su.born Z.N Z.lz) Z.N a Vs b/\eu (g.M+1) (KK g Z.N) b
variable [Lo] {w w':QA} {Z:bm} {g:aA} {V Vp:cp} {C:Nat} {s:Rs} {sq:Nat} {L:List bW} {Vs:cp->Prop} {Bt:bq} {pv:QC}
theorem ky.Po(h:ky w Z g V C s sq L Vp):eu (g.M+1) (KK g Z.N) s.b:=by
 refine⟨h.fit.N,λk v b=>?_⟩;unfold KK;by_cases a:k<g.M
 .simp only[ak a];exact(h.fit.mem k v a b).1
 .simp only[al a];by_cases c:k=g.M
  .subst c;simp only[if_true];rw[<-h.cx.jl.n];exact(h.fit.gB v b).1
  .rw [al c];exact QO _
theorem ky.can(h:ky w Z g V C s sq L Vp)(b:Vs V)(a:s.x.sure=false->Vs Vp):qE w Z g Vs:=
 ⟨s.b,s.x.ep,h.ay.rs.ct,⟨_,h.cx.lit.dev,h.cx.yl b a⟩,h.Po⟩
theorem ky.fr{T:List Nat}(h:ky w Z g V C s sq L Vp)(a:Fr T aG w w')(b:(120::122::TA).all (λt=> !T.contains t)=true):ky w' Z g V C s sq L Vp:=
 ⟨h.ay.fr a b,h.kQ,h.cx,h.fit,h.lz,h.lim,h.sure⟩
theorem ky.below(h:ky w Z g V C s sq L Vp)(a:aq w w'):ky w' Z g V C s sq L Vp:=h.fr (T:= []) (Fr.af a) rfl
theorem ky.less{C':Nat}(h:ky w Z g V C s sq L Vp)(a:C'<=C):ky w Z g V C' s sq L Vp:=
 ⟨h.ay,h.kQ,h.cx,h.fit.less a,h.lz,by have:=h.lim;omega,h.sure⟩
theorem HJ(h:ky w Z g V C s sq L Vp)(K:1000000<=C)(j:Bt.ok g)(y:Bt.n<=256)(e_:1<=Bt.n)(l:fj w pv Bt)(a:2*Bt.c_ g+1<=Z.N)(z:Vs V)(m:s.x.sure=false->Vs Vp)(n:Vs (Bt.fQ g V)):
  aF 105 #[ar Z.R,pv] w λe w'=>∃k f,aL e (hN k f)/\Fr iN aG w w'/\lK w' Z g (Su.born Z.N Z.lz) false/\(∃A,fg w' Z.R Z.B (some (ag Z.W 0)) g Z.fb A)/\
   ((f=0/\∃c d p b,ky w' Z g (Bt.fQ g V) (C-250000) c d p b/\(c.x.sure=false->b=V)/\(s.b.aW=none->c.b.aW=none))\/(f=50/\s.b.aW≠none/\qE w' Z g Vs)):=by
 have i:s.x.N=Z.N:=h.cx.jl.n;refine(vc Z.R Z.B Z.W Z.r g Z.fb s C Bt pv w h.ay.rs h.fit J j y e_ (by rw[i];exact a) l (BI h.cx.gt h.fit J j e_ (by rw[i];exact h.kQ.2) (by rw[i];exact a))).mono ?_;rintro e w' ⟨c,k,f,q,rfl,r,v⟩;have B:=h.cx.write h.fit J j e_ h.kQ.2 a z m n (by have:=h.lim;omega) q;have x:=h.ay.arr.fr v rfl rfl;refine⟨k,f,rfl,v,x,⟨_,r.row⟩,?_⟩;rcases B with⟨rfl,D,t⟩|u
 .have o:=h.cx.gt.write h.fit.MP J j e_ (by show s.x.N<=2048;rw[i];exact h.kQ.2) (by show 2*Bt.c_ g+1<=s.x.N;rw[i];exact a) (Fj q);obtain⟨d,p,b,E,F⟩:=t.cx;have G:Fit g (C-60000) c:=⟨o.fit.cJ,o.fit.N,o.fit.mem,o.fit.gB,o.fit.bad,o.fit.cy,o.fit.h',o.fit.wt,o.fit.mg⟩;exact .inl ⟨rfl,c,d,p,b,⟨⟨x,r⟩,h.kQ,E,G.less J,o.lz.trans h.lz,by have:=h.lim;have:=t.nx;omega,λe=>(t.lz (h.lz.trans e)).1⟩,F,D⟩
 .exact .inr ⟨u.er,u.aW,c.b,s.x.ep,r.ct,u.can,h.Po.write q⟩
end
section
variable [Lo] {Z:bm} {g:aA} {V Vp:cp} {C:Nat} {s:Rs} {sq:Nat} {L:List bW} {Vs:cp->Prop} {Bt:bq} {pv:QC}
def zJ(Z:bm)(g:aA)(V Vp:cp)(C:Nat)(s:Rs)(sq:Nat)(L:List bW)(Vs:cp->Prop)(Bt:bq)(b:Nat)(c:M):Prop:=
 (b=122/\2*Bt.c_ g+1>Z.N/\ky c Z g V (C-250000) s sq L Vp)\/(2*Bt.c_ g+1<=Z.N/\
  ((b=0/\Bt.n=0/\ky c Z g V (C-250000) s sq L Vp)\/(b=0/\1<=Bt.n/\∃d e f a,ky c Z g (Bt.fQ g V) (C-250000) d e f a/\(d.x.sure=false->a=V)/\(s.b.aW=none->d.b.aW=none))\/(b=50/\1<=Bt.n/\s.b.aW≠none/\qE c Z g Vs)))
theorem zJ.fr{T:List Nat}{l:Nat}{w m:M}(h:zJ Z g V Vp C s sq L Vs Bt l w)(e:Fr T aG w m)(f:(120::122::TA).all (λt=> !T.contains t)=true)(i:TB.all (λt=> !T.contains t)=true):zJ Z g V Vp C s sq L Vs Bt l m:=by refine h.imp (λ⟨a,b,c⟩=>⟨a,b,c.fr e f⟩) λ⟨a,b⟩=>⟨a,b.imp (λ⟨a,b,c⟩=>⟨a,b,c.fr e f⟩) λb=>b.imp (λ⟨a,b,s',j,n,k,c,d⟩=>⟨a,b,s',j,n,k,c.fr e f,d⟩) λ⟨a,b,o,p,q,c,d⟩=>⟨a,b,o,p,q,c.fn e ?_,d⟩⟩;exact i
theorem HK(w:QA)(h:ky w Z g V C s sq L Vp)(j3:1000000<=C)(f1:Bt.ok g)(f2:Bt.n<=256)(F:fj w pv Bt)(i3:Vs V)(b8:s.x.sure=false->Vs Vp)(b9:Vs (Bt.fQ g V)):
  aF 60 #[ar Z.A,pv] w λe e6=>∃G:Nat,aL e (.int .u16 G)/\Fr eG aG w e6/\zJ Z g V Vp C s sq L Vs Bt G e6:=by
 have j4:∀(i4:Fn) (first M:Array QC) (w:QA),(Instr.makeFunc i4 first M).run prog w=.ok (.func i4 first M) w:=λ_ _ _ _=>rfl;obtain⟨i5,D,i6,R,t,I⟩:=eL w (ao #[aH 0] 35);have K:=h.below t;obtain⟨M,-,Y⟩:=K.ay.arr.aM;obtain⟨k0,f0,z0⟩:=cr Y;obtain⟨d1,d2,d3⟩:=cr I;have f3:=h.kQ.2;have i7:=h.fit.cJ;have J:Lo.lo<=w.heap.size:=by have:=Z_ Y;have:=h.ay.arr.lo.1;obtain⟨i8,-,f4⟩:=h.ay.arr.aM;have:=Z_ f4;omega
 have a0:=ad (js Z g _ false i5 K.ay.arr);have n:=ad (sy g Bt pv i5 i7 f1 f2 (F.below t));have f6:=aT i3 b8 b9;have E:=ca K I t J (F.below t);have f7:=aT j3 f1 f2;have o:=aB i6 R;have f8:=bq.sH i7 Bt;obtain⟨j5,j6,l,-⟩:=id F;have f9:=ad l;rw[l];obtain⟨i9,a1⟩:=ah (Bt.c_ g);have g0:=ad a1;rw[a1]at n f8;rw[l]at n;obtain⟨p2,a2⟩:=ah (2*i9);obtain⟨e7,a3⟩:=ah (p2+1);have e1:QG.wrap (2*(i9:Int))=((p2:Nat):Int):=by rw[<-a2];go_arith
 have e2:QG.wrap ((p2:Int)+1)=((e7:Nat):Int):=by rw[<-a3];go_arith
 have v:QX (2*Bt.c_ g+1=e7):=by rw[<-a3,<-a2,<-g0.out];rfl
 obtain⟨u,e8⟩:=ah (Su.born Z.N Z.lz);have x:QX (Z.N=u.N):=by show Z.N=u.N;rw[<-e8];rfl
 have k6:=ad e8;rw[e8]at k0;have c3:w.heap.size<=D:=RN R;have a:=aB c3 (QD J c3);clear h t I K Y i6 R F l a1 a2 a3 f1 f2 i3 b8 b9 e8 J f3;by_cases e9:e7<=u.N
 .by_cases a4:Bt.n=0
  .rw [a4]at n|-;have g1:=ad a4;obtain⟨X,a5,a6⟩:=g;clear a4
   go_enter_defers func60,ntmps60
   go_wp2_with fail;rw[o.1,o.2];go_wp2_with(first|(go_at_call 99;refine a0.mono ?_;rintro e w1 ⟨rfl,rfl⟩)|(go_at_call 104;refine n.mono ?_;rintro e i ⟨rfl,b⟩;obtain⟨p1,p2,p3⟩:=kp b D d3;obtain⟨p4,p5,p6⟩:=kp b Z.A z0;have c:=aB b p6;clear b));refine WZ (f:=98) (args:= #[ar D]) aJ (by simp[go_sem]) ?_;refine(cY ⟨D,0,none⟩ _).mono ?_;rintro e g2 a7 ⟨rfl,rfl,rfl⟩;have d:=(c.1.block D d3).trans E.2.1;have y:=heap_setCell_same i D 0 _ _ (aH 0) d;have a8:=heap_setCell_same _ D 0 _ _ (aH 0) y;have g3:=ad (((Fr.refl [35] aG i).set (p:=⟨D,0,none⟩) d rfl a.2 (aH 0)).set (p:=⟨D,0,none⟩) y rfl a.2 (aH 0));have a9:=((E.1.below c.1).fr g3 rfl).less (C':=C-250000) aa;have b0:QX (Fr eG aG w ((i.setCell ⟨D,0,none⟩ (aH 0)).setCell ⟨D,0,none⟩ (aH 0))/\zJ Z ⟨X,a5,a6⟩ V Vp C s sq L Vs Bt 0 ((i.setCell ⟨D,0,none⟩ (aH 0)).setCell ⟨D,0,none⟩ (aH 0))):=by refine⟨(((Fr.af E.2.2.1).then c.1).new a.1 _).new a.1 _,.inr ⟨by rw[v.out,x.out];exact e9,.inl ⟨rfl,g1,a9⟩⟩⟩
   have H:=(cr a8).1 0;simp[Leaves,settle,RP,results60,go_sem,H];exact⟨0,aJ,b0⟩
  .have e_:¬(Bt.n:Int)=0:=aa;have c4:QX (∀W,ky W Z g V C s sq L Vp->fj W pv Bt->aF 105 #[ar Z.R,.slice j5 Bt.n j6] W _):=λW h1 h2=>by rw[<-f9.out];exact HJ h1 f7.1 f7.2.1 f7.2.2 aa h2 (by rw[v.out,x.out];exact e9) f6.1 f6.2.1 f6.2.2
   have c5:QX (1<=Bt.n):=by show 1<=Bt.n;omega
   obtain⟨X,a5,a6⟩:=g
   go_enter_defers func60,ntmps60
   go_wp2_with fail;rw[o.1,o.2];go_wp2_with(first|(go_at_call 99;refine a0.mono ?_;rintro e w1 ⟨rfl,rfl⟩)|(go_at_call 104;refine n.mono ?_;rintro e i ⟨rfl,b⟩;obtain⟨p1,p2,p3⟩:=kp b D d3;obtain⟨p4,p5,p6⟩:=kp b Z.A z0;have c:=aB b p6;clear b));have d:=(c.1.block D d3).trans E.2.1;have g4:=ad d;have c6:=(E.1.below c.1).fr ((Fr.refl [35] aG i).set (p:=⟨D,0,none⟩) d rfl a.2 (aH 0)) rfl;have g5:=ad (c4 _ c6 ((E.2.2.2.2.below c.1).fr ((Fr.refl [35] aG i).set (p:=⟨D,0,none⟩) d rfl a.2 (aH 0)) rfl rfl));have g6:QX (Fr eG aG w (i.setCell ⟨D,0,none⟩ (aH 0))):=((Fr.af E.2.2.1).then c.1).new a.1 _;have c7:decide (u.N<e7)=false:=aS;have c8:((Bt.n:Int)==0)=false:=by rw[beq_eq_false_iff_ne];omega
   simp only[c7,c8];clear c7 c8 c6 d c4;go_loopw [6] (λ_ wr=>wr=i.setCell ⟨D,0,none⟩ (aH 0)) (λ_ _=>0)
   case atStart=>rfl
   case round=>
    subst hrel;go_wp2_with fail;refine g5.mono ?_;rintro e q ⟨k,G,rfl,b1,z,⟨k7,b2⟩,b3⟩;have A:=b1.hp (heap_setCell_same i D 0 _ _ (aH 0) g4) rfl;have b4:=ad A;have g7:=Z_ A;have c9:=ad (g6.tr (b1.wide eG rfl));clear b1;rcases b3 with⟨rfl,j0⟩|⟨rfl,d0,j1⟩
    .have j7:=ad j0;clear j0 z b2;obtain⟨H,c1,c2⟩:=cr A;rw[di];clear A;go_wp2;refine WZ (f:=98) (args:= #[ar D]) aJ (by simp[go_sem]) ?_;refine(cY ⟨D,0,none⟩ _).mono ?_;rintro e g2 a7 ⟨rfl,rfl,rfl⟩;have r:=heap_setCell_same q D 0 _ _ (aH 0) b4;have B:SK (q.setCell ⟨D,0,none⟩ (aH 0)).heap.size (q.setCell ⟨D,0,none⟩ (aH 0)) ((q.setCell ⟨D,0,none⟩ (aH 0)).alloc (ao #[ae 0,aH 0] 172)):=aK aj _;have g8:=((Fr.refl [35] aG q).set (p:=⟨D,0,none⟩) b4 rfl a.2 (aH 0)).then B;have H:=(cr ((B.block D (Z_ r)).trans r)).1 0;have b0:QX (∃G:Nat,(0:Int)=G/\Fr eG aG w ((q.setCell ⟨D,0,none⟩ (aH 0)).alloc (ao #[ae 0,aH 0] 172))/\zJ Z ⟨X,a5,a6⟩ V Vp C s sq L Vs Bt G ((q.setCell ⟨D,0,none⟩ (aH 0)).alloc (ao #[ae 0,aH 0] 172))):=by obtain⟨j8,g9,j9,h0,i1,i2⟩:=j7.out;exact⟨0,rfl,(c9.new a.1 _).then B,.inr ⟨by rw[v.out,x.out];exact e9,.inr (.inl ⟨rfl,c5,j8,g9,j9,h0,i1.fr g8 rfl,i2⟩)⟩⟩
     simp[Leaves,settle,RP,results60,go_sem,H];exact b0
    .have h3:=ad j1;have h4:=ad d0;clear d0;obtain⟨d4,T,j2,d5,O,d6⟩:=eL q (ao #[ae k,aH 50] 172);obtain⟨k8,-,j⟩:=z.aM;have d7:=(O.block _ (Z_ j)).trans j;obtain⟨k0,f0,z0⟩:=cr d7;obtain⟨k5,f5,z5⟩:=cr j;obtain⟨t0,t1,t2⟩:=cr d6;have h5:=ad (mW _ _ _ _ _ _ d4 (b2.below O));have k1:=ad (λW (Y:aq q W)=>dK Z ⟨X,a5,a6⟩ _ false W (z.fr (T:= []) (Fr.af Y) rfl rfl));have h6:=ad (λW=>yV 50 W ai);have h7:QX (∀W,aq q W->aF 111 #[ar Z.A,.agg #[ae k,aH 50]] W _):=λW Y=>tk Z.A k _ W ((Y.block _ (Z_ j)).trans j) (by show 16<19;decide);have P:=ad O;have Q:=aB j z.lo.1;have N:=aB j2 d5;rw[bl k ai,show((50:Nat):Int)=50 from rfl];clear j1 A j z b2 O d6 d7 j2 d5;go_wp2_with fail;rw[N.1,N.2];go_wp2_with(go_at_call 106;refine h5.mono ?_;rintro e w6 ⟨rfl,rfl⟩);obtain⟨k2,S⟩:=ah ((k:Int)==(X:Int));cases k2
     all_goals
      go_quiet(first|(go_at_call 107;exact WE ((k1 _ (P.trans ((cK aj _).mono P.size))).mono λe e6 h=>⟨h.1,h.2.symm⟩))|(go_at_call 108;exact WE ((h6 _).mono λe e6 h=>⟨h.1,h.2.symm⟩)));have U:QX (aq q (d4.drewN nq)):=P.trans ((cK aj _).mono P.size);have S:aq d4 (d4.drewN nq):=cK aj _;obtain⟨e0,h8,h9⟩:=kp S T t2;obtain⟨e3,e4,e5⟩:=kp S Z.A z0;obtain⟨k9,d8⟩:=ah (d4.drewN nq);rw[d8]at U e0 h8 h9 e3 e4 e5|-;clear d8 S;go_wp2_with fail;refine(h7 _ U).mono ?_;rintro e w7 ⟨rfl,w6,B,rfl⟩;change bodyPostD prog Tryz.f60 _ (Exit.panic zG) _ _;refine WZ (f:=98) (args:= #[ar D]) aJ (by simp[go_sem]) ?_;have m:aq q w6:=U.trans (B.mono U.size);have b5:=(m.block _ (Z_ Q.1)).trans Q.1;have r:w6.heap[D]?=some (ao #[aH 0] 35):=(m.block _ g7).trans b4;have i0:D≠Z.A:=λe=>by rw[e,b5]at r;cases r
      have b6:=(RJ w6 ⟨Z.A,16,none⟩ D (aH 50) i0).trans r;refine(ym D _ _ b6).mono ?_;rintro e g2 a7 ⟨rfl,rfl,w8,b7,rfl⟩;have d9:=(b7.block _ (Z_ b6)).trans b6;have H:=(cr (heap_setCell_same w8 D 0 _ _ (aH 50) d9)).1 0;have F1:Fr [120,35] aG q (w6.setCell ⟨Z.A,16,none⟩ (aH 50)):=(Fr.af m).set (p:=⟨Z.A,16,none⟩) b5 rfl Q.2 _;have F2:=(F1.then b7).set (p:=⟨D,0,none⟩) d9 rfl a.2 (aH 50);have G1:Fr eG aG w (w6.setCell ⟨Z.A,16,none⟩ (aH 50)):=(c9.then m).set (p:=⟨Z.A,16,none⟩) b5 rfl Q.2 _;have b0:QX (∃G:Nat,(50:Int)=G/\Fr eG aG w (w8.setCell ⟨D,0,none⟩ (aH 50))/\zJ Z ⟨X,a5,a6⟩ V Vp C s sq L Vs Bt G (w8.setCell ⟨D,0,none⟩ (aH 50))):=by obtain⟨k3,k4,i1,i2⟩:=h3.out;exact⟨50,rfl,(G1.then b7).new a.1 _,.inr ⟨by rw[v.out,x.out];exact e9,.inr (.inr ⟨rfl,c5,h4,k3,k4,i1.fn F2 rfl,i2⟩)⟩⟩
      simp[Leaves,settle,RP,results60,go_sem,H];exact b0
 .obtain ⟨X,a5,a6⟩:=g
  go_enter_defers func60,ntmps60
  go_wp2_with fail;rw[o.1,o.2];go_wp2_with(first|(go_at_call 99;refine a0.mono ?_;rintro e w1 ⟨rfl,rfl⟩)|(go_at_call 104;refine n.mono ?_;rintro e i ⟨rfl,b⟩;obtain⟨p1,p2,p3⟩:=kp b D d3;obtain⟨p4,p5,p6⟩:=kp b Z.A z0;have c:=aB b p6;clear b));refine WZ (f:=98) (args:= #[ar D]) aJ (by simp[go_sem]) ?_;refine(cY ⟨D,0,none⟩ _).mono ?_;rintro e g2 a7 ⟨rfl,rfl,rfl⟩;have d:=(c.1.block D d3).trans E.2.1;have y:=heap_setCell_same i D 0 _ _ (aH 0) d;have a8:=heap_setCell_same _ D 0 _ _ (aH 122) y;have g3:=ad (((Fr.refl [35] aG i).set (p:=⟨D,0,none⟩) d rfl a.2 (aH 0)).set (p:=⟨D,0,none⟩) y rfl a.2 (aH 122));have a9:=((E.1.below c.1).fr g3 rfl).less (C':=C-250000) aa;have b0:QX (Fr eG aG w ((i.setCell ⟨D,0,none⟩ (aH 0)).setCell ⟨D,0,none⟩ (aH 122))/\zJ Z ⟨X,a5,a6⟩ V Vp C s sq L Vs Bt 122 ((i.setCell ⟨D,0,none⟩ (aH 0)).setCell ⟨D,0,none⟩ (aH 122))):=by refine⟨(((Fr.af E.2.2.1).then c.1).new a.1 _).new a.1 _,.inl ⟨rfl,by rw[v.out,x.out];omega,a9⟩⟩
  have H:=(cr a8).1 0;simp[Leaves,settle,RP,results60,go_sem,H];exact⟨122,rfl,b0⟩
end
section
variable [Lo] {Z:bm} {g:aA} {V Vp:cp} {C:Nat} {s:Rs} {sq:Nat} {L:List bW} {Vs:cp->Prop} {Bt:bq} {pv:QC} {w:QA} {G:Nat}
theorem ky.low(h:ky w Z g V C s sq L Vp):Lo.lo<=w.heap.size:=by have:=h.ay.arr.lo.1;obtain⟨a,-,b⟩:=h.ay.arr.aM;have:=Z_ b;omega
theorem zJ.ct{a:Nat}(h:zJ Z g V Vp C s sq L Vs Bt a w):∃b,aC w Z.B b:=by
 rcases h with⟨-,-,h⟩|⟨-,⟨-,-,h⟩|⟨-,-,e,c,f,d,h,-⟩|⟨-,-,-,b,i,h,-⟩⟩
 .exact ⟨_,h.ay.rs.ct⟩
 .exact ⟨_,h.ay.rs.ct⟩
 .exact ⟨_,h.ay.rs.ct⟩
 .exact ⟨b,h⟩
theorem Ku(k:bX w G Z g)(h:ky w Z g V C s sq L Vp)(x:1000000<=C)(y:Bt.ok g)(z:Bt.n<=256)(l:fj w pv Bt)(A:Vs V)(n:s.x.sure=false->Vs Vp)(o:Vs (Bt.fQ g V)):
  aF 11 #[ar G,fO 2 0 0 0 pv aO] w λe i=>∃b d,aL e (dw b aO d)/\Fr eG aG w i/\zJ Z g V Vp C s sq L Vs Bt b i:=by
 refine(pN w G 31 true 2 0 0 0 pv aO Z g (λb v W=>v= aO/\zJ Z g V Vp C s sq L Vs Bt b W) aJ rfl k ⟨_,h.ay.rs.ct⟩ (λW j=>?_) (λb v W h=>h.2.ct) (λb v W u h p=>⟨h.1,h.2.fr p rfl rfl⟩) h.low).mono ?_
 .refine (rG G Z g 2 0 0 0 pv aO W (λb W=>zJ Z g V Vp C s sq L Vs Bt b W) ((j.block _ (Z_ k)).trans k) ⟨λu f=>?_,λb D E h p=>h.fr p rfl rfl,QD h.low j.size⟩).mono λe i ⟨b,q,r,t⟩=>⟨b,none,0,0,q,r,rfl,t⟩;exact HK u ((h.below j).below f) x y z ((l.below j).below f) A n o
 .rintro e i ⟨b,a,m,c,d,q,r,t,B⟩;exact⟨b,d,by rw[q,t],r,B⟩
theorem ky.aW{n:Nat}{a:M}(h:ky w Z g V C s sq L Vp)(d:aC a Z.B {s.b with aW:=some n})(c:Fr TB aG w a):ky a Z g V C {s with b:={s.b with aW:=some n}} sq L Vp:=by refine⟨⟨h.ay.arr.fr c rfl rfl,⟨h.ay.rs.row.fr c rfl rfl rfl rfl,d,h.ay.rs.kj.fr c rfl rfl rfl rfl,h.ay.rs.lo⟩⟩,h.kQ,⟨h.cx.jl,⟨h.cx.lit.bz,h.cx.lit.dev⟩,h.cx.gt,h.cx.wt⟩,⟨h.fit.cJ,h.fit.N,h.fit.mem,h.fit.gB,h.fit.bad,h.fit.cy,h.fit.h',h.fit.wt,h.fit.mg⟩,h.lz,h.lim,h.sure⟩
theorem Fl{n:Nat}(i:bX w G Z g)(h:ky w Z g V C s sq L Vp)(t:n<=1000):
  aF 11 #[ar G,fO 7 0 n 0 aO aO] w λe d=>∃j,aL e (dw 0 aO j)/\Fr eG aG w d/\ky d Z g V C {s with b:={s.b with aW:=some n}} sq L Vp:=by
 refine JQ w G 36 false 7 0 n Z g _ ⟨λW h=>⟨_,h.ay.rs.ct⟩,λW q h k=>h.fr k rfl⟩ aJ rfl i ⟨_,h.ay.rs.ct⟩ h.low λW l=>?_;refine(Ep G Z g 7 0 n 0 aO aO W (λm W=>m=0/\ky W Z g V C {s with b:={s.b with aW:=some n}} sq L Vp) ((l.block _ (Z_ i)).trans i) ⟨λq o=>?_,λm u v ⟨a,c⟩ k=>⟨a,c.fr k rfl⟩,QD h.low l.size⟩).mono λe d ⟨m,a,c,f,r⟩=>⟨by rw[a,f],c,r⟩;have p:=(h.below l).below o;refine(CF Z.B n s.b q p.ay.rs.ct p.cx.lit.bz J).mono ?_;rintro e d ⟨a,c,f⟩;exact⟨0,a,f.wide eG rfl,rfl,p.aW c f⟩
def vU(w:QA)(Z:bm)(g:aA)(Vs:cp->Prop)(m:Nat):Prop:=∃b a,aC w Z.B (b.pull m)/\Can g (Su.born Z.N Z.lz) Z.N a Vs b/\eu (g.M+1) (KK g Z.N) b
theorem qE.fr{T:List Nat}{a:M}(h:qE w Z g Vs)(c:Fr T aG w a)(d:TB.all (λt=> !T.contains t)=true):qE a Z g Vs:=by obtain⟨b,e,f,i⟩:=h;exact⟨b,e,f.fn c d,i⟩
theorem Fm{m:Nat}(l:bX w G Z g)(h:qE w Z g Vs)(F:m<g.M)(d:Lo.lo<=w.heap.size):
  aF 11 #[ar G,fO 10 m 0 0 aO aO] w λe k=>∃n,aL e (dw 0 aO n)/\Fr eG aG w k/\vU k Z g Vs m:=by
 have x:∃b,aC w Z.B b:=by obtain⟨b,-,h,-⟩:=h;exact⟨b,h⟩
 refine JQ w G 39 false 10 m 0 Z g _ ⟨λW ⟨b,a,h,_⟩=>⟨_,h⟩,λW t ⟨b,a,h,f⟩ o=>⟨b,a,h.fn o rfl,f⟩⟩ aJ rfl l x d λW p=>?_;refine(Er G Z g 10 m 0 0 aO aO W (λq W=>q=0/\vU W Z g Vs m) ((p.block _ (Z_ l)).trans l) ⟨λt r=>?_,λq K O ⟨i,b,a,h,f⟩ o=>⟨i,b,a,h.fn o rfl,f⟩,QD d p.size⟩).mono λe k ⟨q,i,f,j,y⟩=>⟨by rw[i,j],f,y⟩;obtain⟨b,a,i,⟨c,u,z⟩,j⟩:=(h.fr (T:= []) (Fr.af p) rfl).fr (T:= []) (Fr.af r) rfl;obtain⟨v,A⟩:∃v,b.dv m=some v:=by
  cases e:b.dv m with
  |some v=>exact⟨v,rfl⟩
  |none=>exact absurd ((u m (by rw[j.1];omega)).1 e) aJ
 refine(CG Z.B m b v t i (by rw[j.1];omega) A).mono ?_;rintro e k ⟨B,D,E⟩;exact⟨0,B,E.wide eG rfl,rfl,b,a,D,⟨c,u,z⟩,j⟩
end
section
variable [Lo] {Z:bm} {g:aA} {Vs:cp->Prop} {w:QA} {G m:Nat}
theorem Fo(q:gQ){E:QC}{l:Nat}{r:aN}{t:Nat->Nat->Bool}(L:bX w G Z g)(h:vU w Z g Vs m)(O:g.ok)(P:5<=Z.N/\Z.N<=2048)(Q:m<g.M)(f:gG w E l r t)(x:l<=1000000)(y:Lo.lo<=G/\Lo.lo<=w.heap.size)(i:∀V,Vs V->tD g V):
  aF 11 #[ar G,fO 9 0 0 0 aO E] w λe n=>∃d,aL e (dw 0 aO d)/\Fr TM aG w n/\∃c V s u,bX n G c g/\c.N=Z.N/\c.lz=Z.lz/\Vs V/\Inv n c g (some m) V 100000000000 s u:=by
 obtain⟨b,ep,S,T,z⟩:=h;have U:b.N=g.M+1:=z.1;refine YL (zF (R:=OG Z.B g (Su.born Z.N Z.lz) (some m) Vs) L S f x y ⟨λW X F=>?_,λc W A=>?_,λc M I A F=>?_⟩) ?_
 .refine zA (ep:=ep) (hs:=λk=>decide (k≠m)) (aw:=some m) (kp:=cE l r t) (b':=(b.pull m).cut (cE l r t)) q T U ⟨rfl,rfl,rfl,λk f=>?_⟩ (Su.oh O P Z.lz) rfl rfl (λ_ _=>rfl) (by show 1<_;omega) rfl aS (λk f=>?_) (λk e=>by cases e;exact Q) (λk v f e=>?_) (λv e=>?_) i X
  .show (if k<(b.pull m).N then Option.map _ (if k=m then none else b.dv k)else _)=_;rw[ak (show k<(b.pull m).N from f)];by_cases e:k=m
   .simp [e]
   .simp [e]
  .simp only[decide_eq_false_iff_not,SI];constructor
   .intro a;omega
   .intro a;omega
  .have:=z.2 k v e;unfold KK at this;rwa[ak f]at this
  .have:=z.2 g.M v e;unfold KK at this;rwa[al (TL _),ak rfl]at this
 .obtain ⟨V,o,p,-,-,-,-,j⟩:=A;exact⟨_,j.ay.rs.ct⟩
 .obtain ⟨V,o,p,B,C,D,K,j⟩:=A;exact⟨V,o,p,B,C,D,K,j.fr F rfl⟩
 .rintro e n ⟨d,rfl,c,B,C,V,o,p,D,K,H,N,j⟩;exact⟨d,rfl,C,c,V,o,p,B,H,N,D,j⟩
end
end Go.Proofs.YtbimjlmclegaeaaGreat
