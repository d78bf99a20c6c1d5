/- TopOne: without crashes, and with at most one member away, every call answers what one disk would; part 2 of 6. Conditions: none. -/
import Derived.Test.YtbimjlmclegaeaaGreatP0
namespace Go.Proofs.YtbimjlmclegaeaaGreat
set_option maxRecDepth 100000
set_option maxHeartbeats 8000000
open Go.RowKit Go.Proofs.Tryz
open Go renaming World->QA,World->M,heap_alloc_new->QB,Value->QC,bodyPost_ret->QR,cell_of_row->QT,results->RM,heap_setCell_other->RN,Ending->RW,info_parts->SD,run_underlying->SU,TypeId->SV,Addr->SZ,MapEntry->TE,madeCells->TQ,results_cell_tmp->UE,maxLen->UI,callFunc->UN,callsIn_wide->UP,ownsRow_setCell_other->XS
open Nat renaming le_trans->QE,le_refl->QH,zero_le->QN,zero_add->RH,lt_of_lt_of_le->RJ,le_of_eq->RO,not_lt_zero->RR,mod_lt->RT,mod_eq_of_lt->SA,lt_succ_self->TK,le_of_lt->TL,lt_irrefl->TO,mul_one->TZ,le_succ->US,mul_comm->VB,add_zero->VJ,zero_mul->VV,min_eq_left->WK,div_add_mod->WL,xor_lt_two_pow->XT,mod_one->YF,min_le_left->ZH
open Go.IntKind renaming i64->QK,u64->VN,u8->ZC
open Go.World renaming block_lt_of_cell?->QO,cell?_of_block->QQ,size_setCell->RS,news_of_block->RY,ownsRow_nil->SJ,putObj_heap_same->SR,size_alloc->SS,putObj_heap_other->TI,cell?_setCell_other->VG,frozen?_setCell->VO,putObj_size->WO,cell?_alloc_lt->YV
open List renaming getElem?_eq_getElem->QP,getElem?_eq_some_iff->QS,length_append->QU,mem_of_getElem?->QV,getElem?_append_right->QZ,length_map->RA,getElem?_append_left->RD,getElem?_eq_none->RE,getElem?_map->RL,mem_map->RQ,mem_cons_self->SE,getElem?_range->SF,length_cons->SG,map_append->SH,mem_cons_of_mem->SN,mem_singleton->SP,append_assoc->SY,getElem?_take->TH,mem_append->TJ,ext_getElem?->TN,map_cons->TS,range->TT,eq_nil_of_length_eq_zero->TU,mem_iff_getElem?->TY,append_nil->UB,take_length->UC,take_add_one->UF,mem_cons->UG,range_succ->UK,cons_append->UQ,nil_append->UT,flatMap_append->UY,length_take->VD,getElem_map->VE,length_filter_le->VI,length->VR,length_nil->VT,size_toArray->VW,pairwise_iff_getElem->WE,exists_mem_of_ne_nil->WG,length_eq_zero_iff->WM,take_append_drop->WZ,getElem?_toArray->XA,any_eq_true->XD,map_nil->XR,mem_of_find?_eq_some->XV,findIdx?_eq_none_iff->XW,pairwise_map->YA,nodup_append->YB,getElem_mem->YJ,modify_zero_cons->YP,modify_succ_cons->YQ,mem_iff_getElem->ZA,nodup_nil->ZK,mem_of_mem_take->ZL,length_pos_iff->ZM,getElem?_modify->ZN,flatten_append->ZO
open Go.RowKit.Below renaming heap_alloc->QW,heap_setCell->RP,refl->SL
open Go.RowKit renaming Hid->QX,Below->SC
open Option renaming map_some->QY,getD_some->TF,map_none->VF,isSome_iff_exists->WB,map_eq_some_iff->YC,map_map->YN
open Go.Lib renaming hid->RB
open _root_.Array renaming getElem?_eq_some_iff->RC,getElem?_eq_getElem->SB,getElem?_toList->TX,toList_modify->VK,getElem?_eq_none->WR,toList_eraseIdxIfInBounds->WS,getElem?_modify->WU,replicate_zero->ZF,replicate_succ->ZG
open Go.Proofs renaming enters_of->RF
open Go.Result renaming andThen_ok->RI,ok->YT
open Option.some renaming inj->RK,injEq->SO
open Go.Value renaming slice->RU,int->SK
open Go.Sem renaming run_bind->RZ,run_pure->VA
open Bool renaming false_eq_true->SM
open Go.IntWalk renaming i64_in->SQ
open Go.Instr renaming makeSlice->TC,mapUpdate->TD,lookup->UZ,checkKey->VC,keyThatStays->WI,findNow->XB,findKey->XE,sameBits->XN
open Int renaming natCast_mul->TG,tmod_eq_emod_of_nonneg->UH,tdiv_eq_ediv_of_nonneg->VH
open Go.Fence renaming wide->TV
open BitVec renaming ofInt->UJ,ofInt_natCast->WW,toNat_ofNat->XL
open Go.Proofs.Tryz renaming underlying41->UL,underlying5->UR,prog->VY,underlying3->XF,underlying162->XY,underlying338->YU
open Go.Act renaming eval->VU
open Go.Oper renaming semAt_some->WJ
open Go.Sort renaming ahead->XO
open Go.Exit renaming inBlock->XP
open List.Perm renaming refl->XX
open Go.Shelf renaming Ren->ZE
open Go.Op renaming equalIn->ZJ
variable {w W z:World}{n m k i j r C:Nat}{c:Int}{v x y:Value}{T:List Nat}{p:Addr}{P:Option Addr}{A:Array Value}{d:Bool}{S Q X:Nat->Prop}{t:TypeId}{L:List Value}{O:Obj}{f:aQ}{F:dp}{g:az}{K:bq}{l:List Pt}{D:Dk}{U:Dv}{b:By}
theorem eI(h:g.ok)(w:M):aE 26 #[g.V] w λe a=>aK e (aG 0)/\au w a:=
 tx _ _ _ w ⟨(az.fY h).m3,(az.fY h).m16,(az.fY h).c1,(az.fY h).pZ,(az.fY h).s1,(az.fY h).hj⟩
theorem zQ(w:M):(zeroValue 339).run prog w=.ok (.map none) w:=zeroValue339 w
theorem wK(d x:Nat)(w:M):(ZJ (d+1) 339 (.map (some x)) (.map none)).run prog w=.ok false w:=by unfold ZJ;simp only[RZ,SU underlying339,RI];rfl
theorem uc(d:Nat)(w:M):(ZJ (d+1) 339 (.map none) (.map none)).run prog w=.ok true w:=by unfold ZJ;simp only[RZ,SU underlying339,RI];rfl
theorem Ln(a:Nat)(w:M):(binOp .eql 339 (.map (some a)) (.map none)).run prog w=.ok iG w:=by unfold binOp;simp only[RZ,show Op.equal 339 (.map (some a)) (.map none)=ZJ (9999+1) 339 (.map (some a)) (.map none)from rfl,wK,RI];rfl
theorem IX(w:M):(binOp .eql 339 (.map none) (.map none)).run prog w=.ok ed w:=by unfold binOp;simp only[RZ,show Op.equal 339 (.map none) (.map none)=ZJ (9999+1) 339 (.map none) (.map none)from rfl,uc,RI];rfl
theorem ud(g:az)(B:bq)(v:QC)(w:QA)(s3:g.ok)(s4:B.ok g)(o7:B.n<=256)(u4:gN w v B):
  aE 168 #[g.V,v] w (Na g B w):=by
 obtain⟨v9,w0,rfl,o8,e5⟩:=u4;have s5:=ad e5;have s6:=λw=>eN 338 w;have s7:=λw=>eN 339 w;obtain⟨y,z,A⟩:=g;have d1:decide ((B.n:Int)>256)=false:=aR;obtain⟨n,e8⟩:=ah B.n;rw[e8]at s5 o7 d1 o8;rw[e8];have o9:=ad e8;have b8:=ad s3;have s8:=ad s4;clear e5 e8 s3 s4;go_enter func168,ntmps168;go_wp2_with(go_at_call 26;refine(eI b8.out _).mono ?_;rintro e w1 ⟨rfl,e9⟩;obtain⟨k0,f0,z0⟩:=kp e9 w.heap.size dJ);have c0:au w w1:=(aI ak _).trans (e9.mono aJ);have c3:a_ w1 w.heap.size (al #[ae y,ae z,ae A] 39):=(e9.block w.heap.size aJ).trans (QB w _);obtain⟨c4,c5⟩:=ah w1.heap.size;have j8:QX (jV ⟨y,z,A⟩ B w c4 0 (λ_=>0) (λ_=>.nilFunc) (w1.alloc (.map #[] 0))):=by refine⟨aI c0 _,by rw[<-c5];exact c0.size,?_,λr c6=>(by cases c6),λr w7 c6=>(by cases c6),λj u5=>aa⟩;rw[<-c5];exact(KM.made w1).congr λr=>rfl
 have s9:QX ((w1.alloc (.map #[] 0)).heap[w.heap.size]?=some (al #[ae y,ae z,ae A] 39)):=(QW _ _ _ (Z_ c3)).trans c3;rw[c5];clear c0 c3 c5 e9;go_loopw [8,30] (λl i wr=>∃(k:Nat) (S:aQ) (p3:Nat->QC),l=.bool true/\i= ae k/\k<=n/\QX (jV ⟨y,z,A⟩ B w c4 k S p3 wr)/\QX (a_ wr w.heap.size (al #[ae y,ae z,ae A] 39))) (λ_ i _=>n-(intOf i).toNat)
 case atStart=>exact⟨0,_,_,rfl,rfl,QN _,j8,s9⟩
 case round=>
  obtain⟨k,S,p3,rfl,rfl,u6,b0,c7⟩:=hrel;clear j8 s9;by_cases a0:k<n
  .obtain ⟨j6,t0,h8,h9,rfl,i0,j9⟩:=s5.resolve_left aa;obtain⟨p1,u,p2,Y⟩:=j9 k a0;have i1:a_ wr j6 (.cells h8 61 h9):=(b0.dw.block j6 (Z_ i0)).trans i0;have c1:wr.cell? ⟨j6,t0+k*2,none⟩=some (ae (B.aL k:Nat)):=(QT wr j6 _ h8 61 h9 i1).trans p1;have c2:wr.cell? ⟨j6,t0+k*2+1,none⟩=some u:=(QT wr j6 _ h8 61 h9 i1).trans p2;obtain⟨n7,n8,n9,rfl⟩:=Y.form;obtain⟨t1,t2,t3⟩:=cr c7;have t7:=ad Y;have c8:=s8.aL k (by rw[o9.out];exact a0);have i2:=ad (λw=>ya (g:=⟨y,z,A⟩) b8 c8 w);obtain⟨b,c9⟩:=ah (B.aL k);rw[c9]at c1 i2;obtain⟨G,f1⟩:=ah (az.row ⟨y,z,A⟩ b);obtain⟨m0,f2⟩:=ah (az.mem ⟨y,z,A⟩ b);obtain⟨q0,k1⟩:=ah (b/az.E ⟨y,z,A⟩);obtain⟨p0,k2⟩:=ah (az.par ⟨y,z,A⟩ G);rw[f1,f2,k1,k2]at i2;have p4:G<=4096:=by have:=az.iN b8 c8;have:=az.gY b8;rw[<-f1,<-c9];omega
   have k3:m0<=16:=by have:=az.kt b8 b;have:=b8.m16;rw[<-f2];omega
   have Z:=aM c9 f1 f2;clear j9 i1 p1 p2 i0 Y c8 c9 f1 f2 k1 k2;go_wp2_with fail;refine(i2 _).mono ?_;rintro e h ⟨rfl,d0⟩;have i3:au wr (wr.alloc (al #[ae b,.slice (some (ag n7 n8)) 128 n9] 61)):=aI ak _;obtain⟨W,p5⟩:=ah (h.alloc (al #[ae q0,ae G,ae m0,ae p0] 248));have T:au wr W:=by rw[<-p5];exact aI (i3.trans (d0.mono i3.size)) _
   obtain⟨x1,x2,x3⟩:=cr (show W.heap[h.heap.size]?=_ by rw[<-p5];exact QB h _);obtain⟨y1,y2,y3⟩:=cr (show W.heap[wr.heap.size]?=some (al #[ae b,.slice (some (ag n7 n8)) 128 n9] 61)by rw[<-p5];exact(QW _ _ _ (RJ aJ d0.size)).trans ((d0.block _ aJ).trans (QB wr _)));have u7:wr.heap.size<h.heap.size:=RJ aJ d0.size;obtain⟨t4,t5,t6⟩:=kp T w.heap.size t3;clear d0 i3;cases i4:aY ⟨y,z,A⟩ B k G with
   |true=>
    have f:=b0.out.outer.below T;have E:=di f 338 339 (.map none) false YU (zQ _) G;rw[ao i4]at E;simp only[TF,SM,if_false]at E;have d2:=ad (λ(p6:QA) (c9:au W p6)=>di (f.below c9) 338 339 (.map none) false YU (zQ _) G);have j7:=ad i4;clear i4 f;have p7:=λw=>Ln (S G) w;have k4:wr.heap.size≠S G:=by have:=(b0.inner G j7).2.2.lt;omega
    have g4:h.heap.size≠S G:=by have:=(b0.inner G j7).2.2.lt;omega
    have d3:au w W:=b0.dw.trans (T.mono b0.dw.size);have C:=ad (jV.vW b0 Z T j7);have p8:(UZ 338 (.map (some c4)) (ae G) false).run prog W.drew=.ok (.map (some (S G))) W.drew:=by have:=d2.out _ (aV ak);rw[ao j7.out]at this;simpa using this
    go_wp2_with fail;clear E;go_region_held3(λb6=>b6.cell? (ag wr.heap.size 1)=some (.slice (some (ag n7 n8)) 128 n9)/\b6.cell? (ag h.heap.size 1)=some (ae G)/\b6.cell? (ag h.heap.size 2)=some (ae m0)) ((simp[*,go_sem];done)) (first|(go_at_call 199;refine(hv _ _ _ (t7.below (aV d3))).mono ?_;rintro e w5 ⟨p9,rfl,c,F⟩;obtain⟨q1,q2,o0,rfl⟩:=(eZ c).form;have d:au W w5:=⟨F.os,F.tape,F.output,F.size,F.block⟩;have b7:aY ⟨y,z,A⟩ B (k+1) G=true:=dh.2 ⟨k,aa,by rw[Z.1,Z.2.1]⟩;obtain⟨J,e6,g6,o6⟩:=gZ ((C.2.1 G b7).2.2.below d) aa 339 206 underlying339 (show m0<=1000000 by omega) (.agg #[ae m0,ae G,(.slice (some (ag q1 q2)) 128 o0)]);have q3:=ad (b0.next aa d3 C.1 C.2.1 C.2.2.1 C.2.2.2 d (eZ c) Z o6 g6);have i5:QX (a_ J w.heap.size (al #[ae y,ae z,ae A] 39)):=o6.heap ((d.block _ t6).trans ((T.block _ t3).trans c7)) (λe=>by obtain⟨D,⟨u8,u9,h1,_⟩,_⟩:=((C.2.1 G b7).2.2).own;rw[<-e,(T.block _ t3).trans c7.out]at h1;cases h1);have H:=d2.out w5 d;rw[ao j7.out]at H;simp only[TF,SM,if_false]at H;obtain⟨a1,-,a4⟩:=kp d wr.heap.size y3;obtain⟨a2,-,a5⟩:=kp d h.heap.size x3;have z1:=(QQ (a:=ag wr.heap.size 1) (o6.block wr.heap.size a4 k4)).trans ((a1 1).trans (y1 1));have z2:=(QQ (a:=ag h.heap.size 1) (o6.block h.heap.size a5 g4)).trans ((a2 1).trans (x1 1));have z3:=(QQ (a:=ag h.heap.size 2) (o6.block h.heap.size a5 g4)).trans ((a2 2).trans (x1 2));clear F c g6 o6 d));go_wp2
    all_goals exact⟨⟨k+1,_,_,rfl,(by go_num),a0,q3,i5⟩,(by simp[intOf];omega)⟩
   |false=>
    have f:=b0.out.outer.below T;have E:=di f 338 339 (.map none) false YU (zQ _) G;simp only[i4,Option.getD_none,SM,if_false]at E;obtain⟨w3,e3,g3,o3⟩:=gZ (f.below (aI ak (.map #[] 0))) aa 338 339 YU (show G<=1000000 by omega) (.map (some W.heap.size));have j7:=ad i4;have C:=ad (jV.fresh b0 Z T i4 o3 g3);have c5:=b0.out.outer.lt;have N:∀x,x<W.heap.size->x≠c4->w3.heap[x]?=W.heap[x]?:=λx t8 o7=>(o3.block x (RJ t8 aJ) o7).trans (QW _ _ _ t8);have i6:wr.heap.size≠c4:=aa;have d4:h.heap.size≠c4:=aa;have i7:w.heap.size≠c4:=λe=>by obtain⟨D,⟨u8,u9,h1,_⟩,_⟩:=b0.out.outer.own;rw[<-e,c7.out]at h1;cases h1
    have d3:=C.2.2.2.2;have v0:W.heap.size<w3.heap.size:=RJ aJ o3.size;have k5:=QQ (a:=ag wr.heap.size 1) (N wr.heap.size y3 i6);have k6:=QQ (a:=ag h.heap.size 1) (N h.heap.size x3 d4);have k7:=QQ (a:=ag h.heap.size 2) (N h.heap.size x3 d4);rw[y1 1]at k5;rw[x1 1]at k6;rw[x1 2]at k7;have d2:=ad (λ(p6:QA) (c9:au w3 p6)=>di (C.1.below c9) 338 339 (.map none) false YU (zQ _) G);have b7:aY ⟨y,z,A⟩ B (k+1) G=true:=dh.2 ⟨k,aa,by rw[Z.1,Z.2.1]⟩;have p8:(UZ 338 (.map (some c4)) (ae G) false).run prog w3.drew=.ok (.map (some W.heap.size)) w3.drew:=by have:=d2.out _ (aV ak);rw[ao b7]at this;simpa using this
    have q4:QX (a_ w3 w.heap.size (al #[ae y,ae z,ae A] 39)):=(N _ t6 i7).trans ((T.block _ t3).trans c7);have p7:=λw=>IX w;clear i4 f g3 o3 N;go_wp2_with fail;clear E;go_region_held3(λb6=>b6.cell? (ag wr.heap.size 1)=some (.slice (some (ag n7 n8)) 128 n9)/\b6.cell? (ag h.heap.size 1)=some (ae G)/\b6.cell? (ag h.heap.size 2)=some (ae m0)) ((simp[*,go_sem];done)) (first|(go_at_call 199;refine(hv _ _ _ (t7.below (aV d3))).mono ?_;rintro e w5 ⟨p9,rfl,c,F⟩;obtain⟨q1,q2,o0,rfl⟩:=(eZ c).form;have d:au w3 w5:=⟨F.os,F.tape,F.output,F.size,F.block⟩;have i8:=(C.2.1 G b7).2.2.below d;rw[ao rfl]at i8;obtain⟨J,e6,g6,o6⟩:=gZ i8 aa 339 206 underlying339 (show m0<=1000000 by omega) (.agg #[ae m0,ae G,(.slice (some (ag q1 q2)) 128 o0)]);have q3:=ad (b0.next aa d3 C.1 C.2.1 C.2.2.1 C.2.2.2.1 d (eZ c) Z (by rw[ao rfl];exact o6) (by rw[ao rfl];exact g6));have i5:QX (a_ J w.heap.size (al #[ae y,ae z,ae A] 39)):=o6.heap ((d.block _ aa).trans (q4)) aa;have H:=d2.out w5 d;rw[ao b7]at H;simp only[TF,SM,if_false,if_true]at H;obtain⟨a1,-,a4⟩:=kp d wr.heap.size aa;obtain⟨a2,-,a5⟩:=kp d h.heap.size aa;have z1:=(QQ (a:=ag wr.heap.size 1) (o6.block wr.heap.size a4 aa)).trans ((a1 1).trans k5);have z2:=(QQ (a:=ag h.heap.size 1) (o6.block h.heap.size a5 aa)).trans ((a2 1).trans k6);have z3:=(QQ (a:=ag h.heap.size 2) (o6.block h.heap.size a5 aa)).trans ((a2 2).trans k7);clear F c g6 o6 d i8));go_wp2
    all_goals exact⟨⟨k+1,_,_,rfl,(by go_num),a0,q3,i5⟩,(by simp[intOf];omega)⟩
  .obtain rfl:n=k:=aa;obtain⟨e7,rfl⟩:∃e7:QA,e7=wr:=⟨_,rfl⟩;have U:QX (jV ⟨y,z,A⟩ B w c4 B.n S p3 e7):=by rw[o9.out];exact b0
   have fe:B.n<=1000000:=by rw[o9.out];omega
   obtain⟨k8,k9⟩:=U.rows b8 s8;have l0:=ad (λ(h:QA) (b2:au e7 h) (x:a_ h e7.heap.size (al #[.map (some c4)] 338))=>by have:=tE e7.heap.size c4 B.n _ _ h x (U.out.outer.below b2) fe k8;rw[k9]at this;exact this);have d5:(bq.eR ⟨y,z,A⟩ B).length<=4096:=QE (fv _ _) (az.gY b8);have l1:QX (∀r,r∈bq.eR ⟨y,z,A⟩ B->aY ⟨y,z,A⟩ B B.n r=true/\r<4096):=λr c6=>⟨(bC.1 c6).2,RJ (bC.1 c6).1 (az.gY b8)⟩;obtain⟨q5,i9⟩:=ah (bq.eR ⟨y,z,A⟩ B);rw[i9]at l0 d5 l1;have q6:=ad i9;clear k8 k9 i9;go_wp2_with(first|(go_at_call 252;refine(zn _ _).mono ?_;rintro e h ⟨rfl,rfl⟩)|(go_at_call 251;refine(l0 _ (aI ak _) (QB _ _)).mono ?_;rintro e w4 ⟨v4,rfl,h4,l2⟩;obtain⟨w8,o0,rfl,l3⟩:=av h4;have H4:=aM h4 l2 l3;clear h4 l2 l3));have g5:au e7 w4:=(aI ak _).trans (H4.2.1.mono aJ);have b1:=ad g5;obtain⟨d6,l4⟩:=ah (q5.map (bq.bU ⟨y,z,A⟩ B));have f3:=ad l4;have l5:QX (zv w4.heap.size w4 aW (d6.take 0)):=zv.nil _ _;have l6:QX (au w4 w4):=ak;obtain⟨v1,q7,q8,q9,r1⟩:=SD zP;obtain⟨v2,r2,r3,r4,r5⟩:=SD Nc;obtain⟨l7,f4⟩:=ah q5.length;have f5:=ad f4;rw[f4]at d5;rw[f4];clear g5 f4 l4;go_loopw [13,81] (λl i b9=>∃j:Nat,i= ae j/\j<=l7/\QX (au w4 b9)/\QX (zv w4.heap.size b9 l (d6.take j))) (λ_ i _=>l7-(intOf i).toNat)
   case atStart=>exact⟨0,rfl,QN _,l6,l5⟩
   case round=>
    obtain⟨b9,rfl⟩:∃b9:QA,b9=wr:=⟨_,rfl⟩;obtain⟨j,rfl,u5,d7,j0⟩:=hrel;clear l5 l6;by_cases a0:j<l7
    .obtain ⟨r,c6⟩:∃r,q5[j]?=some r:=⟨_,QP (by rw[f5.out];exact a0)⟩;obtain⟨f6,p4⟩:=l1.out r (QV c6);obtain⟨r6,rfl⟩:=H4.2.2.resolve_left (by have:=f5.out;omega);have o:w4.cell? (ag r6 j)=some (ae r):=(oe H4.1 (k:=j) (by rw[RL,c6];rfl)).1;have l8:b9.cell? (ag r6 j)=some (ae r):=((kp d7 r6 (QO _ _ o)).1 j).trans o;have M:au e7 b9:=b1.trans (d7.mono b1.size);have f7:=ad M;have E:=di (U.out.outer.below M) 338 339 (.map none) false YU (zQ _) r;rw[ao f6]at E;simp only[TF,SM,if_false]at E;obtain⟨v3,-,d8⟩:=U.inner r f6;obtain⟨l9,m1⟩:=U.Nb b8 r;have m2:=ad (λ(h:QA) (b2:au e7 h) (x:a_ h b9.heap.size (al #[.map (some (S r))] 339))=>by have:=tF b9.heap.size (S r) B.n _ _ h x (d8.below b2) fe l9;rw[m1]at this;exact this);have d9:(bq.nG ⟨y,z,A⟩ B r).length<=16:=QE (fv _ _) b8.m16;have m3:QX (∀m,m∈bq.nG ⟨y,z,A⟩ B r->m<16/\∃q,cO ⟨y,z,A⟩ B B.n m r=some q):=λm g7=>⟨RJ (bC.1 g7).1 b8.m16,WB.1 (bC.1 g7).2⟩;obtain⟨KM,j1⟩:=ah (bq.nG ⟨y,z,A⟩ B r);rw[j1]at m2 d9 m3;have r7:=ad j1;have t9:=aB c6 f6;have m4:=ad d8;clear l9 m1 j1 d8 c6 f6 o M;go_wp2_with(first|(go_at_call 253;refine(zo _ _).mono ?_;rintro e w5 ⟨rfl,rfl⟩)|(go_at_call 251;refine(m2 _ (aI f7 _) (QB _ _)).mono ?_;rintro e J ⟨v6,rfl,h6,m5⟩;obtain⟨v5,v7,rfl,m6⟩:=av h6;have H6:=aM h6 m5 m6;clear h6 m5 m6));have g8:au b9 J:=(aI ak _).trans (H6.2.1.mono aJ);have b3:=ad g8;obtain⟨X,m7⟩:∃X:List Pt,(KM.map λm=>((m,r,bq.iQ ⟨y,z,A⟩ B m r):Pt))=X:=⟨_,rfl⟩;have f8:=ad m7;have m8:QX (fg J.heap.size J aW (X.take 0)):=fg.nil _ _;have g9:QX (au J J):=ak;obtain⟨o1,f9⟩:=ah KM.length;have g0:=ad f9;rw[f9]at d9;rw[f9];clear g8 f9 E l8 m7;go_loopw [16,91] (λl i Q=>∃q:Nat,i= ae q/\q<=o1/\QX (au J Q)/\QX (fg J.heap.size Q l (X.take q))) (λ_ i _=>o1-(intOf i).toNat)
     case atStart=>exact⟨0,rfl,QN _,g9,m8⟩
     case round=>
      obtain⟨Q,rfl⟩:∃Q:QA,Q=wr:=⟨_,rfl⟩;obtain⟨q,rfl,w9,e0,g1⟩:=hrel;clear m8 g9;by_cases h0:q<o1
      .obtain ⟨m,g7⟩:∃m,KM[q]?=some m:=⟨_,QP (by rw[g0.out];exact h0)⟩;obtain⟨k3,u0,g2⟩:=m3.out m (QV g7);obtain⟨j2,rfl⟩:=H6.2.2.resolve_left (by have:=g0.out;omega);have o:J.cell? (ag j2 q)=some (ae m):=(oe H6.1 (k:=q) (by rw[RL,g7];rfl)).1;have l8:Q.cell? (ag j2 q)=some (ae m):=((kp e0 j2 (QO _ _ o)).1 q).trans o;have M:au e7 Q:=(f7.trans (b3.mono f7.size)).trans (e0.mono (QE f7.size b3.size));have E:=di (U.out.outer.below M) 338 339 (.map none) false YU (zQ _) r;rw[ao t9.2]at E;simp only[TF,SM,if_false]at E;have e1:=di (m4.below M) 339 206 (.agg #[ae 0,ae 0,aW]) false underlying339 (zeroValue206 _) m;rw[g2]at e1;simp only[QY,TF,SM,if_false]at e1;have b4:=(U.iQ u0 (dz g2).1).below M;obtain⟨m9,n0,n1,n2⟩:=b4.form;rw[n2]at e1 b4;have h3:bq.iQ ⟨y,z,A⟩ B m r=B.da u0:=by unfold bq.iQ;rw[g2]
       have u1:=aM g7 b4 h3;obtain⟨us,a3,V,e2⟩:=g1.out;have K:(X.take q).length=q:=by rw[VD,<-f8.out,RA,g0.out];omega
       have n3:X[q]?=some (m,r,bq.iQ ⟨y,z,A⟩ B m r):=by rw[<-f8.out,RL,g7];rfl
       have r8:=ad n3;rw[K]at V a3;obtain⟨o2,o4,rfl,-⟩:=av V;have O:=aM a3 V e2;have a6:=ad K;clear g7 g2 o M b4 n2 h3 a3 V e2 K n3;go_wp2_with(first|(at_builtin;refine aU _ rfl _ _ 162 rfl J.heap.size 206 v1 (.agg #[ae 0,ae 0,aW]) 3 40 XY q7 q8 q9 r1 rfl aj (.slice o2 q o4) q _ rfl (aP (aI ak _) O.2.1) (ag Q.heap.size 0) 1 1 [ae m,ae r,.slice (some (ag m9 n0)) 128 n1] rfl rfl (RY (cs:= #[ae m,ae r,.slice (some (ag m9 n0)) 128 n1]) (t:=206) (fr:=(0,0)) (QB Q _)) (by intro u Y;simp at Y;rcases Y with rfl|rfl|rfl<;>rfl) aa (by unfold UI;omega) aa (by have:=e0.size;simp;omega) ?_));intro v8 b6 c P;obtain⟨r9,j3,rfl,-⟩:=av c;have a7:au J (Q.alloc (al #[ae m,ae r,.slice (some (ag m9 n0)) 128 n1] 206)):=aI e0 _;have j4:QX (fg J.heap.size b6 (.slice r9 (q+1) j3) (X.take (q+1))):=by
        show fg _ _ _ _;rw[UF,r8.out];have R:au Q (Q.alloc (al #[ae m,ae r,.slice (some (ag m9 n0)) 128 n1] 206)):=aI ak _;refine fg.push (us:=us) (us':= [.slice (some (ag m9 n0)) 128 n1]) (by rw[O.1,a6.out]) rfl a6.symm rfl (aP R O.2.1) (λi p u e5 Y=>(O.2.2 i p u e5 Y).below R) (λi p u e5 Y=>?_) c P;cases i with
        |zero=>simp at e5 Y;rw[<-e5,<-Y,u1.2.2];exact u1.2.1.below R
        |succ i=>simp at e5
       have j5:QX (au J b6):=P.below a7 a7.size λk s0=>(bo O.2.1 s0).2;clear c P a7;go_wp2;exact⟨⟨q+1,by go_num,h0,j5,j4⟩,by simp[intOf];omega⟩
      .obtain rfl:q=o1:=aa;have h5:X.length=q:=by rw[<-f8.out,RA,g0.out]
       have I:X.take q=X:=by rw[<-h5,UC]
       rw[I]at g1;have n4:=g1.yj;obtain⟨a8,a9,s1,u2,-⟩:=n4;obtain⟨us,a3,V,e2⟩:=(show zv _ _ _ _ from j0.out);have e4:d6.length=l7:=by rw[<-f3.out,RA,f5.out]
       have K:(d6.take j).length=j:=by rw[VD,e4];omega
       have n5:d6[j]?=some X:=by rw[<-f3.out,RL,t9.1,<-f8.out,<-r7.out];rfl
       rw[K]at a3 V;obtain⟨o2,o4,rfl,-⟩:=av V;subst s1;have b5:au b9 Q:=b3.trans (e0.mono b3.size);have h7:au w4 Q:=d7.trans (b5.mono d7.size);have O:=aM a3 (aP b5 V) (λ(i:Nat) (l:List Pt) (u:QC) h1 h2=>(e2 i l u h1 h2).below b5);have s2:=ad g1.yj;have a6:=aM K n5 h7;clear a3 V e2 h5 I e4 K n5 b5 h7;go_wp2_with(first|(at_builtin;refine aU _ rfl _ _ 253 rfl w4.heap.size 162 v2 aW 1 24 underlying253 r2 r3 r4 r5 rfl aj (.slice o2 j o4) j _ rfl (aP (aI ak _) O.2.1) (ag Q.heap.size 0) 1 1 [.slice a8 X.length a9] rfl rfl (RY (cs:= #[.slice a8 X.length a9]) (t:=162) (fr:=(0,0)) (QB Q _)) (by intro u Y;simp at Y;rw[Y];rfl) aa (by unfold UI;omega) aa (by have:=a6.2.2.size;simp;omega) ?_));intro v8 b6 c P;obtain⟨r9,j3,rfl,-⟩:=av c;have R:au Q (Q.alloc (al #[.slice a8 X.length a9] 162)):=aI ak _;have a7:au w4 (Q.alloc (al #[.slice a8 X.length a9] 162)):=aI a6.2.2 _;have j4:QX (zv w4.heap.size b6 (.slice r9 (j+1) j3) (d6.take (j+1))):=by show zv _ _ _ _;rw[UF,a6.2.1];have o5:=a6.1;refine zv.push (L:=d6.take j) (l:=X) (us:=us) (u:=.slice a8 X.length a9) (s:=Q.heap.size+1) (W:=Q.alloc (al #[.slice a8 X.length a9] 162)) (lv:=.slice o2 j o4) (by rw[O.1,o5]) (by rw[o5];exact aP R O.2.1) (λi p u e5 Y=>(O.2.2 i p u e5 Y).below R) (s2.below R) (by rw[o5];exact c) (by rw[o5];exact P)
       have j5:QX (au w4 b6):=P.below a7 a7.size λk s0=>(bo O.2.1 s0).2;clear c P a7 R;go_wp2;exact⟨⟨j+1,by go_num,a0,j5,j4⟩,by simp[intOf];omega⟩
    .obtain rfl:j=l7:=aa;have e4:d6.length=j:=by rw[<-f3.out,RA,f5.out]
     have I:d6.take j=d6:=by rw[<-e4,UC]
     rw[I]at j0;have f:=j0.Pz;have c9:au w b9:=U.dw.trans ((b1.trans (d7.mono b1.size)).mono U.dw.size);have n6:d6=bq.fD ⟨y,z,A⟩ B:=by rw[<-f3.out,<-q6.out];rfl
     rw[n6]at f;have u3:=aB f c9;obtain⟨a8,a9,rfl,-⟩:=f;clear e4 I n6 c9;go_wp2;go_ret2;exact⟨_,rfl,u3.1,u3.2⟩
def bq.dK(g:az)(B:bq):Nat:=(B.fD g).length+((B.fD g).map VR).sum
theorem bq.qK(h:g.ok)(B:bq):(B.fD g).length<=4096:=by unfold bq.fD;rw[RA];exact QE (fv _ _) (az.gY h)
theorem bq.yr(h:g.ok)(B:bq)(a:l∈B.fD g):l.length<=16:=by unfold bq.fD at a;obtain⟨r,_,rfl⟩:=RQ.1 a;unfold bq.bU;rw[RA];exact QE (fv _ _) h.m16
theorem ys(g:az)(B:bq)(v:QC)(w:QA)(C:g.ok)(T:B.ok g)(d:B.n<=256)(U:gN w v B):
  aE 104 #[g.V,v] w λe V=>aK e (.tuple #[ae (B.dK g:Nat),aG 0])/\au w V:=by
 have X:=ad (λ(W:QA) (f:au w W)=>ud g B v W C T d (U.below f));have j:=bq.qK C B;have c:QX (∀l,l∈B.fD g->l.length<=16):=λl m=>bq.yr C B m;have D:QX (B.dK g=(B.fD g).length+((B.fD g).map VR).sum):=rfl;obtain⟨L,G⟩:=ah (B.fD g);obtain⟨Z,p⟩:=ah (B.dK g);rw[G]at j c D;rw[p]at D;rw[p];have H:=ad G;obtain⟨a2,a3,a4⟩:=g;go_enter func104,ntmps104;go_wp2_with(go_at_call 168;refine(X _ (aI ak _)).mono ?_;rintro e N ⟨u,rfl,E,f⟩;rw[H.out]at E;have M:=aB E f;obtain⟨a5,a6,rfl,-,R⟩:=E;have I:=ad R);obtain⟨n,d⟩:=ah L.length;have A:=ad d;rw[d]at j;rw[d];go_loop [8,21] (λs i=>∃k:Nat,i= ae k/\k<=n/\s= ae (n+((L.take k).map VR).sum:Nat)) (λ_ i=>n-(intOf i).toNat)
 case atStart=>exact⟨0,rfl,QN _,aJ⟩
 case round=>
  obtain⟨k,rfl,a7,rfl⟩:=hrel;have q:((L.take k).map VR).sum<=16*k:=by
   have:∀(l:List (List Pt)),(∀x∈l,x.length<=16)->(l.map VR).sum<=16*l.length:=λl=>by
    induction l with
    |nil=>intro _;simp
    |cons a l Y=>intro h;have:=Y λx F=>h x (SN _ F);have:=h a SE;simp only[TS,List.sum_cons,SG];omega
   have K:=this (L.take k) λx F=>c.out x (ZL F);have O:(L.take k).length<=k:=List.length_take_le _ _;omega
  by_cases r:k<n
  .obtain ⟨l,m⟩:∃l,L[k]?=some l:=⟨_,QP (by rw[A.out];exact r)⟩;obtain⟨b,o,J,a0,rfl,f,a1⟩:=I.resolve_left (by intro e;have:=A.out;rw[e]at this;simp at this;omega);obtain⟨u,K,O⟩:=a1 k l m;obtain⟨a8,a9,rfl,-,-⟩:=O;have c1:=(QT N b (o+k) J 162 a0 f).trans K;have t:=c.out l (QV m);have P:QX (((L.take (k+1)).map VR).sum=((L.take k).map VR).sum+l.length):=by show _=_;rw[UF,m];simp
   obtain⟨S,Q⟩:=ah (((L.take k).map VR).sum);obtain⟨b0,y⟩:=ah l.length;rw[Q,y]at P;rw[Q]at q|-;rw[y]at c1 t;go_wp2;go_round
   case rel=>exact⟨k+1,by go_num,r,by rw[P.out];go_num⟩
   case measure=>simp[intOf];omega
  .obtain rfl:k=n:=aa;have z:L.take k=L:=by rw[<-A.out,UC]
   rw[z,<-show Z=k+(L.map VR).sum by rw[D.out,A.out]];go_wp2;go_ret2;exact⟨rfl,(aI ak _).trans (M.2.mono aJ)⟩
structure nd(g:az)(r:Nat)(l:List Pt):Prop where
 rr:r<g.R
 ne:l≠[]
 mem:∀p,p∈l->p.1<g.M/\p.2.1=r/\p.1≠g.par r
 Lp:l.Pairwise fun p q=>p.1<q.1
theorem nd.ax(h:nd g r l){p:Pt}(a:l[i]?=some p):p.1<g.M/\p.2.1=r/\p.1≠g.par r:=h.mem p (QV a)
theorem nd.lt(h:nd g r l){p q:Pt}(a:i<j)(b:l[i]?=some p)(c:l[j]?=some q):p.1<q.1:=by obtain⟨d,rfl⟩:=QS.1 b;obtain⟨e,rfl⟩:=QS.1 c;exact WE.1 h.Lp i j d e a
def Nd(w:M)(e:RW)(a:M):Prop:=∃(x:Int) (b:Bool),aK e (.tuple #[Y x,.bool b,aG 0])/\au w a
theorem gR(g:az):((g.s:Nat):Int)*(g.c:Nat)=((g.R:Nat):Int):=by unfold az.R;rw[TG]
theorem yt(h:g.ok)(d:m<g.M)(f:r<g.R)(w:QA):aE 131 #[g.V,Y m,Y r] w (Nd w):=by
 have a:=az.fY h;by_cases e:tq (g.M:Nat) (g.c:Nat) (m:Nat) (r:Nat)=((g.M:Nat):Int)-1
 .exact (xZ _ _ _ _ _ w a J J J (by rw[gR];omega) e).mono λ_ _ ⟨b,c⟩=>⟨_,_,b,c⟩
 .exact (x_ _ _ _ _ _ w a J J J (by rw[gR];omega) e).mono λ_ _ ⟨b,c⟩=>⟨_,_,b,c⟩
theorem ue(h:g.ok)(c:r<g.R)(w:QA):aE 355 #[g.V,Y r] w λe a=>aK e (.tuple #[Y (g.par r:Nat),aG 0])/\au w a:=by refine(v_ (g.M:Nat) (g.c:Nat) (g.s:Nat) (r:Nat) w (az.fY h) J (by rw[gR];omega)).mono ?_;rintro e a ⟨rfl,b⟩;rw[show((r:Nat):Int)/((g.c:Nat):Int)=((r/g.c:Nat):Int)from rfl,og g h];exact⟨rfl,b⟩
def kA(a:Nat->Bool):Nat->Nat
 |0=>0
 |n+1=>kA a n+if a n=true then 1 else 0
theorem qL{a:Nat->Bool}:∀{n:Nat},(∀i,i<n->a i=false)->kA a n=0
 |0,_=>rfl
 |n+1,h=>by unfold kA;rw[qL λi b=>h i J,h n J];rfl
theorem yu{a:Nat->Bool}:∀{n:Nat},(∀i j,i<n->j<n->a i=true->a j=true->i=j)->kA a n<=1
 |0,_=>QN _
 |n+1,h=>by
  show kA a n+(if a n=true then 1 else 0)<=1;by_cases e:a n=true
  .rw [qL λi b=>by
    cases c:a i with
    |false=>rfl
    |true=>have:=h i n J J c e;omega]
   rw[ao e];omega
  .have:=yu (n:=n) λi j b d=>h i j J J;rw[aq e];omega
def Nf(g:az)(c:Nat->Bool)(l:List Pt)(par:Nat)(w:M)(e:RW)(a:M):Prop:=∃b,aK e (.tuple #[H b,aG 0])/\yq a b g c l par/\au w a
theorem IY(g:az)(f:Nat->Bool)(l:List Pt)(r:Nat)(i6 pv:QC)(w:QA)(R:g.ok)(h1:zL w i6 g.M f)(I:ff w pv l)(J:nd g r l)(f5:∀i j,i<g.M->j<g.M->f i=true->f j=true->i=j)(l2:l.length<=g.M-1):
  aE 326 #[g.V,i6,pv] w (Nf g f l (g.par r) w):=by
 have g0:=R.m16;have g1:=R.m3;have a0:=az.iO R r;have l3:=az.gY R;have j4:=J.rr;have l4:=ad R;have j5:=ad h1;have j6:=ad I;have g2:=ad J;have j7:=ad (yu f5);have g3:=ad (λ(m:Nat) (w:QA) (g0:m<g.M)=>yt R g0 J.rr w);have c9:=ad (λ(w:QA)=>ue R J.rr w);have g4:=ad (λ(w:QA)=>eI R w);have g5:=ad (λ(W:QA) (f6:au w W)=>kZ 356 #[] (RF func356 ai rfl) l (λ_=>false) pv W (I.below f6) aa λW2 d0 p a6 u j8=>BU p u W2 j8);obtain⟨i7,i8,rfl,a7⟩:=h1;obtain⟨l5,i9,rfl,j9,V⟩:=I;obtain⟨c,h,t,v,rfl,a8,V⟩:=V.resolve_left J.ne;obtain⟨k1,d3⟩:∃p,l[0]?=some p:=by
  cases l with
  |nil=>exact absurd rfl J.ne
  |cons a l=>exact⟨a,rfl⟩
 have c0:=(QT w c (h+0*3+1) t 206 v a8).trans (V 0 k1 d3).2.1;rw[(J.ax d3).2.1]at c0;simp only[VV,VJ]at c0;obtain⟨n,g6⟩:=ah l.length;have k2:0<n:=by rw[<-g6];exact ZM.2 J.ne
 have gb:n<=g.M-1:=aa;have f7:=ad g6;have E:=aB a8 V;have Z:=Z_ a8;obtain⟨par,a9⟩:=ah (g.par r);rw[a9]at a0 c9;rw[a9,g6];have b0:=ad a9;have g7:=ad a7;obtain⟨F,b5,b6⟩:=g;simp only at g0 g1 a0 gb;have k3:((n:Int)==0)=false:=by rw[beq_eq_false_iff_ne];omega
 go_enter func326,ntmps326;go_wp2_with(go_at_call 26;refine(g4 _).mono ?_;rintro e w1 ⟨rfl,b7⟩;obtain⟨k0,f0,z0⟩:=kp b7 w.heap.size dJ);have d4:au w w1:=(aI ak _).trans (b7.mono aJ);have d6:a_ w1 w.heap.size (al #[ae F,ae b5,ae b6] 39):=(b7.block w.heap.size aJ).trans (QB w _);have b8:QX (au w w1):=d4;have k4:QX (a_ w1 w.heap.size (al #[ae F,ae b5,ae b6] 39)):=d6;have b9:=d4.size;go_loopw [39] (λi wr=>∃k:Nat,i= ae k/\k<=n/\QX (au w1 wr)) (λi _=>n-(intOf i).toNat)
 case atStart=>exact⟨0,rfl,QN _,ak⟩
 case round=>
  obtain⟨k,rfl,l6,A⟩:=hrel;have j0:=(A.block _ z0).trans k4;obtain⟨t1,t2,t3⟩:=cr j0;by_cases L:k<n
  .obtain ⟨p,a6⟩:∃p,l[k]?=some p:=⟨_,QP (by rw[f7.out];exact L)⟩;obtain⟨h1,I,u,h3,h4⟩:=E.2 k p a6;obtain⟨H,N,M⟩:=g2.ax a6;have G:=(A.block c (RJ Z b9)).trans ((b8.block c Z).trans E.1);have c1:=(QT wr c (h+k*3) t 206 v G).trans h1;have c2:=(QT wr c (h+k*3+1) t 206 v G).trans I;have c3:=(QT wr c (h+k*3+2) t 206 v G).trans h3;obtain⟨j1,j2,j3,rfl⟩:=h4.form;obtain⟨c7,k5,k6⟩:=p;simp only at H N M c1 c2 c3;subst N;have g8:=ad (λ(w:QA)=>g3.out c7 w H);go_wp2_with(go_at_call 131;refine(g8 _).mono ?_;rintro e w2 ⟨x,y,rfl,d0⟩;have d:=ad d0);have c4:QX (au w1 w2):=(aI A _).trans (d.mono (by have:=A.size;simp;omega));go_wp2;exact⟨⟨k+1,by go_num,L,c4⟩,by simp[intOf];omega⟩
  .obtain rfl:k=n:=aa;obtain⟨O,rfl⟩:∃O:QA,O=wr:=⟨_,rfl⟩;have G:=(A.block c (RJ Z b9)).trans ((b8.block c Z).trans E.1);have c1:O.cell? ⟨c,h+1,none⟩=some (ae r):=by rw[<-c0];exact QQ (a:=⟨c,h+1,none⟩) (G.trans E.1.symm)
   have g9:=A.size;have h0:=aB G j0;go_wp2_with fail;obtain⟨X,k7,P,d7⟩:=qc O (al #[ae F,ae b5,ae b6,.slice i7 F i8,.slice (some (ag c h)) k i9,ae 0] 427);obtain⟨x1,x2,x3⟩:=cr d7;have y1:=((kp P w.heap.size t3).1 0).trans (t1 0);have y2:=((kp P w.heap.size t3).1 1).trans (t1 1);have y3:=((kp P w.heap.size t3).1 2).trans (t1 2);have y4:=((kp P c (Z_ h0.1)).1 (h+1)).trans c1;have h5:=aB P d7;have d8:=Z_ h0.1;rw[k7];go_region_held3(λf8=>f8.cell? (ag w.heap.size 0)=some (ae F)/\f8.cell? (ag w.heap.size 1)=some (ae b5)/\f8.cell? (ag w.heap.size 2)=some (ae b6)/\f8.cell? ⟨c,h+1,none⟩=some (ae r)) ((simp[*,go_sem];done)) (first|(go_at_call 355;refine(c9 _).mono ?_;rintro e w5 ⟨rfl,Q⟩;have D:au X w5:=⟨Q.os,Q.tape,Q.output,Q.size,Q.block⟩;obtain⟨a1,-,-⟩:=kp D w.heap.size aa;obtain⟨a2,-,-⟩:=kp D c aa;obtain⟨a3,a4,a5⟩:=kp D O.heap.size x3;have b1:=(a1 0).trans y1;have b2:=(a1 1).trans y2;have b3:=(a1 2).trans y3;have b4:=(a2 (h+1)).trans y4;have d9:=ad D));obtain⟨Y,h6⟩:=ah (w5.setCell {block:=O.heap.size,off:=5} (SK QK (par:Nat)));have e0:a_ Y O.heap.size (al #[ae F,ae b5,ae b6,.slice i7 F i8,.slice (some (ag c h)) k i9,ae par] 427):=by rw[<-h6];exact heap_setCell_same w5 O.heap.size 5 _ 427 _ ((d9.block _ x3).trans h5.2)
   have e4:au O Y:=by rw[<-h6];exact(h5.1.trans (d9.mono h5.1.size)).setCell (QH _) _
   have e5:au w Y:=b8.trans ((A.trans (e4.mono g9)).mono b9);have s:=(e4.block c d8).trans h0.1;have S:=aM e0 e5 s;have e6:=Z_ e0;have e7:=Z_ s;rw[h6];go_wp2_with fail;go_loopw [15,76] (λq i wr=>∃j:Nat,i= ae j/\j<=k/\QX (au Y wr)/\∃z:Int,q= ae z/\QX (∀p,l[j]?=some p->z<p.1)) (λ_ i _=>k-(intOf i).toNat)
   case atStart=>exact⟨0,rfl,QN _,ak,-1,rfl,λp _=>aa⟩
   case round=>
    obtain⟨j,rfl,l7,d,z,rfl,h7⟩:=hrel;have h8:=(d.block _ e6).trans S.1;obtain⟨y1,y2,y3⟩:=cr h8;have s:=(d.block _ e7).trans S.2.2;have c1:wr.cell? ⟨c,h+1,none⟩=some (ae r):=by rw[<-c0];exact QQ (a:=⟨c,h+1,none⟩) (s.trans E.1.symm)
    by_cases L:j<k
    .obtain ⟨p,a6⟩:∃p,l[j]?=some p:=⟨_,QP (by rw[f7.out];exact L)⟩;obtain⟨h1,I,u,h3,h4⟩:=E.2 j p a6;obtain⟨H,N,M⟩:=g2.ax a6;rw[N]at I;have h9:=h7.out p a6;have e1:=(QT wr c (h+j*3) t 206 v s).trans h1;have e2:=(QT wr c (h+j*3+1) t 206 v s).trans I;have e3:=(QT wr c (h+j*3+2) t 206 v s).trans h3;obtain⟨j1,j2,j3,rfl⟩:=h4.form;have i0:QX (∀c8,l[j+1]?=some c8->(p.1:Int)<c8.1):=λc8 i1=>by have:=g2.lt (TK j) a6 i1;omega
     obtain⟨c7,k5,k6⟩:=p;simp only at H M h9 e1 e2 e3;have e8:QX (∀c8,l[j+1]?=some c8->((c7:Nat):Int)<c8.1):=i0.out;have d1:decide ((c7:Int)<=z)=false:=aR;have d2:((c7:Int)==(par:Int))=false:=by rw[sj];simp;rw[<-b0.out];exact M
     obtain⟨B1,e9⟩:=ah (wr.alloc (al #[ae c7,ae r,.slice (some (ag j1 j2)) 128 j3] 206));have c5:au wr B1:=by rw[<-e9];exact aI ak _
     obtain⟨x1,x2,x3⟩:=cr (show B1.heap[wr.heap.size]?=_ by rw[<-e9];exact QB _ _);have y5:=((kp c5 O.heap.size y3).1 5).trans (y1 5);have y6:=((kp c5 c (Z_ s)).1 (h+1)).trans c1;have i2:=ad c5;go_wp2_with fail;go_quiet(fail);have c4:QX (au Y (B1.drewN nq)):=cE (d.trans (i2.mono d.size)) nq;go_wp2;exact⟨⟨j+1,by go_num,L,c4,_,rfl,e8⟩,by simp[intOf];omega⟩
    .obtain rfl:j=k:=aa;obtain⟨f9,rfl⟩:∃f9:QA,f9=wr:=⟨_,rfl⟩;have i3:au w f9:=S.2.1.trans (d.mono S.2.1.size);have T:=ad (g5 f9 i3);rw[f7.out]at T;have f1:QX (l.any (λ_=>false)=false):=by show _=_;simp
     rw[f1.out]at T;have a7:=g7.out;go_wp2_with(go_at_call 357;refine T.mono ?_;rintro e w7 ⟨rfl,K⟩;have i4:=ad K);have c6:QX (yq w7 O.heap.size ⟨F,b5,b6⟩ f l (az.par ⟨F,b5,b6⟩ r)/\au w w7):=by have K:au Y w7:=d.trans (i4.mono d.size);refine⟨?_,S.2.1.trans (K.mono S.2.1.size)⟩;rw[b0.out];have f2:=j6.out;rw[f7.out]at f2;exact⟨_,_,(K.block _ e6).trans S.1,j5.below (S.2.1.trans (K.mono S.2.1.size)),f2.below (S.2.1.trans (K.mono S.2.1.size))⟩
     have f3:au w w7:=c6.2;go_loop [19,110] (λq i=>∃m:Nat,i= ae m/\m<=F/\q= ae (kA f m:Nat)) (λ_ i=>F-(intOf i).toNat)
     case atStart=>exact⟨0,rfl,QN _,rfl⟩
     case round=>
      obtain⟨m,rfl,k8,rfl⟩:=hrel;by_cases U:m<F
      .obtain ⟨b,o,k9,l0,rfl,f6,l1⟩:=a7.resolve_left aa;have c1:=(QT w7 b (o+m) k9 4 l0 ((f3.block b (Z_ f6)).trans f6)).trans (l1 m U);have B:QX (kA f (m+1)=kA f m+if f m=true then 1 else 0):=rfl;have i5:kA f m<=m:=by
        have:∀q,kA f q<=q:=λq=>by
         induction q with
         |zero=>exact QH _
         |succ q l8=>show kA f q+(if f q=true then 1 else 0)<=q+1;split<;>omega
        exact this m
       obtain⟨C,f4⟩:=ah (kA f m);rw[f4]at B i5;rw[f4];cases f5:f m with
       |true=>
        rw[f5]at c1 B;simp only[if_true]at B;go_wp2;go_round
        case rel=>exact⟨m+1,by go_num,U,by rw[B.out];go_num⟩
        case measure=>simp[intOf];omega
       |false=>
        rw[f5]at c1 B;simp only[SM,if_false,VJ]at B;go_wp2;go_round
        case rel=>exact⟨m+1,by go_num,U,by rw[B.out]⟩
        case measure=>simp[intOf];omega
      .obtain rfl:m=F:=aa;have d5:decide ((kA f m:Int)>1)=false:=by have h1:kA f m<=1:=j7.out;simp;omega
       obtain⟨C,f4⟩:=ah (kA f m);rw[f4]at d5;rw[f4];go_wp2;go_ret2;exact⟨_,rfl,by rw[<-b0.out];exact c6.1,c6.2⟩
section
section
variable {P:Program}
def hB(a:Int)(e:TE):Bool:=match e.key with| .int .u8 b=>a==b|_=>false
def fO(a:Int):List TE->Nat->Option (Nat × QC)
 | [],_=>none
 |e::b,i=>if hB a e then some (i,e.val)else fO a b (i+1)
def mq(b:List TE):Prop:=∀e∈b,∃a,e.key=.int .u8 a
theorem HS{b:Array TE}{c:Nat}(h:mq b.toList):ty (.map b c)=1000000:=by simp only[ty];rw[aq];rw[XD];rintro⟨e,f,d⟩;obtain⟨a,g⟩:=h e f;rw[g]at d;cases d
theorem uf{a b:Int}{e:TE}(h:e.key=.int .u8 b):hB a e=(a==b):=by simp[hB,h]
theorem oJ(a:Int):∀(c:List TE) (i:Nat),mq c->XB (.int .u8) (.int .u8 a) c i=some (fO a c i)
 | [],i,_=>rfl
 |e::c,i,h=>by obtain⟨b,d⟩:=h e SE;have f:=oJ a c (i+1) λg j=>h g (SN _ j);simp only[XB,fO,d,Instr.sameNow,if_true,uf d];cases k:(a==b)<;>simp[f]
theorem hX(a:Int):∀(b:List TE) (i:Nat),fO a b i=(fO a b 0).map λp=>(p.1+i,p.2)
 | [],_=>rfl
 |e::b,i=>by
  simp only[fO];split
  .simp
  .rw [hX a b (i+1),hX a b (0+1),YN];congr 1;funext p;simp;omega
theorem yv(a:Int):∀(b:List TE) (i:Nat) (v:QC),fO a b 0=some (i,v)->∃e,b[i]?=some e/\hB a e=true/\e.val=v
 | [],_,_,h=>by cases h
 |e::b,i,v,h=>by
  simp only[fO]at h;split at h
  .rename_i d;cases h;exact⟨e,rfl,d,rfl⟩
  .rw [hX]at h;cases c:fO a b 0 with
   |none=>rw[c]at h;cases h
   |some p=>obtain⟨j,u⟩:=p;rw[c]at h;simp at h;obtain⟨rfl,rfl⟩:=h;obtain⟨f,g,k,l⟩:=yv a b j u c;exact⟨f,by simpa using g,k,l⟩
def UM(w:M)(d:Nat)(f:Int->Option QC):Prop:=
 ∃c b,w.heap[d]?=some (.map c b)/\mq c.toList/\∀a,(fO a c.toList 0).map (·.2)=f a
theorem UM.out{S:Nat->Prop}{w w1:M}{a:Nat}{f:Int->Option QC}(h:UM w a f)(b:Out S w w1)(d:¬S a):UM w1 a f:=by obtain⟨e,c,g,i,j⟩:=h;exact⟨e,c,b.heap g d,i,j⟩
theorem UM.lt{w:M}{a:Nat}{f:Int->Option QC}(h:UM w a f):a<w.heap.size:=by obtain⟨d,c,b,e,g⟩:=h;exact Z_ b
theorem UM.made(w:M):UM (w.alloc (.map #[] 0)) w.heap.size λ_=>none:=⟨#[],0,QB _ _,λ_ h=>by simp at h,λ_=>rfl⟩
theorem iy(b:Bool)(k:SV)(a:Int)(w:M)(c:P.underlying k=some (.int .u8)):(VC b 10000 k (.int .u8 a)).run P w=.ok () w:=by unfold VC;simp[SU c]
theorem jb(k:SV)(a:Int)(b:List TE)(w:M)(c:P.underlying k=some (.int .u8))(h:mq b):(XE k (.int .u8 a) b).run P w=.ok (fO a b 0) w:=by unfold XE;simp[SU c,oJ a b 0 h]
theorem dI{w:M}{d:Nat}{f:Int->Option QC}(h:UM w d f)(t k e:SV)(z:QC)(c:Bool)(j:P.underlying t=some (.map k e))(g:P.underlying k=some (.int .u8))(l:(zeroValue e).run P w=.ok z w)(a:Int):
  (UZ t (.map (some d)) (.int .u8 a) c).run P w=.ok (if c then .tuple #[(f a).getD z,.bool (f a).isSome]else(f a).getD z) w:=by
 obtain⟨m,r,n,o,q⟩:=h;have b:=q a;unfold UZ;simp only[RZ,SU j,RI,VA,iy _ _ _ _ g,jb _ _ _ _ g o,cb n];cases i:fO a m.toList 0 with
 |none=>rw[i]at b;simp only[VF]at b;rw[<-b];simp[l]
 |some p=>rw[i]at b;simp only[QY]at b;rw[<-b];simp
theorem qM(a:Int)(v:QC)(x:TE):∀(c:List TE) (i:Nat),(∀b,hB b x=(b==a))->x.val=v->fO a c i=none->∀b,(fO b (c++ [x]) i).map (·.2)=if b=a then some v else(fO b c i).map (·.2)
 | [],i,g,h,_,b=>by
  simp only[UT,fO,g b];by_cases e:b=a
  .simp [e,h]
  .simp [e]
 |y::c,i,g,h,f,b=>by
  simp only[UQ,fO]at f|-;split at f
  .cases f
  .rename_i j;have k:=qM a v x c (i+1) g h f b;by_cases d:hB b y=true
   .rw [ao d,ao d,aq];intro e;subst e;exact j d
   .rw [aq d,aq d,k]
theorem ug(a:Int)(v:QC):∀(c:List TE) (i j:Nat) (u:QC),fO a c i=some (i+j,u)->∀b,(fO b (c.modify j λe=>{e with key:=.int .u8 a,val:=v}) i).map (·.2)=if b=a then some v else(fO b c i).map (·.2)
 | [],_,_,_,h,_=>by cases h
 |y::c,i,j,u,h,b=>by
  simp only[fO]at h;split at h
  .rename_i d;simp at h;obtain⟨rfl,rfl⟩:=h;have g:hB b y=(b==a):=by unfold hB at d|-;cases l:y.key<;>simp[l]at d|-;rename_i m q;cases m<;>simp at d|-;rw[d]
   simp only[YP,fO,g];by_cases e:b=a
   .subst e;simp[hB]
   .have:hB b {y with key:=.int .u8 a,val:=v}=false:=by simp[hB,e]
    simp[e,this]
  .rename_i d;cases j with
   |zero=>
    have:=hX a c (i+1);rw[h]at this;cases k:fO a c 0 with
    |none=>rw[k]at this;cases this
    |some p=>rw[k]at this;simp at this;omega
   |succ j=>
    have n:=ug a v c (i+1) j u (by rw[h];congr 2;omega) b;simp only[YQ,fO];by_cases f:hB b y=true
    .rw [ao f,ao f,aq];intro e;subst e;exact d f
    .rw [aq f,aq f,n]
theorem bd{w:M}{m:Nat}{f:Int->Option QC}(h:UM w m f)(t k e:SV)(U:P.underlying t=some (.map k e))(O:P.underlying k=some (.int .u8))(a:Int)(v:QC):
  ∃D,(TD t (.map (some m)) (.int .u8 a) v).run P w=.ok () D/\UM D m (λb=>if b=a then some v else f b)/\(∃o,ty o=1000000/\D=w.putObj m o):=by
 obtain⟨g,s,A,B,Q⟩:=h;have q:=Z_ A;unfold TD;simp only[RZ,SU U,RI,iy _ _ _ _ O,jb _ _ _ _ O B,cb A];cases E:fO a g.toList 0 with
 |none=>
  have d:mq (g.push {key:=.int .u8 a,val:=v,born:=s}).toList:=by
   intro x C;simp at C;rcases C with C|rfl
   .exact B x (by simpa using C)
   .exact ⟨a,rfl⟩
  refine⟨w.putObj m (.map (g.push {key:=.int .u8 a,val:=v,born:=s}) (s+1)),cf _ A,⟨_,_,SR q,d,λb=>?_⟩,_,HS d,rfl⟩
  .rw [Array.toList_push,qM a v _ _ _ (λb=>by simp[hB]) rfl E b,Q b]
 |some p=>
  obtain⟨i,u⟩:=p;obtain⟨x,r,l,V⟩:=yv a _ i u E;have F:g[i]?=some x:=by simpa using r
  have G:x.key=.int .u8 a:=by obtain⟨c,S⟩:=B x (QV r);rw[uf S]at l;rw[S];simp at l;rw[l]
  have K:(WI (((g[i]?).map (·.key)).getD (.int .u8 a)) (.int .u8 a)).run P w=.ok (.int .u8 a) w:=by rw[F];simp[G,WI,XN]
  simp only[RZ,K,RI];have d:mq (g.modify i λe=>{e with key:=.int .u8 a,val:=v}).toList:=by
   intro y T;rw[VK,TY]at T;obtain⟨j,n⟩:=T;rw[ZN]at n;cases L:g.toList[j]? with
   |none=>rw[L]at n;simp at n
   |some z=>
    rw[L]at n;simp at n;subst n;split
    .exact ⟨a,rfl⟩
    .exact B z (QV L)
  refine⟨w.putObj m (.map (g.modify i λe=>{e with key:=.int .u8 a,val:=v}) s),cf _ A,⟨_,_,SR q,d,λb=>?_⟩,_,HS d,rfl⟩
  .rw [VK,ug a v _ 0 i u (by rw[E,RH]) b,Q b]
end
end
def p_(w:M)(v:QC)(l:List Nat):Prop:=
 ∃a c,v=.slice a l.length c/\(l= []\/∃b o d e,a=some (R b o)/\w.heap[b]?=some (.cells d 3 e)/\∀(i m:Nat),l[i]?=some m->d[o+i]?=some (Y m))
theorem p_.below(h:p_ w v T)(f:au w W):p_ W v T:=by obtain⟨a,c,e,h⟩:=h;refine⟨a,c,e,h.imp id ?_⟩;rintro⟨b,o,g,i,e,d,j⟩;exact⟨b,o,g,i,e,(f.block b (Z_ d)).trans d,j⟩
theorem p_.out{w w1:M}(h:p_ w v T)(f:Out S w w1)(g:∀k o,S k->w.heap[k]?=some o->ty o≠3):p_ w1 v T:=by obtain⟨a,c,e,h⟩:=h;refine⟨a,c,e,h.imp id ?_⟩;rintro⟨b,o,i,j,e,d,l⟩;exact⟨b,o,i,j,e,f.heap d λm=>g b _ m d rfl,l⟩
theorem FR(h:w.ownsRow n 3 1 v T.length (T.map λa=>.int .i64 (a:Nat))):p_ w v T:=by
 rcases h.2 with⟨rfl,d⟩|⟨g,b,c,rfl,l,f,o,p,r,j⟩
 .exact ⟨none,0,by rw[d],.inl (TU d)⟩
 .refine ⟨_,b,rfl,.inr ⟨g,0,c,_,rfl,f,λi m e=>?_⟩⟩;have k:=(QS.1 e).1;have:=congrArg (λq=>q[i]?) j;simp only[TH,TZ,RL,e,ao k,QY]at this;rw[RH];simpa using this
def cV(M:Nat)(a:Nat->Bool)(l:List Pt)(par:Nat):List Nat:=
 if dV M a l par=3 then bQ M (qI par l)else if dV M a l par=2 then bQ M (zO par l)else[]
theorem zR(M:Nat)(a:Nat->Bool)(l:List Pt)(par:Nat):dV M a l par=1\/dV M a l par=2\/dV M a l par=3\/dV M a l par=4:=by
 unfold dV;split
 .exact .inl rfl
 .split
  .split
   .exact .inr (.inr (.inr rfl))
   .split
    .exact .inr (.inr (.inl rfl))
    .exact .inr (.inl rfl)
  .split
   .exact .inr (.inr (.inl rfl))
   .exact .inr (.inl rfl)
theorem Cs:prog.underlying 375=some (.int .u8):=underlying375
theorem Ng(w:M):(zeroValue 423).run prog w=.ok .nilFunc w:=zeroValue423 w
theorem Lq(i j l m:QC)(W:M):∃d f g c,(TD 424 (.map (some W.heap.size)) (.int .u8 1) i).run prog (W.alloc (.map #[] 0))=.ok () d
  /\(TD 424 (.map (some W.heap.size)) (.int .u8 4) j).run prog d=.ok () f/\(TD 424 (.map (some W.heap.size)) (.int .u8 3) l).run prog f=.ok () g
  /\(TD 424 (.map (some W.heap.size)) (.int .u8 2) m).run prog g=.ok () c
  /\UM c W.heap.size (λb=>if b=2 then some m else if b=3 then some l else if b=4 then some j else if b=1 then some i else none)/\au W c/\W.heap.size<c.heap.size:=by
 obtain⟨d,q,r,C,_,s⟩:=bd (UM.made W) 424 375 423 underlying424 Cs 1 i;obtain⟨f,t,u,D,_,v⟩:=bd r 424 375 423 underlying424 Cs 4 j;obtain⟨g,w,u3,E,_,x⟩:=bd u 424 375 423 underlying424 Cs 3 l;obtain⟨c,y,n,F,_,z⟩:=bd u3 424 375 423 underlying424 Cs 2 m;refine⟨d,f,g,c,q,t,w,y,n,?_,n.lt⟩;have A:au W (W.alloc (.map #[] 0)):=aI ak _;have h:∀{a b:M} {o:Obj},au W a->b=a.putObj W.heap.size o->au W b:=λ{a b o} p B=>by rw[B];exact p.grown (grownBy_putObj' _ _ _) p.size (λk e=>by cases e;exact QH _)
 exact h (h (h (h A s) v) x) z
def Lr(g:az)(b:Nat->Bool)(l:List Pt)(r:Nat)(w:QA)(e:RW)(a:QA):Prop:=
 ∃pv c,aK e (.tuple #[.agg #[Y r,.int .u8 (dV g.M b l (g.par r):Nat),Y (g.par r:Nat),pv,c],aG 0])/\ff a pv l/\p_ a c (cV g.M b l (g.par r))/\au w a
theorem Nh{f g i j k:QC}(h:a_ w n (.cells #[f,g,i,j,k] t (0,0)))(a b c d e:QC):
  (((((w.setCell (R n 0) a).setCell (R n 1) b).setCell (R n 2) c).setCell (R n 3) d).setCell (R n 4) e).heap[n]?=some (.cells #[a,b,c,d,e] t (0,0)):=
 heap_setCell_same _ n 4 _ t e (heap_setCell_same _ n 3 _ t d (heap_setCell_same _ n 2 _ t c (heap_setCell_same _ n 1 _ t b (heap_setCell_same w n 0 _ t a h))))
theorem Ni(w:M)(b:Nat)(a c d e f:QC):Out (λk=>k=b) w (((((w.setCell (R b 0) a).setCell (R b 1) c).setCell (R b 2) d).setCell (R b 3) e).setCell (R b 4) f):=
 (((((Out.refl (λk=>k=b) w).setCell (p:=R b 0) (λ_=>rfl) a).setCell (p:=R b 1) (λ_=>rfl) c).setCell (p:=R b 2) (λ_=>rfl) d).setCell (p:=R b 3) (λ_=>rfl) e).setCell (p:=R b 4) (λ_=>rfl) f
def Nj(x:M)(r b par:Nat)(s:QC)(a:M):Prop:=
 ∃T,s= H T/\x.heap.size<=T/\a.heap[T]?=some (N #[Y r,bx b,Y par,aW,aW] 377)/\au x a
theorem Ct(g:az)(y:Nat->Bool)(l:List Pt)(r:Nat)(l3 pv:QC)(w:QA)(k8:g.ok)(h1:zL w l3 g.M y)(h2:ff w pv l)(e0:nd g r l)(n4:∀i j,i<g.M->j<g.M->y i=true->y j=true->i=j)(l4:l.length<=g.M-1):
  aE 300 #[g.V,l3,pv] w (Lr g y l r w):=by
 have l5:=k8.m16;have l6:=k8.m3;have o1:=ad (λ(W:QA) (d2:au w W)=>IY g y l r l3 pv W k8 (h1.below d2) (h2.below d2) e0 n4 l4);have h9:=ad (λ(f:Nat) (W:QA) (h:yq W f g y l (g.par r))=>FQ f g y l (g.par r) W h k8 l4);have q0:=ad e0;have Q:=zR g.M y l (g.par r);have e6:QX (∀(f:Nat) (W:QA),yq W f g y l (g.par r)->∃b5:Nat,(∀d3 w,(UN b5 d3).run prog w=.ok (.enter b5 d3) w)/\aE b5 #[ar f] W (iu (cV g.M y l (g.par r)) W)/\(dV g.M y l (g.par r)=1/\b5=327\/dV g.M y l (g.par r)=4/\b5=327\/dV g.M y l (g.par r)=3/\b5=328\/dV g.M y l (g.par r)=2/\b5=329)):=by
  intro f W U;have H:aE 327 #[ar f] W (iu [] W):=(FN f W).mono λe C ⟨h1,h2⟩=>⟨_,h1,SJ _ _ _ _,h2⟩;have d4:=RF (P:=prog) func327 ai rfl;rcases Q with h|h|h|h
  .exact ⟨327,d4,by unfold cV;rw[h];exact H,.inl ⟨h,rfl⟩⟩
  .exact ⟨329,RF (P:=prog) func329 ai rfl,by unfold cV;rw[h];exact IW f g y l _ W U aa l5,.inr (.inr (.inr ⟨h,rfl⟩))⟩
  .exact ⟨328,RF (P:=prog) func328 ai rfl,by unfold cV;rw[h];exact FP f g y l _ W U aa l5,.inr (.inr (.inl ⟨h,rfl⟩))⟩
  .exact ⟨327,d4,by unfold cV;rw[h];exact H,.inr (.inl ⟨h,rfl⟩)⟩
 have q6:=ad h2;obtain⟨q7,q8,rfl,-⟩:=h1;obtain⟨q9,r0,rfl,o2,N⟩:=h2;obtain⟨b6,e7,M,R,rfl,b7,N⟩:=N.resolve_left e0.ne;obtain⟨o3,e8⟩:∃p,l[0]?=some p:=by
  cases l with
  |nil=>exact absurd rfl e0.ne
  |cons a l=>exact⟨a,rfl⟩
 have c0:=(QT w b6 (e7+0*3+1) M 206 R b7).trans (N 0 o3 e8).2.1;rw[(e0.ax e8).2.1]at c0;simp only[VV,VJ]at c0;obtain⟨n,k9⟩:=ah l.length;have o4:0<n:=by rw[<-k9];exact ZM.2 e0.ne
 have gb:n<=15:=aa;have h3:=ad k9;have i0:=aB b7 N;have b8:=Z_ b7;have o5:=λw=>eN 424 w;obtain⟨o6,l7,l8,l9,m0⟩:=SD zP;obtain⟨O,e9⟩:=ah (dV g.M y l (g.par r));obtain⟨d,I⟩:=ah (cV g.M y l (g.par r));rw[e9]at h9 Q e6;rw[I]at e6;have m1:QX (Lr g y l r w=λe C=>∃pv m2,aK e (.tuple #[.agg #[ae r,bx O,ae (g.par r:Nat),pv,m2],aG 0])/\ff C pv l/\p_ C m2 d/\au w C):=by show _=_;unfold Lr;rw[e9,I]
 rw[k9];have n5:((n:Int)==0)=false:=by rw[beq_eq_false_iff_ne];omega
 obtain⟨b9,c4,c5⟩:=g;simp only at l5 l6;clear e0 n4 l4 e8 k9 e9 I b7 N;go_enter func300,ntmps300;go_wp2_with(go_at_call 326;rw[<-h3.out];refine(o1 _ (aI (aI ak _) _)).mono ?_;rintro e w1 ⟨f,rfl,U,i1⟩;have f3:=ad i1;have f4:=ad U;clear i1 U;obtain⟨x1,x2,x3,x4,u1,u2,u3,u4,i2,i3,o7⟩:=Lq (.func (.func 327) #[ar f] #[]) (.func (.func 327) #[ar f] #[]) (.func (.func 328) #[ar f] #[]) (.func (.func 329) #[ar f] #[]) w1;have h4:=aB i2 i3;clear i2 i3;obtain⟨q1,q2,q3,q4,q5⟩:=id f4;obtain⟨r1,r2,r3⟩:=cr ((h4.2.block _ (Z_ q3)).trans q3);have F:au w x4:=(aI (aI ak _) _).trans ((f3.trans (h4.2.mono f3.size)).mono aR);have s1:=((kp F b6 b8).1 (e7+1)).trans c0;have r4:=RJ b8 F.size;have J:=ad F;clear F q3);rw[h3.out];go_cut [11] (λs o8=>Nj x4 r O (az.par ⟨b9,c4,c5⟩ r) s o8)
 case first=>
  go_region_held3(λC=>C.cell? ⟨b6,e7+1,none⟩=some (ae r)/\C.cell? (ag f 5)=some (ae (az.par ⟨b9,c4,c5⟩ r:Nat))) ((simp[*,go_sem];done)) (first|(go_at_call 330;refine(h9 f _ ((f4.below h4.2).below bF)).mono ?_;rintro e w5 ⟨rfl,z⟩;have G:au x4 w5:=(by first|exact⟨z.os,z.tape,z.output,z.size,z.block⟩|(refine Below.trans ?_ (z.mono ?_);(first|exact aI (aV ak) _|exact aV (aI ak _)|go_grown);(simp;done)));obtain⟨a1,-,z1⟩:=kp G b6 (RJ b8 J.size);obtain⟨a2,-,z2⟩:=kp G f r3;have b1:=(a1 (e7+1)).trans s1;have b2:=(a2 5).trans (r1 5);(try(obtain⟨a3,a4,a5⟩:=kp z x4.heap.size (Nat.lt_of_lt_of_eq (TK x4.heap.size) (SS _ _).symm)));(try(have h7:=(z.block x4.heap.size (Nat.lt_of_lt_of_eq (TK x4.heap.size) (SS _ _).symm)).trans (QB _ _);have H7:=ad h7;clear h7));have m:=ad G;clear z G a1 a2))
  all_goals go_wp2
  all_goals go_meet
  all_goals first
   |exact⟨_,rfl,QH _,Nh H7 _ _ _ _ _,((((m.setCell (QH _) _).setCell (QH _) _).setCell (QH _) _).setCell (QH _) _).setCell (QH _) _⟩
   |exact⟨_,rfl,m.size,QB _ _,aI m _⟩
 case rest=>
  rename_i o9;refine o9 _ _ ?_;obtain⟨T,rfl,p0,f5,c6⟩:=hcut;obtain⟨b5,r5,a0,i4⟩:=e6.out f wc ((f4.below h4.2).below c6);have f6:=dI (h4.1.out (Out.af (S:=λ_=>False) c6) id) 424 375 423 .nilFunc false underlying424 Cs (Ng _) (O:Nat);have d5:((if((O:Nat):Int)=2 then some (Value.func (.func 329) #[ar f] #[])else if((O:Nat):Int)=3 then some (.func (.func 328) #[ar f] #[])else if((O:Nat):Int)=4 then some (.func (.func 327) #[ar f] #[])else if((O:Nat):Int)=1 then some (.func (.func 327) #[ar f] #[])else none).getD .nilFunc)=Value.func (.func b5) #[ar f] #[]:=by rcases i4 with⟨h,l0⟩|⟨h,l0⟩|⟨h,l0⟩|⟨h,l0⟩<;>subst h<;>subst l0<;>rfl
  rw[d5]at f6;simp only[SM,if_false]at f6;obtain⟨v0,v1,v2⟩:=cr f5;have m:=aM c6 p0 f5;have p1:=ad a0;clear d5 i4 a0 f5 c6;go_wp2_with((refine p1.mono ?_);rintro e w6 ⟨m2,rfl,f7,f8⟩;have a6:=aB (FR f7) f8;obtain⟨c7,c8,rfl,-⟩:=av f7;obtain⟨e1,e2,e3⟩:=kp f8 T v2;clear f7 f8);obtain⟨Y,l1⟩:=ah (w6.setCell {block:=T,off:=4} (RU c7 d.length c8));have f9:Y.heap[T]?=some (al #[ae r,bx O,ae (az.par ⟨b9,c4,c5⟩ r:Nat),aW,.slice c7 d.length c8] 377):=by rw[<-l1];exact heap_setCell_same w6 T 4 _ 377 _ ((a6.2.block T v2).trans m.2.2)
  have D:Out (λk=>k=T) w6 Y:=by rw[<-l1];exact(Out.refl (λk=>k=T) w6).setCell (p:=ag T 4) (λ_=>rfl) _
  have n6:w.heap.size<=T:=QE J.size m.2.1;have p2:=Z_ f9;have i5:au w Y:=(Out.trans (S:=λk=>w.heap.size<=k) (Out.af (J.trans ((m.1.trans (a6.2.mono m.1.size)).mono J.size))) D λk _ e=>by rw[e];exact n6).below (λ_ _ h=>h) (QH _);have i6:p_ Y (.slice c7 d.length c8) d:=a6.1.out D λk o n7 x=>by subst n7;rw[(a6.2.block k v2).trans m.2.2]at x;cases x;simp[ty]
  have g0:=aM f9 i5 i6;have m3:=ad D;have i7:QX (fg Y.heap.size Y aW (l.take 0)):=fg.nil _ _;rw[l1];clear l1 f9 D i5 i6 v0 v1 e1 e2 f6;go_loopw [54] (λi wr=>∃(k:Nat) (m4:QC),i= ae k/\k<=n/\QX (Out (λk=>k=T) Y wr)/\QX (wr.heap[T]?=some (al #[ae r,bx O,ae (az.par ⟨b9,c4,c5⟩ r:Nat),m4,.slice c7 d.length c8] 377))/\QX (fg Y.heap.size wr m4 (l.take k))) (λi _=>n-(intOf i).toNat)
  case atStart=>exact⟨0,_,rfl,QN _,Out.refl _ _,g0.1,i7⟩
  case round=>
   obtain⟨k,m4,rfl,n7,E,i8,i9⟩:=hrel;clear i7;obtain⟨t1,t2,t3⟩:=cr i8;have p3:=E.size;by_cases j0:k<n
   .obtain ⟨p,c9⟩:∃p,l[k]?=some p:=⟨_,QP (by rw[h3.out];exact j0)⟩;obtain⟨g1,g2,u,g3,g4⟩:=i0.2 k p c9;have d0:wr.heap[b6]?=some (.cells M 206 R):=E.heap ((g0.2.1.block b6 b8).trans i0.1) aa;have c1:=(QT wr b6 (e7+k*3) M 206 R d0).trans g1;have c2:=(QT wr b6 (e7+k*3+1) M 206 R d0).trans g2;have c3:=(QT wr b6 (e7+k*3+2) M 206 R d0).trans g3;have a7:dT wr u p.2.2:=(g4.below g0.2.1).out E λb o d2 x=>by subst d2;rw[g0.1]at x;cases x;simp[ty]
    obtain⟨p4,p5,p6,rfl⟩:=a7.form;have n8:=aB c9 a7;obtain⟨us,g5,a8,j1⟩:=(show fg _ _ _ _ from i9.out);have a9:(l.take k).length=k:=by rw[VD,h3.out];omega
    rw[a9]at g5 a8;obtain⟨m5,m6,rfl,-⟩:=av a8;have j2:(RU m5 k m6).ownBlock≠some T:=λe=>by have:=(bo a8 e).2;omega
    have A:=bZ g5 a8 j1 a9 j2;obtain⟨h5,h6,p7⟩:=p;simp only at c1 c2 c3;obtain⟨X,n9,j3,g6⟩:=qc wr (al #[ae h5,ae h6,.slice (some (ag p4 p5)) 128 p6] 206);obtain⟨x0,r6,m7⟩:=cr g6;have h8:=aB j3 g6;clear g1 g2 g3 g4 c9 d0 a7 g5 a8 j1 a9 j2 j3 g6;go_wp2_with fail;refine(hv _ _ _ (n8.2.below h8.1)).mono ?_;rintro e w7 ⟨r7,rfl,c,b0⟩;obtain⟨d6,d7,d8,rfl⟩:=(eZ c).form;obtain⟨Z,m8⟩:=ah (w7.setCell (ag wr.heap.size 2) (.slice (some (ag d6 d7)) 128 d8));have g7:Z.heap[wr.heap.size]?=some (al #[ae h5,ae h6,.slice (some (ag d6 d7)) 128 d8] 206):=by rw[<-m8];exact heap_setCell_same w7 wr.heap.size 2 _ 206 _ ((b0.block _ m7).trans h8.2)
    have j4:au wr w7:=h8.1.trans (b0.mono h8.1.size);have g8:au wr Z:=by rw[<-m8];exact j4.setCell (QH _) _
    have j5:dT Z (.slice (some (ag d6 d7)) 128 d8) p7:=(eZ c).out (show Out (λk=>k=wr.heap.size) w7 Z by rw[<-m8];exact(Out.refl (λk=>k=wr.heap.size) w7).setCell (p:=ag wr.heap.size 2) (λ_=>rfl) _) λb o d2 x=>by subst d2;rw[(b0.block _ m7).trans h8.2]at x;cases x;simp[ty]
    obtain⟨f0,f1,f2⟩:=cr ((b0.block _ m7).trans h8.2);obtain⟨z0,z1,z2⟩:=cr g7;obtain⟨y0,y1,y2⟩:=kp g8 T t3;have l2:=aM g7 g8 j5;clear c b0 g7 j4 g8 j5;rw[n9]at*;clear n9 x0;go_wp2_with(first|(at_builtin;refine aU _ rfl _ _ 162 rfl Y.heap.size 206 o6 (.agg #[ae 0,ae 0,aW]) 3 40 XY l7 l8 l9 m0 rfl aj (.slice m5 k m6) k _ rfl (aP (aI ak _) (aP l2.2.1 A.2.1)) (ag Z.heap.size 0) 1 1 [ae h5,ae h6,.slice (some (ag d6 d7)) 128 d8] rfl rfl (RY (cs:= #[ae h5,ae h6,.slice (some (ag d6 d7)) 128 d8]) (t:=206) (fr:=(0,0)) (QB Z _)) (by intro u g9;simp at g9;rcases g9 with rfl|rfl|rfl<;>rfl) aa (by unfold UI;omega) aa (by have:=l2.2.1.size;simp;omega) ?_));intro r8 C c K;obtain⟨j6,b3,rfl,-⟩:=av c;have j7:au Z (Z.alloc (al #[ae h5,ae h6,.slice (some (ag d6 d7)) 128 d8] 206)):=aI ak _;have B:au wr (Z.alloc (al #[ae h5,ae h6,.slice (some (ag d6 d7)) 128 d8] 206)):=aI l2.2.1 _;have d1:C.heap[T]?=some (al #[ae r,bx O,ae (az.par ⟨b9,c4,c5⟩ r:Nat),.slice m5 k m6,.slice c7 d.length c8] 377):=K.heap ((B.block _ t3).trans i8) A.2.2.2.2;have D:Out (λq=>q=T) Y C:=K.out (E.then B) λq b4 r9=>by have:=(bo A.2.1 b4).2;omega
    have j8:fg Y.heap.size C (.slice j6 (k+1) b3) (l.take (k+1)):=by
     rw[UF,n8.1];refine fg.push (us:=us) (us':= [.slice (some (ag d6 d7)) 128 d8]) (by rw[A.1,A.2.2.2.1]) rfl A.2.2.2.1.symm rfl (aP B A.2.1) (λi p u c9 g9=>(A.2.2.1 i p u c9 g9).below B) (λi p u c9 g9=>?_) c K;cases i with
     |zero=>simp at c9 g9;rw[<-c9,<-g9];exact l2.2.2.below j7
     |succ i=>simp at c9
    have j9:(RU j6 (k+1) b3).ownBlock≠some T:=λe=>by have h1:=c;have:=(bo h1 e).2;omega
    obtain⟨k0,s3,s4⟩:=cr d1;obtain⟨V,hV⟩:=ah (C.setCell (ag T 3) (.slice j6 (k+1) b3));have h0:Out (λq=>q=T) C V:=by rw[<-hV];exact(Out.refl (λq=>q=T) C).setCell (p:=ag T 3) (λ_=>rfl) _
    have m9:QX (V.heap[T]?=some (al #[ae r,bx O,ae (az.par ⟨b9,c4,c5⟩ r:Nat),.slice j6 (k+1) b3,.slice c7 d.length c8] 377)):=by rw[<-hV];exact heap_setCell_same C T 3 _ 377 _ d1
    have n0:QX (Out (λq=>q=T) Y V):=D.tr h0;have n1:QX (fg Y.heap.size V (.slice j6 (k+1) b3) (l.take (k+1))):=j8.out h0 (λq b4 e=>j9 (by rw[<-e];exact b4)) λq o b4 x=>by subst b4;rw[d1]at x;cases x;simp[ty]
    clear c K j7 B d1 D j8 h0;go_wp2;exact⟨⟨k+1,_,by go_num,j0,n0,m9,n1⟩,by simp[intOf];omega⟩
   .obtain rfl:k=n:=aa;have d9:l.take k=l:=by rw[<-h3.out,UC]
    have L:=i9.yj;rw[d9]at L;obtain⟨k1,k2,k3,-⟩:=id L;rw[h3.out]at k3;have p8:=J.size;have k4:wr.heap[w.heap.size+1]?=some (al #[ae 0,.int .u8 0,ae 0,aW,aW] 377):=by
     have e1:=fe w (al #[ae b9,ae c4,ae c5] 39) (al #[ae 0,.int .u8 0,ae 0,aW,aW] 377);have e2:=(f3.block _ (Z_ e1)).trans e1;have e3:=(h4.2.block _ (Z_ e2)).trans e2;have e4:=(m.1.block _ (Z_ e3)).trans e3;have k5:w.heap.size+1≠T:=λe=>by have:=Z_ e3;have:=m.2.1;omega
     have e5:=(a6.2.block _ (Z_ e4)).trans e4;exact E.heap (m3.heap e5 k5) k5
    obtain⟨s0,p9,s2⟩:=cr k4;have k6:p_ wr (.slice c7 d.length c8) d:=g0.2.2.out E λb o d2 x=>by subst d2;rw[g0.1]at x;cases x;simp[ty]
    have k7:au w wr:=(Out.trans (S:=λk=>w.heap.size<=k) (Out.af g0.2.1) E λk _ e=>by rw[e];exact n6).below (λ_ _ h=>h) (QH _);have n2:=aM L k6 k7;subst k3;clear L k6 k7 d9;go_wp2_with fail
    (try simp only[XP,Exit.then])
    rw[m1.out];refine QR (v:=.tuple #[.agg #[ae r,bx O,ae (az.par ⟨b9,c4,c5⟩ r:Nat),.slice k1 k k2,.slice c7 d.length c8],aG 0]) ?_ rfl ?_
    .rw [UE rfl];go_simp
    .have n3:=Ni wr (w.heap.size+1) (ae r) (bx O) (ae (az.par ⟨b9,c4,c5⟩ r:Nat)) (.slice k1 k k2) (.slice c7 d.length c8);have o0:∀q o,q=w.heap.size+1->wr.heap[q]?=some o->ty o=377:=λq o b4 x=>by subst b4;rw[k4]at x;cases x;rfl
     exact⟨_,_,rfl,n2.1.out n3 λq o b4 x=>by rw[o0 q o b4 x];decide,n2.2.1.out n3 λq o b4 x=>by rw[o0 q o b4 x];decide,(Out.trans (S:=λk=>w.heap.size<=k) (Out.af n2.2.2) n3 λk _ e=>by rw[e];exact US _).below (λ_ _ h=>h) (QH _)⟩
theorem FT(u v:QC)(f:aQ)(w:M)(s:dT w u f)(t:dT w v f):aE 364 #[u,v] w λe y=>aK e ed/\au w y:=by
 obtain⟨b,o,c,z,A,rfl,-,B,C⟩:=s;obtain⟨q,D,r,g,h,rfl,-,j,l⟩:=t;have m:=aB B C;have n:=aB j l;go_enter func364,ntmps364;go_wp2;go_loopw [13] (λi wr=>∃k:Nat,i= Y k/\k<=128/\QX (au w wr)) (λi _=>128-(intOf i).toNat)
 case atStart=>exact⟨0,rfl,QN _,ak⟩
 case round=>
  obtain⟨k,rfl,G,d⟩:=hrel;by_cases a:k<128
  .have E:=(QT wr b (o+k) z 5 A ((d.block b (Z_ m.1)).trans m.1)).trans (m.2 k a);have r:=(QT wr q (D+k) g 5 h ((d.block q (Z_ n.1)).trans n.1)).trans (n.2 k a);obtain⟨x,F⟩:=ah (f k);rw[F]at E r;go_wp2_with fail;go_quiet(fail);have p:QX (au w (wr.drewN nq)):=cE d nq;go_wp2;exact⟨⟨k+1,by go_num,a,p⟩,by simp[intOf];omega⟩
  .obtain rfl:k=128:=J;go_wp2;go_ret;exact⟨rfl,d⟩
theorem FU(u v:QC)(l:List Nat)(w:M)(B:p_ w u l)(C:p_ w v l)(D:l.length<=1000000):aE 366 #[u,v] w λe E=>aK e ed/\au w E:=by
 obtain⟨a,c,rfl,F⟩:=B;obtain⟨T,G,rfl,j⟩:=C;have K:=I F;have L:=I j;obtain⟨n,p⟩:=ah l.length;have x:=I p;rw[p]at D;rw[p];go_enter func366,ntmps366;go_wp2;go_loopw [13] (λi wr=>∃k:Nat,i= Y k/\k<=n/\QX (au w wr)) (λi _=>n-(intOf i).toNat)
 case atStart=>exact⟨0,rfl,QN _,ak⟩
 case round=>
  obtain⟨k,rfl,U,h⟩:=hrel;by_cases d:k<n
  .obtain ⟨m,y⟩:∃m,l[k]?=some m:=⟨_,QP (by rw[x.out];exact d)⟩;have f:l≠[]:=by intro e;have:=x.out;rw[e]at this;simp at this;omega
   obtain⟨b,o,O,P,rfl,z,Q⟩:=K.resolve_left f;obtain⟨A,S,q,r,rfl,g,s⟩:=L.resolve_left f;have V:=(QT wr b (o+k) O 3 P ((h.block b (Z_ z)).trans z)).trans (Q k m y);have G:=(QT wr A (S+k) q 3 r ((h.block A (Z_ g)).trans g)).trans (s k m y);go_wp2_with fail;go_quiet(fail);have t:QX (au w (wr.drewN nq)):=cE h nq;go_wp2;exact⟨⟨k+1,by go_num,d,t⟩,by simp[intOf];omega⟩
  .obtain rfl:k=n:=J;go_wp2;go_ret;exact⟨rfl,h⟩
theorem FV(p:Pt)(u v:QC)(W:M)(d:dT W u p.2.2)(f:dT W v p.2.2):aE 363 #[.agg #[Y p.1,Y p.2.1,u],.agg #[Y p.1,Y p.2.1,v]] W λe h=>aK e ed/\au W h:=by have i:=I (λ(g:M) (a:au W g)=>FT u v p.2.2 g (d.below a) (f.below a));obtain⟨b,o,c,rfl⟩:=d.form;obtain⟨k,l,m,rfl⟩:=f.form;obtain⟨n,q,r⟩:=p;go_enter func363,ntmps363;go_wp2_with(go_at_call 364;refine(i _ (aI (aI ak _) _)).mono ?_;rintro e s ⟨rfl,a⟩;have j:=I a);go_ret;exact⟨rfl,(aI (aI ak _) _).trans (j.mono aR)⟩
theorem FW(u v:QC)(l:List Pt)(w:QA)(U:ff w u l)(V:ff w v l)(W:l.length<=1000000):aE 365 #[u,v,.func (.func 363) #[] #[]] w λe X=>aK e ed/\au w X:=by
 obtain⟨a,c,rfl,-,Z⟩:=U;obtain⟨a2,K,rfl,-,z⟩:=V;have H:=ad Z;have N:=ad z;obtain⟨n,A⟩:=ah l.length;have L:=ad A;rw[A]at W;rw[A];go_enter func365,ntmps365;go_wp2;go_loopw [17] (λi wr=>∃k:Nat,i= ae k/\k<=n/\QX (au w wr)) (λi _=>n-(intOf i).toNat)
 case atStart=>exact⟨0,rfl,QN _,ak⟩
 case round=>
  obtain⟨k,rfl,a1,f⟩:=hrel;by_cases q:k<n
  .obtain ⟨p,O⟩:∃p,l[k]?=some p:=⟨_,QP (by rw[L.out];exact q)⟩;have r:l≠[]:=by intro e;have:=L.out;rw[e]at this;simp at this;omega
   obtain⟨b,o,B,C,rfl,g,M⟩:=H.resolve_left r;obtain⟨t,D,h,j,rfl,s,E⟩:=N.resolve_left r;obtain⟨R,I,x,Y,P⟩:=M k p O;obtain⟨J,i2,y,i3,Q⟩:=E k p O;have m:=(f.block b (Z_ g)).trans g;have d:=(f.block t (Z_ s)).trans s;have c1:=(QT wr b (o+k*3) B 206 C m).trans R;have K:=(QT wr b (o+k*3+1) B 206 C m).trans I;have c3:=(QT wr b (o+k*3+2) B 206 C m).trans Y;have e1:=(QT wr t (D+k*3) h 206 j d).trans J;have e2:=(QT wr t (D+k*3+1) h 206 j d).trans i2;have e3:=(QT wr t (D+k*3+2) h 206 j d).trans i3;have a0:=ad (λ(S:QA) (g:au wr S)=>FV p x y S ((P.below f).below g) ((Q.below f).below g));obtain⟨a3,a4,a5,rfl⟩:=P.form;obtain⟨a6,a7,a8,rfl⟩:=Q.form;obtain⟨a9,b0,b1⟩:=p;simp only at c1 K c3 e1 e2 e3;have T:=Z_ d;go_wp2_with(go_at_call 363;refine(a0 _ (aI (aI ak _) _)).mono ?_;rintro e w2 ⟨rfl,g⟩;have F:=ad g);have G:QX (au w w2):=(aI (aI f _) _).trans (F.mono (by have:=f.size;simp;omega));go_wp2;exact⟨⟨k+1,by go_num,q,G⟩,by simp[intOf];omega⟩
  .obtain rfl:k=n:=aa;go_wp2;go_ret;exact⟨rfl,f⟩
theorem FX(r m par:Nat)(pv i f g:QC)(l:List Pt)(d:List Nat)(w:M)(n:ff w pv l)(o:p_ w i d)(p:ff w f l)(q:p_ w g d)(s:l.length<=1000000)(t:d.length<=1000000):
  aE 331 #[.agg #[Y r,bx m,Y par,pv,i],.agg #[Y r,bx m,Y par,f,g]] w λe u=>aK e ed/\au w u:=by
 have v:=I (λ(h:M) (b:au w h)=>FW pv f l h (n.below b) (p.below b) s);have x:=I (λ(h:M) (b:au w h)=>FU i g d h (o.below b) (q.below b) t);obtain⟨a,c,rfl,-⟩:=n;obtain⟨y,z,rfl,-⟩:=o;obtain⟨A,c3,rfl,-⟩:=p;obtain⟨B,c4,rfl,-⟩:=q;go_enter func331,ntmps331;go_wp2_with(first|(go_at_call 365;refine(v _ (aI (aI ak _) _)).mono ?_;rintro e C ⟨rfl,b⟩;obtain⟨D,-,E⟩:=kp b w.heap.size aR;obtain⟨F,-,G⟩:=kp b (w.heap.size+1) aJ;have j:=I ((aI (aI ak _) _).trans (b.mono aR)))|(go_at_call 366;refine(x _ j).mono ?_;rintro e K ⟨rfl,b⟩;have k:=I b));go_ret;exact⟨rfl,j.trans (k.mono j.size)⟩
section
open Go.Sort Go.Shelf
def zS:ZE:=⟨fun|6=>332|15=>325|14=>367|28=>353|29=>354|20=>377|21=>378|22=>379|23=>380|24=>381|25=>382|26=>383|27=>384|46=>386|47=>371|48=>372|49=>387|50=>388|57=>389|n=>n,fun|22=>162|24=>206|25=>430|3=>3|39=>157|0=>0|53=>224|55=>87|4=>4|46=>445|45=>444|50=>386|5=>5|9=>9|66=>460|70=>214|76=>469|77=>470|n=>n,fun|n=>n⟩
theorem Ls:SlLaysF0.n6 prog zS:={
 mixed:=ai
 f6:=⟨Tryz.f332.name,aj,func332.trans (congrArg some ai)⟩
 f14:=⟨Tryz.f367.name,aj,func367.trans (congrArg some ai)⟩
 f15:=func325.trans (congrArg some ai)
 f20:=⟨Tryz.f377.name,aj,func377.trans (congrArg some ai)⟩
 f21:=⟨Tryz.f378.name,aj,func378.trans (congrArg some ai)⟩
 f22:=⟨Tryz.f379.name,aj,func379.trans (congrArg some ai)⟩
 f23:=⟨Tryz.f380.name,aj,func380.trans (congrArg some ai)⟩
 f24:=⟨Tryz.f381.name,aj,func381.trans (congrArg some ai)⟩
 f25:=⟨Tryz.f382.name,aj,func382.trans (congrArg some ai)⟩
 f26:=⟨Tryz.f383.name,aj,func383.trans (congrArg some ai)⟩
 f27:=⟨Tryz.f384.name,aj,func384.trans (congrArg some ai)⟩
 f28:=func353.trans (congrArg some ai)
 f29:=func354.trans (congrArg some ai)
 f46:=⟨Tryz.f386.name,aj,func386.trans (congrArg some ai)⟩
 f47:=func371.trans (congrArg some ai)
 f48:=func372.trans (congrArg some ai)
 f49:=⟨Tryz.f387.name,aj,func387.trans (congrArg some ai)⟩
 f50:=⟨Tryz.f388.name,aj,func388.trans (congrArg some ai)⟩
 f57:=⟨Tryz.f389.name,aj,func389.trans (congrArg some ai)⟩
 t0:=underlying0
 a0:=isAgg0
 z0:=sizeOf0
 v0:=zeroValue0
 t3:=XF
 a3:=isAgg3
 z3:=sizeOf3
 v3:=zeroValue3
 t4:=underlying4
 a4:=isAgg4
 z4:=sizeOf4
 v4:=zeroValue4
 t5:=UR
 a5:=isAgg5
 z5:=sizeOf5
 v5:=zeroValue5
 t9:=underlying9
 a9:=isAgg9
 z9:=sizeOf9
 v9:=zeroValue9
 t22:=XY
 a22:=isAgg162
 z22:=sizeOf162
 v22:=zeroValue162
 t25:=underlying430
 a25:=isAgg430
 z25:=sizeOf430
 v25:=zeroValue430
 t39:=underlying157
 a39:=isAgg157
 z39:=sizeOf157
 v39:=zeroValue157
 t45:=underlying444
 a45:=isAgg444
 z45:=sizeOf444
 v45:=zeroValue444
 t46:=underlying445
 a46:=isAgg445
 z46:=sizeOf445
 v46:=zeroValue445
 t50:=underlying386
 a50:=isAgg386
 z50:=sizeOf386
 v50:=zeroValue386
 t53:=underlying224
 a53:=isAgg224
 z53:=sizeOf224
 v53:=zeroValue224
 t55:=underlying87
 a55:=isAgg87
 z55:=sizeOf87
 v55:=zeroValue87
 t66:=underlying460
 a66:=isAgg460
 z66:=sizeOf460
 v66:=zeroValue460
 t70:=underlying214
 a70:=isAgg214
 z70:=sizeOf214
 v70:=zeroValue214
 t76:=underlying469
 a76:=isAgg469
 z76:=sizeOf469
 v76:=zeroValue469
 t77:=underlying470
 a77:=isAgg470
 z77:=sizeOf470
 v77:=zeroValue470}
structure PE where
 m:Fin 16
 r:Nat
 b:Nat
 o:Nat
 c:Nat
instance:Inhabited PE:=⟨⟨0,0,0,0,0⟩⟩
def PE.enc(x:PE):List QC:= [Y x.m.val,Y x.r,.slice (some ⟨x.b,x.o,none⟩) 128 x.c]
def Fo(x y:PE):Int:=((x.m.val:Nat):Int)-((y.m.val:Nat):Int)
theorem Nk:SWO (ltOf Fo):=by
 refine⟨λx=>?_,λx y z a b=>?_,λx y z a b=>?_⟩
 .unfold ltOf Fo;simp
 .unfold ltOf Fo at*;simp only[decide_eq_true_eq]at*;omega
 .unfold ltOf Fo at*;simp only[decide_eq_false_iff_not]at*;omega
theorem FY(x y:PE)(W:M):aE 333 (#[Value.agg x.enc.toArray,Value.agg y.enc.toArray] ++ #[]) W λe n=>aK e (Y (Fo x y))/\∃q d,n=grow (W.drewN q) d:=by
 obtain⟨⟨m,g⟩,r,b,o,c⟩:=x;obtain⟨⟨f,a⟩,h,i,j,k⟩:=y;have l:QX (Fo ⟨⟨m,g⟩,r,b,o,c⟩ ⟨⟨f,a⟩,h,i,j,k⟩=(m:Int)-(f:Int)):=rfl;obtain⟨z,p⟩:=ah (Fo ⟨⟨m,g⟩,r,b,o,c⟩ ⟨⟨f,a⟩,h,i,j,k⟩);rw[p]at l|-;simp only[PE.enc];go_enter func333,ntmps333;go_wp2;go_ret;have e:∀A B:Obj,(W.alloc A).alloc B=grow (W.drewN 0) (#[A] ++ #[B]):=λA B=>by rw[alloc_eq_grow,alloc_eq_grow,grow_grow];rfl
 exact⟨by rw[l.out];rfl,0,_,e _ _⟩
def ln(p:Pt)(u:QC):PE:=match u with
 | .slice (some a) _ c=>⟨⟨p.1%16,RT _ aj⟩,p.2.1,a.block,a.off,c⟩
 |_=>⟨0,0,0,0,0⟩
theorem Cu{p:Pt}(h:p.1<16):(ln p (.slice (some (R n m)) 128 k)).enc= [Y p.1,Y p.2.1,.slice (some (R n m)) 128 k]:=by simp only[ln,PE.enc,SA h]
theorem IZ{p:Pt}(h:p.1<16):(ln p (.slice (some (R n m)) 128 k)).m.val=p.1:=by simp only[ln,SA h]
theorem FZ{α:Type}[Inhabited α](a:α->List QC)(k:Nat)(w:M)(g m:Nat)(d:Array α)(c:Array Obj){b:Nat × Nat}(h:a_ w g (.cells A t b)):
  (sortWorldK a k w g 0 m d c).heap[g]?=some (.cells (putCells id 0 (flatK a k d) A) t b):=by
 unfold sortWorldK;have e:g<(putRowK a k (XO w m) g 0 d).heap.size:=by have:=Z_ h;simpa[putRowK,putRow,mapBlock,XO]using this
 rw[heap_grow_old _ _ e];have:(XO w m).heap[g]?=some (.cells A t b):=h;simp only[putRowK,putRow,mapBlock,WU,if_true,this,QY,onCells]
theorem Cv{α:Type}[Inhabited α](a:α->List QC)(k:Nat)(w:M)(g m:Nat)(d:Array α)(b:Array Obj):Out (λq=>q=g) w (sortWorldK a k w g 0 m d b):=by
 refine⟨rfl,rfl,rfl,?_,λq c f=>?_⟩
 .simp [sortWorldK,putRowK,putRow,mapBlock,XO,grow]
 .unfold sortWorldK;have h:q<(putRowK a k (XO w m) g 0 d).heap.size:=by simpa[putRowK,putRow,mapBlock,XO]using c
  rw[heap_grow_old _ _ h];simp only[putRowK,putRow,mapBlock,WU,aq (λe=>f (Eq.symm e))];rfl
def Nl(B:Nat)(l:List Pt)(v:QC)(w:M)(e:RW)(b:M):Prop:=
 aK e (.tuple #[])/\∃a:List Pt,a.Perm l/\(a.Pairwise λp q=>p.1<q.1)/\ff b v a/\SC B w b
theorem gx(h:L[j]?=some v):L[j]! =v:=by rw[List.getElem!_eq_getElem?_getD,h];rfl
theorem Cw(B:Nat)(v:QC)(l:List Pt)(w:QA)(h:fg B w v l)(c1:B<=w.heap.size)(a4:l≠[])(a5:∀p,p∈l->p.1<16)(fI:(l.map (·.1)).Nodup)(c9:l.length<=1000000):
  aE 332 #[v,.func (.func 333) #[] #[]] w (Nl B l v w):=by
 obtain⟨K,a6,a7,W⟩:=h;rcases a7.2 with⟨_,h0⟩|⟨g,X,L,rfl,a8,a1,r1,r2,r3,r4⟩
 .exact absurd (TU h0) a4
 let d:Array PE:=((l.zip K).map λx=>ln x.1 x.2).toArray;have C:d.size=l.length:=by simp[d,a6]
 have Q:∀(i:Nat) (p:Pt) (u:QC),l[i]?=some p->K[i]?=some u->d[i]?=some (ln p u):=λi p u r O=>by
  have c2:(l.zip K)[i]?=some (p,u):=by rw[List.getElem?_zip_eq_some];exact⟨r,O⟩
  show((l.zip K).map λx=>ln x.1 x.2).toArray[i]?=_;rw[XA,RL,c2];rfl
 have t:∀(i:Nat) (p:Pt) (u:QC),l[i]?=some p->K[i]?=some u->(ln p u).enc= [ae p.1,ae p.2.1,u]/\(ln p u).m.val=p.1:=λi p u r O=>by obtain⟨b,o,c,rfl⟩:=(W i p u r O).form;have:=a5 p (QV r);exact⟨Cu this,IZ this⟩
 have O:∀i,i<l.length->∃p u,l[i]?=some p/\K[i]?=some u:=λi D=>⟨_,_,QP D,QP aa⟩;have S:∀j,j<l.length*3->(flatK PE.enc 3 d)[j]! =(dd l K)[j]!:=λj F=>by
  obtain⟨p,u,r,f⟩:=O (j/3) aa;rw[get_flatK _ _ _ _ (by rw[C];exact F)];have e1:d[j/3]! =ln p u:=by rw[Array.getElem!_eq_getD,Array.getD_eq_getD_getElem?,Q _ _ _ r f];rfl
  obtain⟨f1,f2,f3⟩:=jI r f;rw[e1,(t _ _ _ r f).1];have Z:j%3<3:=RT _ aj;have a9:=WL j 3;obtain⟨q,a2⟩:=ah (j%3);rw[a2]at Z a9|-
  match q,Z with
  |0,_=>have e:j=j/3*3:=aa;rw[e,gx f1];rfl
  |1,_=>have e:j=j/3*3+1:=aa;rw[e,gx f2];rfl
  |2,_=>have e:j=j/3*3+2:=aa;rw[e,gx f3];rfl
 have c3:HoldsK PE.enc 3 w g 0 d:=λj F=>by
  rw[size_flatK,C]at F;obtain⟨k1,f1,z1⟩:=cr a1;refine⟨?_,f1 _⟩;rw[k1,S j F,RH];show L[j]?=some (dd l K)[j]!;rw[<-r4,List.getElem!_eq_getElem?_getD,TH,ao F];rw[TX];have:j<L.size:=by rw[r3];omega
  rw[SB this];rfl
 have H:CmpLays prog 333 #[] PE.enc 3 Fo g 0 d.size w:=λm a3 d0 _ x y=>FY x y _;have b7:=AnyQ.slices_SortFunc Ls 3 isAgg206 sizeOf206 PE.enc (λ_=>rfl) (λx v b8=>by simp[PE.enc]at b8;rcases b8 with rfl|rfl|rfl<;>rfl) Fo Nk 333 #[] g 0 X d w (RF func333 ai rfl) H c3 (Z_ a1) (by rw[C];omega);rw[C]at b7;refine(show aE 332 _ _ _ from b7).mono ?_;rintro e d1 ⟨rfl,s,n,a3,z,T,rfl⟩;obtain⟨p1,-,p3⟩:=z;have N:s.size=l.length:=by rw[p1,C]
 have U:s.toList.Perm d.toList:=by
  have e1:s.extract 0 l.length=s:=by rw[<-N];simp
  have e2:d.extract 0 l.length=d:=by rw[<-C];simp
  rw[e1,e2]at p3;exact p3
 let look:PE->Pt:=λx=>(l.find? λp=>decide (p.1=x.m.val)).getD (0,0,λ_=>0);have E:∀(i:Nat) (p:Pt) (u:QC),l[i]?=some p->K[i]?=some u->look (ln p u)=p:=λi p u r O=>by
  show(l.find? λq=>decide (q.1=(ln p u).m.val)).getD _=p;rw[(t i p u r O).2];cases b0:l.find? (λq=>decide (q.1=p.1))with
  |none=>have:=List.find?_eq_none.1 b0 p (QV r);simp at this
  |some q=>
   have h1:=List.find?_some b0;have h2:=XV b0;simp only[decide_eq_true_eq]at h1;obtain⟨j,F,rfl⟩:=ZA.1 h2;obtain⟨D,rfl⟩:=QS.1 r;have:j=i:=by
    have b9:=λa b (c4:a<l.length) (a8:b<l.length) (b1:a<b)=>WE.1 fI a b (by simpa using c4) (by simpa using a8) b1;by_cases e:j=i
    .exact e
    .exfalso;rcases Nat.lt_or_gt_of_ne e with e|e
     .exact b9 j i F D e (by rw[VE,VE];exact h1)
     .exact b9 i j D F e (by rw[VE,VE];exact h1.symm)
   subst this;rfl
 have G:∀x,x∈d.toList->∃(i:Nat) (p:Pt) (u:QC),l[i]?=some p/\K[i]?=some u/\x=ln p u:=λx c5=>by obtain⟨i,D,rfl⟩:=ZA.1 c5;obtain⟨p,u,r,f⟩:=O i (by rw[<-C];simpa using D);refine⟨i,p,u,r,f,?_⟩;have:=Q i p u r f;rw[<-TX,QP D]at this;exact RK this
 have b2:d.toList.map look=l:=by
  apply TN;intro i;rw[RL,TX];by_cases D:i<l.length
  .obtain ⟨p,u,r,f⟩:=O i D;rw[Q i p u r f,r,QY,E i p u r f]
  .rw [RE aa,WR (by rw[C];omega)];rfl
 have z:(s.toList.map look).Perm l:=by have:=U.map look;rw[b2]at this;exact this
 refine⟨rfl,s.toList.map look,z,?_,?_,?_⟩
 .have M:((s.toList.map look).map (·.1)).Nodup:=(z.map _).nodup_iff.2 fI;refine WE.2 λi j D F R=>?_;have I:i<s.size:=by simpa using D
  have Y:j<s.size:=by simpa using F
  have b3:=T i j (QN _) R aa;rw[getElem!_pos s i I,getElem!_pos s j Y]at b3;have c0:∀q (a2:q<s.size),(look s[q]).1=s[q].m.val:=λq a2=>by obtain⟨a,p,u,r,f,e⟩:=G s[q] (U.mem_iff.1 aJ);rw[e,E a p u r f,(t a p u r f).2]
  have c6:(look s[i]).1<=(look s[j]).1:=by rw[c0 i I,c0 j Y];unfold ltOf Fo at b3;simp only[decide_eq_false_iff_not]at b3;omega
  have J:=WE.1 M i j (by simpa using D) (by simpa using F) R;simp only[VE,Array.getElem_toList]at J|-;omega
 .have b4:=FZ PE.enc 3 w g n s a3 a1;have c7:=Cv PE.enc 3 w g n s a3;have P:(s.toList.map look).length=l.length:=by simp[N]
  refine⟨_,X,by rw[P],by rw[P];exact r1,.inr ⟨g,0,_,_,rfl,b4,λi p r=>?_⟩⟩;have D:i<s.size:=by have:=(QS.1 r).1;simpa using this
  obtain⟨a,p0,u,V,f,e⟩:=G s[i] (U.mem_iff.1 aJ);have b5:p=p0:=by rw[RL,TX,SB D,QY,e,E a p0 u V f]at r;exact(RK r).symm
  subst b5;have A:∀q,q<3->(putCells id 0 (flatK PE.enc 3 s) L)[0+i*3+q]?=some ((ln p u).enc[q]!):=λq a2=>by
   have b6:i*3+q<L.size:=by rw[r3];omega
   rw[RH];unfold putCells;rw[Array.getElem?_mapIdx,SB b6,QY,ao ⟨QN _,by rw[size_flatK];omega⟩,Nat.sub_zero,get_flatK _ _ _ _ aa];rw[show(i*3+q)/3=i by omega,show(i*3+q)%3=q by omega,getElem!_pos s i D,e];rfl
  rw[(t a p u V f).1]at A;refine⟨A 0 aj,A 1 aj,u,A 2 aj,(W a p u V f).out c7 λk o c8 a0=>?_⟩;subst c8;rw[a1]at a0;cases a0;simp[ty]
 .exact (Cv PE.enc 3 w g n s a3).below (λq _ e=>by rw[e];exact a8) c1
end
structure ZZ(w:M)(r N t u:Nat):Prop where
 aL:w.heap[r]? =some (al #[Y (N:Int),Y (t:Int),Y (u:Int)] 221)
 lo:5<=N
 hi:N<=2048
 t:t<N
 u:u<=N
theorem ZZ.cS(h:ZZ w r n m k)(a:au w W):ZZ W r n m k:=
 ⟨(a.block r (RC.1 h.aL).1).trans h.aL,h.lo,h.hi,h.t,h.u⟩
theorem ZZ.out{w w1:M}(h:ZZ w r n m k)(a:Out S w w1)(b:¬S r):ZZ w1 r n m k:=
 ⟨a.heap h.aL b,h.lo,h.hi,h.t,h.u⟩
theorem uh(N t u:Nat)(w:M)(b:5<=N)(c:N<=2048)(d:t<N)(f:u<=N):aE 84 #[Y N,Y t,Y u] w λe a=>aK e (.tuple #[H w.heap.size,aG 0])/\ZZ a w.heap.size N t u/\au w a:=by go_enter func84,ntmps84;go_wp2;go_ret2;exact⟨rfl,⟨QB _ _,b,c,d,f⟩,aI ak _⟩
theorem ng(r N t u k:Nat)(w:M)(h:ZZ w r N t u)(b:k<=N):aE 316 #[H r,Y k] w λe a=>aK e (Y ((t+k)%N:Nat))/\∃q,a=w.drewN q:=by
 obtain⟨c,f1,d⟩:=cr h.aL;have f:=h.lo;have g:=h.hi;have i:=h.t;have j:QK.wrap ((t:Int)+k)=(t:Int)+k:=bj;have l:((t:Int)+k).tmod N=((t+k)%N:Nat):=by rw[UH J];simp
 go_enter func316,ntmps316;go_wp2_with fail;go_quiet(fail);go_wp2;go_ret;exact⟨rfl,_,rfl⟩
theorem qN(r N t u:Nat)(w:M)(h:ZZ w r N t u):aE 303 #[H r] w λe a=>aK e (Y (N-u:Nat))/\∃q,a=w.drewN q:=by obtain⟨b,f1,c⟩:=cr h.aL;have d:=h.hi;have f:=h.u;have g:QK.wrap ((N:Int)-u)=(N-u:Nat):=bj;go_enter func303,ntmps303;go_wp2_with fail;go_quiet(fail);go_wp2;go_ret;exact⟨aJ,_,rfl⟩
theorem qO(r N t u:Nat)(w:M)(h:ZZ w r N t u):aE 204 #[H r] w λe a=>aK e (Y u)/\a=w:=by obtain⟨b,f1,c⟩:=cr h.aL;go_enter func204,ntmps204;go_wp2;go_ret;exact⟨rfl,rfl⟩
theorem mr(r N t u:Nat)(w:M)(h:ZZ w r N t u):aE 299 #[H r] w λe a=>aK e (Y N)/\a=w:=by obtain⟨b,f1,c⟩:=cr h.aL;go_enter func299,ntmps299;go_wp2;go_ret;exact⟨rfl,rfl⟩
theorem mu(r N t u:Nat)(w:M)(h:ZZ w r N t u):aE 277 #[H r] w λe a=>aK e (Y ((t+u)%N:Nat))/\∃q,a=w.drewN q:=by obtain⟨c,f1,d⟩:=cr h.aL;have b:=I (ng r N t u u w h h.u);go_enter func277,ntmps277;go_wp2_with(first|(go_at_call 316;refine b.mono ?_;rintro e a ⟨rfl,q,rfl⟩));go_ret;exact⟨rfl,_,rfl⟩
def yw(N s n:Nat):Nat:=if n=0 then 0 else if n<=N-s then 1 else 2
def Bp(s k:Nat):Nat:=if k=0 then s else 0
def HT(N s n k:Nat):Nat:=if k=0 then min n (N-s)else n-(N-s)
def Lu(r s n:Nat)(w:M)(e:RW)(a:M):Prop:=
 aK e (.func (.func 343) #[] #[.pointer (some ⟨w.heap.size+2,0,none⟩),H w.heap.size,.pointer (some ⟨w.heap.size+1,0,none⟩)])/\
  a.heap[w.heap.size]?=some (N #[H r] 148)/\a.heap[w.heap.size+1]?=some (N #[Y (s:Int)] 3)/\a.heap[w.heap.size+2]?=some (N #[Y (n:Int)] 3)/\
  a.heap.size=w.heap.size+3/\au w a
theorem qP(r s n:Nat)(w:M):aE 318 #[H r,Y s,Y n] w (Lu r s n w):=by
 go_enter func318,ntmps318;go_wp2;go_ret;refine⟨aJ,?_,?_,?_,aJ,aI (aI (aI ak _) _) _⟩
 .exact ((QW _ _ _ aR).trans (QW _ _ _ aJ)).trans (QB w _)
 .refine (QW _ _ _ aJ).trans ?_;have:=QB (w.alloc (N #[H r] 148)) (N #[Y (s:Int)] 3);rwa[SS]at this
 .have:=QB ((w.alloc (N #[H r] 148)).alloc (N #[Y (s:Int)] 3)) (N #[Y (n:Int)] 3);rwa[SS,SS]at this
section
open Go.Shelf
attribute [local go_sem] WJ
def Bq(N s n k:Nat):Nat:=if k=0 then n else if k=1 then n-(N-s)else 0
theorem Cy(c:i<m)(d:n<=m)(h:k<yw m i n):0<Bq m i n k/\Bq m i n k<=n/\Bp i k<=i/\HT m i n k=min (Bq m i n k) (m-Bp i k)/\Bq m i n k-HT m i n k=Bq m i n (k+1):=by
 have a:(k=0/\0<n)\/(k=1/\0<n/\m-i<n):=by
  unfold yw at h;split at h
  .omega
  .split at h<;>omega
 rcases a with⟨rfl,b⟩|⟨rfl,b,e⟩
 .simp [Bq,Bp,HT];omega
 .simp [Bq,Bp,HT];omega
def su(X:Nat->Prop)(a:Nat->M->Prop)(k:Nat)(A:M)(e:RW)(b:M):Prop:=
 aK e ed/\Out X A b/\a (k+1) b
structure Nn(X:Nat->Prop)(Rdy:Nat->M->Prop)(W wr:M)(c1 c3 N s n k:Nat):Prop where
 h1:wr.heap[c1]? =some (al #[Y (Bq N s n k:Nat)] 3)
 h3:wr.heap[c3]? =some (al #[Y (Bp s k:Nat)] 3)
 out:Out (fun b=>X b\/b=c1\/b=c3) W wr
 OU:Rdy k wr
theorem wL(l a y c3 r N s n t u:Nat)(X:Nat->Prop)(c:Nat->QA->Prop)(W:QA)(b8:ZZ W r N t u)(c8:s<N)(c9:n<=N)(h1:W.heap[a]?=some (al #[ae (n:Int)] 3))(h2:W.heap[y]?=some (al #[ar r] 148))(h3:W.heap[c3]?=some (al #[ae (s:Int)] 3))(M:¬X a)(I:¬X y)(Y:¬X c3)(J:¬X r)(z:a≠c3)(a0:y≠a)(a4:y≠c3)(a5:r≠a)(a6:r≠c3)(C:c 0 W)(D:∀k A B,c k A->Out (λb=>b=a\/b=c3) A B->c k B)(b9:∀q k A,k<yw N s n->c k A->YieldAt TV q prog l #[.agg #[ae (Bp s k:Nat),ae (HT N s n k:Nat)]] A (su X c k A)):
  CallsIn TV 2 prog 343 #[.func (.yield l) #[] #[],ar a,ar y,ar c3] W
   λe c0=>(∃v,aK e v)/\Out (λb=>X b\/b=a\/b=c3) W c0/\c (yw N s n) c0:=by
 refine callsIn_of_wp func343 rfl trivial ?_;simp only[ntmps343,VW,SG,VT,Nat.reduceAdd,Nat.reduceSub,ZG,ZF,List.push_toArray,List.append_toArray,UT,UQ];have a7:=ad b8;have d0:=ad b9;have E:=ad D;have H2:=ad h2;have H0:QX (Nn X c W W a c3 N s n 0):=⟨h1,h3,Out.refl _ _,C⟩;clear b8 b9 D h1 h2 h3 C;gi_wp2
 gi_loopw [] (λwr=>∃k,k<=yw N s n/\QX (Nn X c W wr a c3 N s n k)) (λwr=>(intOf ((wr.cell? ⟨a,0,none⟩).getD undef)).toNat)
 case atStart=>exact⟨0,QN _,H0⟩
 case round=>
  obtain⟨k,e9,f⟩:=hrel;have F:=f.out.out.heap H2 (λe=>e.elim I λe=>e.elim a0 a4);have g:=a7.out.out f.out.out (λe=>e.elim J λe=>e.elim a5 a6);obtain⟨S,a2,a3⟩:=cr f.h1;obtain⟨b1,b2,b3⟩:=cr F;obtain⟨d1,d2,d3⟩:=cr f.h3;obtain⟨e1,e2,e3⟩:=cr g.aL;have d4:=g.lo;have d5:=g.hi;clear g F;by_cases G:k<yw N s n
  .obtain ⟨r1,d6,d7,m,T⟩:=Cy c8 c9 G;have e4:QK.wrap ((N:Int)-(Bp s k:Nat))=(N-Bp s k:Nat):=bj;obtain⟨R,x⟩:=ah (Bq N s n k);obtain⟨A,U⟩:=ah (Bp s k);have K:=aB x U;rw[x]at S r1 d6 m T;rw[U]at d1 d7 m e4;gi_wp2_with fail;obtain⟨L,a8⟩:=ah (HT N s n k);rw[a8]at m T;have a9:(if N-A<R then((N-A:Nat):Int)else(R:Int))=(L:Int):=by rw[m];split<;>omega
   have d8:min (R:Int) ((N-A:Nat):Int)=(L:Int):=by rw[m];omega
   have j:QX (L<=R):=by rw[m];exact ZH _ _
   have O:QX (0<L):=by show 0<L;omega
   clear m
   gi_region
   have b0:=ad (E _ _ wr.drew f.OU (Out.refl _ _).drew);have P:=ad (λq=>d0.out q k wr.drew G b0);rw[U,a8]at P;have b4:=ad (f.out.out.drew);have E5:=ad T;have o:=K;clear x U a8 K T a9;obtain⟨f0,c4,V,c5,d9,x⟩:=P.out 1;have c6:=ad x;clear x;gi_wp2_with fail;refine c6.mono ?_;clear c6 d9;rintro e i ⟨rfl,d,Q⟩;have b5:=ad (b4.trans d λ_ _ h=>.inl h);have b6:=ad Q;have Z:i.heap[a]?=some (al #[ae (Bq N s n k:Nat)] 3):=d.heap (w:=wr.drew) f.h1 M;have H:i.heap[c3]?=some (al #[ae (Bp s k:Nat)] 3):=d.heap (w:=wr.drew) f.h3 Y;have G1:=ad Z;have G3:=ad H;rw[o.1]at Z;rw[o.2]at H;have f1:QK.wrap ((R:Int)-L)=(R-L:Nat):=by have:=j.out;go_arith
   clear S a2 b1 d1 d2 e1 d Q;obtain⟨S,a2,a3⟩:=cr Z;obtain⟨d1,d2,d3⟩:=cr H;clear Z H;gi_wp2_with fail
   gi_region
   have e0:QX (wr.cell? ⟨a,0,none⟩=some (ae (R:Int))):=by rw[<-o.1];exact(cr f.h1).1 0
   have b7:Out (λb=>b=a\/b=c3) i (((i.setCell ⟨c3,0,none⟩ (ae 0)).setCell ⟨a,0,none⟩ (ae (R-L:Nat))).drew):=(((Out.refl _ _).setCell (p:=⟨c3,0,none⟩) (λ_=>.inr rfl) _).setCell (p:=⟨a,0,none⟩) (λ_=>.inl rfl) _).drew;have n3:=heap_setCell_same i c3 0 _ 3 (ae 0) G3;have n1:=heap_setCell_same (i.setCell ⟨c3,0,none⟩ (ae 0)) a 0 _ 3 (ae (R-L:Nat)) ((RP _ _ _ _ z).trans G1);have e6:QX (Nn X c W (((i.setCell ⟨c3,0,none⟩ (ae 0)).setCell ⟨a,0,none⟩ (ae (R-L:Nat))).drew) a c3 N s n (k+1)):=by
    refine⟨?_,?_,?_,?_⟩
    .rw [<-E5.out];exact n1
    .refine (RP (i.setCell ⟨c3,0,none⟩ (ae 0)) _ _ _ (λe=>z e.symm)).trans ?_;exact n3
    .exact b5.trans b7 λ_ _ h=>.inr h
    .exact E _ _ _ b6 b7
   have c7:(((i.setCell ⟨c3,0,none⟩ (ae 0)).setCell ⟨a,0,none⟩ (ae (R-L:Nat))).drew).cell? ⟨a,0,none⟩=some (ae (R-L:Nat)):=(cr n1).1 0;have e7:=ad c7;clear c7 n1 n3 b7;go_roundw
   case rel=>((repeat apply Exists.intro);exact⟨⟨k+1,aa,e6⟩,rfl⟩)
   case measure=>rw[e0.out,e7.out];have:=j.out;have:=O.out;simp[intOf];omega
  .obtain rfl:k=yw N s n:=aa;have e8:Bq N s n (yw N s n)=0:=by unfold Bq yw;by_cases q0:n=0<;>by_cases q1:n<=N-s<;>simp[q0,q1] <;>omega
   simp only[e8]at S;gi_wp2;go_end0;exact⟨⟨_,rfl⟩,f.out.out,f.OU⟩
end
section
open Go.Shelf
attribute [local go_sem] WJ
theorem Out.putObj(h:Out S W w)(c:n<W.heap.size->S n)(o:Obj):Out S W (w.putObj n o):=
 ⟨h.os,h.tape,h.output,by rw[WO];exact h.size,λk a b=>(TI (λe=>by subst e;exact b (c a))).trans (h.block k a b)⟩
theorem jc{P:Program}{n:Nat}{g:Operand}{ps:Array Tmp}{assign body:Code}{Q:Exit->Act->M->Prop}{a:Act}{w:M}{gf:Nat}{lb:Array QC}(hg:a.eval g=.func (.func gf) #[] lb)(eg:∀args w,(UN gf args).run P w=.ok (.enter gf args) w)(h:∀(fn:FuncId) (rc:LoopState->Option Code->Loop),rc=(λst pe=>{state:=st,pending:=pe,fn,tmps:=a.tmps,params:=ps,assign,body,defers:=w.heap.size})->
   CallsIn TV (n-1) P gf (#[.func (.yield (w.heap.size+1)) #[] #[]] ++lb) ((w.alloc (.deferred (some []))).alloc (.loop (rc .ready none)))
    (rangePost TV n P (w.heap.size+1) Q {a with defers:= [{target:=.collected w.heap.size,args:= #[]}] ++a.defers})):
  (Code.rangeFunc g ps assign body).wpIn TV n P Q a w:=by
 refine wpIn_rangeFunc ?_;intro fn hfn;obtain⟨rc,hrc⟩:∃rc:LoopState->Option Code->Loop,rc=λst pe=>{state:=st,pending:=pe,fn,tmps:=a.tmps,params:=ps,assign,body,defers:=w.heap.size}:=⟨_,rfl⟩;have h1:=h fn rc hrc;obtain⟨W1,hW1⟩:=ah ((w.alloc (.deferred (some []))).alloc (.loop (rc .ready none)));rw[hW1]at h1;refine⟨w.heap.size+1,[{target:=.collected w.heap.size,args:= #[]}],W1,{target:=.fn (.func gf) lb,args:= #[.func (.yield (w.heap.size+1)) #[] #[]]},W1,gf,
  #[.func (.yield (w.heap.size+1)) #[] #[]] ++lb,W1,?_,?_,?_,?_,?_,?_⟩
 .rw [<-hW1,hrc];exact run_enterLoop_outer _ _ _ _ _
 .simp only[resolve,hg];simp[go_sem]
 .exact λ_ _=>True.intro
 .simp [invoke,go_sem,eg]
 .exact λh=>by cases h
 .exact h1
end
section
open Go.Shelf
attribute [local go_sem] WJ
def zT(k:Nat)(x y:aQ):List QC:=(TT (2*k)).map λj=>.int .i64 ((if j%2=0 then x (j/2)else y (j/2):Nat))
theorem zU(k:Nat)(x y:aQ):zT k x y++ [Y (x k:Nat),Y (y k:Nat)] =zT (k+1) x y:=by unfold zT;rw[show 2*(k+1)=2*k+1+1 by omega,UK,UK,SH,SH,SY];simp only[TS,XR,UQ,UT];rw[ao J,aq J,show 2*k/2=k by omega,show(2*k+1)/2=k by omega]
structure lq(Y:Nat->Prop)(w:M)(lo:Loop)(x y:aQ)(k:Nat)(A:M):Prop where
 l:A.heap[w.heap.size+2]? =some (.loop lo)
 D:A.heap[w.heap.size+1]? =some (.deferred (some []))
 HU:∃lv,A.heap[w.heap.size]? =some (N #[lv] 360)/\A.ownsRow (w.heap.size+3) 409 2 lv k (zT k x y)
 out:Out Y w A
theorem lq.cS{d:Loop}{x y:aQ}(h:lq S w d x y k W)(a:Out Q W z)(c:∀b,Q b->S b/\b<w.heap.size):lq S w d x y k z:=by
 obtain⟨g,i,⟨l,m,f⟩,o⟩:=h;have n:∀j,¬Q (w.heap.size+j):=λj e=>by have:=(c _ e).2;omega
 refine⟨a.heap g (n 2),a.heap i (n 1),⟨l,a.heap m (n 0),a.own f λb e p=>?_⟩,o.trans a λb _ e=>(c b e).1⟩;have:=(bo f e).2;have:=(c b p).2;omega
theorem lq.put{f lo':Loop}{x y:aQ}(h:lq Q w f x y k W):lq Q w lo' x y k (W.putObj (w.heap.size+2) (.loop lo')):=by
 obtain⟨g,i,⟨j,l,c⟩,m⟩:=h;have a:Out (λb=>b=w.heap.size+2) W (W.putObj (w.heap.size+2) (.loop lo')):=Out.putObj (S:=λb=>b=w.heap.size+2) (Out.refl _ _) (λ_=>rfl) _;refine⟨SR (RC.1 g).1,a.heap i (by show¬w.heap.size+1=w.heap.size+2;omega),⟨j,a.heap l (by show¬w.heap.size=w.heap.size+2;omega),a.own c λb e d=>?_⟩,m.trans a λb d e=>?_⟩
 .have:=(bo c e).2;have:b=w.heap.size+2:=d;omega
 .have:b=w.heap.size+2:=e;omega
end
section
open Go.Shelf
attribute [local go_sem] WJ
theorem F_:(prog.info? 409).map (λi=>(i.zero,i.size,i.bytes))=some (some (.agg #[Y 0,Y 0]),2,16):=ai
theorem lq.endLoop{a:Loop}{x y:aQ}(h:lq S w a x y k W)(d:a.state≠ .busy){jump:Option Code}(e:a.pending=jump):∃b c,(Instr.endLoop (w.heap.size+2)).run prog W=.ok jump c/\lq S w b x y k c:=by subst e;exact⟨_,_,run_endLoop h.l d,h.put⟩
def Lw(Y:Nat->Prop)(M:Nat)(x y:aQ)(w:QA)(e:RW)(a:QA):Prop:=
 ∃b,aK e b/\a.ownsRow w.heap.size 409 2 b M (zT M x y)/\Out Y w a
theorem zV(gf:Nat)(lb:Array QC)(M:Nat)(x y:aQ)(Y:Nat->Prop)(w:QA)(d5:∀args w,(UN gf args).run prog w=.ok (.enter gf args) w)(e8:M<=1000000)(d6:∀b,Y b->b<w.heap.size)(d7:∀(c:Nat->QA->Prop) (W:QA),au w W->c 0 W->(∀k A B,c k A->Out Y A B->c k B)->
   (∀q k A,k<M->c k A->YieldAt TV q prog (w.heap.size+2) #[.agg #[ae (x k:Nat),ae (y k:Nat)]] A (su (λb=>w.heap.size<=b) c k A))->
   CallsIn TV 2 prog gf (#[.func (.yield (w.heap.size+2)) #[] #[]] ++lb) W λe c5=>(∃v,aK e v)/\Out (λb=>w.heap.size<=b\/Y b) W c5/\c M c5):
  aE 342 #[aW,.func (.func gf) #[] lb] w (Lw Y M x y w):=by
 refine(UP (n:=3)).1 ?_;refine callsIn_of_wp_marks func342 rfl trivial ?_;simp only[ntmps342,VW,SG,VT,Nat.reduceAdd,Nat.reduceSub,ZG,ZF,List.push_toArray,List.append_toArray,UT,UQ];have d8:=ad d7;have a0:=ad d6;have d9:=ad d5;gi_wp2;obtain⟨o,r⟩:=ah (w.alloc (al #[aW] 360));have s:o.heap.size=w.heap.size+1:=by rw[<-r];simp
 have a4:a_ o w.heap.size (al #[aW] 360):=by rw[<-r];exact QB _ _
 have e0:au w o:=by rw[<-r];exact aI ak _
 rw[r];rename_i a5;have a6:=ad a5;refine jc (gf:=gf) (lb:=lb) rfl d9 ?_;intro c6 d a;rw[s];obtain⟨T,f⟩:=ah ((o.alloc (.deferred (some []))).alloc (.loop (d .ready none)));rw[f];have U:∀k,k<o.heap.size->T.heap[k]?=o.heap[k]?:=λk c7=>by rw[<-f];exact(QW _ _ k aR).trans (QW _ _ k c7)
 have V:au w T:=by rw[<-f];exact aI (aI e0 _) _
 have e2:T.heap.size=w.heap.size+3:=by rw[<-f];simp[s]
 have a7:lq Y w (d .ready none) x y 0 T:=by
  refine⟨?_,?_,⟨_,(U _ aa).trans a4,SJ _ _ _ _⟩,Out.af V⟩
  .rw [<-f];have:=QB (o.alloc (.deferred (some []))) (.loop (d .ready none));rwa[SS,s]at this
  .rw [<-f];have:=(QW (o.alloc (.deferred (some []))) (.loop (d .ready none)) o.heap.size aJ).trans (QB o _);rwa[s]at this
 refine(d8 (lq Y w (d .ready none) x y) T V a7 (λk A B I e3=>I.cS e3 λb e=>⟨e,a0 b e⟩) ?_).mono ?_
 .intro q k A c7 I;have c8:=I.l;have c9:=run_yield (P:=prog) (args:= #[.agg #[ae (x k:Nat),ae (y k:Nat)]]) c8 (by rw[a];rfl);rw[show(d .ready none).fn=c6 by rw[a]]at c9;refine⟨c6,_,_,_,c9,roundIn_of_wpIn trivial ?_⟩;have X:lq Y w (d .ready none) x y k (A.alloc (al #[ae (x k:Nat),ae (y k:Nat)] 409)):=I.cS (Out.af (S:=λ_=>False) (aI ak _)) λ_ e=>e.elim;have a8:=QB A (al #[ae (x k:Nat),ae (y k:Nat)] 409);have Z:=run_beginRound (P:=prog) X.l (by rw[a]);have E:=X.put (lo':={d .ready none with state:=.busy});obtain⟨C,g⟩:=ah ((A.alloc (al #[ae (x k:Nat),ae (y k:Nat)] 409)).putObj (w.heap.size+2) (.loop {d .ready none with state:=.busy}));rw[g]at Z E;have i:=ad E;have a9:QX (Out (λb=>w.heap.size<=b) A C):=by rw[<-g];exact Out.putObj (Out.af (aI ak _)) (λ_=>by show w.heap.size<=w.heap.size+2;omega) _
  have b0:a_ C A.heap.size (al #[ae (x k:Nat),ae (y k:Nat)] 409):=by rw[<-g];exact(TI (by have:=(RC.1 c8).1;omega)).trans a8
  obtain⟨a1,a2,a3⟩:=cr b0;obtain⟨e4,z,h4⟩:=E.HU;obtain⟨L,O,rfl,-⟩:=av h4;have l:=ad h4;obtain⟨i1,b1,b2,b3,b4⟩:=SD F_;have b5:=ad z;obtain⟨c3,f3,z3⟩:=cr z;obtain⟨R,d0⟩:=ah (su (λb=>w.heap.size<=b) (lq Y w (d .ready none) x y) k A);rw[d0,a];have F:=ad a;gi_wp2;refine⟨C,Z,?_⟩;have b6:w.heap.size+3<=C.heap.size:=by have:=(RC.1 i.l).1;omega
  gi_wp2_with(first|(gi_at_builtin;refine wpListIn_append_own _ rfl _ _ 360 rfl (w.heap.size+3) 409 i1 (.agg #[ae 0,ae 0]) 2 16 underlying360 b1 b2 b3 b4 rfl aj (.slice L k O) k (zT k x y) rfl (l.alloc _) (ag C.heap.size 0) 1 1 [ae (x k:Nat),ae (y k:Nat)] rfl rfl (RY (cs:= #[ae (x k:Nat),ae (y k:Nat)]) (t:=409) (fr:=(0,0)) (QB C _)) (by intro u d1;simp at d1;rcases d1 with rfl|rfl<;>rfl) (by unfold UI;omega) aa (by have:=i.out.out.size;have:=b6;simp;omega) ?_));intro e9 H D b7 _;have N:=ad D;have d2:Out (λb=>(RU L k O).ownBlock=some b) C H:=(Out.af (aI ak _)).grown b7 λb Q _=>Q;have b8:∀j,j<3->¬(RU L k O).ownBlock=some (w.heap.size+j):=λj e5 e=>by have:=(bo l e).2;omega
  have J:a_ H w.heap.size (al #[.slice L k O] 360):=d2.heap b5 (b8 0 aa);have b9:=ad d2;have c0:=ad J;obtain⟨G,K,rfl,-⟩:=av D;obtain⟨c3,f3,z3⟩:=cr J;gi_wp2;have z:lq Y w {d .ready none with state:=.busy} x y (k+1) (H.setCell (ag w.heap.size 0) (.slice G (k+1) K)):=by
   have d3:∀j,0<j->j<3->∀c1,a_ C (w.heap.size+j) c1->(H.setCell (ag w.heap.size 0) (.slice G (k+1) K)).heap[w.heap.size+j]?=some c1:=λj e5 e6 c1 h=>
    (RP _ _ _ _ (by show w.heap.size+j≠w.heap.size;omega)).trans (b9.heap h λe=>by have:=(bo l e).2;omega)
   refine⟨?_,d3 1 aa aa _ i.D,⟨_,heap_setCell_same _ _ 0 _ _ _ c0,?_⟩,?_⟩
   .have:=d3 2 aa aa _ i.l;rw[F.out]at this|-;exact this
   .rw [<-zU];exact XS N (λe=>absurd (show w.heap.size+3<=w.heap.size from(bo N e).2) aa) _
   .exact (i.out.out.trans b9 λb Q e=>by have:=(bo l e).2;omega).setCell (p:=ag w.heap.size 0) (λe=>absurd e (TO _)) _
  have c2:Out (λb=>w.heap.size<=b) A (H.setCell (ag w.heap.size 0) (.slice G (k+1) K)):=(a9.trans b9 λb Q e=>by have:=(bo l e).2;show w.heap.size<=b;omega).setCell (p:=ag w.heap.size 0) (λ_=>QH _) _;have m:=run_endRound (P:=prog) none z.l;refine⟨_,_,m,?_⟩;have e1:({({d .ready none with state:=.busy}:Loop)with state:=if(none:Option Code).isNone then .ready else .done,pending:=none}:Loop)=d .ready none:=by rw[F.out];rfl
  rw[e1,<-d0];refine⟨rfl,Out.putObj c2 (λ_=>by show w.heap.size<=w.heap.size+2;omega) _,?_⟩;rw[F.out]at z|-;exact z.put
 .rintro e W2 ⟨⟨v,rfl⟩,e7,h2⟩;obtain⟨lo',W3,m,z⟩:=h2.endLoop (by rw[a];simp) (jump:=none) (by rw[a]);refine⟨none,W3,m,?_⟩;refine a6 _ _ ?_;obtain⟨e4,J,g4⟩:=z.HU;obtain⟨L,O,rfl,-⟩:=av g4;obtain⟨c4,f4,z4⟩:=cr J;have H3:=ad z;have G4:=ad g4;gi_wp2;refine⟨aJ,.inl ⟨_,_,rfl,run_takeDeferred H3.D,?_⟩⟩;have d4:Out (λk=>k=w.heap.size+1) W3 (W3.putObj (w.heap.size+1) (.deferred none)):=Out.putObj (S:=λk=>k=w.heap.size+1) (Out.refl _ _) (λ_=>rfl) _;refine⟨.slice L M O,?_,_,rfl,cu (d4.own G4 λb Q e=>?_) (Nat.le_add_right _ _),H3.out.out.trans d4 λb Q e=>?_⟩
  .simp [RM,Tryz.f342,go_sem]
  .have:=(bo G4 Q).2;omega
  .omega
end
section
open Go.Shelf
attribute [local go_sem] WJ
theorem I_(N s n:Nat):yw N s n<=2:=by
 unfold yw;split
 .omega
 .split<;>omega
theorem kc(a c c3 r N s n t u:Nat)(w:M)(g:ZZ w r N t u)(z:s<N)(A:n<=N)(h:w.heap[a]?=some (al #[Y (n:Int)] 3))(d:w.heap[c]?=some (al #[H r] 148))(i:w.heap[c3]?=some (al #[Y (s:Int)] 3))(k:a≠c3):
  aE 317 #[.func (.func 343) #[] #[H a,H c,H c3]] w (Lw (λb=>b=a\/b=c3) (yw N s n) (Bp s) (HT N s n) w):=by
 have B:=Z_ h;have C:=Z_ d;have z3:=Z_ i;have L:=Z_ g.aL;have l:c≠a:=λe=>by rw[e,h]at d;cases d
 have m:c≠c3:=λe=>by rw[e,i]at d;cases d
 have o:r≠a:=λe=>by have:=g.aL;rw[e,h]at this;cases this
 have p:r≠c3:=λe=>by have:=g.aL;rw[e,i]at this;cases this
 have D:=I (zV 343 #[H a,H c,H c3] (yw N s n) (Bp s) (HT N s n) (λb=>b=a\/b=c3) w (λy w=>by simp[UN,go_sem,Tryz.f343]) (by have:=I_ N s n;omega) (λb E=>by rcases E with rfl|rfl<;>omega) (by intro q W j v x F;exact wL (w.heap.size+2) a c c3 r N s n t u (λb=>w.heap.size<=b) q W (g.out (Out.af (S:=λ_=>False) j) id) z A ((j.block _ B).trans h) ((j.block _ C).trans d) ((j.block _ z3).trans i) J J J J k l m o p v x F));go_enter func317,ntmps317;go_wp2_with fail;refine D.mono ?_;rintro e O ⟨P,rfl,G,f⟩;have K:=aB G f;go_wp2;go_ret;exact⟨_,rfl,K⟩
def TR:List Nat:= [221]
def ui[Lo](r N t u:Nat)(w:M)(e:RW)(b:M):Prop:=∃a n c,aK e (.tuple #[.slice a n c,aG 0])/\ZZ b r N t u/\Fr TR aF w b
theorem ZZ.fr[Lo](h:ZZ w r n m k)(a:Fr T aF w W)(b:T.contains 221=false):ZZ W r n m k:=⟨a.hp h.aL b,h.lo,h.hi,h.t,h.u⟩
theorem F'[Lo](r N t u n:Nat)(w:QA)(h:ZZ w r N t u)(G:Lo.lo<=r)(K:u+n<=N):aE 305 #[ar r,ae n] w (ui r N t (u+n) w):=by
 have L:=h.lo;have O:=h.hi;have d1:decide ((n:Int)<0)=false:=aJ;have d2:decide (((N-u:Nat):Int)<(n:Int))=false:=aR;have z:(t+u)%N<N:=RT _ aa;obtain⟨H,q⟩:=ah ((t+u)%N);have A:=ad h;have P:=ad q;rw[q]at z;clear q;go_enter func305,ntmps305;go_wp2_with fail;refine(qN r N t u w A).mono ?_;rintro e Q ⟨rfl,s,rfl⟩;have i:=ad (A.out.out (S:=λ_=>False) ((Out.refl _ w).drewN s) id);go_wp2_with fail;refine(mu r N t u _ i).mono ?_;rintro e Q ⟨rfl,v,rfl⟩;rw[P.out];have j:=i.out.out (S:=λ_=>False) ((Out.refl _ _).drewN v) id;have d:QX (au w ((w.drewN s).drewN v)):=cE (cE ak _) _;have l:=ad j;clear j;generalize (w.drewN s).drewN v=W2 at*;go_wp2_with fail;refine(qP r H n W2).mono ?_;rintro e B ⟨rfl,C,D,E,R,f⟩;have g:=l.out.out (Out.af (S:=λ_=>False) f) id;have T:=ad (kc (W2.heap.size+2) W2.heap.size (W2.heap.size+1) r N H n t u B g z aa E C D aa);have x:=ad f;have y:=ad g;clear E C D f g h;go_wp2_with fail;refine T.mono ?_;rintro e o ⟨I,rfl,F,b⟩;have U:r<W2.heap.size:=Z_ l.aL;have a:=y.out.out b (λe=>by rcases e with e|e<;>omega);obtain⟨Y,f4,J⟩:=cr a.aL;have c:=heap_setCell_same o r 2 _ 221 (ae ((u+n:Nat):Int)) a.aL;have a0:QK.wrap ((u:Int)+n)=(u+n:Nat):=bj;obtain⟨V,W,rfl,-⟩:=av F;have m:Fr TR aF w (o.setCell (ag r 2) (ae ((u+n:Nat):Int))):=by
  have X:au w B:=d.trans (x.mono d.size);have Z:Fr TR aF w o:=(Fr.af X).out b λk a1 e=>by have:=d.size;rcases e with e|e<;>omega
  exact Z.set (p:=ag r 2) a.aL rfl G _
 have M:QX (ui r N t (u+n) w (.returned (.tuple #[.slice V (yw N H n) W,aG 0])) (o.setCell (ag r 2) (ae ((u+n:Nat):Int)))):=⟨_,_,_,rfl,⟨c,a.lo,a.hi,a.t,K⟩,m⟩;clear a c m F b;go_wp2;go_ret2;exact M
theorem Ga[Lo](r N t u n:Nat)(w:QA)(h:ZZ w r N t u)(D:Lo.lo<=r)(Z:n<=u):aE 278 #[ar r,ae n] w (ui r N ((t+n)%N) (u-n) w):=by
 have o:=h.lo;have q:=h.hi;have s:=h.t;have T:=h.u;have d1:decide ((n:Int)<0)=false:=aJ;have d2:decide ((u:Int)<(n:Int))=false:=aR;obtain⟨U,f1,E⟩:=cr h.aL;have v:=ad h;have x:=ad E;clear h;go_enter func278,ntmps278;go_wp2_with fail;refine(qP r t n w).mono ?_;rintro e V ⟨rfl,F,G,K,H,d⟩;have f:=v.out.out (Out.af (S:=λ_=>False) d) id;have W:=ad (kc (w.heap.size+2) w.heap.size (w.heap.size+1) r N t n t u V f s aa K F G aa);have y:=ad d;have z:=ad f;clear K F G d f U E;go_wp2_with fail;refine W.mono ?_;rintro e m ⟨R,rfl,L,a⟩;have c:=z.out.out a (λe=>by have:=x.out;rcases e with e|e<;>omega);obtain⟨I,Y,rfl,-⟩:=av L;have O:Fr TR aF w m:=(Fr.af y).out a λk J e=>by rcases e with e|e<;>omega
 have A:=ad c;have X:=ad O;obtain⟨k4,f4,z4⟩:=cr c.aL;have a0:QK.wrap ((u:Int)-n)=(u-n:Nat):=bj;have g:=ng r N t u n m.drew (c.out (S:=λ_=>False) (Out.refl _ _).drew id) aa;have j:(t+n)%N<N:=RT _ aa;obtain⟨M,B⟩:=ah ((t+n)%N);rw[B]at g j;have P:=ad B;have C:=ad g;clear c L a O B g;go_wp2_with fail
 go_region_law (first|(go_simp;go_at_call 316;refine C.mono ?_;rintro e w5 ⟨rfl,Q,rfl⟩))
 all_goals go_wp2
 all_goals go_ret2
 all_goals(
  have l:=A.out.out (S:=λ_=>False) (w1:=m.drewN (1+Q)) ((Out.refl _ _).drewN _) id;have b:=heap_setCell_same (m.drewN (1+Q)) r 1 _ 221 (ae (M:Int)) l.aL;have i:=heap_setCell_same _ r 2 _ 221 (ae ((u-n:Nat):Int)) b;refine⟨_,_,_,rfl,⟨by rw[P.out];exact i,o,q,by rw[P.out];exact j,aa⟩,?_⟩;exact((X.drewN _).set (p:=ag r 1) l.aL rfl D _).set (p:=ag r 2) b rfl D _)
end
structure Wl where
 ep:Nat
 nx:Nat
 sure:Bool
 lg:Option (Nat × (Nat->Nat))
 bad:Nat
 N:Nat
 t:Nat
 u:Nat
def Gb(w:M)(p:Option SZ):Option (Nat × (Nat->Nat))->Prop
 |none=>p=none
 |some (c,f)=>∃g v,p=some ⟨g,0,none⟩/\w.heap[g]?=some (N #[.int .i64 (c:Nat),v] 385)/\cR w v 128 f
structure oK[Lo](w:M)(W r B J:Nat)(p:Option SZ)(x:Wl):Prop where
 aL:w.heap[W]? =some (al #[H B,Y J,bg x.ep,H r,bg x.nx,.bool x.sure,.pointer p,aG x.bad] 153)
 ring:ZZ w r x.N x.t x.u
 lg:Gb w p x.lg
 lo:Lo.lo<=W/\Lo.lo<=r
def bH[Lo](w:M)(W r B J:Nat)(x:Wl):Prop:=∃p,oK w W r B J p x
theorem Gb.fr[Lo]{l:Option (Nat × (Nat->Nat))}(h:Gb w P l)(a:Fr T aF w W)(b:T.contains 385=false)(d:T.contains 5=false):Gb W P l:=by
 match l,h with
 |none,h=>exact h
 |some (c,f),h=>obtain⟨g,v,rfl,e,i⟩:=h;exact⟨g,v,rfl,a.hp e b,i.fr a d⟩
theorem oK.fr[Lo]{x:Wl}(h:oK w n r m k P x)(a:Fr T aF w z)(b:T.contains 153=false)(c:T.contains 221=false)(d:T.contains 385=false)(e:T.contains 5=false):oK z n r m k P x:=
 ⟨a.hp h.aL b,h.ring.fr a c,h.lg.fr a d e,h.lo⟩
theorem bH.fr[Lo]{x:Wl}(h:bH w n r m k x)(a:Fr T aF w z)(b:T.contains 153=false)(c:T.contains 221=false)(d:T.contains 385=false)(e:T.contains 5=false):bH z n r m k x:=by obtain⟨p,h⟩:=h;exact⟨p,h.fr a b c d e⟩
theorem oK.cj[Lo]{x:Wl}(h:oK w n r m k P x)(a:Fr TB aF w z):oK z n r m k P x:=h.fr a rfl rfl rfl rfl
def fT:List Nat:= [100,106,108,142,217,219,1000000,153,221]
theorem Fr.bw[Lo](h:Fr TB aF w W):Fr fT aF w W:=h.wide fT rfl
theorem oK.break[Lo]{x:Wl}(h:oK w n r m k P x)(a:Nat):oK (w.setCell (R n 7) (aG a)) n r m k P {x with bad:=a}/\Fr fT aF w (w.setCell (R n 7) (aG a)):=by have b:Fr [153] aF w (w.setCell (R n 7) (aG a)):=(Fr.refl _ _ _).set (p:=R n 7) h.aL rfl h.lo.1 _;exact⟨⟨heap_setCell_same w n 7 _ 153 _ h.aL,h.ring.fr b rfl,h.lg.fr b rfl rfl,h.lo⟩,b.wide fT rfl⟩
def HV[Lo](W r B J:Nat)(x:Wl)(b:By)(a:Dv->Dv × Nat)(w:M)(e:RW)(c:M):Prop:=
 aK e (.int .u16 ((b.op J a).2:Nat))/\aC c B (b.op J a).1/\bH c W r B J {x with bad:=(b.op J a).2}/\Fr fT aF w c
theorem aC.I'[Lo](h:aC w n b)(a:a_ w p.block O)(c:TB.all (λt=> ![ty O].contains t)=true)(d:Lo.lo<=p.block)(u:QC):aC (w.setCell p u) n b:=
 h.fn (T:= [ty O]) ((Fr.refl _ _ _).set a aJ d u) c
theorem Gc[Lo](W r B J a j k l:Nat)(x:Wl)(b:By)(u:QC)(f:aQ)(w:QA)(i:bH w W r B J x)(h:aC w B b)(z:J<b.N)(n:cR w u 128 f)(A:∀v,b.dv J=some v->a<v.d.n/\v.d.cn<1000000000000)(o:a_ w j (al #[ar W] 112))(q:a_ w k (al #[Y a] 3))(s:a_ w l (al #[u] 41)):
  aE 148 #[ar j,ar k,ar l] w (zH B b J (aN a f) w):=by
 obtain⟨p,i⟩:=i;obtain⟨O,f0,P⟩:=cr i.aL;obtain⟨Q,f1,S⟩:=cr o;obtain⟨U,f2,V⟩:=cr q;obtain⟨X,f3,z3⟩:=cr s;have t:Fr TB aF w w.drew:=(Fr.refl _ _ _).drew;have C:=I (fo B J a u f b w.drew (h.fn (T:= []) ((Fr.refl _ _ _).drew) rfl) z (n.fn t) A);have d:=I t;obtain⟨D,E,rfl⟩:=n.form;have F:=I i.aL;have G:=I o;have K:=I q;have L:=I s;go_enter func148,ntmps148;go_wp2_with fail;go_region_held3(λg=>g.cell? (ag j 0)=some (ar W)/\g.cell? (ag W 0)=some (ar B)/\g.cell? (ag W 1)=some (Y J)/\g.cell? (ag k 0)=some (Y a)/\g.cell? (ag l 0)=some (.slice D 128 E)) ((simp[*,go_sem];done)) (first|(go_at_call 52;refine C.mono ?_;rintro e Z ⟨rfl,m,c⟩;obtain⟨H,-,-⟩:=cr ((d.tr c).hp F rfl);obtain⟨N,-,-⟩:=cr ((d.tr c).hp G rfl);obtain⟨M,-,-⟩:=cr ((d.tr c).hp K rfl);obtain⟨R,-,-⟩:=cr ((d.tr c).hp L rfl);have y:=aB m c))
 all_goals go_wp2
 all_goals go_ret
 all_goals(exact⟨rfl,y.1,d.tr y.2⟩)
theorem Ge[Lo](W r B J d:Nat)(x:Wl)(b:By)(w:M)(c:bH w W r B J x)(h:aC w B b)(l:J<b.N)(j:a_ w d (al #[H W] 112)):
  aE 209 #[H d] w (zH B b J bc w):=by
 obtain⟨p,c⟩:=c;obtain⟨s,f0,t⟩:=cr c.aL;obtain⟨u,f1,v⟩:=cr j;have m:Fr TB aF w w.drew:=(Fr.refl _ _ _).drew;have n:=I (gq B J b w.drew (h.fn (T:= []) ((Fr.refl _ _ _).drew) rfl) l);have f:=I m;have o:=I c.aL;have q:=I j;go_enter func209,ntmps209;go_wp2_with fail;go_region_held3(λg=>g.cell? (R d 0)=some (H W)/\g.cell? (R W 0)=some (H B)/\g.cell? (R W 1)=some (Y J)) ((simp[*,go_sem];done)) (first|(go_at_call 56;refine n.mono ?_;rintro e y ⟨rfl,i,a⟩;obtain⟨z,-,-⟩:=cr ((f.tr a).hp o rfl);obtain⟨A,-,-⟩:=cr ((f.tr a).hp q rfl);have k:=aB i a))
 all_goals go_wp2
 all_goals go_ret
 all_goals(exact⟨rfl,k.1,f.tr k.2⟩)
theorem bH.op[Lo]{x:Wl}{a:Dv->Dv × Nat}(d:bH w n r m k x)(h:aC z m (b.op k a).1)(f:Fr TB aF w z):
  ∃p,oK z n r m k p x/\HV n r m k x b a w (.returned (.int .u16 ((b.op k a).2:Nat))) (z.setCell (R n 7) (.int .u16 ((b.op k a).2:Nat)))/\(z.setCell (R n 7) (.int .u16 ((b.op k a).2:Nat))).cell? (R n 7)=some (.int .u16 ((b.op k a).2:Nat)):=by
 obtain⟨p,d⟩:=d;have c:=d.cj f;have e:=c.break (b.op k a).2;exact⟨p,c,⟨rfl,h.I' (p:=R n 7) c.aL rfl c.lo.1 _,⟨p,e.1⟩,f.bw.tr e.2⟩,(cr e.1.aL).1 7⟩
theorem Ja[Lo](W r B J a d g i:Nat)(x:Wl)(b:By)(u:QC)(f:aQ)(w:M)(c:bH w W r B J x)(h:aC w B b)(n:J<b.N)(o:cR w u 128 f)(q:∀v,b.dv J=some v->a<v.d.n/\v.d.cn<1000000000000)(s:x.bad=0)(t:a_ w d (al #[H W] 112))(y:a_ w g (al #[Y a] 3))(z:a_ w i (al #[u] 41)):
  aE 147 #[H W,.func (.func 148) #[] #[H d,H g,H i]] w (HV W r B J x b (aN a f) w):=by
 have A:=I (Gc W r B J a d g i x b u f w c h n o q t y z);have C:=I c;obtain⟨p,c⟩:=c;obtain⟨D,f0,K⟩:=cr c.aL;rw[s]at D;go_enter func147,ntmps147;go_wp2_with fail;refine A.mono ?_;rintro e L ⟨rfl,j,k⟩;obtain⟨O,E,F,G⟩:=C.op j k;obtain⟨P,f1,Q⟩:=cr E.aL;have l:=I F;obtain⟨S,m⟩:=ah ((b.op J (aN a f)).2);rw[m]at l G;rw[m];go_wp2;go_ret;exact l
theorem Jb[Lo](W r B J c:Nat)(x:Wl)(b:By)(w:M)(a:bH w W r B J x)(h:aC w B b)(j:J<b.N)(k:x.bad=0)(l:a_ w c (al #[H W] 112)):
  aE 147 #[H W,.func (.func 209) #[] #[H c]] w (HV W r B J x b bc w):=by
 have m:=I (Ge W r B J c x b w a h j l);have n:=I a;obtain⟨p,a⟩:=a;obtain⟨o,f0,u⟩:=cr a.aL;rw[k]at o;go_enter func147,ntmps147;go_wp2_with fail;refine m.mono ?_;rintro e v ⟨rfl,d,f⟩;obtain⟨y,q,s,t⟩:=n.op d f;obtain⟨z,f1,A⟩:=cr q.aL;have g:=I s;obtain⟨C,i⟩:=ah ((b.op J bc).2);rw[i]at g t;rw[i];go_wp2;go_ret;exact g
theorem kB[Lo](W r B J a:Nat)(x:Wl)(b:By)(u:QC)(f:aQ)(w:M)(o:bH w W r B J x)(h:aC w B b)(p:J<b.N)(m:cR w u 128 f)(q:∀v,b.dv J=some v->a<v.d.n/\v.d.cn<1000000000000)(s:x.bad=0):
  aE 85 #[H W,Y a,u] w (HV W r B J x b (aN a f) w):=by
 obtain⟨i,j,rfl⟩:=m.form;obtain⟨d,c⟩:=ah (((w.alloc (al #[H W] 112)).alloc (al #[Y a] 3)).alloc (al #[.slice i 128 j] 41));have g:au w d:=by rw[<-c];exact aI (aI (aI ak _) _) _
 have n:a_ d w.heap.size (al #[H W] 112):=by rw[<-c];exact(QW _ _ _ aR).trans (gb _ _ _)
 have t:a_ d (w.heap.size+1) (al #[Y a] 3):=by rw[<-c];exact(QW _ _ _ aJ).trans (fe _ _ _)
 have y:a_ d (w.heap.size+1+1) (al #[.slice i 128 j] 41):=by rw[<-c];have:=QB ((w.alloc (al #[H W] 112)).alloc (al #[Y a] 3)) (al #[.slice i 128 j] 41);rwa[SS,SS]at this
 have k:bH d W r B J x:=o.fr (T:= []) (Fr.af g) rfl rfl rfl rfl;have z:=I (Ja W r B J a _ _ _ x b _ f d k (h.below g) p (m.below g) q s n t y);have A:=I g;obtain⟨F,-,-⟩:=cr n;go_enter func85,ntmps85;go_wp2_with(first|(go_at_call 147;refine z.mono ?_;rintro e G ⟨rfl,C,D,E⟩;have l:=aM C D E));go_ret;exact⟨rfl,l.1,l.2.1,(Fr.af A).tr l.2.2⟩
theorem kC[Lo](W r B J:Nat)(x:Wl)(b:By)(w:M)(f:bH w W r B J x)(h:aC w B b)(g:J<b.N)(i:x.bad=0):
  aE 150 #[H W] w (HV W r B J x b bc w):=by
 have a:au w (w.alloc (al #[H W] 112)):=aI ak _;have j:=QB w (al #[H W] 112);have c:bH (w.alloc (al #[H W] 112)) W r B J x:=f.fr (T:= []) (Fr.af a) rfl rfl rfl rfl;have k:=I (Jb W r B J _ x b _ c (h.below a) g i j);have l:=I a;go_enter func150,ntmps150;go_wp2_with(first|(go_at_call 147;refine k.mono ?_;rintro e p ⟨rfl,m,n,o⟩;have d:=aM m n o));go_ret;exact⟨rfl,d.1,d.2.1,(Fr.af l).tr d.2.2⟩
theorem Cz[Lo](W r B J:Nat)(x:Wl)(w:M)(a:bH w W r B J x):aE 254 #[H W] w λe b=>aK e (Y x.N)/\w=b:=by obtain⟨p,a⟩:=a;obtain⟨d,f0,f⟩:=cr a.aL;have c:=I (mr r x.N x.t x.u w a.ring);go_enter func254,ntmps254;go_wp2_with(first|(go_at_call 299;refine c.mono ?_;rintro e g ⟨rfl,rfl⟩));go_ret;exact⟨rfl,rfl⟩
theorem CA[Lo](W r B J:Nat)(x:Wl)(w:M)(a:bH w W r B J x):aE 144 #[H W] w λe b=>aK e (Y x.u)/\w=b:=by obtain⟨p,a⟩:=a;obtain⟨d,f0,f⟩:=cr a.aL;have c:=I (qO r x.N x.t x.u w a.ring);go_enter func144,ntmps144;go_wp2_with(first|(go_at_call 204;refine c.mono ?_;rintro e g ⟨rfl,rfl⟩));go_ret;exact⟨rfl,rfl⟩
theorem CB[Lo](W r B J:Nat)(x:Wl)(w:M)(a:bH w W r B J x):aE 175 #[H W] w λe b=>aK e (.bool x.sure)/\w=b:=by obtain⟨p,a⟩:=a;obtain⟨c,f0,d⟩:=cr a.aL;go_enter func175,ntmps175;go_wp2;go_ret;exact⟨rfl,rfl⟩
theorem uj(n:Nat)(w:M)(b:5<=n)(c:n<=2048):aE 83 #[Y n] w λe a=>aK e ed/\w=a:=by have d1:decide (5<=(n:Int))=true:=aR;have d2:decide ((n:Int)<=2048)=true:=aR;go_enter func83,ntmps83;go_wp2;go_ret;exact⟨rfl,rfl⟩
def Wl.pl(x:Wl)(i:Nat):Nat:=2+((x.t+x.u)%x.N+i)%x.N
theorem qQ[Lo](W r B J i:Nat)(x:Wl)(b:By)(u:QC)(f:aQ)(w:QA)(z:bH w W r B J x)(h:aC w B b)(O:J<b.N)(D:cR w u 128 f)(a0:i<=4096)(P:∀v,b.dv J=some v->2+x.N<=v.d.n/\v.d.cn<1000000000000)(Q:x.bad=0):
  aE 304 #[ar W,ae i,u] w (HV W r B J x b (aN (x.pl i) f) w):=by
 obtain⟨p,a⟩:=z;have z:bH w W r B J x:=⟨p,a⟩;have m:=a.ring.lo;have n:=a.ring.hi;obtain⟨k0,f0,z0⟩:=cr a.aL;have o:∀v,b.dv J=some v->x.pl i<v.d.n/\v.d.cn<1000000000000:=λv R=>by have:=P v R;have:((x.t+x.u)%x.N+i)%x.N<x.N:=RT _ aa;unfold Wl.pl;omega
 have k:(x.t+x.u)%x.N<x.N:=RT _ aa;have d:((x.t+x.u)%x.N+i)%x.N<x.N:=RT _ aa;have j:=mu r x.N x.t x.u;have l:=mr r x.N x.t x.u;have c:x.pl i=2+((x.t+x.u)%x.N+i)%x.N:=rfl;have E:ZZ w r x.N x.t x.u:=a.ring;have s:=ad (λ(t:QA) (A:Fr [] aF w t)=>(kB W r B J (x.pl i) x b u f t (z.fr A rfl rfl rfl rfl) (h.fn A rfl) O (D.fr A rfl) o Q).mono (R':=HV W r B J x b (aN (x.pl i) f) w) λe T g=>⟨g.1,g.2.1,g.2.2.1,(A.wide fT rfl).tr g.2.2.2⟩);obtain⟨N,U⟩:=ah x.N;obtain⟨H,V⟩:=ah ((x.t+x.u)%N);rw[U]at j l m n k d c E;rw[V]at j k d c;obtain⟨M,C⟩:=ah ((H+i)%N);rw[C]at d c;have e1:QK.wrap ((H:Int)+i)=(H:Int)+i:=bj;have e2:((H:Int)+i).tmod N=(M:Nat):=by rw[UH aa,<-C];simp
 have e3:QK.wrap (2+(M:Int))=(2+M:Nat):=bj;have n3:¬N=0:=aa;have e5:((H:Int)+i)%N=(M:Nat):=by rw[<-C];simp
 have F:=ad j;have G:=ad l;have y:=ad E;have K:=ad c;rw[c]at s;obtain⟨a1,a2,rfl⟩:=D.form;clear a z h O D P Q o j l c U V C E m n k d;go_enter func304,ntmps304;go_wp2_with fail;go_region_held3(λT=>T.cell? (ag W 3)=some (ar r)) ((simp[*,go_sem];done)) (first|(go_at_call 277;refine(F _ (y.out.out (S:=λ_=>False) (by first|exact(Out.refl _ _).drew|exact(Out.refl _ _).drewN _|exact(Out.refl _ _).drew.drewN _) id)).mono ?_;rintro e t ⟨rfl,q,rfl⟩)|(go_at_call 299;refine(G _ (y.out.out (S:=λ_=>False) (by first|exact(Out.refl _ _).drew|exact(Out.refl _ _).drewN _|exact(Out.refl _ _).drew.drewN _) id)).mono ?_;rintro e t ⟨rfl,rfl⟩)|(go_at_call 85;refine(s _ (by first|exact(Fr.refl _ _ _).drew|exact(Fr.refl _ _ _).drewN _|exact(Fr.refl _ _ _).drew.drewN _)).mono ?_;rintro e t ⟨rfl,X,⟨I,L⟩,Z⟩;obtain⟨m0,-,-⟩:=cr L.aL;have Y:=aM X (show bH _ _ _ _ _ _ from⟨I,L⟩) Z;clear X L Z))
 all_goals go_wp2
 all_goals go_ret
 all_goals(
  rw[K.out];exact⟨rfl,Y⟩)
theorem By.fp(b:By)(k:Nat)(a:Dv->Dv × Nat):(b.op k a).1.N=b.N:=by
 unfold By.op;split
 .unfold By.off;split<;>rfl
 .split<;>rfl
def By.ck(b:By)(J:Nat)(f:aQ):By × Nat:=if(b.op J (aN 1 f)).2=0 then(b.op J (aN 1 f)).1.op J bc else b.op J (aN 1 f)
def hD[Lo](W r B J:Nat)(x:Wl)(b:By)(c:Nat)(w:M)(e:RW)(a:M):Prop:=
 aK e (aG c)/\aC a B b/\bH a W r B J x/\Fr fT aF w a
theorem hE(a b tail:Nat):Lt 128 (aX a b tail):=λk _=>jH (cI _) k
theorem CC[Lo](W r B J a d i:Nat)(x:Wl)(b:By)(w:QA)(T:bH w W r B J x)(h:aC w B b)(F:J<b.N)(U:cJ a d)(V:i<=2047)(G:∀v,b.dv J=some v->2+x.N<=v.d.n/\v.d.cn<1000000000000)(X:x.bad=0):
  aE 86 #[ar W,.agg #[.int .u64 a,.int .u64 d,ae i]] w (hD W r B J {x with bad:=(b.ck J (aX a d i)).2} (b.ck J (aX a d i)).1 (b.ck J (aX a d i)).2 w):=by
 have q:au w (w.alloc (al #[.int .u64 a,.int .u64 d,ae i] 156)):=aI ak _;have l:=ad q;have Z:=ad T;have H:=ad h;have m:=ad (mc a d i (w.alloc (al #[.int .u64 a,.int .u64 d,ae i] 156)) U V);obtain⟨f,N⟩:=ah (aX a d i);rw[N]at m|-;go_enter func86,ntmps86;go_wp2_with fail;refine m.mono ?_;rintro e K ⟨g,c,rfl,n,M⟩;have j:Fr [] aF w K:=Fr.af (l.trans (M.mono l.size));have s:=kB W r B J 1 x b _ f K (Z.fr j rfl rfl rfl rfl) (H.fn j rfl) F (fX n) (λv L=>⟨by have:=(G v L).1;omega,(G v L).2⟩) X;have o:=ad j;have t:=ad s;go_wp2_with fail;refine t.mono ?_;rintro e u ⟨rfl,O,P,Q⟩;obtain⟨E,y⟩:=ah ((b.op J (aN 1 f)).2);rw[y];by_cases p:E=0
 .have S:(b.op J (aN 1 f)).2=0:=y.trans p;subst p;have z:=kC W r B J _ _ u P O (by rw[By.fp];exact F) S;have A:=ad z;have C:QX (Fr fT aF w u):=(o.wide fT rfl).tr Q;have D:QX (b.ck J f=(b.op J (aN 1 f)).1.op J bc):=ao S;go_wp2_with fail;refine A.mono ?_;rintro e R ⟨rfl,I,Y,q3⟩;have k:QX (hD W r B J {x with bad:=(b.ck J f).2} (b.ck J f).1 (b.ck J f).2 w (.returned (.int .u16 (((b.op J (aN 1 f)).1.op J bc).2:Nat))) R):=by rw[D.out];exact⟨rfl,I,Y,C.tr q3⟩
  go_wp2;go_ret;exact k
 .have k:QX (hD W r B J {x with bad:=(b.ck J f).2} (b.ck J f).1 (b.ck J f).2 w (.returned (.int .u16 (E:Int))) u):=by
   have D:b.ck J f=b.op J (aN 1 f):=aq aa;rw[D];exact⟨by rw[y],O,P,(o.wide fT rfl).tr Q⟩
  have a0:(E:Int)≠0:=aa;go_wp2;go_ret;exact k
theorem zW[Lo](W r B J:Nat)(x:Wl)(w:M)(a:bH w W r B J x)(b:x.sure=true):aE 181 #[H W] w λe c=>aK e (aG 0)/\w=c:=by obtain⟨p,a⟩:=a;obtain⟨d,f0,f⟩:=cr a.aL;rw[b]at d;go_enter func181,ntmps181;go_wp2;go_ret;exact⟨rfl,rfl⟩
theorem CD[Lo](W r B J:Nat)(x:Wl)(b:By)(w:M)(d:bH w W r B J x)(h:aC w B b)(k:J<b.N)(l:x.bad=0)(m:x.sure=false):
  aE 181 #[H W] w (hD W r B J {x with bad:=(b.op J bc).2,sure:=(b.op J bc).2==0} (b.op J bc).1 (b.op J bc).2 w):=by
 have n:=I (kC W r B J x b w d h k l);obtain⟨p,d⟩:=d;obtain⟨o,f0,A⟩:=cr d.aL;rw[m]at o;go_enter func181,ntmps181;go_wp2_with fail;refine n.mono ?_;rintro e f ⟨rfl,s,⟨t,c⟩,u⟩;obtain⟨E,g⟩:=ah ((b.op J bc).2);have a:Fr [153] aF f (f.setCell (R W 5) (.bool (E==0))):=(Fr.refl _ _ _).set (p:=R W 5) c.aL rfl c.lo.1 _;have i:QX (hD W r B J {x with bad:=(b.op J bc).2,sure:=(b.op J bc).2==0} (b.op J bc).1 (b.op J bc).2 w (.returned (aG E)) (f.setCell (R W 5) (.bool (E==0)))):=by have j:=heap_setCell_same f W 5 _ 153 (.bool (E==0)) c.aL;rw[g]at c j|-;exact⟨rfl,s.fn a rfl,⟨t,j,c.ring.fr a rfl,c.lg.fr a rfl rfl,c.lo⟩,u.tr (a.wide fT rfl)⟩
 obtain⟨C,f1,D⟩:=cr c.aL;rw[g];have v:((E:Int)==0)=(E==0):=by
  by_cases h:E=0
  .subst h;rfl
  .have y:¬(E:Int)=0:=aa;rw[beq_eq_false_iff_ne.2 h,beq_eq_false_iff_ne.2 y]
 obtain⟨q,z⟩:=ah (E==0);rw[z]at i v;go_wp2;go_ret;exact i
def Wl.cy(x:Wl)(a:Nat):Wl:={x with ep:=a,lg:=none,t:=(x.t+x.u)%x.N,u:=0}
def Wl.qh(x:Wl)(b a:Nat):Wl:=if a=0 then x.cy b else{x with bad:=a}
theorem qR[Lo](W r B J d:Nat)(x:Wl)(b:By)(w:QA)(Q:bH w W r B J x)(h:aC w B b)(a2:J<b.N)(a3:cJ d x.nx)(a4:∀v,b.dv J=some v->2+x.N<=v.d.n/\v.d.cn<1000000000000)(T:x.bad=0)(h1:x.sure=true):
  aE 203 #[ar W,bg d] w (hD W r B J (x.qh d (b.ck J (aX d x.nx ((x.t+x.u)%x.N))).2) (b.ck J (aX d x.nx ((x.t+x.u)%x.N))).1 (b.ck J (aX d x.nx ((x.t+x.u)%x.N))).2 w):=by
 obtain⟨p,i⟩:=Q;have Q:bH w W r B J x:=⟨p,i⟩;have a8:=i.ring.lo;have a9:=i.ring.hi;have Z:(x.t+x.u)%x.N<x.N:=RT _ aa;obtain⟨k0,f0,z0⟩:=cr i.aL;rw[T,h1]at k0;have s:=ad (λ(m:QA) (A:Fr [] aF w m)=>(CC W r B J d x.nx ((x.t+x.u)%x.N) x b m (Q.fr A rfl rfl rfl rfl) (h.fn A rfl) a2 a3 aa a4 T).mono (R':=hD W r B J {x with bad:=(b.ck J (aX d x.nx ((x.t+x.u)%x.N))).2} (b.ck J (aX d x.nx ((x.t+x.u)%x.N))).1 (b.ck J (aX d x.nx ((x.t+x.u)%x.N))).2 w) λe k g=>⟨g.1,g.2.1,g.2.2.1,(A.wide fT rfl).tr g.2.2.2⟩);have N:=ad i.ring;have F:=ad (mu r x.N x.t x.u);obtain⟨H,M⟩:=ah ((x.t+x.u)%x.N);rw[M]at s F Z;have t:=ad M;have R:=ad T;clear i Q h a2 a3 a4 h1 M T;go_enter func203,ntmps203;go_wp2_with fail;go_region_held3(λk=>k.cell? (ag W 3)=some (ar r)/\k.cell? (ag W 4)=some (bg x.nx)) ((simp[*,go_sem];done)) (first|(go_at_call 277;refine(F _ (N.out.out (S:=λ_=>False) (by first|exact(Out.refl _ _).drew|exact(Out.refl _ _).drewN _|exact(Out.refl _ _).drew.drewN _) id)).mono ?_;rintro e m ⟨rfl,q,rfl⟩)|(go_at_call 86;refine(s _ (by first|exact(Fr.refl _ _ _).drew|exact(Fr.refl _ _ _).drewN _|exact(Fr.refl _ _ _).drew.drewN _)).mono ?_;rintro e m ⟨rfl,G,⟨p2,u⟩,g3⟩;obtain⟨m0,a5,b0⟩:=cr u.aL;have o:=aM G u g3;clear G u g3));have f:=ad o.2.1;have a6:QX (aX d x.nx H=aX d x.nx ((x.t+x.u)%x.N)):=by show _=_;rw[t.out]
 obtain⟨C,I⟩:=ah (aX d x.nx H);rw[I]at o f a6;rw[I];have K:QX (∀k U,U=(b.ck J C).2->hD W r B J (x.qh d (b.ck J C).2) (b.ck J C).1 (b.ck J C).2 w (.returned (aG U)) k->hD W r B J (x.qh d (b.ck J (aX d x.nx ((x.t+x.u)%x.N))).2) (b.ck J (aX d x.nx ((x.t+x.u)%x.N))).1 (b.ck J (aX d x.nx ((x.t+x.u)%x.N))).2 w (.returned (aG U)) k):=by intro k U _ g;rw[<-a6.out];exact g
 obtain⟨E,V⟩:=ah ((b.ck J C).2);rw[V];rw[V]at o f;have D:=ad V;obtain⟨k3,f3,z3⟩:=cr f.aL;clear V I m0 a5 s k0;by_cases Y:E=0
 .subst Y;have a0:=ad (λ(a7:QA) (A:Fr [] aF m a7)=>(Ga r x.N x.t x.u x.u a7 (f.ring.fr A rfl) f.lo.2 (QH _)).mono (R':=ui r x.N H 0 m) (by rintro e k ⟨a,n,c,rfl,q1,q2⟩;refine⟨a,n,c,rfl,?_,(A.wide TR rfl).tr q2⟩;rw[t.out,Nat.sub_self]at q1;exact q1));have a1:=ad (qO r x.N x.t x.u);have L:QX (ZZ m r x.N x.t x.u):=f.ring;go_wp2_with fail;go_region_held3(λk=>k.cell? (ag W 3)=some (ar r)) ((simp[*,go_sem];done)) (first|(go_at_call 204;refine(a1 _ (L.out.out (S:=λ_=>False) (by first|exact(Out.refl _ _).drew|exact(Out.refl _ _).drewN _|exact(Out.refl _ _).drew.drewN _) id)).mono ?_;rintro e O ⟨rfl,rfl⟩)|(go_at_call 278;refine(a0 _ (by first|exact(Fr.refl _ _ _).drew|exact(Fr.refl _ _ _).drewN _|exact(Fr.refl _ _ _).drew.drewN _)).mono ?_;rintro e O ⟨b1,b2,b3,rfl,G,u⟩;obtain⟨m0,a5,b0⟩:=cr (u.hp f.aL rfl);have X:=aB G u;clear G u));have j:=X.2.hp f.aL rfl;have y:=heap_setCell_same O W 2 _ 153 (bg d) j;have P:=heap_setCell_same _ W 6 _ 153 (.pointer none) y;have l:Fr [153] aF O ((O.setCell (ag W 2) (bg d)).setCell (ag W 6) (.pointer none)):=((Fr.refl _ _ _).set (p:=ag W 2) j rfl f.lo.1 _).set (p:=ag W 6) y rfl f.lo.1 _;have z:QX (hD W r B J (x.qh d (b.ck J C).2) (b.ck J C).1 (b.ck J C).2 w (.returned (aG 0)) ((O.setCell (ag W 2) (bg d)).setCell (ag W 6) (.pointer none))):=by
   have e1:x.qh d (b.ck J C).2=x.cy d:=by rw[D.out];rfl
   rw[e1];refine⟨by rw[D.out];rfl,(o.1.fn X.2 rfl).fn l rfl,⟨none,?_,?_,rfl,f.lo⟩,o.2.2.tr ((X.2.wide fT rfl).tr (l.wide fT rfl))⟩
   .have:x.bad=0:=R.out;rw[P];simp[Wl.cy,this]
   .have:=X.1.fr l rfl;rw[<-t.out]at this;exact this
  clear j y P l;go_wp2;go_ret;exact K.out _ 0 D.symm z
 .have z:QX (hD W r B J (x.qh d (b.ck J C).2) (b.ck J C).1 (b.ck J C).2 w (.returned (aG E)) m):=by
   have e1:x.qh d (b.ck J C).2={x with bad:=E}:=by rw[D.out];exact aq Y
   rw[e1];exact⟨by rw[D.out],o.1,⟨_,o.2.1⟩,o.2.2⟩
  have b4:(E:Int)≠0:=aa;clear Y;go_wp2;go_ret;exact K.out _ _ D.symm z
theorem uk[Lo](W r B J:Nat)(x:Wl)(b:By)(w:M)(a:bH w W r B J x)(h:aC w B b)(c:J<b.N)(d:cJ x.ep x.nx)(f:∀v,b.dv J=some v->2+x.N<=v.d.n/\v.d.cn<1000000000000)(i:x.bad=0)(j:x.sure=true):
  aE 179 #[H W] w (hD W r B J (x.qh x.ep (b.ck J (aX x.ep x.nx ((x.t+x.u)%x.N))).2) (b.ck J (aX x.ep x.nx ((x.t+x.u)%x.N))).1 (b.ck J (aX x.ep x.nx ((x.t+x.u)%x.N))).2 w):=by
 have k:=I (qR W r B J x.ep x b w a h c d f i j);obtain⟨p,a⟩:=a;obtain⟨m,f0,n⟩:=cr a.aL;go_enter func179,ntmps179;go_wp2_with fail;refine k.mono ?_;rintro e o ⟨rfl,g⟩;have l:=I g;go_wp2;go_ret;exact⟨rfl,l⟩
theorem zX[Lo](W r B J:Nat)(x:Wl)(b:By)(w:M)(a:bH w W r B J x)(h:aC w B b)(d:J<b.N)(c:cJ (x.ep+1) x.nx)(f:∀v,b.dv J=some v->2+x.N<=v.d.n/\v.d.cn<1000000000000)(i:x.bad=0)(j:x.sure=true):
  aE 139 #[H W] w (hD W r B J (x.qh (x.ep+1) (b.ck J (aX (x.ep+1) x.nx ((x.t+x.u)%x.N))).2) (b.ck J (aX (x.ep+1) x.nx ((x.t+x.u)%x.N))).1 (b.ck J (aX (x.ep+1) x.nx ((x.t+x.u)%x.N))).2 w):=by
 have k:=I (qR W r B J (x.ep+1) x b w a h d c f i j);obtain⟨p,a⟩:=a;obtain⟨n,f0,o⟩:=cr a.aL;have l:=c.1;have q:VN.wrap ((x.ep:Int)+1)=(x.ep+1:Nat):=bj;go_enter func139,ntmps139;go_wp2_with fail;refine k.mono ?_;rintro e s ⟨rfl,g⟩;have m:=I g;go_wp2;go_ret;exact⟨rfl,m⟩
def By.dr(b:By)(J:Nat)(pl:aQ)(sf:dp):Nat->By × Nat
 |0=>(b,0)
 |n+1=>if(b.dr J pl sf n).2=0 then(b.dr J pl sf n).1.op J (aN (pl n) (sf n))else b.dr J pl sf n
theorem By.ke(b:By)(J:Nat)(a:aQ)(c:dp):∀n,(b.dr J a c n).1.N=b.N
 |0=>rfl
 |n+1=>by
  unfold By.dr;split
  .rw [By.fp,By.ke]
  .exact By.ke b J a c n
theorem By.iz{act:Dv->Dv × Nat}(h:∀U:Dv,(act U).1.d.n=U.d.n/\(act U).1.d.cn<=U.d.cn+m)(a:(b.op n act).1.dv n=some U):∃c,b.dv n=some c/\U.d.n=c.d.n/\U.d.cn<=c.d.cn+m:=by
 unfold By.op at a;split at a
 .refine ⟨U,?_,rfl,Nat.le_add_right _ _⟩;unfold By.off at a;split at a<;>exact a
 .split at a
  .rename_i d;exact absurd (d.symm.trans a) aJ
  .rename_i c d;have e:U=(act c.use).1:=by simpa[By.put]using a.symm
   subst e;exact⟨c,d,(h _).1.trans (Dv.Ch c),QE (h _).2 (Nat.add_le_add_right (Dv.Ci c) m)⟩
theorem ey(a:Nat)(f:aQ)(v:Dv):(aN a f v).1.d.n=v.d.n/\(aN a f v).1.d.cn<=v.d.cn+1:=by
 unfold aN;split
 .exact ⟨rfl,US _⟩
 .exact ⟨rfl,QH _⟩
theorem dW(v:Dv):(bc v).1.d.n=v.d.n/\(bc v).1.d.cn<=v.d.cn+0:=by
 unfold bc;split
 .exact ⟨rfl,QH _⟩
 .exact ⟨rfl,QN _⟩
theorem By.gr(b:By)(J:Nat)(d:aQ)(e:dp):∀(n:Nat) (v:Dv),(b.dr J d e n).1.dv J=some v->∃a,b.dv J=some a/\v.d.n=a.d.n/\v.d.cn<=a.d.cn+n
 |0,v,c=>⟨v,c,rfl,QH _⟩
 |n+1,v,c=>by
  unfold By.dr at c;split at c
  .obtain ⟨h,i,j,l⟩:=By.iz (ey (d n) (e n)) c;obtain⟨a,f,g,k⟩:=By.gr b J d e n h i;exact⟨a,f,j.trans g,aa⟩
  .obtain ⟨a,f,g,k⟩:=By.gr b J d e n v c;exact⟨a,f,g,aa⟩
theorem By.CE(h:¬(b.dr m f F k).2=0):∀n,k<=n->b.dr m f F n=b.dr m f F k:=by
 intro n c;induction n with
 |zero=>obtain rfl:k=0:=J;rfl
 |succ n a=>
  by_cases e:k=n+1
  .rw [e]
  .have:=a J;rw[By.dr,this,aq h]
def By.iE(b:By)(J:Nat)(a:aQ)(c:dp)(n:Nat):By × Nat:=if(b.dr J a c n).2=0 then(b.dr J a c n).1.op J bc else b.dr J a c n
def Wl.cM(x:Wl)(c:Nat)(f:aQ)(a:Nat):Wl:=if a=0 then{x with sure:=true,lg:=some (c,f),bad:=0}else{x with bad:=a}
theorem Wl.same{x:Wl}(h:x.bad=0):{x with bad:=0}=x:=by cases x;cases h;rfl
theorem gp.eG(h:gp X w v f):cR w v 128 f:=by obtain⟨b,o,e,rfl,i,j,h,a,c,d⟩:=h;exact⟨_,_,rfl,.inr ⟨b,o,a,c,rfl,d,λk g=>by rw[<-QT w b (o+k) a 5 c d];exact h k g⟩⟩
structure Jc[Lo](W r B J:Nat)(p:Option SZ)(x:Wl)(b:By)(pl:aQ)(sf:dp)(w:M)(k:Nat)(wr:M):Prop where
 cj:aC wr B (b.dr J pl sf k).1
 kf:bH wr W r B J x
 bV:Fr fT aF w wr
 ok:(b.dr J pl sf k).2=0
theorem Gf[Lo](X:Nat->Prop)(W r B J:Nat)(x:Wl)(b:By)(v:QC)(P:bX)(w:QA)(a7:bH w W r B J x)(h:aC w B b)(c7:J<b.N)(a5:rZ X w v P)(d4:P.ok)(a8:1<=P.N)(d5:P.N<=1023)(a9:cJ x.ep x.nx)(d6:∀v,b.dv J=some v->2+x.N<=v.d.n/\v.d.cn+10000<1000000000000)(h0:x.bad=0)(F:2*P.N+1<=x.N-x.u):
  aE 256 #[ar W,v] w (hD W r B J (x.cM (2*P.N+1) (bp x.ep x.nx P (2*P.N)) (b.iE J x.pl (bp x.ep x.nx P) (2*P.N)).2) (b.iE J x.pl (bp x.ep x.nx P) (2*P.N)).1 (b.iE J x.pl (bp x.ep x.nx P) (2*P.N)).2 w):=by
 obtain⟨p,y⟩:=a7;have a7:bH w W r B J x:=⟨p,y⟩;have d7:=y.ring.u;obtain⟨k0,f0,z0⟩:=cr y.aL;rw[h0]at k0;have Z:=ad (λ(Q:QA) (S:au w Q)=>(tO X x.ep x.nx v P Q (a5.cS S) d4 a8 d5 a9).mono (R':=λe U=>∃H z,aK e (.tuple #[H,aG 0])/\i_ w.heap.size (λ_=>False) U H (2*P.N+1) z (bp x.ep x.nx P)/\au w U) (by rintro e U ⟨H,z,rfl,m,f⟩;exact⟨H,z,rfl,m.mono S.size (λ_ h=>h),S.trans (f.mono S.size)⟩));have d8:=ad a7;have d9:=ad h;have e0:=ad d6;have N:=ad y.ring;have G:=ad h0;obtain⟨pv,f2,f3,rfl,-⟩:=a5;obtain⟨d,M⟩:=ah (bp x.ep x.nx P);obtain⟨L,b0⟩:=ah (2*P.N);rw[M,b0]at Z;rw[b0]at F;have e1:L<=2046:=aa;rw[M,b0];go_enter func256,ntmps256;go_wp2_with fail;go_region_held3(λU=>U.cell? (ag W 2)=some (bg x.ep)/\U.cell? (ag W 4)=some (bg x.nx)) ((simp[*,go_sem];done)) (first|(go_at_call 302;refine(Z _ (by first|exact aV ak|exact cE ak _)).mono ?_;rintro e Q ⟨H,z,rfl,m,f⟩;obtain⟨m0,f4,f5⟩:=kp f W z0;obtain⟨e2,b1,rfl,-⟩:=av m.own;have b2:=aB m f));have A:=b2.1;obtain⟨g,rfl⟩:∃g,e2=some (ag g 0):=by obtain⟨a,c,e,S⟩:=av A.own;cases e;exact S.resolve_left aa
 have c8:L+1<=b1:=by
  rcases A.own.2 with⟨e,_⟩|⟨f6,e3,e4,e,_,_,e5,_⟩
  .cases e
  .cases e;exact e5
 have j:Fr [] aF w Q:=Fr.af b2.2;have b3:=d8.fr j rfl rfl rfl rfl;have b4:=ad b3;have b5:=ad (d9.fn j rfl);have K:=ad (j.wide fT rfl);have b6:=ad (mr r x.N x.t x.u Q (N.fr j rfl));have b7:=ad (qN r x.N x.t x.u Q (N.fr j rfl));have d1:decide ((x.N:Int)<(L:Int)+1)=false:=aR;have d2:decide (((x.N-x.u:Nat):Int)<(L:Int)+1)=false:=aR;have i1:(L:Int)<=(b1:Int):=aa;have i2:(L:Int)+1<=(b1:Int):=aa;have i3:(0:Int)<=(L:Int):=aa;go_wp2_with(first|(go_at_call 299;refine b6.mono ?_;rintro e R ⟨rfl,rfl⟩)|(go_at_call 303;refine b7.mono ?_;rintro e R ⟨rfl,q,rfl⟩));have b8:QX (Jc W r B J p x b x.pl d R 0 (R.drewN q)):=⟨b5.fn (T:= []) ((Fr.refl _ _ _).drewN q) rfl,b4.fr (T:= []) ((Fr.refl _ _ _).drewN q) rfl rfl rfl rfl,(Fr.refl _ _ _).drewN q,rfl⟩;have b9:=ad b2.1;go_loopw [64] (λi wr=>∃k:Nat,i= ae k/\k<=L/\QX (Jc W r B J p x b x.pl d R k wr)) (λi _=>L-(intOf i).toNat)
 case atStart=>exact⟨0,rfl,QN _,b8⟩
 case round=>
  obtain⟨k,rfl,e6,n⟩:=hrel;have C:=n.bV.own b9.own rfl (λ_ _ h=>h);obtain⟨p2,c0⟩:=n.kf;obtain⟨k1,f1,z1⟩:=cr c0.aL;by_cases I:k<L
  .have a9:=(bz C (k:=k) (u:=z k) (by rw[cd _ _ _ aa])).1;have Y:cR wr (z k) 128 (d k):=(b9.sec k aa).eG.fr n.bV rfl;have a0:=qQ W r B J k x (b.dr J x.pl d k).1 (z k) (d k) wr n.kf n.cj (by rw[By.ke];exact c7) Y aa (λv a5=>by obtain⟨v0,m,f,D⟩:=By.gr b J x.pl d k v a5;have:=e0.out v0 m;exact⟨aa,aa⟩) G;have e7:b.dr J x.pl d (k+1)=(b.dr J x.pl d k).1.op J (aN (x.pl k) (d k)):=by rw[By.dr,ao n.ok]
   obtain⟨a1,a2,a6⟩:=Y.form;rw[a6]at a9 a0;have c9:=ad e7;have c1:=ad a0;have d0:(k:Int)<(L:Int):=aa;go_wp2_with fail;refine c1.mono ?_;rintro e l ⟨rfl,m,f,D⟩;rw[<-c9.out]at m f;rw[<-c9.out];obtain⟨E,o⟩:=ah ((b.dr J x.pl d (k+1)).2);rw[o];by_cases V:E=0
   .subst V;have c2:QX (Jc W r B J p x b x.pl d R (k+1) l):=⟨m,by rw[o,Wl.same G.out]at f;exact f,n.bV.tr D,o⟩;go_wp2;refine⟨⟨k+1,by go_num,I,c2⟩,by simp[intOf];omega⟩
   .have e8:b.iE J x.pl d L=b.dr J x.pl d (k+1):=by
     have h1:¬(b.dr J x.pl d (k+1)).2=0:=by rw[o];exact V
     have h2:=By.CE h1 L I;unfold By.iE;rw[h2,aq h1]
    have s:QX (hD W r B J (x.cM (L+1) (d L) (b.iE J x.pl d L).2) (b.iE J x.pl d L).1 (b.iE J x.pl d L).2 w (.returned (aG E)) l):=by rw[e8];refine⟨by rw[o],m,?_,K.tr (n.bV.tr D)⟩;unfold Wl.cM;rw[o,aq V];rw[o]at f;exact f
    have e9:(E:Int)≠0:=aa;go_wp2;go_ret;exact s
  .obtain rfl:k=L:=aa;have c3:=kC W r B J x (b.dr J x.pl d k).1 wr n.kf n.cj (by rw[By.ke];exact c7) G;have c4:=ad c3;have d3:QX (b.iE J x.pl d k=(b.dr J x.pl d k).1.op J bc):=ao n.ok;have a3:=ad C;go_wp2_with fail;refine c4.mono ?_;rintro e l ⟨rfl,m,f,D⟩;rw[<-d3.out]at m f;rw[<-d3.out];obtain⟨E,o⟩:=ah ((b.iE J x.pl d k).2);rw[o];by_cases V:E=0
   .subst V;have O:=D.own a3 rfl (λ_ _ h=>h);have c5:=(bz O (k:=k) (u:=z k) (by rw[cd _ _ _ aa])).1;have t:cR l (z k) 128 (d k):=((b9.sec k aa).eG.fr n.bV rfl).fr D rfl;obtain⟨a1,a2,a6⟩:=t.form;rw[a6]at c5;obtain⟨p3,f⟩:=f;obtain⟨k1,f1,z1⟩:=cr f.aL;have a4:=heap_setCell_same l W 5 _ 153 ed f.aL;have c6:=heap_setCell_same _ W 6 _ 153 (ar l.heap.size) a4;have j:Fr [153] aF l (((l.setCell (ag W 5) ed).setCell (ag W 6) (ar l.heap.size)).alloc (al #[ae ((k+1:Nat):Int),.slice a1 128 a2] 385)):=(((Fr.refl _ _ _).set (p:=ag W 5) f.aL rfl f.lo.1 _).set (p:=ag W 6) a4 rfl f.lo.1 _).alloc _;have s:QX (hD W r B J (x.cM (k+1) (d k) (b.iE J x.pl d k).2) (b.iE J x.pl d k).1 (b.iE J x.pl d k).2 w (.returned (aG 0)) (((l.setCell (ag W 5) ed).setCell (ag W 6) (ar l.heap.size)).alloc (al #[ae ((k+1:Nat):Int),.slice a1 128 a2] 385))):=by
     rw[o];refine⟨rfl,m.fn j rfl,⟨some (ag l.heap.size 0),?_,f.ring.fr j rfl,⟨l.heap.size,.slice a1 128 a2,rfl,?_,by rw[a6]at t;exact t.fr j rfl⟩,f.lo⟩,K.tr ((n.bV.tr D).tr (j.wide fT rfl))⟩
     .refine (QW _ _ _ (by simp only[RS];exact z1)).trans (c6.trans ?_);rw[o];rfl
     .have:=QB ((l.setCell (ag W 5) ed).setCell (ag W 6) (ar l.heap.size)) (al #[ae ((k+1:Nat):Int),.slice a1 128 a2] 385);simp only[RS]at this;exact this
    have i4:(k:Int)<(k:Int)+1:=aa;go_wp2;go_ret;exact s
   .have s:QX (hD W r B J (x.cM (k+1) (d k) (b.iE J x.pl d k).2) (b.iE J x.pl d k).1 (b.iE J x.pl d k).2 w (.returned (aG E)) l):=by
     refine⟨by rw[o],m,?_,K.tr (n.bV.tr D)⟩;unfold Wl.cM;rw[o,aq V];rw[o]at f;exact f
    have e9:(E:Int)≠0:=aa;go_wp2;go_ret;exact s
def Wl.fresh(N a:Nat):Wl:=⟨a,1,true,none,0,N,0,0⟩
def Lx[Lo](_ B J N c:Nat)(b:By)(w:M)(e:RW)(a:M):Prop:=
 ∃W r,aK e (.tuple #[H W,aG 0])/\aC a B b/\bH a W r B J (Wl.fresh N c)/\Fr fT aF w a/\w.heap.size<=W/\w.heap.size<=r
theorem nU(w:M)(n:Nat)(h:n<=1000000):(TC 41 (Y (n:Int)) (Y (n:Int))).run prog w=.ok (a' w.heap.size n n) (w.alloc (N (cB n λ_=>0) 5)):=by
 obtain⟨d,f,a,b,c⟩:=SD kb;have:=run_make (P:=prog) w 41 5 d (.int .u8 0) UL f a .i64 .i64 n n J J (by rw[c];omega) J;rw[this,b,TZ];show YT _ (w.alloc (N (TQ #[.int .u8 0] n) 5))=_;have e:TQ #[.int .u8 0] n=cB n λ_=>0:=by
  apply Array.ext
  .simp [TQ,cB]
  .intro i g j;have:i%1=0:=YF i;simp[TQ,cB,this]
 rw[e];rfl
theorem qS(w:M)(n:Nat)(f:aQ):cR (w.alloc (N (cB n f) 5)) (a' w.heap.size n n) n f:=
 ⟨_,_,rfl,.inr ⟨w.heap.size,0,_,_,rfl,QB _ _,λk a=>by rw[RH];exact eu _ _ _ a⟩⟩
structure Jd[Lo](W r B J N ep:Nat)(b:By)(w:M)(k:Nat)(wr:M):Prop where
 cj:aC wr B (b.dr J (fun p=>2+p) (fun _ _=>0) k).1
 kf:bH wr W r B J (Wl.fresh N ep)
 bV:Fr fT aF w wr
theorem zY[Lo](B J N a:Nat)(b:By)(w:QA)(h:aC w B b)(A:Lo.lo<=w.heap.size)(Y:J<b.N)(h5:5<=N)(d:N<=2048)(C:a<=4611686018427387904)(a5:∀v,b.dv J=some v->2+N<=v.d.n/\v.d.cn+10000<1000000000000)(D:∀k,k<=N->(b.dr J (λp=>2+p) (λ_ _=>0) k).2=0)(c:((b.dr J (λp=>2+p) (λ_ _=>0) N).1.ck J (aX a 1 0)).2=0):
  aE 53 #[ar B,ae J,ae N,.int .u64 a] w (Lx 0 B J N a ((b.dr J (λp=>2+p) (λ_ _=>0) N).1.ck J (aX a 1 0)).1 w):=by
 have E:=ad (uj N w h5 d);have F:=ad (uh N 0 0 w h5 d aa aa);have d1:decide (4611686018427387904<(a:Int))=false:=aR;have a9:∀w,(TC 41 (ae 128) (ae 128)).run prog w=.ok (a' w.heap.size 128 128) (w.alloc (al (cB 128 λ_=>0) 5)):=λw=>nU w 128 aa;have a6:=ad h;have a0:=ad a5;have n:=ad D;have q:=ad c;have G:=ad C;go_enter func53,ntmps53;go_wp2_with(first|(go_at_call 83;refine E.mono ?_;rintro e l ⟨rfl,rfl⟩)|(go_at_call 84;refine F.mono ?_;rintro e l ⟨rfl,f,g⟩;have K:=aB f g));obtain⟨z,c⟩:=ah (l.alloc (al #[ar B,ae J,bg a,ar w.heap.size,.int .u64 1,.bool true,.pointer none,aG 0] 153));have s:au w z:=by rw[<-c];exact aI K.2 _
 have L:a_ z l.heap.size (al #[ar B,ae J,bg a,ar w.heap.size,.int .u64 1,.bool true,.pointer none,aG 0] 153):=by rw[<-c];exact QB _ _
 have j:ZZ z w.heap.size N 0 0:=by rw[<-c];exact K.1.cS (aI ak _)
 have a1:w.heap.size<=l.heap.size:=K.2.size;have t:QX (Jd l.heap.size w.heap.size B J N a b w 0 z):=⟨a6.below s,⟨none,L,j,rfl,aa,A⟩,Fr.af s⟩;rw[c];obtain⟨W,a2⟩:=ah l.heap.size;obtain⟨r,O⟩:=ah w.heap.size;have P:r<=W:=aa;have u:=ad O;rw[a2,O]at t;rw[a2,O];go_loopw [38] (λi wr=>∃k:Nat,i= ae k/\k<=N/\QX (Jd W r B J N a b w k wr)) (λi _=>N-(intOf i).toNat)
 case atStart=>exact⟨0,rfl,QN _,t⟩
 case round=>
  obtain⟨k,rfl,Q,m⟩:=hrel;by_cases x:k<N
  .have a7:=λo=>(Fr.refl fT aF wr).alloc o;have S:=kB W r B J (2+k) (Wl.fresh N a) (b.dr J (λp=>2+p) (λ_ _=>0) k).1 (a' wr.heap.size 128 128) (λ_=>0) (wr.alloc (al (cB 128 λ_=>0) 5)) (m.kf.fr (T:= []) ((Fr.refl _ _ _).alloc _) rfl rfl rfl rfl) (m.cj.fn (T:= []) ((Fr.refl _ _ _).alloc _) rfl) (by rw[By.ke];exact Y) (qS _ _ _) (λv U=>by obtain⟨V,f,g,y⟩:=By.gr b J _ _ k v U;have:=a0.out V f;exact⟨aa,aa⟩) rfl;have X:=ad S;have a3:QX (b.dr J (λp=>2+p) (λ_ _=>0) (k+1)=(b.dr J (λp=>2+p) (λ_ _=>0) k).1.op J (aN (2+k) λ_=>0)):=by show _=_;rw[By.dr,ao (n.out k Q)]
   have e1:QK.wrap (2+(k:Int))=(2+k:Nat):=bj;have a4:(k:Int)<(N:Int):=aa;go_wp2_with fail;refine X.mono ?_;rintro e Z ⟨rfl,f,g,y⟩;have H:=n.out (k+1) x;rw[a3.out]at H;rw[H]at g;rw[H];rw[<-a3.out]at f;have M:QX (Jd W r B J N a b w (k+1) Z):=⟨f,g,m.bV.tr (((Fr.refl _ _ _).alloc _).tr y)⟩;go_wp2;refine⟨⟨k+1,by go_num,x,M⟩,by simp[intOf];omega⟩
  .obtain rfl:k=N:=aa;have R:=CC W r B J a 1 0 (Wl.fresh k a) (b.dr J (λp=>2+p) (λ_ _=>0) k).1 wr m.kf m.cj (by rw[By.ke];exact Y) ⟨G,aa,aa⟩ aa (λv U=>by obtain⟨V,f,g,y⟩:=By.gr b J _ _ k v U;have:=a0.out V f;exact⟨by show 2+k<=_;omega,aa⟩) rfl;have I:=ad R;go_wp2_with fail;refine I.mono ?_;rintro e Z ⟨rfl,f,g,y⟩;rw[q.out]at g;rw[q.out];have a8:QX (Lx 0 B J k a ((b.dr J (λp=>2+p) (λ_ _=>0) k).1.ck J (aX a 1 0)).1 w (.returned (.tuple #[ar W,aG 0])) Z):=⟨W,r,rfl,f,g,m.bV.tr y,by rw[u.out];exact P,by rw[u.out];exact QH _⟩;go_wp2;go_ret2;exact a8
theorem Je(a b:Nat)(e:a<256)(f:b<256):bits .xor .u8 (a:Int) (b:Int)=((a^^^b:Nat):Int):=by
 have g:a^^^b<2^8:=XT J J;have c:(UJ 8 (a:Int)).toNat=a:=by rw[WW,XL];exact SA J
 have d:(UJ 8 (b:Int)).toNat=b:=by rw[WW,XL];exact SA J
 show ZC.wrap ((UJ 8 (a:Int)^^^UJ 8 (b:Int)).toNat:Int)=_;rw[BitVec.toNat_xor,c,d,IntKind.wrap_u8];omega
structure jd(w:M)(sb g L:Nat)(f:aQ)(many:Nat):Prop where
 ne:sb≠g
 hs:w.heap[sb]? =some (N #[a' g L L,Y many] 442)
 hg:w.heap[g]? =some (N (cB L f) 5)
 lt:∀k,k<L->f k<256
theorem jd.cS(h:jd w n m k f i)(a:au w W):jd W n m k f i:=
 ⟨h.ne,(a.block _ (cr h.hs).2.2).trans h.hs,(a.block _ (cr h.hg).2.2).trans h.hg,h.lt⟩
def xo(f h:aQ)(k:Nat):Nat:=f k^^^h k
theorem HW(a:m<256)(b:k<256):m^^^k<256:=XT (n:=8) J J
def um(w:M)(v:QC)(n:Nat)(h:aQ)(d g:Nat):Prop:=
 (∀k,k<n->h k<256)/\∃a c,v=.slice a n c/\(n=0\/∃b o,a=some (R b o)/\b≠d/\b≠g/\∀k,k<n->w.cell? ⟨b,o+k,none⟩=some (.int .u8 (h k)))
theorem wM(v:QC)(h:aQ)(q g L:Nat)(f:aQ)(d:Nat)(w:M)(u:jd w q g L f d)(y:um w v L h q g)(O:L<=200000)(P:d<=200000):
  aE 321 #[H q,v] w λe D=>aK e (aG 0)/\jd D q g L (xo f h) (d+1)/\Out (λk=>k=q\/k=g) w D:=by
 obtain⟨c,a,G,rfl,y⟩:=y;obtain⟨Q,f0,S⟩:=cr u.hs;have s:=I u;have K:=I y;have z:=I c;have l:=u.ne;clear u y c;have T:((L:Int) !=(L:Int))=false:=aJ;go_enter func321,ntmps321;go_wp2;go_loopw [17] (λr wr=>∃k:Nat,k<=L/\r= Y k/\jd wr q g L (λi=>if i<k then f i^^^h i else f i) d/\Out (λk=>k=q\/k=g) w wr) (λr _=>L-(intOf r).toNat)
 case atStart=>exact⟨0,J,rfl,by simpa using s.out,Out.refl _ _⟩
 case round=>
  obtain⟨k,U,rfl,j,t⟩:=hrel;obtain⟨V,f1,W⟩:=cr j.hs;have m:=I j;by_cases c:k<L
  .rcases K.out with X|⟨b,o,rfl,A,B,E⟩
   .omega
   have d1:=t.cell (E k c) (λe=>e.elim A B);have d2:=(cr j.hg).1 k;rw[eu _ _ _ c,aq (TO k)]at d2;have d3:=(cr j.hg).2.1 k;have n:=Je (f k) (h k) (s.lt k c) (z k c);have C:=I t;clear j t E;go_wp2;go_roundw
   case rel=>
    refine⟨k+1,J,by go_num,⟨l,?_,?_,?_⟩,C.setCell (p:=R g k) (λ_=>.inr rfl) _⟩
    .rw [RN _ _ _ _ (by simpa using l)];exact m.hs
    .refine (heap_setCell_same _ _ _ _ _ _ m.hg).trans ?_;rw[tv];congr 2;refine kq _ _ _ (λx _=>?_);by_cases e:x=k
     .subst e;rw[ao rfl,ao J]
     .rw [aq e];by_cases F:x<k
      .rw [ao F,ao J]
      .rw [aq F,aq J]
    .intro x n;show(if x<k+1 then f x^^^h x else f x)<256;split
     .exact HW (s.lt x n) (z x n)
     .exact s.lt x n
   case measure=>simp[intOf];omega
  .obtain rfl:k=L:=J;have C:=I t;clear j t;go_wp2;go_ret;refine⟨rfl,⟨l,?_,?_,?_⟩,C.setCell (p:=R q 1) (λ_=>.inl rfl) _⟩
   .refine (heap_setCell_same _ _ _ _ _ _ m.hs).trans ?_;simp
   .rw [RN _ _ _ _ (by simpa usingλe=>l e.symm)];refine m.hg.trans ?_;congr 2;exact kq _ _ _ (λx n=>by rw[ao n];rfl)
   .intro x n;exact HW (s.lt x n) (z x n)
theorem qT(d g L:Nat)(f:aQ)(a:Nat)(w:M)(h:jd w d g L f a)(n:L<=200000):
  aE 322 #[H d] w (rY L f w):=by
 obtain⟨o,f0,p⟩:=cr h.hs;have i:=I (cr h.hg).1;go_enter func322,ntmps322;go_wp2_with fail;refine(eF g 0 L L f _ (λk j=>by rw[RH,i.out k,eu _ _ _ j]) J).mono ?_;rintro e q ⟨v,rfl,b,l⟩;have m:=I b;have c:=I l;go_wp2;go_ret;exact⟨v,rfl,m,c⟩
def Ly(n:Nat)(w:M)(e:RW)(b:M):Prop:=∃a g,aK e (.tuple #[H a,aG 0])/\jd b a g n (λ_=>0) 0/\w.heap.size<=a/\w.heap.size<=g/\au w b
theorem yx(n:Nat)(w:M)(h:n<=4096):aE 320 #[Y n] w (Ly n w):=by have a:=λw=>nU w n J;have d1:decide ((n:Int)<0)=false:=aJ;have d2:decide (4096<(n:Int))=false:=aR;go_enter func320,ntmps320;go_wp2;go_ret2;exact⟨w.heap.size+1,w.heap.size,rfl,⟨J,fe _ _ _,(gb _ _ _),λ_ _=>J⟩,J,QH _,aI (aI ak _) _⟩
def HX(w:QA)(v:QC)(M:Nat)(P:Nat->Bool)(f:dp):Prop:=
 ∃b o d e g,v=.slice (some (R b o)) M d/\w.heap[b]?=some (.cells e 41 g)/\∀m,m<M->∃a n c,e[o+m]?=some (.slice a n c)/\(P m=true->cR w (.slice a n c) 128 (f m))
theorem HX.below{P:Nat->Bool}(h:HX w v k P F)(f:au w W):HX W v k P F:=by obtain⟨b,o,d,i,j,e,g,l⟩:=h;refine⟨b,o,d,i,j,e,(f.block b (Z_ g)).trans g,λm p=>?_⟩;obtain⟨a,n,c,q,r⟩:=l m p;exact⟨a,n,c,q,λs=>(r s).below f⟩
theorem mv(h:cR W v 128 f)(d:au W w)(e:∀k,k<128->f k<256)(r:W.heap.size<=n)(s:W.heap.size<=m):um w v 128 f n m:=by obtain⟨a,g,rfl,h⟩:=h;obtain⟨b,o,i,j,rfl,c,l⟩:=h.resolve_left aj;have p:=Z_ c;exact⟨e,_,_,rfl,.inr ⟨b,o,rfl,J,J,λk q=>(QT w b (o+k) i 5 j ((d.block b p).trans c)).trans (l k q)⟩⟩
theorem zZ(h:dT W v f)(a:au W w)(b:∀k,k<128->f k<256)(c:W.heap.size<=n)(d:W.heap.size<=m):um w v 128 f n m:=mv h.eG a b c d
def No(f:aQ)(w:M)(e:RW)(a:M):Prop:=∃v,aK e (.tuple #[v,aG 0])/\dT a v f/\au w a
theorem CF(g:az)(r f:Nat)(v:QC)(l:dp)(w:QA)(N:g.ok)(b7:r<g.R)(b8:f<g.M)(h:HX w v g.M (λm=>decide (m≠f)) l)(b9:∀m k,m<g.M->k<128->l m k<256):
  aE 294 #[g.V,ae r,ae f,v] w (No (λk=>xs (λm=>decide (m≠f)) (λm=>l m k) g.M) w):=by
 have R:=N.m16;have h3:=N.m3;have I:=ad (λ(w:QA)=>yt N b8 b7 w);have c0:=ad (λ(W:QA) (Y:au w W)=>h.below Y);have c9:=ad h;have d0:=ad b9;obtain⟨b,o,J,e1,e3,rfl,Y,d3⟩:=h;obtain⟨K,e4,e5⟩:=g;simp only at b8 R h3;clear N b9 b7 Y d3;go_enter func294,ntmps294;go_wp2_with(first|(go_at_call 131;refine(I _).mono ?_;rintro e M ⟨x,y,rfl,A⟩;obtain⟨k0,f0,z0⟩:=kp A w.heap.size dJ;have B:=ad ((aI ak _).trans (A.mono aJ));clear A)|(go_at_call 320;refine(yx 128 _ aj).mono ?_;rintro e w2 ⟨O,P,rfl,c3,Q,T,p⟩;have L:=aT c3 Q T p;clear c3 Q T p));go_loopw [39] (λi wr=>∃(k d:Nat),i= ae k/\k<=K/\d<=k/\QX (au M wr)/\QX (jd wr O P 128 (λj=>xs (λm=>decide (m≠f)) (λm=>l m j) k) d)) (λi _=>K-(intOf i).toNat)
 case atStart=>exact⟨0,0,rfl,QN _,QH _,L.2.2.2,L.1⟩
 case round=>
  obtain⟨k,d,rfl,e6,d4,U,z⟩:=hrel;have s:au w wr:=B.trans (U.mono B.size);by_cases t:k<K
  .obtain ⟨e7,e8,c4,a0,a1,d5,C,D⟩:=c0.out _ s;cases d5;obtain⟨a,n,c,c1,c5⟩:=D k t;have d1:=(QT wr b (o+k) a0 41 a1 C).trans c1;by_cases e:k=f
   .have d2:((k:Int) !=(f:Int))=false:=by simp[e]
    have d6:QX (jd wr O P 128 (λj=>xs (λm=>decide (m≠f)) (λm=>l m j) (k+1)) d):=by
     have:(λj=>xs (λm=>decide (m≠f)) (λm=>l m j) (k+1))=λj=>xs (λm=>decide (m≠f)) (λm=>l m j) k:=by funext j;simp only[xs];simp[e]
     show jd _ _ _ _ _ _;rw[this];exact z
    clear e D C c1 s;go_wp2_with fail;exact⟨⟨k+1,d,by go_num,t,aa,U,d6⟩,by simp[intOf];omega⟩
   .have d2:((k:Int) !=(f:Int))=true:=by rw[bne,sj];simp[e]
    have V:um wr (.slice a n c) 128 (l k) O P:=by
     obtain⟨e9,f1,c6,d7,d8,d9,_⟩:=c9.out;cases d9;have a3:HX M (.slice (some (ag b o)) K J) K (λm=>decide (m≠f)) l:=c0.out _ B;obtain⟨b2,o2,c7,a4,a5,e2,p,a6⟩:=a3;cases e2;obtain⟨a2,n2,c2,a7,E⟩:=a6 k t;have:(some (RU a n c):Option QC)=some (.slice a2 n2 c2):=by rw[<-d1,QT wr b (o+k) a4 41 a5 ((U.block b (Z_ p)).trans p),a7]
     cases this;exact mv (E (by simp[e])) U (λj e0=>d0.out k j t e0) L.2.1 L.2.2.1
    have a8:=ad (wM (.slice a n c) (l k) O P 128 _ d wr z V aj aa);have a9:QX ((xo (λj=>xs (λm=>decide (m≠f)) (λm=>l m j) k) (l k))=λj=>xs (λm=>decide (m≠f)) (λm=>l m j) (k+1)):=by show _=_;funext j;simp only[xs,xo];simp[e]
    clear e D C c1 s V;go_wp2_with(go_at_call 321;refine a8.mono ?_;rintro e w3 ⟨rfl,G,X⟩;rw[a9.out]at G;have b0:=ad G;have b1:QX (au M w3):=(Out.trans (S:=λq=>M.heap.size<=q) (Out.af U) X λq _ b3=>by have h1:=L.2.1;have h2:=L.2.2.1;rcases b3 with b3|b3<;>omega).below (λ_ _ h=>h) (QH _);clear G X);go_wp2;exact⟨⟨k+1,d+1,by go_num,t,aa,b1,b0⟩,by simp[intOf];omega⟩
  .obtain rfl:k=K:=aa;obtain⟨F,hF⟩:=ah (λj=>xs (λm=>decide (m≠f)) (λm=>l m j) k);rw[hF]at z;have b4:=ad hF;have b5:=ad (qT O P 128 F d wr z aj);have Z:=ad s;clear hF s;go_wp2_with(go_at_call 322;refine b5.mono ?_;rintro e w3 ⟨u,rfl,b6,H⟩;have c8:=aB (eZ b6) H;obtain⟨f2,f3,rfl,-⟩:=av b6;clear b6 H);go_ret2;exact⟨_,rfl,by rw[b4.out];exact c8.1,Z.trans (c8.2.mono Z.size)⟩
def ez(b:List Nat)(c:dp)(k:Nat):Nat:=b.foldl (λa m=>a^^^c m k) 0
def fE(a:aQ)(l:List Pt)(k:Nat):Nat:=l.foldl (λx p=>x^^^p.2.2 k) (a k)
theorem wN(a:List Nat)(b:dp)(m:Nat):xo (ez a b) (b m)=ez (a++ [m]) b:=by funext k;simp[xo,ez,List.foldl_append]
theorem wO(a:aQ)(l:List Pt)(p:Pt):xo (fE a l) p.2.2=fE a (l++ [p]):=by funext k;simp[xo,fE,List.foldl_append]
theorem jd.out{w w1:M}(h:jd w n m k f i)(a:Out S w w1)(b:¬S n)(c:¬S m):jd w1 n m k f i:=
 ⟨h.ne,a.heap h.hs b,a.heap h.hg c,h.lt⟩
def HY(b:M)(B:Nat)(w:M)(v:QC)(l:List Pt):Prop:=
 ∃a:List QC,a.length=l.length/\w.ownsRow B 206 3 v l.length (dd l a)/\∀(i:Nat) (p:Pt) (u:QC),l[i]?=some p->a[i]?=some u->dT b u p.2.2
theorem HY.PB(h:HY W n w v l)(a:au W w):fg n w v l:=by obtain⟨b,c,d,e⟩:=h;exact⟨b,c,d,λi p u f g=>(e i p u f g).below a⟩
def je(a:Nat->Bool)(l:List Pt)(r par:Nat)(S:aQ):List Pt:=(l.filter λp=> !a p.1)++if a par=true then[]else[(par,r,S)]
def Np(L:List Pt)(w:M)(e:RW)(b:M):Prop:=∃v a,aK e (.tuple #[v,aG 0])/\ff b v a/\a.Perm L/\(a.Pairwise λp q=>p.1<q.1)/\au w b
theorem Gg(g:az)(f:Nat->Bool)(l:List Pt)(r:Nat)(o9 pv j6 k8:QC)(Z:dp)(w:QA)(g9:g.ok)(h1:zL w o9 g.M f)(h2:ff w pv l)(h3:p_ w j6 (cV g.M f l (g.par r)))(h4:HX w k8 g.M (λm=>(cV g.M f l (g.par r)).contains m) Z)(p0:nd g r l)(s9:∀i j,i<g.M->j<g.M->f i=true->f j=true->i=j)(t3:l.length<=g.M-1)(t4:∀m k,m<g.M->k<128->Z m k<256)(H:∀p,p∈l->∀k,k<128->p.2.2 k<256)(k9:∀m,m∈cV g.M f l (g.par r)->m<g.M)(p1:(cV g.M f l (g.par r)).length<=16):
  aE 301 #[g.V,o9,.agg #[ae r,.int .u8 (dV g.M f l (g.par r):Nat),ae (g.par r:Nat),pv,j6],k8] w (Np (je f l r (g.par r) (fE (ez (cV g.M f l (g.par r)) Z) l)) w):=by
 have h0:=g9.m16;have p2:=g9.m3;have a6:=az.iO g9 r;have x6:=ad g9;have p3:=ad (λ(w:QA)=>eI g9 w);have p4:=ad (λ(W:QA) (b8:au w W)=>Ct g f l r o9 pv W g9 (h1.below b8) (h2.below b8) p0 s9 t3);have u9:=ad h1;have v0:=ad h2;have t5:=ad h3;have t6:=ad h4;have p5:=ad p0;have o8:=aM t4 H k9;have c9:QX (∀W e l0,Lr g f l r W e l0->∃pv j6,aK e (.tuple #[.agg #[ae r,.int .u8 (dV g.M f l (g.par r):Nat),ae (g.par r:Nat),pv,j6],aG 0])/\ff l0 pv l/\p_ l0 j6 (cV g.M f l (g.par r))/\au W l0):=λW e l0 h=>h;obtain⟨v1,h5⟩:=ah (dV g.M f l (g.par r));obtain⟨o,a7⟩:=ah (cV g.M f l (g.par r));obtain⟨par,d0⟩:=ah (g.par r);have p6:=ad d0;rw[a7]at t5 t6 o8 p1 c9 h3 h4;rw[h5]at c9;rw[d0]at c9 a6;rw[h5,a7,d0];have p7:=ad (λ(h6 h7:QC) (W:QA) (b8:au w W) (g1:ff W h6 l) (g2:p_ W h7 o)=>FX r v1 par pv j6 h6 h7 l o W (v0.below b8) (t5.below b8) g1 g2 aa aa);obtain⟨x7,x8,rfl,l1⟩:=h1;obtain⟨x9,y0,rfl,-⟩:=h2;obtain⟨y1,y2,rfl,-⟩:=h3;obtain⟨t7,v2,t8,v3,v4,rfl,-⟩:=h4;have v5:=ad l1;obtain⟨t9,l2,l3,l4,l5⟩:=SD zP;obtain⟨u0,y3,y4⟩:=g;simp only at h0 p2 a6 t3;clear g9 p0 s9 t4 H k9 h5 a7 d0 l1;go_enter func301,ntmps301;go_wp2_with(first|(go_at_call 26;refine(p3 _).mono ?_;rintro e w1 ⟨rfl,d1⟩;obtain⟨k0,f0,z0⟩:=kp d1 w.heap.size aR;obtain⟨k1,f1,z1⟩:=kp d1 (w.heap.size+1) aJ;have h8:=ad ((aI (aI ak _) _).trans (d1.mono aR));clear d1)|(go_at_call 300;refine(p4 _ h8).mono ?_;intro e w2 j7;obtain⟨h6,h7,rfl,g1,g2,g3⟩:=c9.out _ _ _ j7;obtain⟨k2,f2,z2⟩:=kp g3 (w.heap.size+1) z1;obtain⟨k3,f3,z3⟩:=kp g3 w.heap.size z0;have l6:=aM g1 g2 g3;obtain⟨a2,c2,rfl,-⟩:=g1;obtain⟨a3,c3,rfl,-⟩:=g2;have h9:=ad (h8.trans (l6.2.2.mono h8.size));clear j7 g3)|(go_at_call 331;refine(p7 _ _ _ (aI h9 _) (l6.1.below (aI ak _)) (l6.2.1.below (aI ak _))).mono ?_;rintro e N ⟨rfl,M⟩;obtain⟨k4,f4,z4⟩:=kp M w2.heap.size aJ;obtain⟨k5,f5,z5⟩:=kp M w.heap.size aR;have i0:=ad ((aI (SL w2.heap.size w2) _).trans (M.mono aJ));have l7:=ad ((M.block w2.heap.size aJ).trans (QB w2 _));clear M)|(go_at_call 320;refine(yx 128 _ aj).mono ?_;rintro e w4 ⟨b9,c0,rfl,u1,l8,l9,i1⟩;obtain⟨k6,f6,z6⟩:=kp i1 w2.heap.size z4;have c7:=aT u1 l8 l9 i1;clear u1 l8 l9 i1));have m0:w2.heap.size<N.heap.size:=z4;have J:au w N:=h9.trans (i0.mono h9.size);have p8:=ad (l6.1.below i0);have p9:=ad (l6.2.1.below i0);have q0:=ad (t6.below J);have m1:=ad (u9.below J);have a8:=ad J;clear k0 z0 k1 z1 k2 z2 k3 z3 k4 z4 k5 k6 J;go_loopw [56] (λi wr=>∃(k s:Nat),i= ae k/\k<=o.length/\s<=k/\QX (au N wr)/\QX (jd wr b9 c0 128 (ez (o.take k) Z) s)) (λi _=>o.length-(intOf i).toNat)
 case atStart=>exact⟨0,0,rfl,QN _,QH _,c7.2.2.2,c7.1⟩
 case round=>
  obtain⟨k,s,rfl,y5,v6,R,m2⟩:=hrel;by_cases H:k<o.length
  .obtain ⟨m,h0⟩:∃m,o[k]?=some m:=⟨_,QP H⟩;have m3:m<u0:=o8.2.2 m (QV h0);obtain⟨i2,m4,a9,b0,rfl,I,b1⟩:=(show _\/_ from by obtain⟨_,_,e,h⟩:=p9.out;cases e;exact h).resolve_left (by intro e;rw[e]at H;simp at H);have c1:=(QT wr i2 (m4+k) a9 3 b0 ((R.block i2 (Z_ I)).trans I)).trans (b1 k m h0);obtain⟨y6,y7,u2,q3,q4,v7,i3,m5⟩:=q0.out;cases v7;obtain⟨a,n,c,m6,g5⟩:=m5 m m3;have m7:=(QT wr t7 (v2+m) q3 41 q4 ((R.block t7 (Z_ i3)).trans i3)).trans m6;have m8:=g5 (by simpa using QV h0);have m9:um wr (.slice a n c) 128 (Z m) b9 c0:=mv m8 R (λj u3=>o8.1 m j m3 u3) c7.2.1 c7.2.2.1;have d2:=ad (wM (.slice a n c) (Z m) b9 c0 128 _ s wr m2 m9 aj aa);have d3:QX (xo (ez (o.take k) Z) (Z m)=ez (o.take (k+1)) Z):=by show _=_;rw[wN,UF,h0];rfl
   clear h0 I b1 i3 m5 m6 g5 m8 m9;go_wp2_with(go_at_call 321;refine d2.mono ?_;rintro e w5 ⟨rfl,C,z⟩;rw[d3.out]at C;have q5:=ad C;have q6:QX (au N w5):=(Out.trans (S:=λq=>N.heap.size<=q) (Out.af R) z λq _ O=>by have h1:=c7.2.1;have h2:=c7.2.2.1;rcases O with O|O<;>omega).below (λ_ _ h=>h) (QH _);clear C z);go_wp2;exact⟨⟨k+1,s+1,by go_num,H,aa,q6,q5⟩,by simp[intOf];omega⟩
  .obtain rfl:k=o.length:=aa;obtain⟨K,rfl⟩:∃K:QA,K=wr:=⟨_,rfl⟩;have a0:=m2;rw[UC]at a0;have i4:=(R.block _ m0).trans l7;obtain⟨t0,t1,t2⟩:=cr i4;have v8:=ad i4;clear i4;go_wp2_with fail;have d4:b9<K.heap.size/\c0<K.heap.size:=⟨Z_ a0.hs,Z_ a0.hg⟩;have n0:=R.size;have n1:QX (HY N K.heap.size K aW ((l.take 0).filter λp=> !f p.1)):=⟨[],rfl,SJ _ _ _ _,λi p u h=>by simp at h⟩;clear t0;go_loopw [18,72] (λv9 i wr=>∃(j s:Nat),i= ae j/\j<=l.length/\s<=100+j/\QX (au N wr)/\K.heap.size<=wr.heap.size/\QX (jd wr b9 c0 128 (fE (ez o Z) (l.take j)) s)/\QX (HY N K.heap.size wr v9 ((l.take j).filter λp=> !f p.1))) (λ_ i _=>l.length-(intOf i).toNat)
   case atStart=>exact⟨0,s,rfl,QN _,aa,R,QH _,a0,n1⟩
   case round=>
    obtain⟨j,n2,rfl,u3,w0,A,q7,d5,d6⟩:=hrel;clear n1;by_cases T:j<l.length
    .obtain ⟨p,hp⟩:∃p,l[j]?=some p:=⟨_,QP T⟩;obtain⟨i2,m4,a9,b0,rfl,I,b1⟩:=(show _\/_ from by obtain⟨_,_,e,_,h⟩:=p8.out;cases e;exact h).resolve_left (by intro e;rw[e]at T;simp at T);obtain⟨g1,g2,u,g3,g4⟩:=b1 j p hp;have d7:=(A.block i2 (Z_ I)).trans I;have c1:=(QT wr i2 (m4+j*3) a9 206 b0 d7).trans g1;have m7:=(QT wr i2 (m4+j*3+1) a9 206 b0 d7).trans g2;have q8:=(QT wr i2 (m4+j*3+2) a9 206 b0 d7).trans g3;obtain⟨i5,q9,r3⟩:=p5.ax hp;simp only at i5;have n3:=o8.2.1 p (QV hp);obtain⟨j8,j9,k7,rfl⟩:=g4.form;obtain⟨c8,a1,i6,i7,rfl,E,a4⟩:=(show _\/_ from by obtain⟨_,_,e,h⟩:=m1.out;cases e;exact h).resolve_left aa;have c4:=(QT wr c8 (a1+p.1) i6 4 i7 ((A.block c8 (Z_ E)).trans E)).trans (a4 p.1 i5);obtain⟨X,y8,b2,d8⟩:=qc wr (al #[ae p.1,ae p.2.1,.slice (some (ag j8 j9)) 128 k7] 206);have g6:au N X:=A.trans (b2.mono A.size);have d2:=ad (wM (.slice (some (ag j8 j9)) 128 k7) p.2.2 b9 c0 128 _ n2 X (d5.cS b2) (zZ g4 g6 n3 c7.2.1 c7.2.2.1) aj aa);have d3:QX (xo (fE (ez o Z) (l.take j)) p.2.2=fE (ez o Z) (l.take (j+1))):=by show _=_;rw[wO,UF,hp];rfl
     have a5:QX ((l.take (j+1)).filter (λp=> !f p.1)=(l.take j).filter (λp=> !f p.1)++if f p.1=true then[]else[p]):=by show _=_;rw[UF,hp,List.filter_append];cases r4:f p.1<;>simp[r4]
     have i8:=d6.out;obtain⟨us,G,B,U⟩:=i8;have b3:((l.take j).filter λp=> !f p.1).length<=j:=QE (VI _ _) (List.length_take_le _ _);obtain⟨d9,b4⟩:=ah ((l.take j).filter (λp=> !f p.1));rw[b4]at G B U b3 a5;obtain⟨n,i9⟩:=ah d9.length;rw[i9]at G B b3;obtain⟨e0,e4,rfl,-⟩:=av B;have d:=bZ G B U i9 b2;have r5:=aB d8 g4;obtain⟨x0,x1,x2⟩:=cr d8;have c5:=((kp b2 c8 (by have:=Z_ E;have:=A.size;omega)).1 (a1+p.1)).trans c4;have u4:=Z_ E;have u5:=A.size;obtain⟨y,e5⟩:=ah (f p.1);rw[e5]at c5 a5;obtain⟨n4,r6,y9⟩:=p;simp only at c1 m7 q8 c5 i5 d8 x0;clear hp I b1 g1 g2 g3 g4 d7 q9 r3 n3 E a4 c4 b2 d8 g6 G B U b4 i9 e5;have u6:=c7.2.1;have u7:=c7.2.2.1;have r7:=d.2.2.2.2.size;have L:QX (∀w5,Out (λq=>q=b9\/q=c0) X w5->au N w5/\K.heap.size<=w5.heap.size/\w5.ownsRow K.heap.size 206 3 (.slice e0 n e4) n (dd d9 us)):=λw5 j7=>by
      have n5:∀q,(RU e0 n e4).ownBlock=some q->¬(q=b9\/q=c0):=λq O e=>by have:=(bo d.2.1 O).2;have h1:=d4.1;have h2:=d4.2;rcases e with e|e<;>omega
      have M:au N X:=A.trans (d.2.2.2.2.mono A.size);exact⟨(Out.trans (S:=λq=>N.heap.size<=q) (Out.af M) j7 λq _ O=>by rcases O with O|O<;>omega).below (λ_ _ h=>h) (QH _),QE q7 (QE r7 j7.size),j7.own (aP d.2.2.2.2 d.2.1) n5⟩
     cases y with
     |true=>
      simp only[if_true,UB]at a5;go_wp2_with(go_at_call 321;refine d2.mono ?_;rintro e w5 ⟨rfl,C,z⟩;rw[d3.out]at C;have q1:=z.block wr.heap.size x2 aa;have q2:=z.block c8 aa aa;have c6:=(QQ (a:=⟨c8,a1+n4,none⟩) q2).trans c5;have r0:=(QQ (a:=ag wr.heap.size 0) q1).trans (x0 0);have r1:=(QQ (a:=ag wr.heap.size 1) q1).trans (x0 1);have r2:=(QQ (a:=ag wr.heap.size 2) q1).trans (x0 2);have P:=aB C z;clear C z q1 q2);have j0:QX (HY N K.heap.size w5 (.slice e0 n e4) ((l.take (j+1)).filter λp=> !f p.1)):=by show HY _ _ _ _ _;rw[a5.out];exact⟨us,by rw[d.1,d.2.2.2.1],by rw[d.2.2.2.1];exact(L _ P.2).2.2,d.2.2.1⟩
      exact⟨⟨j+1,n2+1,by go_num,T,aa,(L _ P.2).1,(L _ P.2).2.1,P.1,j0⟩,by simp[intOf];omega⟩
     |false=>
      simp only[SM,if_false]at a5;go_wp2_with(first|(go_at_call 321;refine d2.mono ?_;rintro e w5 ⟨rfl,C,z⟩;rw[d3.out]at C;have q1:=z.block wr.heap.size x2 aa;have q2:=z.block c8 aa aa;have c6:=(QQ (a:=⟨c8,a1+n4,none⟩) q2).trans c5;have r0:=(QQ (a:=ag wr.heap.size 0) q1).trans (x0 0);have r1:=(QQ (a:=ag wr.heap.size 1) q1).trans (x0 1);have r2:=(QQ (a:=ag wr.heap.size 2) q1).trans (x0 2);have P:=aB C z;clear C z q1 q2)|(at_builtin;refine aU _ rfl _ _ 162 rfl K.heap.size 206 t9 (.agg #[ae 0,ae 0,aW]) 3 40 XY l2 l3 l4 l5 rfl aj (.slice e0 n e4) n _ rfl (aP (aI ak _) (L _ P.2).2.2) (ag w5.heap.size 0) 1 1 [ae n4,ae r6,.slice (some (ag j8 j9)) 128 k7] rfl rfl (RY (cs:= #[ae n4,ae r6,.slice (some (ag j8 j9)) 128 k7]) (t:=206) (fr:=(0,0)) (QB w5 _)) (by intro u V;simp at V;rcases V with rfl|rfl|rfl<;>rfl) aa (by unfold UI;omega) aa (by have:=(L.out _ P.2).2.1;simp;omega) ?_));intro w6 e6 D v;obtain⟨w7,r8,rfl,-⟩:=av D;obtain⟨n6,n7,b5⟩:=L.out _ P.2;have g7:au w5 (w5.alloc (al #[ae n4,ae r6,.slice (some (ag j8 j9)) 128 k7] 206)):=aI ak _;have e7:∀q,(RU e0 n e4).ownBlock=some q->K.heap.size<=q:=λq O=>(bo b5 O).2;have j1:=v.out (Out.refl (λq=>(RU e0 n e4).ownBlock=some q) _) λq O _=>O;have r9:QX (au N e6):=v.below (aI n6 _) aR λq O=>by have:=e7 q O;omega
      have s1:QX (jd e6 b9 c0 128 (fE (ez o Z) (l.take (j+1))) (n2+1)):=(P.1.cS g7).out j1 (λe=>by have:=e7 _ e;have:=d4.1;omega) λe=>by have:=e7 _ e;have:=d4.2;omega
      have s3:K.heap.size<=e6.heap.size:=by have:=j1.size;simp at this;omega
      have j0:QX (HY N K.heap.size e6 (.slice w7 (n+1) r8) ((l.take (j+1)).filter λp=> !f p.1)):=by
       show HY _ _ _ _ _;rw[a5.out];refine⟨us++ [.slice (some (ag j8 j9)) 128 k7],by simp[d.out.1,d.out.2.2.2.1],?_,λi p u hp V=>?_⟩
       .rw [oB (by rw[d.1,d.2.2.2.1]),QU,d.2.2.2.1];exact D
       .by_cases u8:i<d9.length
        .rw [RD u8]at hp;rw[RD (by rw[d.1,<-d.2.2.2.1];exact u8)]at V;exact d.2.2.1 i p u hp V
        .rw [QZ aa]at hp;rw[QZ (by rw[d.1,<-d.2.2.2.1];omega),d.1,<-d.2.2.2.1]at V;obtain⟨e1,e2⟩:=QS.1 hp;have x3:i-d9.length=0:=by simp at e1;omega
         rw[x3]at hp V;simp at hp V;subst hp;subst V;exact r5.2
      clear D v n6 n7 b5 g7 e7 j1;go_wp2;exact⟨⟨j+1,n2+1,by go_num,T,aa,r9,s3,s1,j0⟩,by simp[intOf];omega⟩
    .obtain rfl:j=l.length:=aa;obtain⟨e8,rfl⟩:∃e8:QA,e8=wr:=⟨_,rfl⟩;rw[UC]at d5 d6;have j2:=(A.block _ m0).trans l7;obtain⟨t0,t1,t2⟩:=cr j2;obtain⟨c8,a1,i6,i7,rfl,E,a4⟩:=(show _\/_ from by obtain⟨_,_,e,h⟩:=m1.out;cases e;exact h).resolve_left aa;have c4:=(QT e8 c8 (a1+par) i6 4 i7 ((A.block c8 (Z_ E)).trans E)).trans (a4 par a6);have j3:au w e8:=a8.trans (A.mono a8.size);have e9:=ad j3;have Y:=d6.PB A;have Q:(l.filter λp=> !f p.1).Pairwise λp q=>p.1<q.1:=p5.Lp.filter _;have n8:=aB Y Q;have i8:=Y;obtain⟨us,G,B,U⟩:=i8;obtain⟨e0,e4,f7,-⟩:=av B;cases e5:f par with
     |true=>
      rw[e5]at c4;have f8:QX (∀S,je f l r par S=l.filter λp=> !f p.1):=λS=>by unfold je;rw[ao e5,UB]
      subst f7;clear e5 j2 E a4 j3 Y Q G B U;go_wp2_with fail;go_ret2;exact⟨_,_,rfl,n8.1.yj,by rw[f8.out],n8.2,e9⟩
     |false=>
      rw[e5]at c4;have f8:QX (∀S,je f l r par S=(l.filter λp=> !f p.1)++ [(par,r,S)]):=λS=>by unfold je;rw[aq (by rw[e5];decide)]
      have b6:∀p,p∈(l.filter λp=> !f p.1)->p.1<16/\p.1≠par:=λp hp=>by obtain⟨e1,_,e3⟩:=p5.mem p (List.mem_filter.1 hp).1;have x4:p.1<u0:=e1;exact⟨aa,by rw[<-p6.out];exact e3⟩
      have fI:(((l.filter λp=> !f p.1)++ [(par,r,fE (ez o Z) l)]).map (·.1)).Nodup:=by rw[SH,List.map_singleton,YB];refine⟨YA.2 (Q.imp λh e=>aa),aJ,λa x5 b b8 e=>?_⟩;simp at b8;obtain⟨p,hp,rfl⟩:=RQ.1 x5;exact(b6 p hp).2 (by rw[e,b8])
      have f9:∀p,p∈(l.filter λp=> !f p.1)++ [(par,r,fE (ez o Z) l)]->p.1<16:=λp hp=>by
       rcases TJ.1 hp with hp|hp
       .exact (b6 p hp).1
       .simp at hp;rw[hp];show par<16;omega
      have b3:(l.filter λp=> !f p.1).length<=16:=QE (VI _ _) aa;obtain⟨F,hF⟩:=ah (fE (ez o Z) l);rw[hF]at fI f9 d5;have s4:=ad hF;obtain⟨d9,b4⟩:=ah (l.filter λp=> !f p.1);rw[b4]at G B U fI f9 b3 f7 f8;obtain⟨n,i9⟩:=ah d9.length;rw[i9]at G B b3 f7;have d:=eM G B U i9 fI f9;have s5:=ad (λ(W:QA) (b8:au e8 W)=>qT b9 c0 128 F n2 W (d5.cS b8) aj);subst f7;clear e5 j2 E a4 j3 Y Q G B U b6 fI f9 hF b4 i9 d6;go_wp2_with fail
      go_region_law (first|(refine dc _ rfl (.tmp 97) (.tmp 105) 162 rfl K.heap.size 206 t9 (.agg #[ae 0,ae 0,aW]) 3 40 XY l2 l3 l4 l5 rfl aj (.slice e0 n e4) n (dd d9 us) (by simp[VU]) (aP (w:=e8) (aI x _) d.2.1) (ag w8.heap.size 0) 1 1 [ae par,ae r,.slice (some (ag n9 b7)) 128 o0] (by simp[VU]) rfl (RY (cs:= #[ae par,ae r,.slice (some (ag n9 b7)) 128 o0]) (t:=206) (fr:=(0,0)) (QB w8 _)) (by intro u V;simp at V;rcases V with rfl|rfl|rfl<;>rfl) aa (by unfold UI;omega) aa (by have:=x.size;simp;omega) ?_;intro w6 e6 D v;obtain⟨o1,o2,rfl,-⟩:=av D)|(go_simp;go_at_call 322;refine(s5 _ bF).mono ?_;rintro e w8 ⟨z7,rfl,j4,o3⟩;obtain⟨n9,b7,o0,rfl⟩:=(eZ j4).form;have x:au e8 w8:=(show au e8 _ by go_grown).trans (o3.mono aJ);have s6:=ad (eZ j4);obtain⟨s7,z8,z9⟩:=kp x w2.heap.size t2;have s0:=(s7 0).trans (t0 0);have s2:=(s7 2).trans (t0 2);clear j4 o3 s7))
      all_goals(
       have o4:au w8 (w8.alloc (al #[ae par,ae r,.slice (some (ag n9 b7)) 128 o0] 206)):=aI ak _;have j5:au e8 (w8.alloc (al #[ae par,ae r,.slice (some (ag n9 b7)) 128 o0] 206)):=aI x _;have Y:fg K.heap.size e6 (.slice o1 (n+1) o2) (d9++ [(par,r,F)]):=by
        refine fg.push (us:=us) (us':= [.slice (some (ag n9 b7)) 128 o0]) (by rw[d.1,d.2.2.2.1]) rfl d.2.2.2.1.symm rfl (aP j5 d.2.1) (λi p u hp V=>(d.2.2.1 i p u hp V).below j5) (λi p u hp V=>?_) D v;cases i with
        |zero=>simp at hp V;rw[<-hp,<-V];exact s6.below o4
        |succ i=>simp at hp
       have o5:w.heap.size<=K.heap.size:=QE a8.size n0;have o6:au w e6:=v.below (aI (e9.trans (x.mono e9.size)) _) (by have:=e9.size;have:=x.size;simp;omega) λq O=>QE o5 (bo d.2.1 O).2;have g8:K.heap.size<=e6.heap.size:=by have h1:=(v.out (Out.refl (λq=>(RU e0 n e4).ownBlock=some q) _) λq O _=>O).size;have h2:=x.size;simp at h1;omega
       have s8:=ad (Cw K.heap.size (.slice o1 (n+1) o2) (d9++ [(par,r,F)]) e6 Y g8 aJ d.2.2.2.2.2 d.2.2.2.2.1 (by rw[QU,d.2.2.2.1];simp;omega));have o7:=aB o6 o5;clear D v o4 j5 Y o6 g8 x)
      all_goals go_wp2_with(go_at_call 332;refine s8.mono ?_;rintro e w9 ⟨rfl,A0,g1,g2,g3,g4⟩;have g0:=aT g1 g2 g3 g4;clear g1 g2 g3 g4)
      all_goals go_ret2
      all_goals exact⟨_,_,rfl,g0.2.2.1,by rw[f8.out,s4.out];exact g0.1,g0.2.1,o7.1.trans (g0.2.2.2.mono o7.2)⟩
structure Ro where
 lz:Bool
 fr:Nat->Option Nat
 wt:List Pt
 sl:Bool
variable {o:Ro}
def z_:Option Nat->Int
 |none=> -1
 |some x=>(x:Nat)
def Ro.down(a:Ro)(m r:Nat):Bool:=match a.fr m with|none=>false|some x=>decide (x<=r)
structure fh(w:QA)(R B:Nat)(wp:Option SZ)(g:az)(fb:Nat)(ro:Ro):Prop where
 aL:∃cap wv,w.heap[R]? =some (N #[H B,Y g.M,Y g.c,Y g.s,.pointer wp,.bool ro.lz,a' fb g.M cap,wv,.bool ro.sl] 164)/\ff w wv ro.wt
 fy:w.heap[fb]? =some (N (bs g.M fun m=> Y (z_ (ro.fr m))) 3)
theorem fh.fr[Lo](h:fh w n m P g k o)(a:Fr T aF w W)(c:T.contains 164=false)(d:T.contains 3=false)(e:T.contains 5=false)(f:T.contains 206=false):fh W n m P g k o:=by obtain⟨b,i,j,l⟩:=h.aL;exact⟨⟨b,i,a.hp j c,l.fr a e f⟩,a.hp h.fy d⟩
theorem fh.below{R B:Nat}(h:fh w R B P g n o)(a:au w W):fh W R B P g n o:=by
 letI:Lo:=⟨0⟩
 exact h.fr (T:= []) (Fr.af a) rfl rfl rfl rfl
theorem oL(R B:Nat)(a:Option SZ)(g:az)(b:Nat)(c:Ro)(m:Nat)(w:QA)(h:fh w R B a g b c)(d:m<g.M)(_:g.M<=16):aE 163 #[H R,Y m] w λe j=>aK e ed/\w=j:=by obtain⟨l,p,n,q⟩:=h.aL;obtain⟨k,f,z⟩:=cr n;obtain⟨M,o⟩:=ah g.M;rw[o]at k d;have d2:decide ((m:Int)<(M:Int))=true:=aR;go_enter func163,ntmps163;go_wp2;go_ret;exact⟨rfl,rfl⟩
theorem hY(R B:Nat)(l:Option SZ)(g:az)(d:Nat)(a:Ro)(m r:Nat)(w:QA)(h:fh w R B l g d a)(i:m<g.M)(n:g.M<=16):aE 201 #[H R,Y m,Y r] w λe q=>aK e (.bool (a.down m r))/\w=q:=by
 have o:=I (oL R B l g d a m w h i n);obtain⟨s,C,t,D⟩:=h.aL;obtain⟨k,f,z⟩:=cr t;have c:w.cell? (ag d m)=some (Y (z_ (a.fr m))):=((cr h.fy).1 m).trans (cg _ _ _ i);have b:QX (a.down m r=match a.fr m with|none=>false|some x=>decide (x<=r)):=rfl;obtain⟨M,u⟩:=ah g.M;obtain⟨E,j⟩:=ah (a.down m r);rw[u]at k i n;rw[j]at b|-;have v:(0:Int)<=(m:Int):=J;have y:(m:Int)<(M:Int):=J;cases p:a.fr m with
 |none=>rw[p]at c b;simp only[z_]at c;go_enter func201,ntmps201;go_wp2_with(go_at_call 163;refine o.mono ?_;rintro e A ⟨rfl,rfl⟩);go_ret;exact⟨by rw[b.out];rfl,rfl⟩
 |some x=>
  rw[p]at c b;simp only[z_]at c;simp only at b;have d1:((x:Int)==(-1:Int))=false:=by rw[beq_eq_false_iff_ne];omega
  have d2:((x:Int) !=(-1:Int))=true:=by rw[bne,d1];rfl
  go_enter func201,ntmps201;go_wp2_with(go_at_call 163;refine o.mono ?_;rintro e A ⟨rfl,rfl⟩);go_ret;exact⟨by rw[b.out];rfl,rfl⟩
def gT(s e:Nat):QC:=if e=0 then .agg #[Y 0,aG 0]else .agg #[Y s,aG e]
theorem cl(s e:Nat):∃a b:Int,gT s e=.agg #[Y a,.int .u16 b]:=by
 unfold gT;split
 .exact ⟨_,_,rfl⟩
 .exact ⟨_,_,rfl⟩
theorem fq(s e:Nat)(w:M):aE 166 #[Y s,aG e] w λx b=>x=.returned (gT s e)/\au w b:=by
 by_cases h:e=0
 .subst h;have a:QX (gT s 0=.agg #[Y 0,aG 0]):=rfl;rw[a.out];go_enter func166,ntmps166;go_wp2
  (try simp only[XP,Exit.then])
  refine QR (v:=.agg #[Y 0,aG 0]) (by simp[RM,results166,go_sem]) rfl ⟨rfl,?_⟩;exact aI ak _
 .have a:QX (gT s e=.agg #[Y s,aG e]):=by show _=_;unfold gT;rw[aq h]
  rw[a.out];have d1:((e:Int)==0)=false:=by rw[beq_eq_false_iff_ne];omega
  go_enter func166,ntmps166;go_wp2
  (try simp only[XP,Exit.then])
  refine QR (v:=.agg #[Y s,aG e]) (by simp[RM,results166,go_sem]) rfl ⟨rfl,?_⟩;exact aI ak _
def Ro.mark(a:Ro)(m:Nat)(x:Option Nat):Ro:={a with fr:=λj=>if j=m then x else a.fr j}
theorem fh.set{b:Ro}(h:fh w n i P g j b)(m:Nat)(x:Option Nat):fh (w.setCell (R j m) (Y (z_ x))) n i P g j (b.mark m x)/\Out (λk=>k=j) w (w.setCell (R j m) (Y (z_ x))):=by
 have c:Out (λk=>k=j) w (w.setCell (R j m) (Y (z_ x))):=(Out.refl (λk=>k=j) w).setCell (p:=R j m) (λ_=>rfl) _;obtain⟨d,r,l,s⟩:=h.aL;have f:n≠j:=λe=>by have:=h.fy;rw[<-e,l]at this;simp at this
 refine⟨⟨⟨d,r,c.heap l f,s.out c λk o q a=>?_⟩,?_⟩,c⟩
 .subst q;rw[h.fy]at a;cases a;constructor<;>simp[ty]
 .have:=heap_setCell_same w j m _ 3 (Y (z_ x)) h.fy;rw[this,eY];congr 1;congr 1;apply kV;intro k q;show(if k=m then Y (z_ x)else Y (z_ (b.fr k)))= Y (z_ (if k=m then x else b.fr k));split<;>rfl
theorem Gh(R B:Nat)(c:Option SZ)(g:az)(a:Nat)(b:Ro)(m:Nat)(f:Int)(w:QA)(h:fh w R B c g a b)(d:m<g.M)(i:g.M<=16):
  aE 96 #[H R,Y m,.bool false,Y f] w λe j=>aK e (.tuple #[])/\fh j R B c g a (b.mark m none)/\Out (λk=>k=a) w j:=by
 have p:=I (oL R B c g a b m w h d i);have q:=I (h.set m none);obtain⟨r,u,l,v⟩:=h.aL;obtain⟨k,x,z⟩:=cr l;obtain⟨n,f2,y⟩:=cr h.fy;have A:w.cell? (ag a m)=some (Y (z_ (b.fr m))):=(n m).trans (cg _ _ _ d);obtain⟨M,o⟩:=ah g.M;rw[o]at k d i;have s:(0:Int)<=(m:Int):=J;have t:(m:Int)<(M:Int):=J;clear h l o n;go_enter func96,ntmps96;go_wp2_with(go_at_call 163;refine p.mono ?_;rintro e C ⟨rfl,rfl⟩);go_end0;exact⟨rfl,q⟩
theorem z'(R B:Nat)(c:Option SZ)(g:az)(a:Nat)(b:Ro)(m x:Nat)(w:QA)(h:fh w R B c g a b)(d:m<g.M)(l:g.M<=16):
  aE 96 #[H R,Y m,.bool true,Y x] w λe n=>aK e (.tuple #[])/\fh n R B c g a (b.mark m (some x))/\Out (λk=>k=a) w n:=by
 have r:=I (oL R B c g a b m w h d l);have s:=I (h.set m none);have f:=I ((h.set m none).1.set m (some x));have t:QX ((b.mark m none).mark m (some x)=b.mark m (some x)):=by show _=_;unfold Ro.mark;simp only;congr 1;funext j;split<;>rfl
 obtain⟨u,D,i,E⟩:=h.aL;obtain⟨k,F,z⟩:=cr i;obtain⟨o,f2,G⟩:=cr h.fy;have K:w.cell? (ag a m)=some (Y (z_ (b.fr m))):=(o m).trans (cg _ _ _ d);have v:R≠a:=λe=>by have:=h.fy;rw[<-e,i]at this;simp at this
 obtain⟨M,p⟩:=ah g.M;rw[p]at k d l;have y:(0:Int)<=(m:Int):=J;have A:(m:Int)<(M:Int):=J;have C:max (0:Int) (x:Int)=(x:Int):=J;clear h i p o;go_enter func96,ntmps96;go_wp2_with(go_at_call 163;refine r.mono ?_;rintro e L ⟨rfl,rfl⟩);go_end0;rw[<-t.out];refine⟨rfl,?_⟩;have q:=f.out;exact⟨q.1,s.2.tr q.2⟩
def Br(m r:Nat)(p:Pt):Bool:=decide (p.1=m/\p.2.1=r)
def Ro.iA(a:Ro)(m r:Nat):Option (Nat->Nat):=(a.wt.find? (Br m r)).map (·.2.2)
theorem CG{c:Pt->Bool}(h:l.findIdx? c=some k):∃p,l[k]?=some p/\l.find? c=some p:=by
 induction l generalizing k with
 |nil=>cases h
 |cons a l d=>
  rw[List.findIdx?_cons]at h;cases b:c a with
  |true=>rw[b]at h;simp at h;subst h;exact⟨a,rfl,by rw[List.find?_cons,b]⟩
  |false=>rw[b]at h;simp only[SM,if_false,YC]at h;obtain⟨j,e,rfl⟩:=h;obtain⟨p,f,g⟩:=d e;exact⟨p,by simpa using f,by rw[List.find?_cons,b];exact g⟩
theorem qi{a:Pt->Bool}(h:l.find? a=none):l.findIdx? a=none:=by rw[XW];intro x b;have:=List.find?_eq_none.1 h x b;simpa using this
theorem mw(R B:Nat)(q:Option SZ)(g:az)(s:Nat)(a:Ro)(m r:Nat)(w:M)(h:fh w R B q g s a)(t:a.wt.length<=1000000)(i:a.iA m r=none):
  aE 249 #[H R,Y m,Y r] w λe v=>aK e (.tuple #[aW,.bool false])/\au w v:=by
 obtain⟨x,y,A,j⟩:=h.aL;obtain⟨k,f,z⟩:=cr A;have C:QX (mh a.wt (Br m r)= -1):=by show _=_;unfold mh;unfold Ro.iA at i;rw[qi (Option.map_eq_none_iff.1 i)]
 have l:=I (λ(W:M) (c:au w W) (n:a_ W w.heap.size (N #[Y m] 3)) (o:a_ W (w.heap.size+1) (N #[Y r] 3))=>si 293 #[H w.heap.size,.pointer (some ⟨w.heap.size+1,0,none⟩)] (RF func293 ai rfl) a.wt (Br m r) y W (j.below c) t
  (λD b p G u E=>BV p u w.heap.size (w.heap.size+1) m r D E ((b.block _ (Z_ n)).trans n) ((b.block _ (Z_ o)).trans o)))
 rw[C.out]at l;obtain⟨K,L,d,-⟩:=j;subst d;go_enter func249,ntmps249;go_wp2_with(go_at_call 292;refine(l _ (aI (aI ak _) _) (gb _ _ _) (fe _ _ _)).mono ?_;rintro e O ⟨rfl,c⟩;have F:=I c);go_ret2;exact⟨rfl,(aI (aI ak _) _).trans (F.mono aR)⟩
def Nq(f:aQ)(w:M)(e:RW)(a:M):Prop:=∃v,aK e (.tuple #[v,.bool true])/\dT a v f/\au w a
theorem qU(R B:Nat)(X:Option SZ)(g:az)(Z:Nat)(a:Ro)(m r:Nat)(f:aQ)(w:QA)(h:fh w R B X g Z a)(L:a.wt.length<=1000000)(i:a.iA m r=some f):
  aE 249 #[ar R,ae m,ae r] w (Nq f w):=by
 obtain⟨H,N,M,O⟩:=h.aL;obtain⟨k,a6,z⟩:=cr M;obtain⟨j,P⟩:∃j,a.wt.findIdx? (Br m r)=some j:=by
  cases I:a.wt.findIdx? (Br m r)with
  |some j=>exact⟨j,rfl⟩
  |none=>exfalso;unfold Ro.iA at i;obtain⟨p,t,_⟩:=YC.1 i;have:=XW.1 I p (XV t);rw[List.find?_some t]at this;cases this
 obtain⟨p,l,x⟩:=CG P;have y:p.2.2=f:=by unfold Ro.iA at i;rw[x]at i;exact RK i
 have Y:QX (mh a.wt (Br m r)=(j:Nat)):=by show _=_;unfold mh;rw[P]
 have A:=ad (λ(W:QA) (o:au w W) (Q:a_ W w.heap.size (al #[ae m] 3)) (S:a_ W (w.heap.size+1) (al #[ae r] 3))=>si 293 #[ar w.heap.size,.pointer (some ⟨w.heap.size+1,0,none⟩)] (RF func293 ai rfl) a.wt (Br m r) N W (O.below o) L
  (λJ q p t u a0=>BV p u w.heap.size (w.heap.size+1) m r J a0 ((q.block _ (Z_ Q)).trans Q) ((q.block _ (Z_ S)).trans S)))
 rw[Y.out]at A;have b:=(QS.1 l).1;obtain⟨a7,a8,rfl,-,c⟩:=O;obtain⟨T,a1,C,D,rfl,s,c⟩:=c.resolve_left (by intro e;rw[e]at b;simp at b);obtain⟨-,-,u,c3,E⟩:=c j p l;rw[y]at E;have a2:=(QT w T (a1+j*3+2) C 206 D s).trans c3;have F:=Z_ s;obtain⟨a9,b0,b1,rfl⟩:=E.form;have a3:=ad E;obtain⟨n,G⟩:=ah a.wt.length;rw[G]at k b L A;have a4:(0:Int)<=(j:Int):=aa;have a5:(j:Int)<(n:Int):=aa;have d1:decide ((j:Int)<0)=false:=aJ;go_enter func249,ntmps249;go_wp2_with(first|(go_at_call 292;refine(A _ (aI (aI ak _) _) (gb _ _ _) (fe _ _ _)).mono ?_;rintro e w2 ⟨rfl,o⟩;have d:au w w2:=(aI (aI ak _) _).trans (o.mono aR);obtain⟨q1,-,q3⟩:=kp d R z;obtain⟨q4,-,q6⟩:=kp d T F;have K:=ad d)|(go_at_call 199;refine(hv _ _ _ (a3.below K)).mono ?_;rintro e w3 ⟨v,rfl,U,o⟩;have V:=aB (eZ U) o;obtain⟨b2,b3,rfl,-⟩:=av U));go_ret2;exact⟨_,rfl,V.1,K.trans (V.2.mono K.size)⟩
theorem hZ(R B:Nat)(l:Option SZ)(g:az)(m:Nat)(n:Ro)(e:Nat)(w:QA)(h:fh w R B l g m n):aE 178 #[H R,aG e] w λx o=>x=.returned (gT g.M e)/\au w o:=by
 obtain⟨p,t,q,u⟩:=h.aL;obtain⟨k,f,z⟩:=cr q;have i:=I (λw=>fq g.M e w);obtain⟨a,b,c⟩:=cl g.M e;rw[c]at i|-;go_enter func178,ntmps178;go_wp2_with(go_at_call 166;refine(i _).mono ?_;rintro x r ⟨rfl,j⟩;obtain⟨y,A,C⟩:=kp j w.heap.size aJ;have s:=I j)
 (try simp only[XP,Exit.then])
 have d:au w r:=(aI ak _).trans (s.mono aJ);refine QR (v:=.agg #[Y a,.int .u16 b]) (by simp[RM,results178,go_sem];go_simp) rfl ⟨rfl,?_⟩;exact(d.setCell (QH _) _).setCell (QH _) _
def By.bL(b:By):List Nat->By × Nat × Nat
 | [] =>(b,0,0)
 |k::a=>if(b.op k bT).2=0 then(b.op k bT).1.bL a else((b.op k bT).1,k,(b.op k bT).2)
theorem By.oM(b:By)(l c:List Nat):b.bL (l++c)=if(b.bL l).2.2=0 then(b.bL l).1.bL c else b.bL l:=by
 induction l generalizing b with
 |nil=>simp[By.bL]
 |cons k a f=>
  by_cases h:(b.op k bT).2=0
  .have d:b.bL (k::a)=(b.op k bT).1.bL a:=ao h;have e:b.bL (k::(a++c))=(b.op k bT).1.bL (a++c):=ao h;rw[UQ,d,e,f]
  .have d:b.bL (k::a)=((b.op k bT).1,k,(b.op k bT).2):=aq h;have e:b.bL (k::(a++c))=((b.op k bT).1,k,(b.op k bT).2):=aq h;rw[UQ,d,e,aq h]
theorem By.oN(b:By)(l:List Nat):(b.bL l).1.N=b.N:=by
 induction l generalizing b with
 |nil=>rfl
 |cons k c a=>
  simp only[By.bL];by_cases h:(b.op k bT).2=0
  .rw [ao h,a,By.fp]
  .rw [aq h];exact By.fp b k bT
theorem By.HZ(h:(b.op k bT).2=0):b.out=false/\(∃v,b.dv k=some v/\v.use.d=v.d/\v.d.failed=false)/\∀j v,b.dv j=some v->∃a,(b.op k bT).1.dv j=some a/\a.d=v.d:=by
 unfold By.op at h|-;by_cases d:b.out=true
 .rw [ao d]at h;cases h
 .have f:b.out=false:=by simpa using d
  rw[aq d]at h|-;cases g:b.dv k with
  |none=>rw[g]at h;cases h
  |some v=>
   rw[g]at h;simp only at h|-;have c:v.use.d.failed=false:=by
    unfold bT at h;simp only at h;cases m:v.use.d.failed with
    |false=>rfl
    |true=>rw[m]at h;cases h
   have i:v.use.d=v.d:=by
    unfold Dv.use at c|-;split
    .split
     .rename_i n o;rw[ao n,ao o]at c;simp only[Dk.dead]at c;cases c
     .rfl
    .rfl
   refine⟨f,⟨v,rfl,i,by rw[<-i];exact c⟩,λj u l=>?_⟩;show∃a,(if j=k then some (bT v.use).1 else b.tick.dv j)=some a/\a.d=u.d;by_cases e:j=k
   .rw [ao e];subst e;rw[g]at l;cases l;exact⟨_,rfl,i⟩
   .rw [aq e];exact⟨u,l,rfl⟩
theorem By.CH:∀{l:List Nat},(b.bL l).2.2=0->∀j v,b.dv j=some v->∃c,(b.bL l).1.dv j=some c/\c.d=v.d:=by
 intro l;induction l generalizing b with
 |nil=>exactλ_ j v h=>⟨v,h,rfl⟩
 |cons k p d=>
  intro h j v e;simp only[By.bL]at h|-;by_cases a:(b.op k bT).2=0
  .rw [ao a]at h|-;obtain⟨f,g,i⟩:=(By.HZ a).2.2 j v e;obtain⟨m,n,o⟩:=d h j f g;exact⟨m,n,o.trans i⟩
  .rw [aq a]at h;exact absurd h a
theorem By.Lz(h:(b.op k bT).2=0)(j:Nat)(a:b.dv j=none):(b.op k bT).1.dv j=none:=by
 unfold By.op at h|-;by_cases c:b.out=true
 .rw [ao c]at h;cases h
 .rw [aq c]at h|-;cases d:b.dv k with
  |none=>rw[d]at h;cases h
  |some v=>
   show(if j=k then some (bT v.use).1 else b.tick.dv j)=none;by_cases e:j=k
   .subst e;rw[d]at a;cases a
   .rw [aq e];exact a
theorem By.CI:∀{l:List Nat},(b.bL l).2.2=0->∀j,b.dv j=none->(b.bL l).1.dv j=none:=by
 intro l;induction l generalizing b with
 |nil=>exactλ_ j h=>h
 |cons k e c=>
  intro h j d;simp only[By.bL]at h|-;by_cases a:(b.op k bT).2=0
  .rw [ao a]at h|-;exact c h j (By.Lz a j d)
  .rw [aq a]at h;exact absurd h a
theorem By.uo{l:List Nat}(h:(b.bL l).2.2=0){v:Dv}(c:(b.bL l).1.dv j=some v):∃a,b.dv j=some a/\v.d=a.d:=by
 cases d:b.dv j with
 |none=>rw[By.CI h j d]at c;cases c
 |some a=>obtain⟨g,e,f⟩:=By.CH h j a d;rw[e]at c;cases c;exact⟨a,rfl,f⟩
def eS(b:By)(a:Ro)(m r:Nat):Nat->Nat:=match a.iA m r with
 |some f=>f
 |none=>match b.dv m with
  |some v=>v.d.view (1+r)
  |none=>λ_=>0
def uq(a:Ro)(m r:Nat):List Nat:=if(a.iA m r).isSome=true then[]else[m]
def dL(M:Nat)(a:Ro)(m r:Nat):List Nat:=if(a.iA m r).isNone=true/\a.down m r=true then(TT M).flatMap (λj=>if j=m then[]else uq a j r)else uq a m r
def dS(M:Nat)(b:By)(a:Ro)(m r:Nat):Nat->Nat:=if(a.iA m r).isNone=true/\a.down m r=true thenλk=>xs (λj=>decide (j≠m)) (λj=>eS b a j r k) M else eS b a m r
theorem sw(h:(b.bL T).2.2=0):eS (b.bL T).1 o m r=eS b o m r:=by
 unfold eS;cases o.iA m r with
 |some f=>rfl
 |none=>
  cases a:b.dv m with
  |none=>rw[By.CI h m a]
  |some v=>obtain⟨e,c,d⟩:=By.CH h m v a;rw[c];simp only[d]
def jf(k:Nat)(a:Ro)(m r:Nat):List Nat:=(TT k).flatMap (λj=>if j=m then[]else uq a j r)
theorem mx(k:Nat)(a:Ro)(m r:Nat):jf (k+1) a m r=jf k a m r++(if k=m then[]else uq a k r):=by unfold jf;rw[UK,UY];simp
theorem By.oO{l a:List Nat}(h:(b.bL l).2.2≠0):b.bL (l++a)=b.bL l:=by rw[By.oM,aq h]
theorem By.oP{l a:List Nat}(h:(b.bL l).2.2=0):b.bL (l++a)=(b.bL l).1.bL a:=by rw[By.oM,ao h]
theorem Aa{ro:Ro}(h:(b.bL (jf k ro m r)).2.2≠0):∀n,k<=n->b.bL (jf n ro m r)=b.bL (jf k ro m r):=by
 intro n c;induction n with
 |zero=>rw[show k=0 by omega]
 |succ n a=>
  by_cases e:k=n+1
  .rw [e]
  .rw [mx,By.oO (by rw[a J];exact h),a J]
def lr[Lo](B:Nat)(b:By)(l:List Nat)(f:aQ)(w:M)(e:RW)(d:M):Prop:=
 ∃v,aK e (.tuple #[v,gT (b.bL l).2.1 (b.bL l).2.2])/\(∃a n c,v=.slice a n c)/\aC d B (b.bL l).1/\Fr TB aF w d/\((b.bL l).2.2=0->cR d v 128 f)
structure my(g:az)(b:By)(ro:Ro)(r:Nat):Prop where
 ok:g.ok
 rr:r<g.R
 N:b.N=g.M+1
 iF:ro.wt.length<=1000000
 room:∀m v,m<g.M->b.dv m=some v->1+r<v.d.n
theorem jg[Lo](h:Out (λk=>k=n) w W)(a:a_ w n O)(b:Lo.lo<=n):Fr [ty O] aF w W:=
 h.FH λk _ e=>by subst e;exact⟨⟨O,a,aJ⟩,b⟩
theorem nh(w:M)(D:Nat)(x y:QC):Out (λk=>k=D) w ((w.setCell (R D 0) x).setCell (R D 1) y):=
 ((Out.refl (λk=>k=D) w).setCell (λ_=>rfl) x).setCell (λ_=>rfl) y
theorem aC.low[Lo](h:aC w n b):Lo.lo<=w.heap.size:=QE h.lo (TL h.lt)
theorem Dv.H_(v:Dv)(a:v.use.d.failed=false):v.use.d=v.d:=by
 unfold Dv.use at a|-;split
 .split
  .rename_i b c;rw[ao b,ao c]at a;simp only[Dk.dead]at a;cases a
  .rfl
 .rfl
theorem ur[Lo](R B:Nat)(q:Option SZ)(g:az)(s:Nat)(c:Ro)(m r:Nat)(b:By)(f:aQ)(w:QA)(h:fh w R B q g s c)(a:aC w B b)(n:my g b c r)(C:m<g.M)(t:c.iA m r=some f):
  aE 167 #[ar R,ae m,ae r] w (lr B b (uq c m r) (eS b c m r) w):=by
 have D:uq c m r= []:=by unfold uq;rw[t];rfl
 have E:eS b c m r=f:=by unfold eS;rw[t]
 rw[D,E];have F:=ad (λW (a:au w W)=>oL R B q g s c m W (h.below a) C n.ok.m16);have G:=ad (λW=>hl (g.M:Nat) (g.c:Nat) (g.s:Nat) W (az.fY n.ok));have K:=ad (λW (a:au w W)=>qU R B q g s c m r f W (h.below a) n.iF t);have y:=ad a;obtain⟨L,X,O,Z⟩:=h.aL;obtain⟨k,H,z⟩:=cr O;have P:(r:Int)<(g.s:Int)*(g.c:Int):=by rw[gR];exact_mod_cast n.rr
 have d1:decide ((r:Int)<0)=false:=aJ;have d2:decide ((g.s:Int)*(g.c:Int)<=(r:Int))=false:=aR;go_enter func167,ntmps167;go_wp2_with(first|(go_at_call 163;refine(F _ (aI ak _)).mono ?_;rintro e N ⟨rfl,rfl⟩)|(go_at_call 27;refine(G _).mono ?_;rintro e Q ⟨rfl,a⟩;have j:=(a.block _ aJ).trans (QB w (al #[ae 0,aG 0] 172));have i:au w Q:=(aI ak _).trans (a.mono aJ);obtain⟨M,I,A⟩:=kp a w.heap.size aJ;have d:=aB i j)|(go_at_call 249;refine(K _ d.1).mono ?_;rintro e S ⟨v,rfl,o,a⟩;have j:=(a.block _ A).trans d.2;have i:au w S:=d.1.trans (a.mono d.1.size);obtain⟨Y,J,q9⟩:=kp a w.heap.size A;have u:=aM o i j;obtain⟨T,U,V,rfl⟩:=o.form));obtain⟨o,x,j⟩:=u.out;have l:=(x.setCell (p:=ag w.heap.size 0) (QH _) (ae 0)).setCell (p:=ag w.heap.size 1) (QH _) (aG 0);refine QR (v:=.tuple #[.slice (some (ag T U)) 128 V,.agg #[ae 0,aG 0]]) (by simp[RM,results167,go_sem];go_simp) rfl ⟨_,rfl,⟨_,_,_,rfl⟩,y.below l,Fr.af l,λ_=>?_⟩;exact o.eG.fr (jg (nh _ _ _ _) j y.low) rfl
theorem uu[Lo](R B:Nat)(E:Option SZ)(g:az)(F:Nat)(c:Ro)(m r:Nat)(b:By)(w:QA)(h:fh w R B E g F c)(a:aC w B b)(i:my g b c r)(G:m<g.M)(K:c.iA m r=none)(I:c.down m r=false):
  aE 167 #[ar R,ae m,ae r] w (lr B b (uq c m r) (eS b c m r) w):=by
 have Y:uq c m r= [m]:=by unfold uq;rw[K];rfl
 have J:QX (∀v,b.dv m=some v->eS b c m r=v.d.view (1+r)):=λv Q=>by unfold eS;rw[K];simp only[Q]
 rw[Y];have a3:=ad (λW (a:au w W)=>oL R B E g F c m W (h.below a) G i.ok.m16);have a4:=ad (λW=>hl (g.M:Nat) (g.c:Nat) (g.s:Nat) W (az.fY i.ok));have a5:=ad (λW (a:au w W)=>mw R B E g F c m r W (h.below a) i.iF K);have a0:=ad (λW (a:au w W)=>hY R B E g F c m r W (h.below a) G i.ok.m16);rw[I]at a0;have a6:=RJ i.rr (az.gY i.ok);have L:=ad (λW (O:au w W)=>mo B m (1+r) b W (a.below O) (by rw[i.N];omega) (i.room m · G));have a1:=ad (λe W=>fq m e W);obtain⟨u,j⟩:=ah ((b.op m bT).2);have P:QX ((b.bL [m]).1=(b.op m bT).1/\(b.bL [m]).2.2=u/\gT (b.bL [m]).2.1 (b.bL [m]).2.2=gT m u):=by
  show _/\_;rw[<-j];unfold By.bL;by_cases S:(b.op m bT).2=0
  .rw [ao S];unfold By.bL;rw[S];exact⟨rfl,rfl,rfl⟩
  .rw [aq S];exact⟨rfl,rfl,rfl⟩
 unfold lr;rw[P.2.2,P.1,P.2.1];have a7:=aB a.low j;have a2:=ad (λ(v:Dv) (Q:b.dv m=some v) (a8:v.use.d.failed=false)=>show v.use.d.view (1+r)=eS b c m r by rw[Dv.H_ v a8];exact(J v Q).symm);obtain⟨a9,c6,x1,x2⟩:=h.aL;obtain⟨k,c7,z⟩:=cr x1;have b0:(r:Int)<(g.s:Int)*(g.c:Int):=by rw[gR];exact_mod_cast i.rr
 have d1:decide ((r:Int)<0)=false:=aJ;have d2:decide ((g.s:Int)*(g.c:Int)<=(r:Int))=false:=aR;have w1:QK.wrap (1+(r:Int))=((1+r:Nat):Int):=by rw[SQ _ aa];simp
 obtain⟨T,U,s⟩:=cl m u;rw[s];have V:QX (∀W,aE 166 #[ae m,aG u] W λx b2=>x=.returned (.agg #[ae T,.int .u16 U])/\au W b2):=λW=>by rw[<-s];exact a1 u W
 unfold OS at L;rw[j]at L;obtain⟨b1,y⟩:=ah ((b.op m bT).1);rw[y]at L|-;obtain⟨c8,A⟩:=ah (eS b c m r);rw[A]at a2|-;clear h a i K x1 G Y I J a1 j P s y A;go_enter func167,ntmps167;go_wp2_with(first|(go_at_call 163;refine(a3 _ (aI ak _)).mono ?_;rintro e w2 ⟨rfl,rfl⟩)|(go_at_call 27;refine(a4 _).mono ?_;rintro e w3 ⟨rfl,a⟩;have l:=(a.block _ aJ).trans (QB w (al #[ae 0,aG 0] 172));have d:au w w3:=(aI ak _).trans (a.mono aJ);obtain⟨q4,q5,q6⟩:=kp a w.heap.size aJ;have n:=aB d l;clear a d l)|(go_at_call 249;refine(a5 _ n.1).mono ?_;rintro e w4 ⟨rfl,a⟩;have l:=(a.block _ q6).trans n.2;have d:au w w4:=n.1.trans (a.mono n.1.size);obtain⟨b3,b4,b5⟩:=kp d R z;have o:=aB d l;clear a d l)|(go_at_call 201;refine(a0 _ o.1).mono ?_;rintro e w5 ⟨rfl,rfl⟩)|(go_at_call 185;refine(L _ o.1).mono ?_;rintro e w6 ⟨b6,b7,b8,rfl,p,f,q⟩;have l:=f.hp o.2 rfl;obtain⟨b9,c0,X⟩:=cr l;have C:=bZ (Fr.tr (Fr.af o.1) f) l X p q;clear f p q)|(go_at_call 166;refine(V _).mono ?_;rintro e w7 ⟨rfl,a⟩;obtain⟨c1,c2,c3⟩:=kp a w.heap.size X;have Z:=aB a ((a.block _ X).trans C.2.1);clear a));obtain⟨f,l,c4,p,q⟩:=C.out;obtain⟨t,H⟩:=Z.out;have c5:=nh w7 w.heap.size (ae T) (.int .u16 U);have O:=jg c5 H a7.1;have h6:=f.then t;refine QR (v:=.tuple #[.slice b6 b7 b8,.agg #[ae T,.int .u16 U]]) (by simp[RM,results167,go_sem];go_simp) rfl ⟨_,rfl,⟨_,_,_,rfl⟩,(p.below t).fn O rfl,(h6.new (QH _) _).new (QH _) _,λe=>?_⟩;obtain⟨v,N,M,D,-⟩:=q e;rw[a2.out v N M]at D;exact(D.below t).fr O rfl
theorem yy(w:M)(n:Nat)(h:n<=1000):(TC 42 (Y (n:Int)) (Y (n:Int))).run prog w=.ok (a' w.heap.size n n) (w.alloc (N (bs n λ_=> aW) 41)):=by
 obtain⟨d,f,a,b,c⟩:=SD r_;have:=run_make (P:=prog) w 42 41 d aW underlying42 f a .i64 .i64 n n J J (by rw[c];omega) J;rw[this,b,TZ];show YT _ (w.alloc (N (TQ #[aW] n) 41))=_;have e:TQ #[aW] n=bs n λ_=> aW:=by
  apply Array.ext
  .simp [TQ,bs]
  .intro i g j;have:i%1=0:=YF i;simp[TQ,bs,this]
 rw[e];rfl
theorem CJ(R B:Nat)(d:Option SZ)(g:az)(i:Nat)(b:Ro)(m r:Nat)(w:M)(h:fh w R B d g i b)(l:b.wt.length<=1000000):
  aE 249 #[H R,Y m,Y r] w λe j=>(∃a n c,aK e (.tuple #[.slice a n c,.bool (b.iA m r).isSome]))/\au w j:=by
 cases o:b.iA m r with
 |none=>refine(mw R B d g i b m r w h l o).mono ?_;rintro e j ⟨rfl,k⟩;exact⟨⟨_,_,_,rfl⟩,k⟩
 |some f=>refine(qU R B d g i b m r f w h l o).mono ?_;rintro e j ⟨v,rfl,p,k⟩;obtain⟨q,s,t,rfl⟩:=p.form;exact⟨⟨_,_,_,rfl⟩,k⟩
theorem lu[Lo](R B:Nat)(c:Option SZ)(g:az)(d:Nat)(a:Ro)(m r:Nat)(b:By)(w:QA)(h:fh w R B c g d a)(i:aC w B b)(j:my g b a r)(k:m<g.M)(l:a.iA m r=none->a.down m r=false):
  aE 167 #[H R,Y m,Y r] w (lr B b (uq a m r) (eS b a m r) w):=by
 cases e:a.iA m r with
 |none=>exact uu R B c g d a m r b w h i j k e (l e)
 |some f=>exact ur R B c g d a m r b f w h i j k e
theorem my.bL(h:my g b o r){l:List Nat}(a:(b.bL l).2.2=0):my g (b.bL l).1 o r:=
 ⟨h.ok,h.rr,by rw[By.oN];exact h.N,h.iF,λm v c d=>by obtain⟨e,f,i⟩:=By.uo a d;rw[i];exact h.room m e c f⟩
theorem bf(s:Nat)(h:n≠0):gT s n=.agg #[Y s,aG n]:=aq h
structure Ab[Lo](B D S:Nat)(b:By)(ro:Ro)(M m r:Nat)(w:QA)(k:Nat)(wr:QA):Prop where
 cj:aC wr B (b.bL (jf k ro m r)).1
 ok:(b.bL (jf k ro m r)).2.2=0
 bV:Fr TB aF w wr
 KI:wr.heap[D]? =some (N #[Y 0,aG 0] 172)
 rows:∃sv:Nat->QC,wr.heap[S]? =some (N (bs M sv) 41)/\∀j,j<M->∃a n c,sv j= .slice a n c/\(j<k->j≠m->cR wr (.slice a n c) 128 (eS b ro j r))
theorem Ab.step[Lo]{B D S:Nat}{g:Ro}(h:Ab B D S b g i m r w k z)(N:k<i){s:By}{n c:Nat}{a:QA}(t:b.bL (jf (k+1) g m r)=(s,C,0))(A:aC a B s)(l:Fr TB aF z a)(E:cR a (.slice P n c) 128 (eS b g k r))(M:D<w.heap.size)(u:w.heap.size<=S)(F:Lo.lo<=w.heap.size)(o:Obj):
  Ab B D S b g i m r w (k+1) ((a.setCell (ag S k) (.slice P n c)).alloc o):=by
 obtain⟨G,K,L⟩:=h.rows;have q:=l.hp K rfl;have x:∀W:QA,au W (W.alloc o):=λW=>aI ak o;have d:∀v f,cR a v 128 f->cR ((a.setCell (ag S k) (.slice P n c)).alloc o) v 128 f:=λv f O=>(O.set (p:=ag S k) q (show(41:Nat)≠5 by decide) _).below (x _);refine⟨?_,by rw[t],((h.bV.tr l).new (p:=ag S k) u _).alloc o,?_,λj=>if j=k then .slice P n c else G j,?_,λj Q=>?_⟩
 .rw [t];exact(A.I' (p:=ag S k) q rfl (QE F u) _).below (x _)
 .have y:=l.hp h.KI rfl;refine(QW _ _ _ (by rw[RS];exact Z_ y)).trans ((RP _ _ _ _ ?_).trans y);intro e;have:D=S:=e;omega
 .refine (QW _ _ _ (by rw[RS];exact Z_ q)).trans ((heap_setCell_same a S k _ 41 _ q).trans ?_);rw[eY]
 .by_cases e:j=k
  .subst e;refine⟨P,n,c,aJ,λ_ _=>d _ _ E⟩
  .obtain ⟨T,U,V,X,Z⟩:=L j Q;exact⟨T,U,V,by simp only[aq e];exact X,λR H=>d _ _ ((Z J H).fr l rfl)⟩
theorem hG[Lo]{d:Nat × Nat}(e:Fr TB aF w W)(g:aC W m b)(i:a_ W k (.cells A 172 d))(a:w.heap.size<=k)(j:Lo.lo<=w.heap.size)(x y:QC):
  Fr TB aF w ((W.setCell (R k 0) x).setCell (R k 1) y)/\aC ((W.setCell (R k 0) x).setCell (R k 1) y) m b/\∀v n f,cR W v n f->cR ((W.setCell (R k 0) x).setCell (R k 1) y) v n f:=by
 have c:=jg (nh W k x y) i (QE j a);exact⟨(e.new (p:=R k 0) a _).new (p:=R k 1) a _,g.fn c rfl,λv n f h=>h.fr c rfl⟩
def nJ(g:az)(b:By)(a:Ro)(r:Nat):Prop:=∀m k,m<g.M->k<128->eS b a m r k<256
theorem Ac[Lo](R B:Nat)(b7:Option SZ)(g:az)(b8:Nat)(ro:Ro)(m r:Nat)(b:By)(w:QA)(h:fh w R B b7 g b8 ro)(p:aC w B b)(a1:my g b ro r)(c1:m<g.M)(d0:∀j,j<g.M->j≠m->ro.iA j r=none->ro.down j r=false)(d1:nJ g b ro r):
  aE 250 #[ar R,ae m,ae r] w (lr B b (jf g.M ro m r) (λk=>xs (λj=>decide (j≠m)) (λj=>eS b ro j r k) g.M) w):=by
 obtain⟨y,e7,q,O⟩:=qc w (al #[ae 0,aG 0] 172);have P:w.heap.size<y.heap.size:=Z_ O;have Q:=aB q O;have e8:=ad (λW (C:Fr TB aF y W)=>(h.below q).fr C rfl rfl rfl rfl);have d4:=ad (λj W (C:Fr TB aF y W)=>CJ R B b7 g b8 ro j r W ((h.below q).fr C rfl rfl rfl rfl) a1.iF);have c2:=ad (λj (U:j<g.M) W (C:Fr TB aF y W)=>hY R B b7 g b8 ro j r W ((h.below q).fr C rfl rfl rfl rfl) U a1.ok.m16);have G:=aT a1 c1 d0 d1;have d5:=ad (p.below q);obtain⟨e9,f9,x1,x2⟩:=(h.below q).aL;have a2:=ad x1;obtain⟨k0,f0,z0⟩:=cr x1;have f1:=a1.ok.m16;obtain⟨L,c3⟩:=ah (λk=>xs (λj=>decide (j≠m)) (λj=>eS b ro j r k) g.M);have f2:=ad c3;have a3:=ad p.low;rw[c3];obtain⟨d,d6,d7⟩:=g;simp only at f1 k0 c1 a2 G c2;have mk:=λw=>yy w d aa;obtain⟨D,s⟩:=ah w.heap.size;rw[s]at P;clear h p a1 d0 d1 x1 q O c3 c1;go_enter func250,ntmps250;go_wp2
 try simp only[e7,s]
 go_loopw [22] (λi wr=>∃k:Nat,i= ae k/\k<=d/\QX (au y wr)) (λi _=>d-(intOf i).toNat)
 case atStart=>exact⟨0,rfl,QN _,ak⟩
 case round=>
  obtain⟨k,rfl,d8,V⟩:=hrel;obtain⟨q1,q2,q3⟩:=kp V R z0;by_cases o:k<d
  .have E:=ad o;have a4:(k:Int)<(d:Int):=aa;obtain⟨c4,Z⟩:=ah ((ro.iA k r).isSome);obtain⟨c5,H⟩:=ah (ro.down k r);have a5:k=m\/c4=true\/c5=false:=by
    by_cases e:k=m
    .exact .inl e
    .cases d9:ro.iA k r with
     |none=>exact .inr (.inr (by rw[<-H];exact G.2.2.1 k o e d9))
     |some f=>exact .inr (.inl (by rw[<-Z,d9];rfl))
   have a6:=ad (d4 k wr (Fr.af V));have a7:=ad (λW C=>c2.out k o W C);rw[Z]at a6;rw[H]at a7;clear Z H;obtain⟨t,f3⟩:=ah ((k:Int) !=(m:Int));have a8:t=false\/c4=true\/c5=false:=by
    rcases a5 with e|e|e
    .left;rw[<-f3,e];simp
    .exact .inr (.inl e)
    .exact .inr (.inr e)
   clear a5;go_wp2_with(first|(go_at_call 249;refine a6.mono ?_;rintro e w2 ⟨⟨a,n,c,rfl⟩,p⟩;have u:au y w2:=V.trans (p.mono V.size);have a9:=ad u;clear p u)|(cases t<;>cases c4<;>cases c5<;>simp at a8))
   all_goals go_wp2_with(go_at_call 201;refine(a7 _ (Fr.af a9)).mono ?_;rintro e w3 ⟨rfl,rfl⟩)
   all_goals exact⟨⟨k+1,by go_num,E,a9⟩,by have:=E.out;simp[intOf];omega⟩
  .clear d4 c2;obtain⟨S,b9⟩:=ah wr.heap.size;have b0:QX (Ab B D S b ro d m r y 0 (wr.alloc (al (bs d λ_=> aW) 41))):=by have u:au y (wr.alloc (al (bs d λ_=> aW) 41)):=aI V _;exact⟨d5.below u,rfl,Fr.af u,(u.block D P).trans (s▸Q.2),λ_=> aW,by rw[<-b9];exact QB _ _,λj _=>⟨_,_,_,rfl,λh=>absurd h (RR j)⟩⟩
   have c6:QX (y.heap.size<=S):=by rw[<-b9];exact V.size
   go_wp2
   try simp only[b9]
   go_loopw [55] (λi wr=>∃k:Nat,i= ae k/\k<=d/\QX (Ab B D S b ro d m r y k wr)) (λi _=>d-(intOf i).toNat)
   case atStart=>exact⟨0,rfl,QN _,b0⟩
   case round=>
    clear b0 b9 q1 q3 V o d8;rename_i f4 k0;obtain⟨k,rfl,d8,l⟩:=hrel;by_cases o:k<d
    .have E:=ad o;have a4:(k:Int)<(d:Int):=aa;by_cases e:k=m
     .have d2:((k:Int)==(m:Int))=true:=by simp[e]
      have c7:QX (Ab B D S b ro d m r y (k+1) wr):=by
       have K:jf (k+1) ro m r=jf k ro m r:=by rw[mx,ao e,UB]
       obtain⟨c0,h1,h2⟩:=l.rows;exact⟨by rw[K];exact l.cj,by rw[K];exact l.ok,l.bV,l.KI,c0,h1,λj U=>by obtain⟨a,n,c,h3,h4⟩:=h2 j U;exact⟨a,n,c,h3,λh5 h6=>h4 aa h6⟩⟩
      clear e;go_wp2;exact⟨⟨k+1,by go_num,E,c7⟩,by have:=E.out;simp[intOf];omega⟩
     .have d2:((k:Int)==(m:Int))=false:=aR;have x:=λW (C:au wr W)=>lu R B b7 ⟨d,d6,d7⟩ b8 ro k r (b.bL (jf k ro m r)).1 W (e8 W (l.bV.then C)) (l.cj.below C) (G.1.bL l.ok) o (G.2.2.1 k o e);unfold lr at x;have e0:b.bL (jf (k+1) ro m r)=(b.bL (jf k ro m r)).1.bL (uq ro k r):=by rw[mx,aq e,By.oP l.ok]
      rw[<-e0,sw l.ok]at x;obtain⟨X,c8⟩:=ah (b.bL (jf (k+1) ro m r));rw[c8]at x;obtain⟨b2,s2,a0⟩:=X;simp only at x;obtain⟨e4,e5,N⟩:=cl s2 a0;rw[N]at x;obtain⟨z1,z2,z3⟩:=kp (SL wr.heap.size wr) R (l.bV.lt z0);have e6:=ad x;have b1:=aM c8 N e;clear x c8 N e0 e;obtain⟨c0,z,A⟩:=l.rows;have c9:=aB z A;clear z A;by_cases M:a0=0
      .have I:e4=0/\e5=0:=by
        have:=b1.2.1;rw[M]at this;simp only[gT,ao]at this;cases this;exact⟨rfl,rfl⟩
       obtain⟨rfl,rfl⟩:=I;go_wp2_with(go_at_call 167;refine(e6 _ ak).mono ?_;rintro e w3 ⟨v,rfl,⟨a,n,c,rfl⟩,g1,Y,g3⟩;obtain⟨p1,p2,p3⟩:=cr (Y.hp c9.1 rfl);have p4:=(p1 k).trans (cg _ _ _ o);clear p1;have F:=aM g1 Y (g3 M);clear g1 Y g3);refine⟨⟨k+1,by go_num,E,?_⟩,by have:=E.out;simp[intOf];omega⟩;exact l.step E (by rw[b1.1,M]) F.1 F.2.1 F.2.2 P c6 d5.low _
      .have I:e4=(s2:Nat)/\e5=(a0:Nat):=by
        have:=b1.2.1;rw[bf s2 M]at this;cases this;exact⟨rfl,rfl⟩
       obtain⟨rfl,rfl⟩:=I;have g0:(a0:Int)≠0:=aa;go_wp2_with(go_at_call 167;refine(e6 _ ak).mono ?_;rintro e w3 ⟨v,rfl,⟨a,n,c,rfl⟩,g1,Y,g3⟩;obtain⟨p1,p2,p3⟩:=cr (Y.hp l.KI rfl);have F:=aB g1 Y;clear g1 Y g3);go_region
       all_goals go_wp2
       have b3:=Aa (r:=r) (ro:=ro) (b:=b) (k:=k+1) (m:=m) (by rw[b1.1];exact M) d E;rw[b1.1]at b3;have h3:=(Fr.af (T:=TB) (S:=aF) Q.1).tr (l.bV.tr F.2);obtain⟨K,e2,-⟩:=hG h3 F.1 (F.2.hp l.KI rfl) (RO s) (s▸a3.out) (ae s2) (aG a0);refine QR (v:=.tuple #[aW,.agg #[ae s2,aG a0]]) (by simp[RM,results250,go_sem];go_simp) rfl ?_;unfold lr;rw[b3];exact⟨_,by rw[bf _ M],⟨_,_,_,rfl⟩,e2.below (aI (aV ak) _),(K.alloc _).drew,λe=>absurd e M⟩
    .obtain rfl:d=k:=aa;obtain⟨c0,z,A⟩:=l.rows;have b4:HX wr (a' S d d) d (λj=>decide (j≠m)) (λj=>eS b ro j r):=⟨S,0,d,bs d c0,(0,0),rfl,z,λj U=>by obtain⟨a,n,c,K,e2⟩:=A j U;exact⟨a,n,c,by rw[RH,cg _ _ _ U,K],λe3=>e2 U (by simpa using e3)⟩⟩;have b5:=ad (CF ⟨d,d6,d7⟩ r m _ (λj=>eS b ro j r) wr G.1.ok G.1.rr G.2.1 b4 G.2.2.2);have f5:=ad (λW=>fq 0 0 W);rw[f2.out]at b5;obtain⟨z1,z2,z3⟩:=cr (l.bV.hp a2 rfl);obtain⟨y1,y2,y3⟩:=cr l.KI;clear z A b4;have d3:¬((d:Nat):Int)<((d:Nat):Int):=aa;go_wp2_with(first|(go_at_call 294;refine b5.mono ?_;rintro e w3 ⟨v,rfl,x,p⟩;obtain⟨y4,y5,y6⟩:=kp p D y3;obtain⟨f6,f7,f8,rfl⟩:=x.form;have F:=aB x p;clear x p)|(go_at_call 166;refine(f5 _).mono ?_;rintro e w4 ⟨rfl,p⟩;obtain⟨y7,y8,y9⟩:=kp p D y6;have b6:=ad p;clear p;simp only[gT,ao]));obtain⟨x,p⟩:=F.out;have J:=p.trans (b6.mono p.size);have h3:=((Fr.af (T:=TB) (S:=aF) Q.1).tr l.bV).then J;obtain⟨K,e2,e3⟩:=hG h3 (l.cj.below J) ((J.block D y3).trans l.KI) (RO s) (s▸a3.out) (ae 0) (aG 0);refine QR (v:=.tuple #[.slice (some (ag f6 f7)) 128 f8,.agg #[ae 0,aG 0]]) (by simp[RM,results250,go_sem];go_simp) rfl ?_;refine⟨_,?_,⟨_,_,_,rfl⟩,e2,K,λ_=>e3 _ _ _ (x.eG.below b6)⟩;rw[l.ok];rfl
theorem uw[Lo](R B:Nat)(s:Option SZ)(g:az)(t:Nat)(a:Ro)(m r:Nat)(b:By)(w:QA)(h:fh w R B s g t a)(c:aC w B b)(q:my g b a r)(x:m<g.M)(D:a.iA m r=none)(E:a.down m r=true)(O:∀j,j<g.M->j≠m->a.iA j r=none->a.down j r=false)(P:nJ g b a r):
  aE 167 #[ar R,ae m,ae r] w (lr B b (dL g.M a m r) (dS g.M b a m r) w):=by
 have F:(a.iA m r).isNone=true/\a.down m r=true:=⟨by rw[D];rfl,E⟩;have Q:dL g.M a m r=jf g.M a m r:=by unfold dL;rw[ao F];rfl
 have S:dS g.M b a m r=λk=>xs (λj=>decide (j≠m)) (λj=>eS b a j r k) g.M:=by unfold dS;rw[ao F]
 have u:=ad (λW (d:au w W)=>Ac R B s g t a m r b W (h.below d) (c.below d) q x O P);rw[<-S,<-Q]at u;obtain⟨a5,y⟩:=ah (dS g.M b a m r);obtain⟨X,T⟩:=ah (b.bL (dL g.M a m r));unfold lr at u|-;rw[y,T]at u|-;obtain⟨b2,U,V⟩:=X;obtain⟨G,K,A⟩:=cl U V;simp only[A]at u|-;have Z:=ad (λW (c:au w W)=>oL R B s g t a m W (h.below c) x q.ok.m16);have H:=ad (λW=>hl (g.M:Nat) (g.c:Nat) (g.s:Nat) W (az.fY q.ok));have N:=ad (λW (c:au w W)=>mw R B s g t a m r W (h.below c) q.iF D);have L:=ad (λW (c:au w W)=>hY R B s g t a m r W (h.below c) x q.ok.m16);rw[E]at L;have M:=ad c.low;obtain⟨I,a6,Y,x2⟩:=h.aL;obtain⟨k,a7,z⟩:=cr Y;have J:(r:Int)<(g.s:Int)*(g.c:Int):=by rw[gR];exact_mod_cast q.rr
 have d1:decide ((r:Int)<0)=false:=aJ;have d2:decide ((g.s:Int)*(g.c:Int)<=(r:Int))=false:=aR;go_enter func167,ntmps167;go_wp2_with(first|(go_at_call 163;refine(Z _ (aI ak _)).mono ?_;rintro e w2 ⟨rfl,rfl⟩)|(go_at_call 27;refine(H _).mono ?_;rintro e w3 ⟨rfl,c⟩;have n:=(c.block _ aJ).trans (QB w (al #[ae 0,aG 0] 172));have d:au w w3:=(aI ak _).trans (c.mono aJ);obtain⟨q4,q5,q6⟩:=kp c w.heap.size aJ;have f:=aB d n)|(go_at_call 249;refine(N _ f.1).mono ?_;rintro e w4 ⟨rfl,c⟩;have n:=(c.block _ q6).trans f.2;have d:au w w4:=f.1.trans (c.mono f.1.size);have i:=aB d n)|(go_at_call 201;refine(L _ i.1).mono ?_;rintro e w5 ⟨rfl,rfl⟩)|(go_at_call 250;refine(u _ i.1).mono ?_;rintro e w6 ⟨v,rfl,⟨a0,a1,a2,rfl⟩,o,l,p⟩;have n:=l.hp i.2 rfl;obtain⟨a3,a4,a8⟩:=cr n;have C:=aT (Fr.tr (Fr.af i.1) l) n o p));obtain⟨l,n,o,p⟩:=C.out;obtain⟨y1,y2,y3⟩:=hG l o n (QH _) M (ae G) (.int .u16 K);exact QR (v:=.tuple #[.slice a0 a1 a2,.agg #[ae G,.int .u16 K]]) (by simp[RM,results167,go_sem];go_simp) rfl ⟨_,rfl,⟨_,_,_,rfl⟩,y2,y1,λe=>y3 _ _ _ (p e)⟩
def ux(g:az)(a:Ro)(m r:Nat):Prop:=a.iA m r=none->a.down m r=true->∀j,j<g.M->j≠m->a.iA j r=none->a.down j r=false
theorem kD[Lo](R B:Nat)(f:Option SZ)(g:az)(i:Nat)(a:Ro)(m r:Nat)(b:By)(w:QA)(h:fh w R B f g i a)(j:aC w B b)(k:my g b a r)(l:m<g.M)(n:ux g a m r)(o:nJ g b a r):
  aE 167 #[H R,Y m,Y r] w (lr B b (dL g.M a m r) (dS g.M b a m r) w):=by
 by_cases c:a.iA m r=none/\a.down m r=true
 .exact uw R B f g i a m r b w h j k l c.1 c.2 (n c.1 c.2) o
 .have d:¬((a.iA m r).isNone=true/\a.down m r=true):=λe=>c ⟨by simpa using e.1,e.2⟩;have p:dL g.M a m r=uq a m r:=by unfold dL;rw[aq d]
  have q:dS g.M b a m r=eS b a m r:=by unfold dS;rw[aq d]
  rw[p,q];exact lu R B f g i a m r b w h j k l λe=>by
   cases s:a.down m r with
   |false=>rfl
   |true=>exact absurd ⟨e,s⟩ c
theorem Gi[Lo](R B:Nat)(y:Option SZ)(g:az)(A:Nat)(a:Ro)(k:Nat)(b:By)(w:QA)(h:fh w R B y g A a)(l:aC w B b)(p:my g b a (g.row k))(K:k<g.B)(L:ux g a (g.mem k) (g.row k))(O:nJ g b a (g.row k)):
  aE 103 #[ar R,ae k] w (lr B b (dL g.M a (g.mem k) (g.row k)) (dS g.M b a (g.mem k) (g.row k)) w):=by
 have C:=ad (ya p.ok K);have o:=ad (λW (c:au w W)=>kD R B y g A a (g.mem k) (g.row k) b W (h.below c) (l.below c) p (az.kt p.ok k) L O);obtain⟨a0,q⟩:=ah (dS g.M b a (g.mem k) (g.row k));obtain⟨X,P⟩:=ah (b.bL (dL g.M a (g.mem k) (g.row k)));unfold lr at o|-;rw[q,P]at o|-;obtain⟨b2,Q,S⟩:=X;obtain⟨D,E,s⟩:=cl Q S;simp only[s]at o|-;have T:=ad l.low;obtain⟨U,a1,V,x2⟩:=h.aL;obtain⟨c0,f0,z⟩:=cr V;obtain⟨m,F⟩:=ah (g.mem k);obtain⟨r,G⟩:=ah (g.row k);obtain⟨a2,t⟩:=ah (g.par r);obtain⟨a3,u⟩:=ah (k/g.E);rw[F,G]at o;rw[F,G,t,u]at C;go_enter func103,ntmps103;go_wp2_with(first|(go_at_call 165;refine(C _).mono ?_;rintro e Z ⟨rfl,l⟩;have n:=(l.block _ aJ).trans (QB w (al #[ae 0,aG 0] 172));have c:au w Z:=(aI ak _).trans (l.mono aJ);obtain⟨q4,q5,H⟩:=kp l w.heap.size aJ;have f:=aB c n)|(go_at_call 167;refine(o _ (aI f.1 _)).mono ?_;rintro e w6 ⟨v,rfl,⟨N,M,I,rfl⟩,i,d,j⟩;have n:=d.hp ((QW _ _ _ H).trans f.2) rfl;obtain⟨Y,J,a4⟩:=cr n;have x:=aT (Fr.tr (Fr.af (aI f.1 _)) d) n i j));obtain⟨d,n,i,j⟩:=x.out;obtain⟨y1,y2,y3⟩:=hG d i n (QH _) T (ae D) (.int .u16 E);exact QR (v:=.tuple #[.slice N M I,.agg #[ae D,.int .u16 E]]) (by simp[RM,results103,go_sem];go_simp) rfl ⟨_,rfl,⟨_,_,_,rfl⟩,y2,y1,λe=>y3 _ _ _ (j e)⟩
theorem H':(prog.info? 4).map (λi=>(i.zero,i.size,i.bytes))=some (some iG,1,1):=ai
theorem Gj(w:M)(n:Nat)(h:n<=1000):(TC 56 (Y (n:Int)) (Y (n:Int))).run prog w=.ok (a' w.heap.size n n) (w.alloc (N (bs n λ_=>.bool false) 4)):=by
 obtain⟨d,f,a,b,c⟩:=SD H';have:=run_make (P:=prog) w 56 4 d iG underlying56 f a .i64 .i64 n n J J (by rw[c];omega) J;rw[this,b,TZ];show YT _ (w.alloc (N (TQ #[.bool false] n) 4))=_;have e:TQ #[.bool false] n=bs n λ_=>.bool false:=by
  apply Array.ext
  .simp [TQ,bs]
  .intro i g j;have:i%1=0:=YF i;simp[TQ,bs,this]
 rw[e];rfl
theorem ff.news(h:ff w v l)(A:l≠[]):∃(b o k:Nat) (c:List QC),v=.slice (some (R b o)) l.length k/\c.length=l.length/\(∀j u,(dd l c)[j]?=some u->w.cell? (((R b o):SZ).add j)=some u)/\(∀u,u∈dd l c->u.oneCell'=true)/\
  ∀(i:Nat) (p:Pt) (u:QC),l[i]?=some p->c[i]?=some u->dT w u p.2.2:=by
 obtain⟨a,k,rfl,-,h⟩:=h;obtain⟨b,o,q,B,rfl,C,x⟩:=h.resolve_left A;obtain⟨c,n⟩:∃c:List QC,c=(TT l.length).map λi=>(q[o+i*3+2]?).getD iG:=⟨_,rfl⟩;have y:c.length=l.length:=by rw[n];simp
 have z:∀(i:Nat) (p:Pt),l[i]?=some p->∃u,c[i]?=some u/\q[o+i*3+2]?=some u/\dT w u p.2.2:=λi p g=>by obtain⟨-,-,u,m,D⟩:=x i p g;refine⟨u,?_,m,D⟩;rw[n,RL,SF (QS.1 g).1];simp[m]
 have d:∀j u,(dd l c)[j]?=some u->q[o+j]?=some u/\u.oneCell'=true:=λj u f=>by
  have s:=(QS.1 f).1;rw[qD y]at s;obtain⟨p,g⟩:∃p,l[j/3]?=some p:=⟨_,QP J⟩;obtain⟨E,t,F,m⟩:=z _ p g;obtain⟨G,K,L⟩:=jI g t;obtain⟨O,P,-⟩:=x _ p g;have Q:j%3=0\/j%3=1\/j%3=2:=J;rcases Q with e|e|e
  .rw [show j=j/3*3 by omega,G]at f;cases f;exact⟨by rw[show o+j=o+j/3*3 by omega];exact O,rfl⟩
  .rw [show j=j/3*3+1 by omega,K]at f;cases f;exact⟨by rw[show o+j=o+j/3*3+1 by omega];exact P,rfl⟩
  .rw [show j=j/3*3+2 by omega,L]at f;cases f;refine⟨by rw[show o+j=o+j/3*3+2 by omega];exact F,?_⟩;obtain⟨S,T,U,rfl⟩:=m.form;rfl
 refine⟨b,o,k,c,rfl,y,λj u f=>?_,λu r=>?_,λi p u g r=>?_⟩
 .rw [show((R b o):SZ).add j=⟨b,o+j,none⟩by simp[Addr.add]];exact(QT w b (o+j) q 206 B C).trans (d j u f).1
 .obtain ⟨j,f⟩:=TY.1 r;exact(d j u f).2
 .obtain ⟨E,t,-,m⟩:=z i p g;rw[t]at r;cases r;exact m
theorem uy{a:Nat->Bool}(h:l≠[])(i:∀p,p∈l->p.1≠n)(j:∀p,p∈l->a p.1=true->a n=true->p.1=n):je a l r n f≠[]:=by
 intro e;unfold je at e;obtain⟨k,c⟩:=List.append_eq_nil_iff.1 e;obtain⟨p,b⟩:=WG l h;have d:=List.filter_eq_nil_iff.1 k p b;simp only[Bool.not_eq_true',Bool.not_eq_false]at d;by_cases g:a n=true
 .exact i p b (j p b d g)
 .rw [aq g]at c;cases c
theorem mz(a:Nat->Bool)(l:List Pt)(r par:Nat)(S:aQ):(je a l r par S).length<=l.length+1:=by unfold je;rw[QU];have:=VI (λp:Pt=> !a p.1) l;split<;>simp<;>omega
structure sx(w0 w:M)(T R:Nat)(pv lv:QC)(wl:List Pt):Prop where
 new:w0.heap.size<=T
 aL:∃wv,w.heap[T]? =some (N #[H R,pv,lv,wv] 258)/\fg w0.heap.size w wv wl
def Gk(a:Nat->Bool)(k j:Nat):QC:=.bool (if j<k then a j else false)
def ni(M:Nat)(a:Ro)(l:List Pt)(r par:Nat):List Nat:=cV M (λm=>a.down m r) l par
def jh(M:Nat)(a:Ro)(l:List Pt)(r par:Nat):List Nat:=(ni M a l r par).flatMap λj=>dL M a j r
def kg(M:Nat)(b:By)(a:Ro)(l:List Pt)(r par:Nat):List Pt:=je (λm=>a.down m r) l r par (fE (ez (ni M a l r par) λj=>dS M b a j r) l)
theorem cp[Lo]{d:Nat × Nat}(e:Fr TB aF w W)(f:aC W n b)(g:a_ W m (.cells A 172 d))(a:w.heap.size<=m)(h:Lo.lo<=m)(x y:QC):
  Fr TB aF w ((W.setCell (R m 0) x).setCell (R m 1) y)/\aC ((W.setCell (R m 0) x).setCell (R m 1) y) n b/\Fr [172] aF W ((W.setCell (R m 0) x).setCell (R m 1) y):=by
 have c:=jg (nh W m x y) g h;exact⟨(e.new (p:=R m 0) a _).new (p:=R m 1) a _,f.fn c rfl,c⟩
theorem Nr[Lo]{x y d g v:QC}(a:a_ W m (N #[d,g] 172))(h:aC W n b)(i:Fr TB aF w W)(j:k=0->cR W v 128 f)(c:w.heap.size<=m)(l:Lo.lo<=w.heap.size):
  w.heap.size<=m/\((W.setCell (R m 0) x).setCell (R m 1) y).heap[m]?=some (N #[x,y] 172)/\aC ((W.setCell (R m 0) x).setCell (R m 1) y) n b/\Fr TB aF w ((W.setCell (R m 0) x).setCell (R m 1) y)/\(k=0->cR ((W.setCell (R m 0) x).setCell (R m 1) y) v 128 f):=by
 obtain⟨o,p,q⟩:=hG i h a c l x y;exact⟨c,(heap_setCell_same _ m 1 _ 172 _ (heap_setCell_same W m 0 _ 172 _ a)),p,o,λe=>q _ _ _ (j e)⟩
theorem Ns[Lo](c:aC W n b)(a:Fr TB aF w W)(d:m=0->cR W v 128 f):
  w.heap.size<=W.heap.size/\(W.alloc (N #[x,y] 172)).heap[W.heap.size]?=some (N #[x,y] 172)/\aC (W.alloc (N #[x,y] 172)) n b/\Fr TB aF w (W.alloc (N #[x,y] 172))/\(m=0->cR (W.alloc (N #[x,y] 172)) v 128 f):=
 ⟨a.size,QB _ _,c.below (aI ak _),a.alloc _,λe=>(d e).below (aI ak _)⟩
theorem fg.off(h:fg n w v l)(d:w.heap[m]?=some O)(f:ty O≠206):∀k,v.ownBlock=some k->¬k=m:=by
 obtain⟨q,-,i,-⟩:=h;intro k a e;subst e;rcases i.2 with⟨b,-⟩|⟨g,j,o,b,p,c,-⟩
 .rw [b]at a;cases a
 .rw [b]at a;cases a;rw[c]at d;cases d;exact f rfl
theorem lx[Lo](h:aC w n b)(a:Out S w W)(c:∀k o,S k->w.heap[k]?=some o->TB.contains (ty o)=false):aC W n b:=h.fr (T:= []) (Fr.vY a) rfl c
structure sy(g:az)(b:By)(ro:Ro)(r:Nat)(l:List Pt):Prop where
 fit:my g b ro r
 row:nd g r l
 one:∀i j,i<g.M->j<g.M->ro.down i r=true->ro.down j r=true->i=j
 iF:l.length<=g.M-1
 eG:nJ g b ro r
 new:∀p,p∈l->∀k,k<128->p.2.2 k<256
def TW:List Nat:=258::206::TB
def Jf[Lo](d:M)(T R B:Nat)(pv f:QC)(g:List Pt)(_:By)(L:List Pt)(x:By × Nat × Nat)(w:M)(e:RW)(a:M):Prop:=
 aK e (gT x.2.1 x.2.2)/\aC a B x.1/\Fr TB aF d a/\Fr TW aF w a/\(x.2.2=0->∃c,c.Perm L/\(c.Pairwise λp q=>p.1<q.1)/\sx d a T R pv f (g++c))
structure LA[Lo](B S:Nat)(b:By)(ro:Ro)(M r:Nat)(bL:List Nat)(w:QA)(k:Nat)(wr:QA):Prop where
 cj:aC wr B (b.bL ((bL.take k).flatMap fun j=>dL M ro j r)).1
 ok:(b.bL ((bL.take k).flatMap fun j=>dL M ro j r)).2.2=0
 bV:Fr TB aF w wr
 rows:∃sv:Nat->QC,wr.heap[S]? =some (N (bs M sv) 41)/\∀j,j<M->∃a n c,sv j= .slice a n c/\(j∈bL.take k->cR wr (.slice a n c) 128 (dS M b ro j r))
theorem fZ(h:T[k]?=some j):T.take (k+1)=T.take k++ [j]:=by rw[UF,h];rfl
theorem LA.step[Lo]{M r:Nat}(h:LA m C b o M r T w k W)(u:T[k]?=some j){l:By}{x:Nat}{n c:Nat}(q:b.bL ((T.take (k+1)).flatMap λj=>dL M o j r)=(l,x,0))(y:aC z m l)(d:Fr TB aF W z)(A:cR z (.slice P n c) 128 (dS M b o j r))(s:w.heap.size<=C)(B:Lo.lo<=w.heap.size):
  LA m C b o M r T w (k+1) (z.setCell (R C j) (.slice P n c)):=by
 obtain⟨D,E,F⟩:=h.rows;have g:=d.hp E rfl;have a:∀v f,cR z v 128 f->cR (z.setCell (R C j) (.slice P n c)) v 128 f:=λv f G=>G.set (p:=R C j) g (show(41:Nat)≠5 by decide) _;refine⟨?_,by rw[q],(h.bV.tr d).new (p:=R C j) s _,λi=>if i=j then .slice P n c else D i,?_,λi K=>?_⟩
 .rw [q];exact y.I' (p:=R C j) g rfl (QE B s) _
 .rw [heap_setCell_same z C j _ 41 _ g,eY]
 .by_cases e:i=j
  .subst e;exact⟨P,n,c,aJ,λ_=>a _ _ A⟩
  .obtain ⟨L,O,Q,S,U⟩:=F i K;refine⟨L,O,Q,by simp only[aq e];exact S,λt=>a _ _ ((U ?_).fr d rfl)⟩;rw[fZ u,TJ]at t;exact t.resolve_right λV=>e (by simpa using V)
theorem yz(h:(b.bL T).2.2=0):dS n (b.bL T).1 o m r=dS n b o m r:=by unfold dS;simp only[sw h]
theorem nJ.bL(h:nJ g b o r){l:List Nat}(a:(b.bL l).2.2=0):nJ g (b.bL l).1 o r:=λm k c d=>by rw[sw a];exact h m k c d
theorem ly{a:Nat->Bool}(h:m∈cV n a l k):m<n:=by
 unfold cV at h;split at h
 .exact (bC.1 h).1
 .split at h
  .exact (bC.1 h).1
  .cases h
theorem qV(M:Nat)(a:Nat->Bool)(l:List Pt)(par:Nat):(cV M a l par).length<=M:=by
 unfold cV;split
 .exact fv _ _
 .split
  .exact fv _ _
  .exact QN _
theorem nJ.V(h:nJ g b o r)(c:m<g.M)(a:k<128):dS g.M b o m r k<256:=by
 unfold dS;split
 .exact BC λj d _=>h j k d a
 .exact h m k c a
theorem p_.fr[Lo]{l:List Nat}(h:p_ w v l)(d:Fr T aF w W)(f:T.contains 3=false):p_ W v l:=by obtain⟨a,c,e,h⟩:=h;refine⟨a,c,e,h.imp id ?_⟩;rintro⟨b,o,g,i,j,k,m⟩;exact⟨b,o,g,i,j,d.hp k f,m⟩
theorem sy.dn(h:sy g b o r l)(a:m<g.M):ux g o m r:=λ_ c j d e _=>by
 cases f:o.down j r with
 |false=>rfl
 |true=>exact absurd (h.one j m d a f c) e
theorem Jg[Lo](w0:QA)(T R B:Nat)(o2:Option SZ)(g:az)(o3:Nat)(u:Ro)(r:Nat)(b:By)(l c5:List Pt)(pv v3 v4:QC)(w:QA)(h:fh w0 R B o2 g o3 u)(K:Fr TB aF w0 w)(i0:aC w B b)(k5:sx w0 w T R pv v3 c5)(v5:ff w0 v4 l)(g9:sy g b u r l)(x5:c5.length<=1000000)(o4:Lo.lo<=w0.heap.size):
  Calls VY 255 #[.pointer (some ⟨T,0,none⟩),v4] w (Jf w0 T R B pv v3 c5 b (kg g.M b u l r (g.par r)) (b.bL (jh g.M u l r (g.par r))) w):=by
 obtain⟨U,o5⟩:∃U,w.alloc (.cells #[.int .i64 0,.int .u16 0] 172)=U:=⟨_,rfl⟩;have Y:SC w.heap.size w U:=by rw[<-o5];exact aI (SL _ _) _
 have i1:a_ U w.heap.size (.cells #[.int .i64 0,.int .u16 0] 172 (0,0)):=by rw[<-o5];exact QB _ _
 have k6:w.heap.size<U.heap.size:=Z_ i1;have F:=RB (And.intro Y (And.intro i1 (And.intro K.size i0.low)));have J:=K.then Y;have v6:=RB (λW (K:Fr TB aF U W)=>h.fr (J.tr K) rfl rfl rfl rfl);have v7:=RB (λj (N:j<g.M) W (K:Fr TB aF U W)=>hY R B o2 g o3 u j r W (h.fr (J.tr K) rfl rfl rfl rfl) N g9.fit.ok.m16);have A:=RB (And.intro J (And.intro (i0.below Y) (And.intro (v5.fr J rfl rfl) g9)));obtain⟨A3,b1,v8⟩:=k5.aL;have o6:=Z_ b1;have i2:=(Y.block T (Z_ b1)).trans b1;have k7:=RB (And.intro k5.new (And.intro i2 (v8.below Y)));obtain⟨t0,t1,t2⟩:=cr i2;obtain⟨x6,x7,x1,x2⟩:=(v6.out U (Fr.refl _ _ _)).aL;have k8:=RB x1;obtain⟨k0,f0,z0⟩:=cr x1;have o7:=g9.fit.ok.m16;obtain⟨d,c6,c8⟩:=g;simp only at o7 k0 k8 v7;have mk:=λw=>Gj w d (by omega);obtain⟨a,x8,rfl,-,c9⟩:=v5;obtain⟨n8,o8,x9,y0,rfl,k9,c9⟩:=c9.resolve_left g9.row.ne;obtain⟨p0,i3⟩:∃p0,l[0]?=some p0:=by
  cases l0:l with
  |nil=>exact absurd l0 g9.row.ne
  |cons a l=>exact⟨a,rfl⟩
 obtain⟨-,c1,-⟩:=c9 0 p0 i3;have l1:p0.2.1=r:=(g9.row.ax i3).2.1;rw[l1]at c1;have L:=J.hp k9 rfl;have z4:=RB L;have q0:=(QT U n8 (o8+1) x9 206 y0 L).trans (by simpa using c1);have q1:=Z_ L;have o9:(0:Int)<(l.length:Int):=by have:=g9.row.ne;have:l.length≠0:=λe=>this (WM.1 e);omega
 obtain⟨n,v9⟩:∃n,l.length=n:=⟨_,rfl⟩;rw[v9]at o9 A|-;obtain⟨D,z⟩:∃D,w.heap.size=D:=⟨_,rfl⟩;rw[z]at k6 o6;clear h K i0 k5 b1 v8 x1 x2 g9 c9 i3 c1 l1 k9 L Y i1 J i2;go_enter Tryz.func255,Tryz.ntmps255;go_wp2
 try simp only[o5,z]
 obtain⟨S,i4⟩:∃S,U.heap.size=S:=⟨_,rfl⟩;have l2:(U.alloc (.cells (bs d λ_=>.bool false) 4)).heap[S]?=some (.cells (bs d (Gk (λm=>u.down m r) 0)) 4 (0,0)):=by rw[<-i4,QB];rfl
 have q2:=RB (And.intro l2 (aI (SL _ U) (.cells (bs d λ_=>.bool false) 4)));clear l2;rw[i4]at t2 z0 q1 k6
 try simp only[i4]
 go_loopw [26] (λi wr=>∃k:Nat,i=.int .i64 k/\k<=d/\QX (a_ wr S (.cells (bs d (Gk (λm=>u.down m r) k)) 4 (0,0))/\SC U.heap.size U wr)) (λi _=>d-(intOf i).toNat)
 case atStart=>exact⟨0,rfl,QN _,q2.out⟩
 case round=>
  obtain⟨k,rfl,a0,x⟩:=hrel;obtain⟨y1,y2,y3⟩:=cr x.out.1;obtain⟨y4,y5,y6⟩:=kp x.out.2 T (by rw[i4];exact t2);obtain⟨y7,y8,y9⟩:=kp x.out.2 n8 (by rw[i4];exact q1);by_cases V:k<d
  .have l3:=RB V;have l4:(k:Int)<(d:Int):=by omega
   have gb:0<n:=by omega
   have l5:=RB (λW K=>v7.out k V W K);obtain⟨n9,i5⟩:∃n9,u.down k r=n9:=⟨_,rfl⟩;rw[i5]at l5;have z5:=(y1 k).trans (cg _ _ _ V);have q3:=RB i5;clear y1 i5;go_wp2;go_region_held3(λt=>t.cell? ⟨T,0,none⟩=some (.pointer (some ⟨R,0,none⟩))/\t.cell? ⟨n8,o8+1,none⟩=some (.int .i64 (r:Nat))) ((simp[*,go_sem];done)) (first|(go_at_call 201;refine(l5.out _ (Fr.af (via x.out.2 (by go_grown)))).mono ?_;rintro e w3 ⟨rfl,rfl⟩))
   all_goals go_wp2
   refine⟨⟨k+1,by go_num,l3.out,?_,?_⟩,by have:=l3.out;simp[intOf];omega⟩
   .show (wr.setCell ⟨S,k,none⟩ (.bool n9)).heap[S]?=_;rw[heap_setCell_same wr S k _ 4 _ x.out.1,eY];refine congrArg (λa=>some (Obj.cells a 4 (0,0))) (kV λj N=>?_);unfold Gk;by_cases e:j=k
    .subst e;simp[q3.out]
    .simp only[if_neg e,show(j<k+1)=(j<k)by simp;omega]
   .exact (via x.out.2 (aV (SL _ _))).setCell (p:=⟨S,k,none⟩) (RO i4) (.bool n9)
  .obtain rfl:d=k:=by omega
   have h4:QX (zL wr (.slice (some ⟨S,0,none⟩) d d) d (λm=>u.down m r)):=⟨_,_,rfl,.inr ⟨S,0,_,_,rfl,x.out.1,λj N=>by rw[RH,cg _ _ _ N];simp[Gk,N]⟩⟩;have M:=Ct ⟨d,c6,c8⟩ (λm=>u.down m r) l r (.slice (some ⟨S,0,none⟩) d d) (.slice (some ⟨n8,o8,none⟩) n x8) wr A.out.2.2.2.fit.ok h4.out (A.out.2.2.1.below x.out.2) A.out.2.2.2.row A.out.2.2.2.one A.out.2.2.2.iF;obtain⟨q4,q5,l6⟩:=kp x.out.2 R (by rw[i4];exact z0);obtain⟨j9,i6⟩:∃j9,dV d (λm=>u.down m r) l (az.par ⟨d,c6,c8⟩ r)=j9:=⟨_,rfl⟩;obtain⟨f,b3⟩:∃f,cV d (λm=>u.down m r) l (az.par ⟨d,c6,c8⟩ r)=f:=⟨_,rfl⟩;obtain⟨par,b4⟩:∃par,az.par ⟨d,c6,c8⟩ r=par:=⟨_,rfl⟩;have s:=RB (And.intro i6 (And.intro b3 b4));unfold Lr at M;rw[i6,b3,b4]at M;have q6:=RB M;have z6:=λw=>yy w d (by omega);clear y1 y2 M i6 b3 b4;go_wp2_with(go_at_call 300;refine q6.out.mono ?_;rintro e w2 ⟨v1,v2,rfl,g1,g2,g3⟩;have l7:=via x.out.2 g3;obtain⟨a1,a2,a3⟩:=kp g3 T y6;obtain⟨a4,a5,a6⟩:=kp g3 R l6;obtain⟨k1,k2,rfl,-,-⟩:=id g1;obtain⟨k3,k4,rfl,-⟩:=id g2;rw[v9]at g1;have b5:=RB (And.intro g1 (And.intro g2 (And.intro g3 l7)));clear g1 g2 g3 l7);obtain⟨P,q7⟩:∃P,w2.heap.size=P:=⟨_,rfl⟩;obtain⟨d0,d7⟩:∃d0,w2.alloc (.cells #[.int .i64 (r:Nat),.int .u8 (j9:Nat),.int .i64 (par:Nat),.slice k1 n k2,.slice k3 f.length k4] 377)=d0:=⟨_,rfl⟩;have d8:SC w2.heap.size w2 d0:=by rw[<-d7];exact aI (SL _ _) _
   have q8:a_ d0 P (.cells #[.int .i64 (r:Nat),.int .u8 (j9:Nat),.int .i64 (par:Nat),.slice k1 n k2,.slice k3 f.length k4] 377 (0,0)):=by rw[<-d7,<-q7];exact QB _ _
   obtain⟨Q,l8⟩:∃Q,P+1=Q:=⟨_,rfl⟩;have w1:d0.heap.size=Q:=by rw[<-d7,SS,q7,l8]
   have h8:SC U.heap.size U d0:=via b5.out.2.2.2 d8;have h9:=RB (And.intro q8 (And.intro h8 (And.intro (b5.out.1.below d8) (b5.out.2.1.below d8))));have q9:=RB ((h4.out.below b5.out.2.2.1).below d8);have r0:QX (LA B Q b u d r f d0 0 (d0.alloc (.cells (bs d λ_=> aW) 41))):=
    ⟨A.out.2.1.below (aI h8 _),rfl,(Fr.refl _ _ _).alloc _,λ_=> aW,by rw[<-w1];exact QB _ _,λj _=>⟨_,_,_,rfl,λh=>by simp at h⟩⟩
   try simp only[q7,d7,l8]
   go_loopw [72] (λi wr=>∃k:Nat,i=.int .i64 k/\k<=f.length/\QX (LA B Q b u d r f d0 k wr)) (λi _=>f.length-(intOf i).toNat)
   case atStart=>exact⟨0,rfl,QN _,r0.out⟩
   case round=>
    rename_i z8;obtain⟨k,rfl,a0,x⟩:=hrel;have I:Fr TB aF U wr:=(Fr.af h9.out.2.1).tr x.out.bV;obtain⟨d1,d2,d3⟩:=cr (I.hp k7.out.2.1 rfl);obtain⟨d4,d5,d6⟩:=cr (x.out.bV.hp h9.out.1 rfl);have C:=RB I;clear y4 y5 y6 y7 y8 y9 q4 q5 l6 a1 a2 a3 a4 a5 a6;by_cases V:k<f.length
    .have l3:=RB V;have l4:(k:Int)<(f.length:Int):=by omega
     have w7:f.length<=16:=QE (s.out.2.1▸qV _ _ _ _) o7;obtain⟨j,N⟩:∃j,f[k]?=some j:=⟨_,QP V⟩;have i7:j<d:=ly (s.out.2.1▸QV N);obtain⟨A4,A5,r1,b6⟩:=h9.out.2.2.2;cases r1;obtain⟨r2,r3,r4,r5,rfl,n1,n2⟩:=b6.resolve_left (by intro e;rw[e]at V;simp at V);have n3:=x.out.bV.hp n1 rfl;have n4:=(QT wr r2 (r3+k) r4 3 r5 n3).trans (n2 k j N);have n5:=Z_ n3;have i8:=λW (K:SC wr.heap.size wr W)=>kD R B o2 ⟨d,c6,c8⟩ o3 u j r (b.bL ((f.take k).flatMap λj=>dL d u j r)).1 W (v6.out W (I.then K)) (x.out.cj.below K) (A.out.2.2.2.fit.bL x.out.ok) i7 (A.out.2.2.2.dn i7) (A.out.2.2.2.eG.bL x.out.ok);have w8:b.bL ((f.take (k+1)).flatMap λj=>dL d u j r)=(b.bL ((f.take k).flatMap λj=>dL d u j r)).1.bL (dL d u j r):=by rw[fZ N,UY,By.oP x.out.ok];simp
     unfold lr at i8;rw[<-w8,yz x.out.ok]at i8;obtain⟨X,r6⟩:∃X,b.bL ((f.take (k+1)).flatMap λj=>dL d u j r)=X:=⟨_,rfl⟩;rw[r6]at i8;obtain⟨b2,s2,d9⟩:=X;simp only at i8;obtain⟨i9,b1,j0⟩:=cl s2 d9;rw[j0]at i8;obtain⟨w9,b7,-⟩:=x.out.rows;have r7:=RB b7;have a7:=C.out.hp k7.out.2.1 rfl;have L:=x.out.bV.hp h9.out.1 rfl;have b8:∀W,SC wr.heap.size wr W->Calls VY 167 #[.pointer (some ⟨R,0,none⟩),.int .i64 (j:Nat),.int .i64 (r:Nat)] W (λe t=>∃a n c,e=.returned (.tuple #[.slice a n c,.agg #[.int .i64 i9,.int .u16 b1]])/\aC t B b2/\(Fr TB aF wr t/\W.heap.size<=t.heap.size/\∀o,a_ W wr.heap.size o->TB.contains (ty o)=false->a_ t wr.heap.size o)/\(d9=0->cR t (.slice a n c) 128 (dS d b u j r))/\t.cell? ⟨T,0,none⟩=some (.pointer (some ⟨R,0,none⟩))/\t.cell? ⟨P,0,none⟩=some (.int .i64 (r:Nat))/\T<t.heap.size/\P<t.heap.size):=λW K=>(i8 W K).mono (by rintro e t ⟨v,rfl,⟨a,n,c,rfl⟩,g1,g2,g3⟩;have g4:=(Fr.af (T:=TB) (S:=aF) K).tr g2;exact⟨a,n,c,rfl,g1,⟨g4,g2.size,λo a8 k5=>g2.hp a8 k5⟩,g3,((cr (g4.hp a7 rfl)).1 0),((cr (g4.hp L rfl)).1 0),(cr (g4.hp a7 rfl)).2.2,(cr (g4.hp L rfl)).2.2⟩);have r8:=RB b8;clear b8 a7 L;have j1:=RB (And.intro r6 (And.intro j0 (And.intro N i7)));have x0:(j:Int)<(d:Int):=by omega
     clear i8 r6 j0 w8 N n1 n2 n3 b6 b7 I;go_wp2_with fail;go_cut [12,13,76,84,85,86] (λr9 s0 s1 s3 s4 s5 o0=>∃(a:Option SZ) (n c o1:Nat),r9=.slice a n c/\s0=.pointer (some ⟨o1,0,none⟩)/\s1=.tuple #[.slice a n c,.agg #[.int .i64 i9,.int .u16 b1]]/\s3=.tuple #[.slice a n c,.agg #[.int .i64 i9,.int .u16 b1]]/\s4=.slice a n c/\s5=.agg #[.int .i64 i9,.int .u16 b1]/\QX (wr.heap.size<=o1/\a_ o0 o1 (.cells #[.int .i64 i9,.int .u16 b1] 172 (0,0))/\aC o0 B b2/\Fr TB aF wr o0/\(d9=0->cR o0 (.slice a n c) 128 (dS d b u j r))))
     case first=>
      go_region_held3(λt=>t.cell? ⟨T,0,none⟩=some (.pointer (some ⟨R,0,none⟩))/\t.cell? ⟨P,0,none⟩=some (.int .i64 (r:Nat))) ((simp[*,go_sem];done)) (first|(go_at_call 167;refine(r8.out _ (by go_grown)).mono ?_;rintro e w3 ⟨a,n,c,rfl,g1,g2,g3,g4,g5,g6,g7⟩;(try(have h7:=g2.2.2 _ (QB wr (.cells #[.int .i64 0,.int .u16 0] 172)) rfl;obtain⟨c7,f7,z7⟩:=cr h7;have H7:=RB h7;clear h7));have b5:=RB (And.intro g1 (And.intro g2 g3));clear g1 g2 g3))
      all_goals go_wp2
      all_goals go_meet
      all_goals first
       |exact⟨_,_,_,_,rfl,rfl,rfl,rfl,rfl,rfl,Nr H7.out b5.out.1 b5.out.2.1.1 b5.out.2.2 (QH _) (x.out.cj.low)⟩
       |exact⟨_,_,_,_,rfl,rfl,rfl,rfl,rfl,rfl,Ns b5.out.1 b5.out.2.1.1 b5.out.2.2⟩
     case rest=>
      rename_i z9;refine z9 _ _ ?_;obtain⟨a,A6,c,o1,rfl,rfl,rfl,rfl,rfl,rfl,l9⟩:=hcut;have e0:=l9.out.2.2.2.1;have e4:=RB e0;obtain⟨f1,f2,f3⟩:=cr l9.out.2.1;obtain⟨f4,f5,f6⟩:=cr (e0.hp (C.out.hp F.out.2.1 rfl) rfl);rw[z]at f4 f5 f6;obtain⟨f7,f8,f9⟩:=cr (e0.hp r7.out rfl);have f10:=(f7 j).trans (cg _ _ _ j1.out.2.2.2);clear f7 e0;by_cases h0:d9=0
      .have j2:i9=0/\b1=0:=by
        have:=j1.out.2.1;rw[h0]at this;simp only[gT,if_pos]at this;cases this;exact⟨rfl,rfl⟩
       obtain⟨rfl,rfl⟩:=j2;go_wp2;refine⟨⟨k+1,by go_num,l3.out,?_⟩,by have:=l3.out;simp[intOf];omega⟩;exact x.out.step j1.out.2.2.1 (by rw[j1.out.1,h0]) l9.out.2.2.1 e4.out (l9.out.2.2.2.2 h0) (RO w1) (QE F.out.2.2.2 (QE F.out.1.size h9.out.2.1.size))
      .have j2:i9=(s2:Nat)/\b1=(d9:Nat):=by
        have:=j1.out.2.1;rw[bf s2 h0]at this;cases this;exact⟨rfl,rfl⟩
       obtain⟨rfl,rfl⟩:=j2;have A7:(d9:Int)≠0:=by omega
       go_wp2;have h3:=(A.out.1.tr C.out).tr e4.out;have s6:w0.heap.size<=D:=by rw[<-z];exact F.out.2.2.1
       have l0:Lo.lo<=D:=by rw[<-z];exact F.out.2.2.2
       have m0:=e4.out.hp (C.out.hp F.out.2.1 rfl) rfl;rw[z]at m0;obtain⟨e1,e2,-⟩:=cp h3 l9.out.2.2.1 m0 s6 l0 (.int .i64 (s2:Nat)) (.int .u16 (d9:Nat));have s7:b.bL (jh d u l r par)=(b2,s2,d9):=by unfold jh ni;rw[<-s.out.2.2,s.out.2.1,<-WZ (k+1) f,UY,By.oO (by rw[j1.out.1];exact h0),j1.out.1]
       refine QR (v:=.agg #[.int .i64 (s2:Nat),.int .u16 (d9:Nat)]) (by simp[RM,Tryz.results255,go_sem];go_simp) rfl ?_;rw[s.out.2.2,s7];have e5:=(Fr.af (T:=TB) (S:=aF) F.out.1).tr (C.out.tr e4.out);exact⟨by rw[bf _ h0],e2,e1,((e5.new (p:=⟨D,0,none⟩) (RO z) _).new (p:=⟨D,1,none⟩) (RO z) _).wide TW rfl,λe=>absurd e h0⟩
    .obtain rfl:k=f.length:=by omega
     obtain⟨w9,b7,j3⟩:=x.out.rows;have a8:=x.out.ok;have j4:=x.out.cj;rw[UC]at j3 a8 j4;have m1:HX wr (.slice (some ⟨Q,0,none⟩) d d) d (λj=>f.contains j) (λj=>dS d b u j r):=⟨Q,0,d,bs d w9,(0,0),rfl,b7,λj N=>by obtain⟨a,n,c,e1,e2⟩:=j3 j N;exact⟨a,n,c,by rw[RH,cg _ _ _ N,e1],λe3=>e2 (by simpa using e3)⟩⟩;have m2:zL wr (.slice (some ⟨S,0,none⟩) d d) d (λm=>u.down m r):=q9.out.fr x.out.bV rfl;have m3:ff wr (.slice k1 n k2) l:=h9.out.2.2.1.fr x.out.bV rfl rfl;have b6:p_ wr (.slice k3 f.length k4) f:=h9.out.2.2.2.fr x.out.bV rfl;have j5:=C.out.hp k8.out rfl;have a7:=C.out.hp k7.out.2.1 rfl;have L:=x.out.bV.hp h9.out.1 rfl;have s8:=Z_ j5;have j6:f.length<=16:=QE (s.out.2.1▸qV _ _ _ _) o7;have b8:∀W,SC wr.heap.size wr W->Calls VY 301 #[.agg #[.int .i64 (d:Nat),.int .i64 (c6:Nat),.int .i64 (c8:Nat)],.slice (some ⟨S,0,none⟩) d d,.agg #[.int .i64 (r:Nat),.int .u8 (j9:Nat),.int .i64 (par:Nat),.slice k1 n k2,.slice k3 f.length k4],.slice (some ⟨Q,0,none⟩) d d] W (λe t=>∃a O c,e=.returned (.tuple #[.slice a (VR O) c,.int .u16 0])/\(ff t (.slice a O.length c) O/\O.Perm (kg d b u l r par)/\O.Pairwise (λp q=>p.1<q.1)/\SC wr.heap.size wr t)/\(∀o,t.cell? ⟨T,o,none⟩=wr.cell? ⟨T,o,none⟩)/\(∀o,t.frozen? ⟨T,o,none⟩=wr.frozen? ⟨T,o,none⟩)/\T<t.heap.size/\(∀o,t.cell? ⟨R,o,none⟩=wr.cell? ⟨R,o,none⟩)/\(∀o,t.cell? ⟨P,o,none⟩=wr.cell? ⟨P,o,none⟩)):=λW K=>by
      have:=Gg ⟨d,c6,c8⟩ (λm=>u.down m r) l r (.slice (some ⟨S,0,none⟩) d d) (.slice k1 n k2) (.slice k3 f.length k4) (.slice (some ⟨Q,0,none⟩) d d) (λj=>dS d b u j r) W A.out.2.2.2.fit.ok (m2.below K) (m3.below K)
       (by rw[s.out.2.1];exact b6.below K) (by rw[s.out.2.1];exact m1.below K) A.out.2.2.2.row A.out.2.2.2.one A.out.2.2.2.iF (λm k s9 a0=>A.out.2.2.2.eG.V s9 a0) A.out.2.2.2.new (λm s9=>ly s9) (by rw[s.out.2.1];exact j6)
      rw[s.out.1,s.out.2.1,s.out.2.2]at this;refine this.mono ?_;rintro e t ⟨v,O,rfl,p1,p2,p3,p4⟩;obtain⟨a,c,rfl,-⟩:=id p1;have p5:=K.trans (p4.mono K.size);refine⟨a,O,c,rfl,⟨p1,?_,p3,p5⟩,(kp p5 T d3).1,(kp p5 T d3).2.1,(kp p5 T d3).2.2,(kp p5 R s8).1,(kp p5 P d6).1⟩;unfold kg ni;rw[<-s.out.2.2,s.out.2.1,s.out.2.2];exact p2
     have r8:=RB b8;obtain⟨z1,z2,z3⟩:=cr j5;clear b8 m2 m3 b6 j5 L m1 b7 j3;go_wp2_with fail;go_region_held3(λt=>t.cell? ⟨T,0,none⟩=some (.pointer (some ⟨R,0,none⟩))/\t.cell? ⟨R,1,none⟩=some (.int .i64 (d:Nat))/\t.cell? ⟨R,2,none⟩=some (.int .i64 (c6:Nat))/\t.cell? ⟨R,3,none⟩=some (.int .i64 (c8:Nat))/\t.cell? ⟨P,0,none⟩=some (.int .i64 (r:Nat))/\t.cell? ⟨P,1,none⟩=some (.int .u8 (j9:Nat))/\t.cell? ⟨P,2,none⟩=some (.int .i64 (par:Nat))/\t.cell? ⟨P,3,none⟩=some (.slice k1 n k2)/\t.cell? ⟨P,4,none⟩=some (.slice k3 f.length k4)) ((simp[*,go_sem];done)) (first|(go_at_call 301;refine(r8.out _ (by go_grown)).mono ?_;rintro e w4 ⟨a,O,c,rfl,g1,g2,g3,g4,g5,g6⟩;have E:=RB g1;clear g1));have m4:O≠[]:=by intro e;have h1:=E.out.2.1;rw[e]at h1;have h2:=h1.length_eq;have h3:kg d b u l r par≠[]:=uy A.out.2.2.2.row.ne (λp t3=>by rw[<-s.out.2.2];exact(A.out.2.2.2.row.mem p t3).2.2) (λp t3 h5 h6=>A.out.2.2.2.one _ _ (A.out.2.2.2.row.mem p t3).1 (by rw[<-s.out.2.2];exact az.iO A.out.2.2.2.fit.ok r) h5 h6);exact h3 (WM.1 h2.symm)
     have m5:=((k7.out.2.2.fr C.out rfl rfl).below E.out.2.2.2);have A0:=RB m5;obtain⟨A8,m6,e6,m7⟩:=m5;obtain⟨A1,wc,rfl,-⟩:=av e6;obtain⟨r2,r3,A9,t4,r1,gb,fe,m8,m9⟩:=E.out.1.news m4;cases r1;have H:=RB (And.intro m6 (And.intro e6 (And.intro m7 (And.intro gb (And.intro fe (And.intro m8 m9))))));have x3:O.length<=17:=by rw[E.out.2.1.length_eq];have h1:=A.out.2.2.2.iF;unfold kg;have h2:=mz (λm=>u.down m r) l r par (fE (ez (ni d u l r par) λj=>dS d b u j r) l);simp only at h1;omega
     have n0:0<O.length:=ZM.2 m4;obtain⟨A2,t5,t6,t7,t8⟩:=SD zP;have G:=e6;have t9:w0.heap.size<=w4.heap.size:=QE (QE A.out.1.size C.out.size) E.out.2.2.2.size;clear m6 e6 m7 gb m8 m9;go_wp2_with(first|(at_builtin;refine aU _ rfl _ _ 162 rfl w0.heap.size 206 A2 (.agg #[.int .i64 0,.int .i64 0,aW]) 3 40 Tryz.underlying162 t5 t6 t7 t8 rfl (by decide) (.slice A1 c5.length wc) c5.length _ rfl G ⟨r2,r3,none⟩ O.length _ (dd O t4) rfl (qD H.out.2.2.2.1) fe H.out.2.2.2.2.2.1 n0 (by unfold UI;omega) (by omega) t9 ?_));intro B0 w5 b9 c0;obtain⟨e7,e8,rfl,-⟩:=av b9;obtain⟨a9,c2⟩:=c0.ty G;have Z:=fg.push H.out.1 H.out.2.2.2.1 rfl rfl H.out.2.1 H.out.2.2.1 H.out.2.2.2.2.2.2 b9 c0;have c3:=(E.out.2.2.2.block T d3).trans a7;have y:=a9.heap c3 λe=>by have:=c2 T _ e c3;cases this
     have e9:=C.out.hp F.out.2.1 rfl;rw[z]at e9;have j7:=(E.out.2.2.2.block D (Z_ e9)).trans e9;have c4:=a9.heap j7 λe=>by have:=c2 D _ e j7;cases this
     have g0:=lx (j4.below E.out.2.2.2) a9 λk o a0 a8=>by rw[c2 k o a0 a8];rfl
     have g8:Fr TB aF w0 w5:=((A.out.1.tr C.out).then E.out.2.2.2).out a9 λk a0 e=>by have:=(bo G e).2;omega
     have e5:Fr TW aF w w5:=(((Fr.af (T:=TB) (S:=aF) F.out.1).tr (C.out.then E.out.2.2.2)).wide TW rfl).tr (a9.FH λk a0 e=>⟨⟨_,SB a0,by rw[c2 k _ e (SB a0)];rfl⟩,by have:=(bo G e).2;omega⟩);have u0:=RB e5;obtain⟨p1,p2,p3⟩:=cr y;obtain⟨p4,p5,p6⟩:=cr c4;have u1:=RB (And.intro Z (And.intro y (And.intro c4 (And.intro g0 g8))));have u2:=RB (λW=>fq 0 0 W);have u3:=RB a8;have u4:¬D=T:=by omega
     have x4:¬T=D:=by omega
     clear a9 c2 Z c3 y e9 j7 c4 g0 g8 e5 b9 c0 G a7 a8 j4 fe g2 g3 g4 g5 g6 d1 d2 d4 d5 z1 z2 z3;go_wp2_with(first|(go_at_call 166;refine(u2.out _).mono ?_;rintro e w6 ⟨rfl,i0⟩;obtain⟨p7,p8,p9⟩:=kp i0 D (by rw[RS];exact p6);have b0:=RB i0;clear i0;simp only[gT,if_pos]));obtain⟨Z,y,c4,g0,g8⟩:=u1.out;have n6:Out (λk=>k=T) w5 (w5.setCell ⟨T,3,none⟩ (.slice e7 (c5.length+O.length) e8)):=(Out.refl (λk=>k=T) w5).setCell (p:=⟨T,3,none⟩) (λ_=>rfl) _;have j8:w0.heap.size<=T:=k7.out.1;have s6:w0.heap.size<=D:=by rw[<-z];exact F.out.2.2.1
     have l0:Lo.lo<=D:=by rw[<-z];exact F.out.2.2.2
     have u5:=(lx g0 n6 λk o a0 a8=>by subst a0;rw[y]at a8;cases a8;rfl).below b0.out;have u6:=(g8.new (p:=⟨T,3,none⟩) j8 (.slice e7 (c5.length+O.length) e8)).then b0.out;have u7:=(b0.out.block D (by rw[RS];exact p6)).trans ((RP w5 ⟨T,3,none⟩ _ D u4).trans c4);have u8:=(b0.out.block T (by rw[RS];exact p3)).trans (heap_setCell_same w5 T 3 _ 258 (.slice e7 (c5.length+O.length) e8) y);have n7:=(Z.out n6 (Z.off y (show(258:Nat)≠206 by decide)) λk o a0 a8=>by subst a0;rw[y]at a8;cases a8;exact(show(258:Nat)≠5 by decide)).below b0.out;obtain⟨e1,e2,e3⟩:=cp u6 u5 u7 s6 l0 (.int .i64 0) (.int .u16 0);have u9:jh d u l r (az.par ⟨d,c6,c8⟩ r)=f.flatMap λj=>dL d u j r:=by unfold jh ni;rw[s.out.2.1]
     refine QR (v:=.agg #[.int .i64 0,.int .u16 0]) (by simp[RM,Tryz.results255,go_sem];go_simp) rfl ?_;unfold Jf;rw[u9,u3.out,s.out.2.2];have v0:=((u0.out.set (p:=⟨T,3,none⟩) y rfl (QE o4 j8) (.slice e7 (c5.length+O.length) e8)).then b0.out);exact⟨rfl,e2,e1,(v0.new (p:=⟨D,0,none⟩) (RO z) _).new (p:=⟨D,1,none⟩) (RO z) _,λ_=>⟨O,E.out.2.1,E.out.2.2.1,⟨j8,_,e3.hp u8 rfl,n7.fr e3 rfl rfl⟩⟩⟩
def dF(g:az)(a:Ro)(b:Nat->List Pt)(K:List Nat):List Nat:=K.flatMap λr=>jh g.M a (b r) r (g.par r)
theorem wP{a:Nat->List Pt}(h:T[k]?=some r):dF g o a (T.take (k+1))=dF g o a (T.take k)++jh g.M o (a r) r (g.par r):=by unfold dF;rw[fZ h,UY];simp
def oQ(g:az)(b:By)(c:Ro)(d:Nat->List Pt)(a:List Pt)(r:Nat):Prop:=a.Perm (kg g.M b c (d r) r (g.par r))/\a.Pairwise λp q=>p.1<q.1
def dX{α β:Type}(P:α->β->Prop)(a:List α)(K:List β):Prop:=a.length=K.length/\∀(i:Nat) (x:α) (y:β),a[i]?=some x->K[i]?=some y->P x y
theorem dX.nil{α β:Type}{P:α->β->Prop}:dX P [] []:=⟨rfl,λi x y h=>by simp at h⟩
theorem dX.snoc{α β:Type}{P:α->β->Prop}{c:List α}{K:List β}{x:α}{y:β}(h:dX P c K)(e:P x y):dX P (c++ [x]) (K++ [y]):=by
 refine⟨by simp[h.1],λi u v a b=>?_⟩;by_cases d:i<c.length
 .rw [RD d]at a;rw[RD (by rw[<-h.1];exact d)]at b;exact h.2 i u v a b
 .rw [QZ J]at a;rw[QZ (by rw[<-h.1];omega),<-h.1]at b;have f:=(QS.1 a).1;have g:i-c.length=0:=by simp at f;omega
  rw[g]at a b;simp at a b;subst a;subst b;exact e
theorem CK{a:List (List Pt)}(h:∀l,l∈a->l.length<=n):a.flatten.length<=n*a.length:=by
 induction a with
 |nil=>simp
 |cons l a b=>have d:=h l (SE ..);have e:=b λl c=>h l (SN _ c);simp only[List.flatten_cons,QU,SG,Nat.mul_add];omega
theorem Jh{a:Nat->List Pt}{d:List (List Pt)}(h:dX (oQ g b o a) d T)(k:∀r,r∈T->(a r).length<=16):d.flatten.length<=17*T.length:=by
 rw[<-h.1];refine CK λe c=>?_;obtain⟨i,f⟩:=TY.1 c;have l:=(QS.1 f).1;obtain⟨r,j⟩:∃r,T[i]?=some r:=⟨_,QP (by rw[<-h.1];exact l)⟩;have m:=h.2 i e r f j;have n:e.length<=(a r).length+1:=by rw[m.1.length_eq];exact mz _ _ _ _ _
 have p:=k r (QV j);omega
theorem CL(h:(b.bL T).2.2=0):kg n (b.bL T).1 o l r m=kg n b o l r m:=by unfold kg;simp only[yz h]
theorem sy.bL(h:sy g b o r l)(a:(b.bL T).2.2=0):sy g (b.bL T).1 o r l:=
 ⟨h.fit.bL a,h.row,h.one,h.iF,h.eG.bL a,h.new⟩
theorem sx.fr[Lo]{T':List Nat}{T R:Nat}(h:sx W w T R v x l)(a:Fr T' aF w z)(b:T'.contains 258=false)(c:T'.contains 206=false)(d:T'.contains 5=false):sx W z T R v x l:=by obtain⟨e,f,g⟩:=h.aL;exact⟨h.new,e,a.hp f b,g.fr a d c⟩
structure OV[Lo](w0:M)(T R B:Nat)(g:az)(b:By)(ro:Ro)(lf:Nat->List Pt)(K:List Nat)(pv lv:QC)(w:M)(k:Nat)(wr:M):Prop where
 cj:aC wr B (b.bL (dF g ro lf (K.take k))).1
 ok:(b.bL (dF g ro lf (K.take k))).2.2=0
 bV:Fr TB aF w0 wr
 own:Fr TW aF w wr
 work:∃ls:List (List Pt),dX (oQ g b ro lf) ls (K.take k)/\sx w0 wr T R pv lv ls.flatten
def CM[Lo](f:M)(T R B:Nat)(g:az)(b:By)(a:Ro)(c:Nat->List Pt)(K:List Nat)(pv i:QC)(w:M)(e:RW)(d:M):Prop:=
 aK e (gT (b.bL (dF g a c K)).2.1 (b.bL (dF g a c K)).2.2)/\aC d B (b.bL (dF g a c K)).1/\Fr TB aF f d/\Fr TW aF w d/\((b.bL (dF g a c K)).2.2=0->∃h:List (List Pt),dX (oQ g b a c) h K/\sx f d T R pv i h.flatten)
theorem wQ[Lo](m:QA)(T R B:Nat)(b4:Option SZ)(g:az)(b5:Nat)(f:Ro)(b:By)(c:Nat->List Pt)(K:List Nat)(pv M:QC)(w:QA)(h:fh m R B b4 g b5 f)(b6:Fr TB aF m w)(b7:aC w B b)(b8:sx m w T R pv M [])(b9:IS m M (K.map c))(d0:∀r,r∈K->sy g b f r (c r))(d4:K.length<=5000)(J:Lo.lo<=m.heap.size):
  aE 170 #[ar T] w (CM m T R B g b f c K pv M w):=by
 obtain⟨d5,d6,j,a0⟩:=qc w (al #[ae 0,aG 0] 172);have q:=aT j a0 b6.size b7.low;have a1:=b6.then j;obtain⟨d7,A,d8⟩:=b8.aL;have a2:=Z_ A;have L:=(j.block T (Z_ A)).trans A;obtain⟨t0,t1,t2⟩:=cr L;have C:=bZ h b9 d0 d4 J;have O:QX (OV m T R B g b f c K pv M w 0 d5):=⟨b7.below j,rfl,a1,Fr.af j,[],dX.nil,b8.new,d7,L,d8.below j⟩;obtain⟨D,a⟩:=ah w.heap.size;obtain⟨d9,c0,rfl,-⟩:=b9;obtain⟨n,c1⟩:=ah K.length;have fe:(K.map c).length=n:=by rw[RA,c1]
 rw[fe]at t0 O C|-;have e0:n<=5000:=aa;rw[a]at a2;go_enter func170,ntmps170;go_wp2
 try simp only[d6,a]
 go_loopw [11] (λi wr=>∃k:Nat,i= ae k/\k<=n/\QX (OV m T R B g b f c K pv (.slice d9 n c0) w k wr)/\QX (a_ wr D (al #[ae 0,aG 0] 172))) (λi _=>n-(intOf i).toNat)
 case atStart=>exact⟨0,rfl,QN _,O,a▸q.2.1⟩
 case round=>
  obtain⟨k,rfl,e6,l,E⟩:=hrel;obtain⟨d1,d2,d3⟩:=cr E;by_cases a3:k<n
  .have c2:=ad a3;have c3:(k:Int)<(n:Int):=aa;obtain⟨r,F⟩:∃r,K[k]?=some r:=⟨_,QP aa⟩;have a4:=QV F;obtain⟨e7,e8,c4,a5⟩:=C.2.1;rw[fe]at c4;cases c4;obtain⟨c5,c6,a6,a7,rfl,n1,n2⟩:=a5.2.resolve_left (by intro e;rw[e]at fe;simp at fe;omega);obtain⟨u,n3,n4⟩:=n2 k (c r) (by rw[RL,F];rfl);have n5:=l.bV.hp n1 rfl;have n6:=(QT wr c5 (c6+k) a6 162 a7 n5).trans n3;have n7:=Z_ n5;obtain⟨P,Q,a8⟩:=l.work;have a9:=C.2.2.1 r a4;have c7:P.flatten.length<=17*n:=QE (Jh Q λr F=>by have h1:=(C.2.2.1 r (ZL F));have h2:=h1.iF;have h3:=h1.fit.ok.m16;omega) (Nat.mul_le_mul_left _ (by rw[VD];omega));have d:=Jg m T R B b4 g b5 f r (b.bL (dF g f c (K.take k))).1 (c r) P.flatten pv (.slice (some (ag c5 c6)) n c0) u wr C.1 l.bV l.cj a8 n4 (a9.bL l.ok) aa C.2.2.2.2;have e4:b.bL (dF g f c (K.take (k+1)))=(b.bL (dF g f c (K.take k))).1.bL (jh g.M f (c r) r (g.par r)):=by rw[wP F,By.oP l.ok]
   unfold Jf at d;rw[<-e4,CL l.ok]at d;obtain⟨X,I⟩:=ah (b.bL (dF g f c (K.take (k+1))));rw[I]at d;obtain⟨b2,G,x⟩:=X;obtain⟨c8,A,U⟩:=cl G x;simp only[U]at d;obtain⟨e9,f0,rfl,-⟩:=id n4;have b0:x≠0->b.bL (dF g f c K)=(b2,G,x):=λt=>by
    have V:dF g f c K=dF g f c (K.take (k+1))++dF g f c (K.drop (k+1)):=by unfold dF;rw[<-UY,WZ]
    rw[V,By.oO (by rw[I];exact t),I]
   have c9:=ad d;have y:=bZ I U F Q b0;by_cases t:x=0
   .have z:c8=0/\A=0:=by
     have:=y.2.1;rw[t]at this;simp only[gT,ao]at this;cases this;exact⟨rfl,rfl⟩
    obtain⟨rfl,rfl⟩:=z;go_wp2_with(go_at_call 255;refine c9.mono ?_;rintro e w3 ⟨rfl,g1,g2,W,g4⟩;obtain⟨p1,p2,p3⟩:=cr (W.hp E rfl);have s:=aT g1 g2 W (g4 t));refine⟨⟨k+1,by go_num,c2,?_,(QW _ _ _ p3).trans (s.2.2.1.hp E rfl)⟩,by have:=c2.out;simp[intOf];omega⟩;obtain⟨e5,q1,q2,q3⟩:=s.2.2.2;have Z:∀o,au w3 (w3.alloc o):=λo=>aI ak o;refine⟨by rw[y.1];exact s.1.below (Z _),by rw[y.1];exact t,s.2.1.alloc _,(l.own.tr s.2.2.1).alloc _,P++ [e5],?_,?_⟩
    .rw [fZ y.2.2.1];exact y.2.2.2.1.snoc ⟨q1,q2⟩
    .rw [ZO];simp only[List.flatten_cons,List.flatten_nil,UB];exact q3.fr (Fr.af (T:= []) (S:=aF) (Z _)) rfl rfl rfl
   .have z:c8=(G:Nat)/\A=(x:Nat):=by
     have:=y.2.1;rw[bf G t]at this;cases this;exact⟨rfl,rfl⟩
    obtain⟨rfl,rfl⟩:=z;have f1:(x:Int)≠0:=aa;go_wp2_with(go_at_call 255;refine c9.mono ?_;rintro e w3 ⟨rfl,g1,g2,W,g4⟩;obtain⟨p1,p2,p3⟩:=cr (W.hp E rfl);have s:=aM g1 g2 W);have b1:m.heap.size<=D:=by rw[<-a];exact q.2.2.1
    have b3:Lo.lo<=D:=by rw[<-a];exact q.2.2.2
    obtain⟨V,Y,-⟩:=cp s.2.1 s.1 (s.2.2.hp E rfl) b1 b3 (ae G) (aG x);refine QR (v:=.agg #[ae G,aG x]) (by simp[RM,results170,go_sem];go_simp) rfl ?_;unfold CM;rw[y.2.2.2.2 t];exact⟨by rw[bf _ t],Y.below (aI ak _),V.alloc _,(((l.own.tr s.2.2).new (p:=ag D 0) (RO a) _).new (p:=ag D 1) (RO a) _).alloc _,λe=>absurd e t⟩
  .obtain rfl:n=k:=aa;have H:K.take n=K:=by rw[<-c1,UC]
   have N:=ad H;go_wp2;have b1:m.heap.size<=D:=by rw[<-a];exact q.2.2.1
   have b3:Lo.lo<=D:=by rw[<-a];exact q.2.2.2
   obtain⟨V,Y,e3⟩:=cp l.bV l.cj E b1 b3 (ae 0) (aG 0);refine QR (v:=.agg #[ae 0,aG 0]) (by simp[RM,results170,go_sem];go_simp) rfl ?_;obtain⟨i1,i2,i3,i6,P,i4,i5⟩:=l.out;rw[N.out]at Y i2 i4;unfold CM;rw[i2];exact⟨rfl,Y,V,(i6.new (p:=ag D 0) (RO a) _).new (p:=ag D 1) (RO a) _,λ_=>⟨P,i4,i5.fr e3 rfl rfl rfl⟩⟩
def aS(l:List Pt):bX:=⟨l.length,λi=>((l[i]?).map (·.1)).getD 0,λi=>((l[i]?).map (·.2.1)).getD 0,λi=>((l[i]?).map (·.2.2)).getD λ_=>0⟩
theorem dT.Nt(h:dT w v f):gp (λ_=>False) w v f:=by obtain⟨b,o,a,c,d,g,i,e,j⟩:=h;exact⟨b,o,a,g,i,id,λk l=>(QT w b (o+k) c 5 d e).trans (j k l),c,d,e⟩
theorem ff.Nu(h:ff w v l):rZ (λ_=>False) w v (aS l):=by
 obtain⟨a,f,rfl,q,h⟩:=h;rcases h with e|⟨b,o,d,y,rfl,z,k⟩
 .subst e;exact⟨a,f,λ_=>.bool false,rfl,q,.inl rfl,λi k=>absurd k (RR i)⟩
 .have r:∀i,i<l.length->∃p,l[i]?=some p/\d[o+i*3]?=some (Y p.1)/\d[o+i*3+1]?=some (Y p.2.1)/\∃u,d[o+i*3+2]?=some u/\dT w u p.2.2:=λi c=>⟨_,QP c,k i _ (QP c)⟩;have m:∀j,w.cell? (R b j)=d[j]?:=λj=>QT w b j d 206 y z;refine⟨_,f,λi=>(d[o+i*3+2]?).getD iG,rfl,q,.inr ⟨b,o,rfl,id,λi c=>?_⟩,λi c=>?_⟩
  .obtain ⟨p,g,s,t,u,n,x⟩:=r i c;refine⟨(m _).trans ?_,(m _).trans ?_,(m _).trans ?_⟩
   .rw [s];simp[aS,g]
   .rw [t];simp[aS,g]
   .rw [n];rfl
  .obtain ⟨p,g,s,t,u,n,x⟩:=r i c;have e:(aS l).da i=p.2.2:=by simp[aS,g]
   simp only[n,TF];rw[e];exact x.Nt
theorem CN(h:∀p,p∈l->p.1<=15/\p.2.1<=4095/\Lt 128 p.2.2):(aS l).ok:=by
 have d:∀i,i<(aS l).N->∃p,l[i]?=some p/\p∈l:=λi a=>⟨_,QP a,YJ a⟩;refine⟨λi a=>?_,λi a=>?_,λi a=>?_⟩
 .obtain ⟨p,b,c⟩:=d i a;simp only[aS,b,QY,TF];exact(h p c).1
 .obtain ⟨p,b,c⟩:=d i a;simp only[aS,b,QY,TF];exact(h p c).2.1
 .obtain ⟨p,b,c⟩:=d i a;simp only[aS,b,QY,TF];exact(h p c).2.2
def OW[Lo](W r B J M:Nat)(x:Wl)(b:By)(c:Nat)(w:QA)(e:RW)(a:QA):Prop:=
 aK e (gT M c)/\aC a B b/\bH a W r B J x/\Fr fT aF w a
theorem Ad[Lo](w0:QA)(T R B W r J:Nat)(g:az)(C:Nat)(E:Ro)(b:By)(x:Wl)(a:List Pt)(pv b0:QC)(w:QA)(h:fh w R B (some ⟨W,0,none⟩) g C E)(k:aC w B b)(M:bH w W r B J x)(I:sx w0 w T R pv b0 a)(b1:J<b.N)(Y:(aS a).ok)(O:1<=a.length)(b3:a.length<=1023)(a0:cJ x.ep x.nx)(a1:∀v,b.dv J=some v->2+x.N<=v.d.n/\v.d.cn+10000<1000000000000)(h0:x.bad=0)(f:2*a.length+1<=x.N-x.u):
  aE 171 #[ar T] w (OW W r B J g.M (x.cM (2*a.length+1) (bp x.ep x.nx (aS a) (2*a.length)) (b.iE J x.pl (bp x.ep x.nx (aS a)) (2*a.length)).2) (b.iE J x.pl (bp x.ep x.nx (aS a)) (2*a.length)).1 (b.iE J x.pl (bp x.ep x.nx (aS a)) (2*a.length)).2 w):=by
 obtain⟨a2,D,b4,l,c,i⟩:=dU w (al #[ae 0,aG 0] 172);have n:=aM c i k.low;obtain⟨c0,F,a3⟩:=I.aL;have b5:T<D:=by rw[<-l];exact Z_ F
 have m:=(c.block T (Z_ F)).trans F;obtain⟨b6,b7,G,x2⟩:=(h.below c).aL;have q:=a3.below c;obtain⟨P,Q,e1,-⟩:=q.yj;subst e1;have t:∀s,au a2 s->aE 256 #[ar W,.slice P a.length Q] s (λe d=>aK e (.int .u16 ((b.iE J x.pl (bp x.ep x.nx (aS a)) (2*a.length)).2:Nat))/\(aC d B (b.iE J x.pl (bp x.ep x.nx (aS a)) (2*a.length)).1/\bH d W r B J (x.cM (2*a.length+1) (bp x.ep x.nx (aS a) (2*a.length)) (b.iE J x.pl (bp x.ep x.nx (aS a)) (2*a.length)).2)/\Fr fT aF a2 d/\fh d R B (some ⟨W,0,none⟩) g C E)/\d.cell? ⟨T,0,none⟩=some (ar R)/\d.cell? ⟨T,3,none⟩=some (.slice P a.length Q)/\d.cell? ⟨R,4,none⟩=some (ar W)/\(∀o,d.cell? ⟨D,o,none⟩=(#[ae 0,aG 0]:Array QC)[o]?)/\(∀o,d.frozen? ⟨D,o,none⟩=false)/\D<d.heap.size/\T<d.heap.size/\R<d.heap.size):=λs U=>by have u:=c.trans (U.mono c.size);refine(Gf (λ_=>False) W r B J x b _ (aS a) s (M.fr (T:= []) (Fr.af u) rfl rfl rfl rfl) (k.below u) b1 (q.yj.below U).Nu Y O b3 a0 a1 h0 f).mono ?_;rintro e d ⟨rfl,K,g2,g3⟩;have j:=(Fr.af (T:=fT) (S:=aF) U).tr g3;have q1:=(cr (j.hp m rfl)).1;exact⟨rfl,⟨K,g2,j,(h.below c).fr j rfl rfl rfl rfl⟩,q1 0,q1 3,(cr (j.hp G rfl)).1 4,(cr (j.hp i rfl)).1,(cr (j.hp i rfl)).2.1,(cr (j.hp i rfl)).2.2,(cr (j.hp m rfl)).2.2,(cr (j.hp G rfl)).2.2⟩
 unfold OW;obtain⟨X,a4⟩:=ah (b.iE J x.pl (bp x.ep x.nx (aS a)) (2*a.length));rw[a4]at t|-;obtain⟨b2,V⟩:=X;simp only at t;obtain⟨c1,y⟩:=ah (x.cM (2*a.length+1) (bp x.ep x.nx (aS a) (2*a.length)) V);simp only[y]at t|-;obtain⟨a5,a6,z⟩:=cl g.M V;have a7:=ad (λs (h:fh s R B (some ⟨W,0,none⟩) g C E)=>hZ R B (some ⟨W,0,none⟩) g C E V s h);rw[z]at a7|-;have b8:=ad t;obtain⟨t0,t1,t2⟩:=cr m;obtain⟨k0,f0,z0⟩:=cr G;clear h k M I a1 t a4 y F a3 m q G i c a0 Y z f;go_enter func171,ntmps171;go_wp2_with fail
 try simp only[b4,l]
 go_region_held3(λd=>d.cell? ⟨T,0,none⟩=some (ar R)/\d.cell? ⟨T,3,none⟩=some (.slice P a.length Q)/\d.cell? ⟨R,4,none⟩=some (ar W)) ((simp[*,go_sem];done)) (first|(go_at_call 256;refine(b8 _ bF).mono ?_;rintro e w3 ⟨rfl,K,g2,g3,j,g5,g6,g7,g8,g9⟩;have A:=ad K;clear K)|(go_at_call 178;refine(a7 _ A.2.2.2).mono ?_;rintro e w4 ⟨rfl,k⟩;obtain⟨p1,p2,p3⟩:=kp k D g7;obtain⟨p4,p5,p6⟩:=kp k T g8;obtain⟨p7,p8,p9⟩:=kp k R g9;have L:=ad k;clear k));go_wp2;have Z:=A.2.2.1.hp n.2.1 rfl;have H:=(L.block D g7).trans Z;have b9:Lo.lo<=D:=by rw[<-l];exact n.2.2
 have a8:=jg (nh w4 D (ae a5) (.int .u16 a6)) H b9;have N:=Fr.af (T:= []) (S:=aF) L;have a9:w.heap.size<=D:=RO l;refine QR (v:=.agg #[ae a5,.int .u16 a6]) (by simp[RM,results171,go_sem];go_simp) rfl ⟨rfl,(A.1.below L).fn a8 rfl,(A.2.1.fr N rfl rfl rfl rfl).fr a8 rfl rfl rfl rfl,?_⟩;exact((((Fr.af n.1).tr A.2.2.1).then L).new (p:=⟨D,0,none⟩) a9 _).new (p:=⟨D,1,none⟩) a9 _
abbrev fL:=Nat × (Dv->Dv × Nat)
def By.run(b:By):List fL->By × Nat × Nat
 | [] =>(b,0,0)
 |a::c=>if(b.op a.1 a.2).2=0 then(b.op a.1 a.2).1.run c else((b.op a.1 a.2).1,a.1,(b.op a.1 a.2).2)
def KJ(k:Nat):fL:=(k,bT)
def dj(k:Nat):fL:=(k,bc)
def g_(p:Pt):fL:=(p.1,aN (1+p.2.1) p.2.2)
theorem By.oR(b:By)(l c:List fL):b.run (l++c)=if(b.run l).2.2=0 then(b.run l).1.run c else b.run l:=by
 induction l generalizing b with
 |nil=>simp[By.run]
 |cons k a f=>
  by_cases h:(b.op k.1 k.2).2=0
  .have d:b.run (k::a)=(b.op k.1 k.2).1.run a:=ao h;have e:b.run (k::(a++c))=(b.op k.1 k.2).1.run (a++c):=ao h;rw[UQ,d,e,f]
  .have d:b.run (k::a)=((b.op k.1 k.2).1,k.1,(b.op k.1 k.2).2):=aq h;have e:b.run (k::(a++c))=((b.op k.1 k.2).1,k.1,(b.op k.1 k.2).2):=aq h;rw[UQ,d,e,aq h]
theorem By.oS{l a:List fL}(h:(b.run l).2.2≠0):b.run (l++a)=b.run l:=by rw[By.oR,aq h]
theorem By.CO{l a:List fL}(h:(b.run l).2.2=0):b.run (l++a)=(b.run l).1.run a:=by rw[By.oR,ao h]
theorem By.yA(b:By)(a:fL):b.run [a] =if(b.op a.1 a.2).2=0 then((b.op a.1 a.2).1,0,0)else((b.op a.1 a.2).1,a.1,(b.op a.1 a.2).2):=rfl
theorem By.ji{l:List fL}{a:fL}(h:(b.run l).2.2=0):(b.run (l++ [a])).1=((b.run l).1.op a.1 a.2).1/\(b.run (l++ [a])).2.2=((b.run l).1.op a.1 a.2).2/\(((b.run l).1.op a.1 a.2).2≠0->(b.run (l++ [a])).2.1=a.1):=by
 rw[By.CO h,By.yA];by_cases e:((b.run l).1.op a.1 a.2).2=0
 .rw [ao e];exact⟨rfl,e.symm,λh=>absurd e h⟩
 .rw [aq e];exact⟨rfl,rfl,λ_=>rfl⟩
theorem By.fU(b:By)(l:List fL):(b.run l).1.N=b.N:=by
 induction l generalizing b with
 |nil=>rfl
 |cons k c a=>
  simp only[By.run];by_cases h:(b.op k.1 k.2).2=0
  .rw [ao h,a,By.fp]
  .rw [aq h];exact By.fp b k.1 k.2
theorem By.dO(a:Dv->Dv × Nat)(h:j≠k):(b.op k a).1.dv j=b.dv j:=by
 unfold By.op;by_cases c:b.out=true
 .rw [ao c];unfold By.off;split<;>rfl
 .rw [aq c];cases d:b.dv k with
  |none=>rfl
  |some v=>exact aq h
theorem By.gu:∀{l:List fL} (_:∀a,a∈l->∀v:Dv,(a.2 v).1.d.n=v.d.n/\(a.2 v).1.d.cn<=v.d.cn+1) {j:Nat} {v:Dv},(b.run l).1.dv j=some v->∃c,b.dv j=some c/\v.d.n=c.d.n/\v.d.cn<=c.d.cn+l.length:=by
 intro l;induction l generalizing b with
 |nil=>exactλ_ j v h=>⟨v,h,rfl,QH _⟩
 |cons a t n=>
  intro k j v d;have one:∀u,(b.op a.1 a.2).1.dv j=some u->∃c,b.dv j=some c/\u.d.n=c.d.n/\u.d.cn<=c.d.cn+1:=λu f=>by
   by_cases e:j=a.1
   .subst e;exact By.iz (k a (SE ..)) f
   .rw [By.dO a.2 e]at f;exact⟨u,f,rfl,US _⟩
  simp only[By.run]at d;by_cases m:(b.op a.1 a.2).2=0
  .rw [ao m]at d;obtain⟨o,p,q,w⟩:=n (λx r=>k x (SN _ r)) d;obtain⟨c,g,i,s⟩:=one o p;exact⟨c,g,q.trans i,by simp only[SG];omega⟩
  .rw [aq m]at d;obtain⟨c,g,i,s⟩:=one v d;exact⟨c,g,i,by simp only[SG];omega⟩
theorem By.ek(b:By)(l:List Nat):b.bL l=b.run (l.map KJ):=by
 induction l generalizing b with
 |nil=>rfl
 |cons k c a=>simp only[By.bL,By.run,TS,KJ];rw[a]
theorem Ji(p:Pt)(v:Dv):((g_ p).2 v).1.d.n=v.d.n/\((g_ p).2 v).1.d.cn<=v.d.cn+1:=ey _ _ v
theorem sA(k:Nat)(v:Dv):((dj k).2 v).1.d.n=v.d.n/\((dj k).2 v).1.d.cn<=v.d.cn+1:=⟨(dW v).1,Nat.le_succ_of_le (dW v).2⟩
theorem gr:∀a,a∈l.map g_->∀v:Dv,(a.2 v).1.d.n=v.d.n/\(a.2 v).1.d.cn<=v.d.cn+1:=λa b v=>by obtain⟨p,-,rfl⟩:=RQ.1 b;exact Ji p v
theorem wR:∀a,a∈T.map dj->∀v:Dv,(a.2 v).1.d.n=v.d.n/\(a.2 v).1.d.cn<=v.d.cn+1:=λa b v=>by obtain⟨p,-,rfl⟩:=RQ.1 b;exact sA p v
def fM(a:Ro)(l:List Pt):List Pt:=l.filter λp=> !a.down p.1 p.2.1
structure Rs where
 b:By
 x:Wl
 ro:Ro
variable {s:Rs}
structure ct[Lo](w:QA)(R B W r:Nat)(g:az)(fb:Nat)(s:Rs):Prop where
 row:fh w R B (some (ag W 0)) g fb s.ro
 cj:aC w B s.b
 kf:bH w W r B g.M s.x
 lo:Lo.lo<=R/\Lo.lo<=fb
def iH:List Nat:= [100,106,108,142,217,219,1000000,153,221,164]
theorem Fr.rw[Lo](h:Fr fT aF w W):Fr iH aF w W:=h.wide iH rfl
theorem Fr.rb[Lo](h:Fr TB aF w W):Fr iH aF w W:=h.wide iH rfl
def gU[Lo](R B W r:Nat)(g:az)(d:Nat)(step:Rs->Nat->Nat->Prop)(w:M)(e:RW)(a:M):Prop:=
 ∃b k c,step b k c/\aK e (gT k c)/\ct a R B W r g d b/\Fr iH aF w a
def du(s a:Rs)(k b:Nat):Prop:=∃l,l.Perm s.ro.wt/\s.b.run ((fM s.ro l).map g_)=(a.b,k,b)/\a.x=s.x/\a.ro=if b=0 then{s.ro with wt:= []}else s.ro
def cz(s a:Rs)(k b:Nat):Prop:=if s.x.sure=true then du s a k b else a=s/\k=0/\b=0
def Rs.synced(g:az)(s:Rs):Rs × Nat:=if s.x.sure=true then(s,0)else({s with b:=(s.b.op g.M bc).1,x:={s.x with bad:=(s.b.op g.M bc).2,sure:=(s.b.op g.M bc).2==0}},(s.b.op g.M bc).2)
def bW(g:az)(s a:Rs)(k b:Nat):Prop:=if(s.synced g).2=0 then cz (s.synced g).1 a k b else a=(s.synced g).1/\k=g.M/\b=(s.synced g).2
def oT(g:az)(a:Ro):List Nat:=bQ g.M λm=> !a.down m 0
def eA(g:az)(s a:Rs)(k b:Nat):Prop:=s.b.run ((oT g s.ro).map dj)=(a.b,k,b)/\a.x=s.x/\a.ro=s.ro
def Rs.nj(g:az)(s:Rs)(a:Nat):By × Nat:=s.b.ck g.M (aX a s.x.nx ((s.x.t+s.x.u)%s.x.N))
def gv(g:az)(s a:Rs)(k c:Nat):Prop:=a={s with b:=(s.nj g s.x.ep).1,x:=s.x.qh s.x.ep (s.nj g s.x.ep).2}/\k=g.M/\c=(s.nj g s.x.ep).2
def lA(p q:Rs->Rs->Nat->Nat->Prop)(s b:Rs)(k a:Nat):Prop:=(∃c d,p s c d 0/\q c b k a)\/(p s b k a/\a≠0)
def gw(g:az):Rs->Rs->Nat->Nat->Prop:=lA (bW g) (lA (eA g) (gv g))
structure Fit(g:az)(C:Nat)(s:Rs):Prop where
 b_:g.ok
 N:s.b.N=g.M+1
 mem:∀m v,m<g.M->s.b.dv m=some v->1+g.R<=v.d.n/\v.d.cn+C<1000000000000
 gy:∀v,s.b.dv g.M=some v->2+s.x.N<=v.d.n/\v.d.cn+C<1000000000000
 bad:s.x.bad=0
 cA:s.x.ep+C<=4611686018427387904/\1<=s.x.nx/\s.x.nx+C<=4611686018427387904
 iF:s.ro.wt.length<=5000
 wt:∀p,p∈s.ro.wt->p.1<g.M/\p.2.1<g.R/\∀k,k<128->p.2.2 k<256
 mA:(s.ro.wt.map fun p=>(p.1,p.2.1)).Nodup
theorem Fit.cJ(h:Fit g C s):cJ s.x.ep s.x.nx:=by have:=h.cA;unfold Proofs.YtbimjlmclegaeaaGreat.cJ;omega
abbrev pv(p:Nat × Nat):QC:=.agg #[Y p.1,Y p.2]
theorem Jj:prog.underlying 289=some (.struct (prog.fieldsOf 289)):=ai
theorem Nv:prog.stoodInHeld 289=false:=ai
theorem f289:(prog.fieldsOf 289).toList.map (λf=>(f.name,f.type,f.offset))= [("member",3,0),("row",3,1)]:=ai
theorem qW(xs:Array QC)(o:Nat)(i:Int)(w:M)(h:xs[o]?=some (Y i)):(part 3 xs o).run prog w=.ok (Y i) w:=by simp[part,go_sem,h]
theorem yB:∃f1 f2,(prog.fieldsOf 289).toList= [f1,f2]/\f1.name= "member" /\f1.type=3/\f1.offset=0/\f2.name= "row" /\f2.type=3/\f2.offset=1:=by
 have h:=f289;generalize (prog.fieldsOf 289).toList=l at h
 match l,h with
 | [],h=>cases h
 | [_],h=>simp at h
 | [f1,f2],h=>simp at h;exact⟨f1,f2,rfl,h.1.1,h.1.2.1,h.1.2.2,h.2.1,h.2.2.1,h.2.2.2⟩
 |_::_::_::_,h=>simp at h
theorem LB(a b:Nat × Nat)(w:M):(Op.equal 289 (pv a) (pv b)).run prog w=.ok (decide (a=b)) w:=by
 obtain⟨f1,f2,c,e,t1,f,g,t2,h⟩:=yB;show(ZJ (9999+1) 289 (pv a) (pv b)).run prog w=_;rw[run_equalIn_agg (P:=prog) (w:=w) 9999 289 _ _ Jj Nv,c];have i:=qW #[Y a.1,Y a.2] 0 a.1 w rfl;have j:=qW #[Y a.1,Y a.2] 1 a.2 w rfl;have k:=qW #[Y b.1,Y b.2] 0 b.1 w rfl;have l:=qW #[Y b.1,Y b.2] 1 b.2 w rfl;have m:=run_equalIn_int (P:=prog) (w:=w) 9998 3 .i64 .i64 (a.1:Nat) (b.1:Nat) u3;have n:=run_equalIn_int (P:=prog) (w:=w) 9998 3 .i64 .i64 (a.2:Nat) (b.2:Nat) u3;have d:decide (a=b)=(decide (a.1=b.1)&&decide (a.2=b.2)):=by obtain⟨q,r⟩:=a;obtain⟨s,t⟩:=b;simp
 simp only[Op.eqFields,e,t1,f,g,t2,h,RZ,i,j,k,l,m,n,RI,Sem.run_ite];rw[d];by_cases o:a.1=b.1<;>by_cases p:a.2=b.2<;>simp[o,p] <;>omega
def dec:QC->Nat × Nat
 | .agg cs=>match cs.toList with
  | [.int _ a,.int _ b] =>(a.toNat,b.toNat)
  |_=>(0,0)
 |_=>(0,0)
theorem mB(p:Nat × Nat):dec (pv p)=p:=by simp[dec]
def CP(a:List TE):Prop:=∀e∈a,∃q,e.key=pv q
def ca(p:Nat × Nat):List TE->Nat->Option (Nat × QC)
 | [],_=>none
 |e::a,i=>if dec e.key=p then some (i,e.val)else ca p a (i+1)
theorem lB(p:Nat × Nat)(w:M):∀(a:List TE) (i:Nat),CP a->(Instr.findAsking 289 (pv p) a i).run prog w=.ok (ca p a i) w
 | [],i,_=>rfl
 |e::a,i,h=>by
  obtain⟨q,c⟩:=h e SE;have d:=lB p w a (i+1) λb f=>h b (SN _ f);simp only[Instr.findAsking,ca,c,RZ,LB,RI,mB];by_cases e:p=q
  .subst e;simp
  .have b:¬q=p:=λh=>e h.symm;simp[e,b,d]
theorem jL(p:Nat × Nat)(w:M)(a:List TE)(h:CP a):(XE 289 (pv p) a).run prog w=.ok (ca p a 0) w:=by
 unfold XE;simp only[RZ,SU Jj,RI];cases a with
 |nil=>rfl
 |cons e a=>
  have:XB (.struct (prog.fieldsOf 289)) (pv p) (e::a) 0=none:=by obtain⟨q,b⟩:=h e SE;simp[XB,Instr.sameNow]
  rw[this];exact lB p w _ 0 h
theorem h_(a:Bool)(p:Nat × Nat)(w:M):(VC a 10000 289 (pv p)).run prog w=.ok () w:=by
 obtain⟨f1,f2,b,d,t1,e,f,t2,g⟩:=yB;have h:=qW #[Y p.1,Y p.2] 0 p.1 w rfl;have j:=qW #[Y p.1,Y p.2] 1 p.2 w rfl;have c:∀(i:Int),(VC a 9999 3 (Y i)).run prog w=.ok () w:=λi=>by unfold VC;simp[SU u3]
 show(VC a (9999+1) 289 (pv p)).run prog w=_;unfold VC;simp only[RZ,SU Jj,RI];rw[<-Array.forIn_toList,b];simp[d,t1,e,f,t2,g,h,j,c]
theorem dY(p:Nat × Nat):∀(a:List TE) (i:Nat),ca p a i=(ca p a 0).map λx=>(x.1+i,x.2)
 | [],_=>rfl
 |e::a,i=>by
  simp only[ca];split
  .simp
  .rw [dY p a (i+1),dY p a (0+1),YN];congr 1;funext x;simp;omega
theorem jj(p:Nat × Nat):∀(a:List TE) (i:Nat) (v:QC),ca p a 0=some (i,v)->∃e,a[i]?=some e/\dec e.key=p/\e.val=v
 | [],_,_,h=>by cases h
 |e::a,i,v,h=>by
  simp only[ca]at h;split at h
  .rename_i c;cases h;exact⟨e,rfl,c,rfl⟩
  .rw [dY]at h;cases b:ca p a 0 with
   |none=>rw[b]at h;cases h
   |some x=>obtain⟨j,u⟩:=x;rw[b]at h;simp at h;obtain⟨rfl,rfl⟩:=h;obtain⟨d,f,g,k⟩:=jj p a j u b;exact⟨d,by simpa using f,g,k⟩
theorem oU(p:Nat × Nat):∀(a:List TE) (i:Nat),ca p a i=none->∀e∈a,dec e.key≠p
 | [],_,_,_,he=>by cases he
 |x::a,i,h,e,he=>by
  simp only[ca]at h;split at h
  .cases h
  .rename_i b;rcases UG.1 he with rfl|he
   .exact b
   .exact oU p a (i+1) h e he
theorem uz(p:Nat × Nat):∀(a:List TE) (i:Nat),(∀e∈a,dec e.key≠p)->ca p a i=none
 | [],_,_=>rfl
 |x::a,i,h=>by simp only[ca];rw[aq (h x SE)];exact uz p a (i+1) λe b=>h e (SN _ b)
theorem oV(p q:Nat × Nat)(v:QC)(x:TE)(d:dec x.key=p)(f:x.val=v):∀(a:List TE) (i:Nat),ca p a i=none->(ca q (a++ [x]) i).map (·.2)=if q=p then some v else(ca q a i).map (·.2)
 | [],i,_=>by
  simp only[UT,ca,d];by_cases e:p=q
  .subst e;simp[f]
  .have g:¬q=p:=λh=>e h.symm;simp[e,g]
 |y::a,i,c=>by
  simp only[UQ,ca]at c|-;split at c
  .cases c
  .rename_i j;have k:=oV p q v x d f a (i+1) c;by_cases b:dec y.key=q
   .rw [ao b,ao b,aq];intro e;exact j (b.trans e)
   .rw [aq b,aq b,k]
theorem qX(p q:Nat × Nat)(v:QC):∀(a:List TE) (i j:Nat) (u:QC),ca p a i=some (i+j,u)->(ca q (a.modify j λe=>{e with key:=pv p,val:=v}) i).map (·.2)=if q=p then some v else(ca q a i).map (·.2)
 | [],_,_,_,h=>by cases h
 |y::a,i,j,u,h=>by
  simp only[ca]at h;split at h
  .rename_i c;simp at h;obtain⟨rfl,rfl⟩:=h;simp only[YP,ca,mB,c];by_cases e:p=q
   .subst e;simp
   .have f:¬q=p:=λh=>e h.symm;simp[e,f]
  .rename_i c;cases j with
   |zero=>
    have:=dY p a (i+1);rw[h]at this;cases d:ca p a 0 with
    |none=>rw[d]at this;cases this
    |some x=>rw[d]at this;simp at this;omega
   |succ j=>
    have g:=qX p q v a (i+1) j u (by rw[h];congr 2;omega);simp only[YQ,ca];by_cases b:dec y.key=q
    .rw [ao b,ao b,aq];intro e;exact c (b.trans e)
    .rw [aq b,aq b,g]
theorem nk(p q:Nat × Nat):∀(a:List TE) (i j:Nat) (u:QC),(a.map λe=>dec e.key).Nodup->ca p a i=some (i+j,u)->(ca q (a.eraseIdx j) i).map (·.2)=if q=p then none else(ca q a i).map (·.2)
 | [],_,_,_,_,h=>by cases h
 |y::a,i,j,u,d,h=>by
  simp only[TS,List.nodup_cons]at d;simp only[ca]at h;split at h
  .rename_i c;simp at h;obtain⟨rfl,rfl⟩:=h;simp only[List.eraseIdx_zero,List.tail_cons,ca];by_cases e:q=p
   .subst e;rw[ao rfl,uz q a i λe g k=>d.1 (by rw[c,<-k];exact List.mem_map_of_mem g)];rfl
   .rw [aq e,aq λh=>e (h.symm.trans c),dY q a i,dY q a (i+1),YN,YN];rfl
  .rename_i c;cases j with
   |zero=>
    have:=dY p a (i+1);rw[h]at this;cases f:ca p a 0 with
    |none=>rw[f]at this;cases this
    |some x=>rw[f]at this;simp at this;omega
   |succ j=>
    have l:=nk p q a (i+1) j u d.2 (by rw[h];congr 2;omega);simp only[List.eraseIdx_cons_succ,ca];by_cases b:dec y.key=q
    .rw [ao b,ao b,aq];intro e;exact c (b.trans e)
    .rw [aq b,aq b,l]
def PM(w:M)(c:Nat)(f:Nat × Nat->Option QC):Prop:=
 ∃b a,w.heap[c]?=some (.map b a)/\CP b.toList/\(b.toList.map λe=>dec e.key).Nodup/\∀p,(ca p b.toList 0).map (·.2)=f p
theorem PM.out{w w1:M}{f:Nat × Nat->Option QC}(h:PM w n f)(a:Out S w w1)(b:¬S n):PM w1 n f:=by obtain⟨d,c,e,g⟩:=h;exact⟨d,c,a.heap e b,g⟩
theorem PM.lt{f:Nat × Nat->Option QC}(h:PM w n f):n<w.heap.size:=by obtain⟨b,c,a,_⟩:=h;exact Z_ a
theorem PM.made(w:M):PM (w.alloc (.map #[] 0)) w.heap.size λ_=>none:=⟨#[],0,QB _ _,λ_ h=>by simp at h,aJ,λ_=>rfl⟩
theorem g'{f:Nat × Nat->Option QC}(h:PM w n f)(t e:SV)(z:QC)(c:Bool)(d:prog.underlying t=some (.map 289 e))(g:(zeroValue e).run prog w=.ok z w)(p:Nat × Nat):
  (UZ t (.map (some n)) (pv p) c).run prog w=.ok (if c then .tuple #[(f p).getD z,.bool (f p).isSome]else(f p).getD z) w:=by
 obtain⟨i,m,j,k,o,l⟩:=h;have a:=l p;unfold UZ;simp only[RZ,SU d,RI,VA,h_,jL _ _ _ k,cb j];cases b:ca p i.toList 0 with
 |none=>rw[b]at a;simp only[VF]at a;rw[<-a];simp[g]
 |some x=>rw[b]at a;simp only[QY]at a;rw[<-a];simp
theorem Gl(p:Nat × Nat):XN 10000 (pv p) (pv p)=true:=by show XN (9999+1) (pv p) (pv p)=true;unfold XN;simp[XN]
theorem kh{f:Nat × Nat->Option QC}(h:PM w n f)(t e:SV)(S:prog.underlying t=some (.map 289 e))(p:Nat × Nat)(v:QC):
  ∃C,(TD t (.map (some n)) (pv p) v).run prog w=.ok () C/\PM C n (λq=>if q=p then some v else f q)/\(∃o,ty o≠5/\C=w.putObj n o):=by
 obtain⟨c,D,r,s,K,L⟩:=h;have m:=Z_ r;unfold TD;simp only[RZ,SU S,RI,h_,jL _ _ _ s,cb r];cases A:ca p c.toList 0 with
 |none=>
  refine⟨w.putObj n (.map (c.push {key:=pv p,val:=v,born:=D}) (D+1)),cf _ r,⟨_,_,SR m,?_,?_,λq=>?_⟩,_,hO _ _,rfl⟩
  .intro x B;simp at B;rcases B with B|rfl
   .exact s x (by simpa using B)
   .exact ⟨p,rfl⟩
  .rw [Array.toList_push,SH,YB];refine⟨K,aJ,λa T b O=>?_⟩;simp only[TS,XR,SP]at O;obtain⟨e,U,rfl⟩:=RQ.1 T;rw[O,mB];exact oU p _ _ A e U
  .rw [Array.toList_push,oV p q v _ (mB p) rfl _ _ A,L q]
 |some x=>
  obtain⟨i,u⟩:=x;obtain⟨x,g,k,V⟩:=jj p _ i u A;have E:c[i]?=some x:=by simpa using g
  have F:x.key=pv p:=by obtain⟨q,d⟩:=s x (QV g);rw[d,mB]at k;rw[d,k]
  have G:(WI (((c[i]?).map (·.key)).getD (pv p)) (pv p)).run prog w=.ok (pv p) w:=by rw[E];simp only[QY,TF,F,WI,Gl,if_true];rfl
  simp only[RZ,G,RI];refine⟨w.putObj n (.map (c.modify i λe=>{e with key:=pv p,val:=v}) D),cf _ r,⟨_,_,SR m,?_,?_,λq=>?_⟩,_,hO _ _,rfl⟩
  .intro y P;rw[VK,TY]at P;obtain⟨j,l⟩:=P;rw[ZN]at l;cases d:c.toList[j]? with
   |none=>rw[d]at l;simp at l
   |some z=>
    rw[d]at l;simp at l;subst l;split
    .exact ⟨p,rfl⟩
    .exact s z (QV d)
  .have e:((c.modify i λe=>{e with key:=pv p,val:=v}).toList.map λe=>dec e.key)=c.toList.map λe=>dec e.key:=by
    rw[VK];apply TN;intro j;rw[RL,RL,ZN];cases d:c.toList[j]? with
    |none=>rfl
    |some z=>
     simp only[QY];by_cases Q:i=j
     .subst Q;rw[g]at d;cases d;simp only[if_true,Option.map_eq_map,QY,mB,k]
     .simp [Q]
   rw[e];exact K
  .rw [VK,qX p q v _ 0 i u (by rw[A,RH]),L q]
theorem qj{f:Nat × Nat->Option QC}(h:PM w n f)(t g e:SV)(r:prog.underlying t=some (.map 289 e))(k:SV)(p:Nat × Nat):
  ∃j,(Builtin.delete_ #[t,k] g #[.map (some n),pv p]).run prog w=.ok (.tuple #[]) j/\PM j n (λq=>if q=p then none else f q)/\(∃o,ty o≠5/\j=w.putObj n o):=by
 obtain⟨l,s,a,c,m,v⟩:=h;have b:=Z_ a;cases d:ca p l.toList 0 with
 |none=>
  refine⟨w.putObj n (.map l s),?_,⟨_,_,SR b,c,m,λq=>?_⟩,_,hO _ _,rfl⟩
  .unfold Builtin.delete_;simp[SU r,h_,jL _ _ _ c,cb a,cf _ a,d]
  .show _=if q=p then none else f q
   by_cases e:q=p
   .subst e;rw[ao rfl,d];rfl
   .rw [aq e,v q]
 |some x=>
  obtain⟨i,u⟩:=x;refine⟨w.putObj n (.map (l.eraseIdxIfInBounds i) s),?_,⟨_,_,SR b,?_,?_,λq=>?_⟩,_,hO _ _,rfl⟩
  .unfold Builtin.delete_;simp[SU r,h_,jL _ _ _ c,cb a,cf _ a,d]
  .intro y z;rw[WS]at z;exact c y (List.mem_of_mem_eraseIdx z)
  .rw [WS];exact m.sublist ((List.eraseIdx_sublist _ _).map _)
  .rw [WS,nk p q _ 0 i u m (by rw[d,RH]),v q]
def cq(l:List (Nat × Nat)):List QC:=l.flatMap λp=> [Y p.1,Y p.2]
theorem wT(l:List (Nat × Nat)):(cq l).length=l.length*2:=by
 induction l with
 |nil=>rfl
 |cons a l b=>simp[cq]at b|-;omega
theorem fs{l:List (Nat × Nat)}{p:Nat × Nat}(h:l[i]?=some p):(cq l)[2*i]?=some (Y p.1)/\(cq l)[2*i+1]?=some (Y p.2):=by
 induction l generalizing i with
 |nil=>cases h
 |cons a l b=>
  cases i with
  |zero=>cases h;exact⟨rfl,rfl⟩
  |succ i=>have:=b (i:=i) (by simpa using h);show(_::_::cq l)[2*(i+1)]?=_/\(_::_::cq l)[2*(i+1)+1]?=_;rw[show 2*(i+1)=2*i+1+1 by omega];simpa using this
structure cP(w:M)(b o:Nat)(v:QC)(l:List (Nat × Nat)):Prop where
 cell:w.cell? (R b o)=some v
 fy:w.frozen? (R b o)=false
 own:w.ownsRow 0 289 2 v l.length (cq l)
 ne:v.ownBlock≠some b
theorem CR(v:QC)(l:List (Nat × Nat))(w:M)(h:w.ownsRow 0 289 2 v l.length (cq l)):aE 412 #[v] w λe b=>aK e (Y l.length)/\w=b:=by obtain⟨a,c,rfl,-⟩:=av h;go_enter func412,ntmps412;go_wp2;go_ret;exact⟨rfl,rfl⟩
theorem cF(h:W.heap[n]?=w.heap[n]?)(o:Nat):W.frozen? (R n o)=w.frozen? (R n o):=by simp[World.frozen?,h]
theorem Ia(v:QC)(w:M):(Instr.typeAssert (.iface 289 v) 20 289 false).run prog w=.ok v w:=ai
theorem Nw:(prog.info? 289).map (λi=>(i.zero,i.size,i.bytes))=some (some (.agg #[Y 0,Y 0]),2,16):=ai
theorem uB(l:List (Nat × Nat))(p:Nat × Nat):cq l++ [Y p.1,Y p.2] =cq (l++ [p]):=by simp[cq]
theorem wU(h:W.heap[n]?=w.heap[n]?)(o:Nat)(u:QC):(W.setCell (R n o) u).heap[n]?=(w.setCell (R n o) u).heap[n]?:=by simp only[World.setCell,WU,h]
def LC(b o:Nat)(v:QC)(e:List (Nat × Nat))(w a:M):Prop:=
 ∃d,cP a b o d e/\Out (λk=>k=b\/v.ownBlock=some k) w a/\(∀k,d.ownBlock=some k->v.ownBlock=some k\/w.heap.size<=k)/\((∀c,c≠o->a.cell? (R b c)=w.cell? (R b c)/\a.frozen? (R b c)=w.frozen? (R b c))/\a.heap[b]?=(w.setCell (R b o) d).heap[b]?)
theorem Ae(b o:Nat)(v:QC)(l:List (Nat × Nat))(p:Nat × Nat)(w:QA)(h:cP w b o v l)(V:l.length<=100000):aE 416 #[.pointer (some (ag b o)),.iface 289 (pv p)] w λe q=>aK e (.tuple #[])/\LC b o v (l++ [p]) w q:=by
 have C:=h.cell;have X:=h.fy;have D:=QO w _ C;obtain⟨a,c,rfl,-⟩:=av h.own;obtain⟨Z,E,F,G,K⟩:=SD Nw;obtain⟨A,B⟩:=p;obtain⟨N,s⟩:=ah l.length;rw[s]at C V;have Q:=ad s;have H:QX (w.ownsRow 0 289 2 (.slice a N c) N (cq l)):=by have:=h.own;rw[s]at this;exact this
 have x:QX ((RU a N c).ownBlock≠some b):=by have:=h.ne;rw[s]at this;exact this
 clear h s;have M:=λW=>Ia (pv (A,B)) W;go_enter func416,ntmps416;go_wp2_with fail
 go_region_law (first|(refine dc _ rfl (.tmp 7) (.tmp 10) 284 rfl 0 289 Z (.agg #[Y 0,Y 0]) 2 16 underlying284 E F G K rfl aj (.slice a N c) N (cq l) (by simp[VU]) (H.alloc _) (ag w.heap.size 0) 1 1 [Y A,Y B] (by simp[VU]) rfl (RY (cs:= #[Y A,Y B]) (t:=289) (fr:=(0,0)) (QB w.drew _)) (by intro u S;simp at S;rcases S with rfl|rfl<;>rfl) J (by unfold UI;omega) J (QN _) ?_;intro I q f d;obtain⟨i,j,rfl,-⟩:=av f;have r:Out (λk=>(RU a N c).ownBlock=some k) w q:=d.out (Out.af (by first|exact aV (aI ak _)|exact aI (aV ak) _)) (λk L _=>L);have g:=r.block b D x;have O:=aM f d r;have y:q.cell? (ag b o)=some (.slice a N c):=(QQ g).trans C;have z:q.frozen? (ag b o)=false:=(cF g o).trans X;have m:=ad g;clear f d r g))
 all_goals(
  have f:=O.1;have d:=O.2.1;have r:=O.2.2;have n:(RU i (N+1) j).ownBlock≠some b:=λe=>by
   rcases d.block e with e|e
   .exact x e
   .have T:b=w.heap.size+1:=by simpa using e
    omega
  have U:QX (LC b o (.slice a N c) (l++ [(A,B)]) w (q.setCell (ag b o) (.slice i (N+1) j))):=by
   refine⟨.slice i (N+1) j,⟨World.cell?_setCell_same _ _ _ y,by rw[VO];exact z,?_,n⟩,(r.mono λ_ _ e=>.inr e).setCell (p:=ag b o) (λ_=>.inl rfl) _,λk L=>?_,λR P=>⟨?_,?_⟩,wU m o _⟩
   .rw [<-uB,QU,Q.out];exact XS f (λe=>n e) _
   .rcases d.block L with e|e
    .exact .inl e
    .exact .inr (by have:k=w.heap.size+1:=(by simpa using e);omega)
   .rw [VG _ _ _ _ (λe=>P (by injection e with _ T;exact T.symm))];exact QQ m
   .rw [VO];exact cF m R
  clear f d r n y z)
 all_goals go_wp2
 all_goals go_end0
 all_goals exact⟨rfl,by first|exact U|(rw[Q.out];exact U)⟩
def LD(w:M)(e:RW)(a:M):Prop:=(∃t,aK e (.bool t))/\∃q,a=w.drewN q
theorem uC(v:QC)(l:List (Nat × Nat))(i j:Nat)(w:M)(h:w.ownsRow 0 289 2 v l.length (cq l))(e:i<l.length)(f:j<l.length):aE 413 #[v,Y i,Y j] w (LD w):=by
 obtain⟨a,c,rfl,s⟩:=av h;obtain⟨g,rfl⟩:=s.resolve_left J;obtain⟨p,t⟩:∃p,l[i]?=some p:=⟨_,QP e⟩;obtain⟨q,u⟩:∃q,l[j]?=some q:=⟨_,QP f⟩;obtain⟨x,y⟩:=fs t;obtain⟨c3,c4⟩:=fs u;have k:=(bz h x).1;have m:=(bz h y).1;have n:=(bz h c3).1;have o:=(bz h c4).1;rw[VB]at k m n o;obtain⟨z,b⟩:=p;obtain⟨A,d⟩:=q;obtain⟨N,r⟩:=ah l.length;rw[r]at e f;rw[r];have B:(i:Int)<(N:Int):=J;have C:(j:Int)<(N:Int):=J;simp only at k m n o;by_cases D:b<d
 .have d1:decide ((b:Int)<(d:Int))=true:=aR;go_enter func413,ntmps413;go_wp2_with fail;go_quiet(fail);go_wp2;go_ret;exact⟨⟨_,rfl⟩,_,rfl⟩
 .have d1:decide ((b:Int)<(d:Int))=false:=aR;by_cases E:b=d
  .have d2:((b:Int)==(d:Int))=true:=aR;go_enter func413,ntmps413;go_wp2_with fail;go_quiet(fail);go_wp2;go_ret;exact⟨⟨_,rfl⟩,_,rfl⟩
  .have d2:((b:Int)==(d:Int))=false:=aR;go_enter func413,ntmps413;go_wp2_with fail;go_quiet(fail);go_wp2;go_ret;exact⟨⟨_,rfl⟩,_,rfl⟩
def ki(l:List (Nat × Nat))(i j:Nat):List (Nat × Nat):=(l.set i (l.getD j (0,0))).set j (l.getD i (0,0))
theorem Af(l:List (Nat × Nat))(i j:Nat):(ki l i j).length=l.length:=by simp[ki]
theorem wV(l:List (Nat × Nat))(i j:Nat)(a:i<l.length)(b:j<l.length):(ki l i j).Perm l:=by
 have e:ki l i j=(l.toArray.swap i j (by simpa using a) (by simpa using b)).toList:=by apply TN;intro k;simp[ki,Array.swap,List.getD_eq_getElem?_getD,a,b]
 rw[e];have:=Array.swap_perm (xs:=l.toArray) (i:=i) (j:=j) (by simpa using a) (by simpa using b);simpa using this.toList
theorem wW(l:List (Nat × Nat))(i:Nat)(p:Nat × Nat)(b:i<l.length):((cq l).set (2*i) (Y p.1)).set (2*i+1) (Y p.2)=cq (l.set i p):=by
 induction l generalizing i with
 |nil=>simp at b
 |cons a l c=>
  cases i with
  |zero=>rfl
  |succ i=>have:=c i (by simpa using b);show(((_::_::cq l:List QC).set (2*(i+1)) _).set (2*(i+1)+1) _)=(_::_::cq (l.set i p):List QC);rw[<-this,show 2*(i+1)=2*i+1+1 by omega];simp
theorem jk(g N c:Nat)(l:List (Nat × Nat))(i j:Nat)(w:QA)(h:w.ownsRow 0 289 2 (a' g N c) N (cq l))(n:l.length=N)(F:i<N)(G:j<N):aE 414 #[a' g N c,ae i,ae j] w λe o=>aK e (.tuple #[])/\o.ownsRow 0 289 2 (a' g N c) N (cq (ki l i j))/\Out (λk=>k=g) w o:=by
 obtain⟨p,t⟩:∃p,l[i]?=some p:=⟨_,QP aa⟩;obtain⟨q,u⟩:∃q,l[j]?=some q:=⟨_,QP aa⟩;obtain⟨K,L⟩:=fs t;obtain⟨c3,c4⟩:=fs u;obtain⟨v,O⟩:=bz h K;obtain⟨x,P⟩:=bz h L;obtain⟨y,Q⟩:=bz h c3;obtain⟨z,S⟩:=bz h c4;rw[VB]at v x y z O P Q S;obtain⟨A,B⟩:=p;obtain⟨b,d⟩:=q;have i1:(i:Int)<(N:Int):=aa;have i2:(j:Int)<(N:Int):=aa;have a:∀(W:QA) (f:List (Nat × Nat)) (k:Nat) (r:Nat × Nat),f.length=N->k<N->W.ownsRow 0 289 2 (a' g N c) N (cq f)->((W.setCell ⟨g,k*2,none⟩ (ae r.1)).setCell ⟨g,k*2+1,none⟩ (ae r.2)).ownsRow 0 289 2 (a' g N c) N (cq (f.set k r)):=λW f k r a0 a1 T=>by have:=tw (tw T (k*2) (ae r.1)) (k*2+1) (ae r.2);rw[VB k 2,wW f k r aa]at this;rw[VB k 2];exact this
 have m:=a w l i (b,d) n F h;simp only at m;obtain⟨⟨U,V⟩,X⟩:∃s,(l.set i (b,d))[j]?=some s:=⟨_,QP (by rw[List.length_set];omega)⟩;obtain⟨c5,Z⟩:=fs X;obtain⟨C,H⟩:=bz m c5;obtain⟨D,M⟩:=bz m Z;rw[VB 2 j]at C D H M;have k7:((w.setCell ⟨g,i*2,none⟩ (ae b)).setCell ⟨g,i*2+1,none⟩ (ae d)).cell? ⟨g,j*2,none⟩=some (ae U):=C;have k8:((w.setCell ⟨g,i*2,none⟩ (ae b)).setCell ⟨g,i*2+1,none⟩ (ae d)).cell? ⟨g,j*2+1,none⟩=some (ae V):=D;have R:=ad a;have I:=ad m;have Y:=ad t;have J:=ad u;simp only at v x y z;go_enter func414,ntmps414;go_wp2_with fail
 go_region_law (fail)
 all_goals go_wp2
 all_goals go_end0
 all_goals(
  have E:=R.out _ _ j (A,B) (by rw[List.length_set];exact n) G (show(((w.setCell ⟨g,i*2,none⟩ (ae b)).setCell ⟨g,i*2+1,none⟩ (ae d)).drew).ownsRow 0 289 2 (a' g N c) N (cq (l.set i (b,d)))from I.out);have e:(l.set i (b,d)).set j (A,B)=ki l i j:=by simp[ki,List.getD_eq_getElem?_getD,Y.out,J.out]
  rw[e]at E;refine⟨rfl,E,?_⟩;exact(((((Out.refl (λk=>k=g) w).setCell (p:=⟨g,i*2,none⟩) (λ_=>rfl) _).setCell (p:=⟨g,i*2+1,none⟩) (λ_=>rfl) _).drew).setCell (p:=⟨g,j*2,none⟩) (λ_=>rfl) _).setCell (p:=⟨g,j*2+1,none⟩) (λ_=>rfl) _)
theorem Gm:(prog.info? 295).map (λi=>(i.methods.find? (·.name== "Less")).map λm=>(m.path.toList.length,m.func))=some (some (0,some (413,false))):=ai
theorem Nx(a:Array SV)(t:SV)(p:SZ)(x y:String)(w:M):(Builtin.ssaWrapNilChk_ a t #[.pointer (some p),strVal x,strVal y]).run prog w=.ok (.pointer (some p)) w:=rfl
theorem sB(b o:Nat)(v:QC)(w:M)(wr:Option String)(h:w.cell? (R b o)=some v):(receiverAt 295 (.val (.pointer (some (R b o)))) false wr).run prog w=.ok v w:=by cases wr<;>simp[receiverAt,go_sem,Place.get,h,Nx]
theorem mC(b o:Nat)(v:QC)(w:M)(n:Nat)(h:w.cell? (R b o)=some v):(method (n+1) 295 (.pointer (some (R b o))) "Less").run prog w=.ok (413,v) w:=by
 have a:=Gm;cases c:prog.info? 295 with
 |none=>rw[c]at a;cases a
 |some i=>
  rw[c]at a;simp only[QY,SO]at a;cases d:i.methods.find? (·.name== "Less")with
  |none=>rw[d]at a;cases a
  |some m=>rw[d]at a;simp only[QY,SO,Prod.mk.injEq]at a;obtain⟨e,f⟩:=a;have g:m.path.toList= []:=TU e;unfold method;simp only[RZ,typeInfo,run_program,c,VA,RI,d,g,follow,f,sB b o v w _ h]
theorem Jk:(prog.info? 295).map (λi=>(i.methods.find? (·.name== "Len")).map λm=>(m.path.toList.length,m.func))=some (some (0,some (412,false))):=ai
theorem uD(b o:Nat)(v:QC)(w:M)(n:Nat)(h:w.cell? (R b o)=some v):(method (n+1) 295 (.pointer (some (R b o))) "Len").run prog w=.ok (412,v) w:=by
 have a:=Jk;cases c:prog.info? 295 with
 |none=>rw[c]at a;cases a
 |some i=>
  rw[c]at a;simp only[QY,SO]at a;cases d:i.methods.find? (·.name== "Len")with
  |none=>rw[d]at a;cases a
  |some m=>rw[d]at a;simp only[QY,SO,Prod.mk.injEq]at a;obtain⟨e,f⟩:=a;have g:m.path.toList= []:=TU e;unfold method;simp only[RZ,typeInfo,run_program,c,VA,RI,d,g,follow,f,sB b o v w _ h]
theorem Gn:(prog.info? 295).map (λi=>(i.methods.find? (·.name== "Swap")).map λm=>(m.path.toList.length,m.func))=some (some (0,some (414,false))):=ai
theorem hI(b o:Nat)(v:QC)(w:M)(n:Nat)(h:w.cell? (R b o)=some v):(method (n+1) 295 (.pointer (some (R b o))) "Swap").run prog w=.ok (414,v) w:=by
 have a:=Gn;cases c:prog.info? 295 with
 |none=>rw[c]at a;cases a
 |some i=>
  rw[c]at a;simp only[QY,SO]at a;cases d:i.methods.find? (·.name== "Swap")with
  |none=>rw[d]at a;cases a
  |some m=>rw[d]at a;simp only[QY,SO,Prod.mk.injEq]at a;obtain⟨e,f⟩:=a;have g:m.path.toList= []:=TU e;unfold method;simp only[RZ,typeInfo,run_program,c,VA,RI,d,g,follow,f,sB b o v w _ h]
structure db(b o:Nat)(v:QC)(l:List (Nat × Nat))(w w':M):Prop where
 lC:∃l',l'.Perm l/\cP w' b o v l'
 out:Out (fun k=>v.ownBlock=some k) w w'
theorem db.refl{l:List (Nat × Nat)}(h:cP w n m v l):db n m v l w w:=⟨⟨l,XX _,h⟩,Out.refl _ _⟩
theorem cP.out{w w1:M}{l:List (Nat × Nat)}(h:cP w n m v l)(a:Out S w w1)(c:¬S n)(d:∀k,v.ownBlock=some k->¬S k):cP w1 n m v l:=by have b:=a.block n (QO w _ h.cell) c;exact⟨(QQ b).trans h.cell,(cF b m).trans h.fy,a.own h.own d,h.ne⟩
theorem db.drewN{l:List (Nat × Nat)}(h:db m k v l w W)(n:Nat):db m k v l w (W.drewN n):=by obtain⟨⟨a,b,c⟩,d⟩:=h;exact⟨⟨a,b,c.out (S:=λ_=>False) ((Out.refl _ _).drewN n) id λ_ _=>id⟩,d.drewN n⟩
theorem db.swap{b o g N c:Nat}{l a:List (Nat × Nat)}(m:a.Perm l)(h:cP W b o (a' g N c) a)(n:Out (λk=>(a' g N c).ownBlock=some k) w W)(p:i<a.length)(q:j<a.length)(r:a.length=N)(s:z.ownsRow 0 289 2 (a' g N c) N (cq (ki a i j)))(d:Out (λk=>k=g) W z):db b o (a' g N c) l w z:=by
 have f:=d.block b (QO W _ h.cell) (λe=>h.ne (by rw[e];rfl));refine⟨⟨ki a i j,(wV a i j p q).trans m,(QQ f).trans h.cell,(cF f o).trans h.fy,?_,h.ne⟩,n.tr (d.mono λk _ e=>by subst e;rfl)⟩;rw[Af,r];exact s
theorem Jm(b o:Nat)(v:QC)(l:List (Nat × Nat))(j:Nat)(w:QA)(h:cP w b o v l)(E:j<l.length)(K:l.length<=100000):aE 275 #[.iface 295 (.pointer (some (ag b o))),ae j] w λe L=>aK e (.tuple #[])/\db b o v l w L:=by
 obtain⟨a,c,rfl,O⟩:=av h.own;obtain⟨g,rfl⟩:=O.resolve_left aa;obtain⟨N,s⟩:=ah l.length;have P:QX (db b o (a' g N c) l w w):=db.refl (by rw[<-s];exact h);rw[s]at E K;have Q:=ad s;rw[s];go_enter func275,ntmps275;go_wp2_with fail;go_loopw [1] (λt1 wr=>∃k:Nat,t1= ae k/\k<N/\QX (db b o (a' g N c) l w wr)) (λt1 _=>(intOf t1).toNat)
 case atStart=>exact⟨j,rfl,E,P⟩
 case round=>
  obtain⟨k,rfl,F,t⟩:=hrel;obtain⟨n,G,u⟩:=t.lC;have x:n.length=N:=G.length_eq.trans Q;have T:=u.cell;have U:=mC b o _ wr 591 T;by_cases y:k=0
  .subst y;go_wp2;go_end0;exact⟨rfl,t⟩
  .obtain ⟨q,a0⟩:=ah (k-1);have e1:QK.wrap ((k:Int)-1)=(q:Nat):=bj;have V:((q:Nat):Int).tdiv 2=(q/2:Nat):=by rw[VH aa];simp
   have W:QK.wrap ((q/2:Nat):Int)=(q/2:Nat):=bj;have i:q/2<N:=aa;have z:q/2<k:=aa;have p:wr.ownsRow 0 289 2 (a' g N c) n.length (cq n):=u.own;have d:=uC (a' g N c) n k (q/2) wr p aa aa;obtain⟨M,X⟩:=ah (q/2);rw[X]at V W i z d;have Z:((M:Int)==(k:Int))=false:=aR;have H:=ad d;have R:=ad u;have I:=ad G;have f:=ad x;go_wp2_with fail;refine H.mono ?_;rintro e w1 ⟨⟨Y,rfl⟩,nq,rfl⟩;have m:cP (wr.drewN nq) b o (a' g N c) n:=R.out.out (S:=λ_=>False) ((Out.refl _ _).drewN nq) id λ_ _=>id;have J:=hI b o _ (wr.drewN nq) 591 m.cell;have A:=jk g N c n M k (wr.drewN nq) (by have:=m.own;rw[f.out]at this;exact this) f i F;have r:=ad (t.drewN nq);have B:=ad m;have C:=ad A;cases Y with
   |false=>go_wp2;go_end0;exact⟨rfl,r⟩
   |true=>go_wp2_with fail;refine C.mono ?_;rintro e w2 ⟨rfl,g1,g2⟩;have D:QX (db b o (a' g N c) l w w2):=db.swap I B r.out.out (by rw[f.out];exact i) (by rw[f.out];exact F) f g1 g2;go_wp2;refine⟨⟨M,rfl,i,D⟩,by simp[intOf];omega⟩
def LF(b o:Nat)(v:QC)(l:List (Nat × Nat))(w:M)(e:RW)(a:M):Prop:=(∃t,aK e (.bool t))/\db b o v l w a
theorem cP.drewN{l:List (Nat × Nat)}(h:cP w m k v l)(n:Nat):cP (w.drewN n) m k v l:=h.out (S:=λ_=>False) ((Out.refl _ _).drewN n) id λ_ _=>id
theorem CS(b o:Nat)(v:QC)(l:List (Nat × Nat))(n:Nat)(w:QA)(h:cP w b o v l)(I:n<=l.length)(Y:l.length<=100000)(O:0<l.length):aE 315 #[.iface 295 (.pointer (some (ag b o))),ae 0,ae n] w (LF b o v l w):=by
 obtain⟨a,c,rfl,J⟩:=av h.own;obtain⟨g,rfl⟩:=J.resolve_left aa;obtain⟨N,K⟩:=ah l.length;have H0:QX (db b o (a' g N c) l w w):=db.refl (by rw[<-K];exact h);rw[K]at I Y O;have a0:=ad K;rw[K];go_enter func315,ntmps315;go_wp2_with fail;go_loopw [7] (λt7 wr=>∃k:Nat,t7= ae k/\k<=n/\QX (db b o (a' g N c) l w wr)) (λt7 _=>n-(intOf t7).toNat)
 case atStart=>exact⟨0,rfl,QN _,H0⟩
 case round=>
  obtain⟨k,rfl,a5,L⟩:=hrel;obtain⟨z,X,Z⟩:=L.lC;have P:z.length=N:=X.length_eq.trans a0;have e1:QK.wrap (2*(k:Int))=2*(k:Int):=bj;have e2:QK.wrap (2*(k:Int)+1)=(2*k+1:Nat):=bj;obtain⟨s,Q⟩:=ah (2*k+1);rw[Q]at e2;have d0:decide ((s:Int)<0)=false:=aJ;by_cases a1:s<n
  .have d1:decide ((n:Int)<=(s:Int))=false:=aR;have e3:QK.wrap ((s:Int)+1)=(s+1:Nat):=bj;obtain⟨A,S⟩:=ah (s+1);rw[S]at e3;have a2:k<s:=aa;have H:k<A:=aa;have p:=ad (λ(W:QA) (i j:Nat) (a3:cP W b o (a' g N c) z) (a6:i<N) (a7:j<N)=>uC (a' g N c) z i j W (by have:=a3.own;exact this) aa aa);have T:=mC b o _ wr 591 Z.cell;have U:=ad Z;have V:=ad X;have d:=ad P;by_cases M:A<n
   .have d2:decide ((A:Int)<(n:Int))=true:=aR;go_wp2_with fail;refine(p _ _ _ U aa aa).mono ?_;rintro e B ⟨⟨a4,rfl⟩,nq,rfl⟩;have q:=ad (U.drewN nq);have y:=ad (L.drewN nq);have C:=mC b o _ (wr.drewN nq) 591 q.cell;generalize wr.drewN nq=B at*;cases a4 with
    |true=>
     go_wp2_with fail;refine(p _ _ _ q aa aa).mono ?_;rintro e R ⟨⟨t,rfl⟩,f,rfl⟩;have m:=ad (q.drewN f);have r:=ad (y.drewN f);have D:=hI b o _ (B.drewN f) 591 m.cell;have u:=ad (jk g N c z k A (B.drewN f) (by have:=m.own;rw[d.out]at this;exact this) d aa aa);cases t with
     |false=>go_wp2;go_ret;exact⟨⟨_,rfl⟩,r⟩
     |true=>go_wp2_with fail;refine u.mono ?_;rintro e E ⟨rfl,F,G⟩;have x:QX (db b o (a' g N c) l w E):=db.swap V m r.out.out (by rw[d.out];omega) (by rw[d.out];omega) d F G;go_wp2;refine⟨⟨A,rfl,aa,x⟩,by simp[intOf];omega⟩
    |false=>
     go_wp2_with fail;refine(p _ _ _ q aa aa).mono ?_;rintro e R ⟨⟨t,rfl⟩,f,rfl⟩;have m:=ad (q.drewN f);have r:=ad (y.drewN f);have D:=hI b o _ (B.drewN f) 591 m.cell;have u:=ad (jk g N c z k s (B.drewN f) (by have:=m.own;rw[d.out]at this;exact this) d aa aa);cases t with
     |false=>go_wp2;go_ret;exact⟨⟨_,rfl⟩,r⟩
     |true=>go_wp2_with fail;refine u.mono ?_;rintro e E ⟨rfl,F,G⟩;have x:QX (db b o (a' g N c) l w E):=db.swap V m r.out.out (by rw[d.out];omega) (by rw[d.out];omega) d F G;go_wp2;refine⟨⟨s,rfl,aa,x⟩,by simp[intOf];omega⟩
   .have d2:decide ((A:Int)<(n:Int))=false:=aR;have q:=U;have y:=L;have C:=T;go_wp2_with fail;refine(p _ _ _ q aa aa).mono ?_;rintro e R ⟨⟨t,rfl⟩,f,rfl⟩;have m:=ad (q.drewN f);have r:=ad (y.drewN f);have D:=hI b o _ (wr.drewN f) 591 m.cell;have u:=ad (jk g N c z k s (wr.drewN f) (by have:=m.own;rw[d.out]at this;exact this) d aa aa);cases t with
    |false=>go_wp2;go_ret;exact⟨⟨_,rfl⟩,r⟩
    |true=>go_wp2_with fail;refine u.mono ?_;rintro e E ⟨rfl,F,G⟩;have x:QX (db b o (a' g N c) l w E):=db.swap V m r.out.out (by rw[d.out];omega) (by rw[d.out];omega) d F G;go_wp2;refine⟨⟨s,rfl,aa,x⟩,by simp[intOf];omega⟩
  .have d1:decide ((n:Int)<=(s:Int))=true:=aR;go_wp2;go_ret;exact⟨⟨_,rfl⟩,L⟩
def oW(b o:Nat)(v:QC)(f:List (Nat × Nat))(w a:M):Prop:=
 ∃d e,e.Perm f/\cP a b o d e/\Out (λk=>k=b\/v.ownBlock=some k) w a/\(∀k,d.ownBlock=some k->v.ownBlock=some k\/w.heap.size<=k)/\((∀c,c≠o->a.cell? (R b c)=w.cell? (R b c)/\a.frozen? (R b c)=w.frozen? (R b c))/\a.heap[b]?=(w.setCell (R b o) d).heap[b]?)
theorem oW.of{d h:List (Nat × Nat)}(i:cP W n m x d)(o:d.Perm h)(p:Out (λk=>k=n\/v.ownBlock=some k) w W)(j:∀k,x.ownBlock=some k->v.ownBlock=some k\/w.heap.size<=k)(f:(∀a,a≠m->W.cell? (R n a)=w.cell? (R n a)/\W.frozen? (R n a)=w.frozen? (R n a))/\W.heap[n]?=(w.setCell (R n m) x).heap[n]?)(q:db n m x d W z):oW n m v h w z:=by
 obtain⟨⟨r,s,g⟩,l⟩:=q;have b:=l.block n (QO W _ i.cell) i.ne;refine⟨x,r,s.trans o,g,p.trans l λk t e=>(j k e).elim .inr λe=>absurd t J,j,λa c=>⟨?_,?_⟩,b.trans f.2⟩
 .exact (QQ b).trans (f.1 a c).1
 .exact (cF b a).trans (f.1 a c).2
theorem Ag(b o:Nat)(v:QC)(l:List (Nat × Nat))(p:Nat × Nat)(w:M)(h:cP w b o v l)(s:l.length<100000):aE 198 #[.iface 295 (.pointer (some (R b o))),.iface 289 (pv p)] w λe t=>aK e (.tuple #[])/\oW b o v (l++ [p]) w t:=by have r:=I (Ae b o v l p w h J);have u:=h.cell;obtain⟨a,c,rfl,-⟩:=av h.own;obtain⟨N,f⟩:=ah l.length;rw[f]at s;rw[f]at r u;have k:=I f;rw[f];go_enter func198,ntmps198;go_wp2_with fail;refine r.mono ?_;rintro e m ⟨rfl,n,i,x,y,z⟩;have A:=uD b o n m 591 i.cell;have d:=CR n _ m i.own;have q:=Jm b o n _ N m i (by rw[QU,k.out];show N<N+1;omega) (by rw[QU,k.out];show N+1<=_;omega);rw[QU,k.out]at d;have E:QK.wrap (((N+1:Nat):Int)-1)=(N:Nat):=bj;have j:=aT i x y z;have B:=I d;have C:=I q;go_wp2_with fail;refine B.mono ?_;rintro e F ⟨rfl,rfl⟩;go_wp2_with fail;refine C.mono ?_;rintro e G ⟨rfl,g⟩;have D:=I (oW.of j.1 (XX _) j.2.1 j.2.2.1 j.2.2.2 g);go_wp2;go_end0;exact⟨rfl,D⟩
theorem uE{xs e:List QC}(h:w.ownsRow k t 2 (a' i m j) m (xs++e))(c:xs.length=n*2)(q:n<=m):w.ownsRow k t 2 (a' i n j) n xs:=by
 refine⟨c,?_⟩;rcases h.2 with⟨a,_⟩|⟨r,d,b,a,f,g,s,l,o,p⟩
 .cases a
 .cases a;refine .inr ⟨i,j,b,rfl,f,g,J,l,o,?_⟩;have:=congrArg (List.take (n*2)) p;rw[List.take_take,WK J]at this;rw[this,<-c,List.take_left]
theorem wX(l m:List (Nat × Nat)):cq (l++m)=cq l++cq m:=by simp[cq]
theorem CT(b o:Nat)(v:QC)(l:List (Nat × Nat))(p:Nat × Nat)(w:QA)(h:cP w b o v (l++ [p]))(K:l.length<100000):aE 415 #[.pointer (some (ag b o))] w λe r=>aK e (.iface 289 (pv p))/\∃m,cP r b o m l/\Out (λk=>k=b) w r/\m.ownBlock=v.ownBlock/\((∀f,f≠o->r.cell? (ag b f)=w.cell? (ag b f)/\r.frozen? (ag b f)=w.frozen? (ag b f))/\r.heap[b]?=(w.setCell (ag b o) m).heap[b]?):=by
 have u:=h.cell;have L:=h.fy;have x:=QO w _ u;have d:=h.own;rw[QU,List.length_singleton]at d;obtain⟨a,c,rfl,O⟩:=av d;obtain⟨g,rfl⟩:=O.resolve_left aa;have P:(l++ [p])[l.length]?=some p:=aJ;obtain⟨Q,S⟩:=fs P;obtain⟨y,H⟩:=bz d Q;obtain⟨z,M⟩:=bz d S;have T:=(bo d rfl).1;have s:l.length+1<=c:=by
  rcases d.2 with⟨e,_⟩|⟨R,U,V,e,_,_,W,_⟩
  .cases e
  .cases e;exact W
 obtain⟨n,q⟩:=p;obtain⟨N,D⟩:=ah l.length;rw[D]at u y z s K d;rw[VB]at y z;simp only at y z;have I:QK.wrap ((N:Int)+1-1)=(N:Nat):=bj;have E:QK.wrap (((N+1:Nat):Int)-1)=(N:Nat):=bj;have Y:QK.wrap (N:Int)=(N:Nat):=bj;have J:(N:Int)<(N:Int)+1:=aa;have i2:(N:Int)<=(c:Int):=aa;have i3:(0:Int)<=(N:Int):=aa;have A:=ad D;have j:=ad d;have t:=ad h.ne;go_enter func415,ntmps415;go_wp2_with fail
 go_region_law (fail)
 all_goals go_wp2_with fail
 all_goals go_region_law (fail)
 all_goals(
  have B:Out (λk=>k=b) w (((w.setCell (ag b o) (a' g N c)).alloc (al #[ae n,ae q] 289)).drew.drew):=((((Out.refl (λk=>k=b) w).setCell (p:=ag b o) (λ_=>rfl) _).alloc _).drew).drew;have X:QX (∃m,cP (((w.setCell (ag b o) (a' g N c)).alloc (al #[ae n,ae q] 289)).drew.drew) b o m l/\Out (λk=>k=b) w (((w.setCell (ag b o) (a' g N c)).alloc (al #[ae n,ae q] 289)).drew.drew)/\m.ownBlock=(a' g (N+1) c).ownBlock/\((∀f,f≠o->(((w.setCell (ag b o) (a' g N c)).alloc (al #[ae n,ae q] 289)).drew.drew).cell? (ag b f)=w.cell? (ag b f)/\(((w.setCell (ag b o) (a' g N c)).alloc (al #[ae n,ae q] 289)).drew.drew).frozen? (ag b f)=w.frozen? (ag b f))/\(((w.setCell (ag b o) (a' g N c)).alloc (al #[ae n,ae q] 289)).drew.drew).heap[b]?=(w.setCell (ag b o) m).heap[b]?)):=by
   have i:b<(w.setCell (ag b o) (a' g N c)).heap.size:=by rw[RS];exact x
   refine⟨a' g N c,⟨?_,?_,?_,?_⟩,B,rfl,λf C=>⟨?_,?_⟩,?_⟩
   .show ((w.setCell (ag b o) (a' g N c)).alloc _).cell? (ag b o)=_;rw[YV _ _ _ i];exact World.cell?_setCell_same _ _ _ u
   .show ((w.setCell (ag b o) (a' g N c)).alloc _).frozen? (ag b o)=_;rw[World.frozen?_alloc_past _ _ _ i,VO];exact L
   .have F:=j.out;rw[wX]at F;have Z:=uE F (by rw[wT,A.out]) (US N);rw[A.out];exact B.own Z (λk G e=>t.out (by rw[e]at G;exact G))
   .exact t
   .show ((w.setCell (ag b o) (a' g N c)).alloc _).cell? (ag b f)=_;rw[YV _ _ _ i,VG _ _ _ _ (λe=>C (by injection e with _ E;exact E.symm))]
   .show ((w.setCell (ag b o) (a' g N c)).alloc _).frozen? (ag b f)=_;rw[World.frozen?_alloc_past _ _ _ i,VO]
   .exact QW _ _ _ i
  clear B j A)
 all_goals go_wp2
 all_goals go_ret
 all_goals exact⟨rfl,X⟩
def Ib(b o:Nat)(v:QC)(l:List (Nat × Nat))(w:M)(e:RW)(a:M):Prop:=
 ∃p d f,aK e (.iface 289 (pv p))/\(f++ [p]).Perm l/\cP a b o d f/\Out (λk=>k=b\/v.ownBlock=some k) w a/\d.ownBlock=v.ownBlock/\((∀c,c≠o->a.cell? (R b c)=w.cell? (R b c)/\a.frozen? (R b c)=w.frozen? (R b c))/\a.heap[b]?=(w.setCell (R b o) d).heap[b]?)
theorem db.trans{l a:List (Nat × Nat)}(b:a.Perm l)(c:Out (λk=>v.ownBlock=some k) w W)(h:db n m v a W z):db n m v l w z:=by obtain⟨⟨d,e,f⟩,g⟩:=h;exact⟨⟨d,e.trans b,f⟩,c.tr g⟩
theorem CU(b o:Nat)(v:QC)(l:List (Nat × Nat))(w:QA)(h:cP w b o v l)(a1:l.length<=100000)(p:0<l.length):aE 276 #[.iface 295 (.pointer (some (ag b o)))] w (Ib b o v l w):=by
 have r:=uD b o v w 591 h.cell;have s:=hI b o v w 591 h.cell;have d:=CR v l w h.own;obtain⟨a,c,rfl,Z⟩:=av h.own;obtain⟨g,rfl⟩:=Z.resolve_left aa;obtain⟨N,k⟩:=ah l.length;have t:=ad k;have D:QX (cP w b o (a' g N c) l):=by rw[<-k];exact h
 have m:=jk g N c l 0 (N-1) w (by have:=D.own;rw[k]at this;exact this) k aa aa;rw[k]at r s d a1 p;obtain⟨M,H⟩:=ah (N-1);have e1:QK.wrap ((N:Int)-1)=(M:Nat):=bj;have G:M<N:=aa;rw[H]at m;have a2:=ad d;have K:=ad m;rw[k];clear h d m k H Z;go_enter func276,ntmps276;go_wp2_with fail;refine a2.mono ?_;rintro e w1 ⟨rfl,rfl⟩;go_wp2_with fail;refine K.mono ?_;rintro e R ⟨rfl,I,Y⟩;have n:db b o (a' g N c) l w R:=db.swap (XX _) D (Out.refl _ _) (by rw[t.out];exact p) (by rw[t.out];exact G) t I Y;obtain⟨J,L,u⟩:=n.lC;have O:J.length=N:=L.length_eq.trans t;have x:=CS b o _ J M R u aa aa aa;have P:=ad n.out;have Q:=ad L;have S:=ad x;clear I Y n L u O x r s;go_wp2_with fail;refine S.mono ?_;rintro e w3 ⟨⟨a5,rfl⟩,a0⟩;have i:=db.trans Q P a0;obtain⟨y,T,z⟩:=i.lC;have f:y.length=N:=T.length_eq.trans t;obtain⟨E,q,rfl⟩:∃E q,y=E++ [q]:=by
  have A:y≠[]:=λe=>by rw[e]at f;simp at f;omega
  exact⟨y.dropLast,y.getLast A,(List.dropLast_concat_getLast A).symm⟩
 have j:=CT b o _ E q w3 z (by rw[QU]at f;simp at f;omega);have B:=ad j;have U:=ad i.out;have V:=ad T;have W:QX (w3.heap[b]?=w.heap[b]?):=i.out.block b (QO w _ D.cell) D.ne;clear a0 i T z f j;go_wp2_with fail;refine B.mono ?_;rintro e w4 ⟨rfl,a3,r1,r2,r3,F⟩;have a4:QX (Ib b o (a' g N c) l w (.returned (.iface 289 (pv q))) w4):=by
  refine⟨q,a3,E,rfl,V,r1,(U.mono λ_ _ e=>.inr e).trans r2 λ_ _ e=>.inl e,r3,λX C=>⟨(F.1 X C).1.trans ?_,(F.1 X C).2.trans ?_⟩,F.2.trans (wU W o _)⟩
  .exact QQ W
  .exact cF W X
 clear r1 r2 r3 F;obtain⟨q1,q2⟩:=q;go_wp2;go_ret;exact a4
theorem PM.congr{f g:Nat × Nat->Option QC}(h:PM w n f)(e:∀a,f a=g a):PM w n g:=by obtain⟨b,c,d,i,j,k⟩:=h;exact⟨b,c,d,i,j,λa=>(k a).trans (e a)⟩
structure be(w:M)(L hm:Nat)(v:QC)(l:List (Nat × Nat))(dv:Nat × Nat->QC)(da:Nat × Nat->Nat->Nat):Prop where
 row:∃cs,w.heap[L]? =some (N cs 286)
 c1:w.cell? (R L 1)=some (.map (some hm))
 c3:w.cell? (R L 3)=some aW
 lC:cP w L 2 v l
 fy:∀o,w.frozen? (R L o)=false
 map:PM w hm fun p=>if p∈l then some (dv p) else none
 iQ:∀p,p∈l->cR w (dv p) 128 (da p)/\wB (dv p)
 mA:l.Nodup
def LZ(L a:Nat)(v:QC)(k:Nat):Prop:=k=L\/k=a\/v.ownBlock=some k
theorem be.CV{l:List (Nat × Nat)}{d:Nat × Nat->QC}{f:Nat × Nat->Nat->Nat}(h:be w n m v l d f):m≠n/\(∀k,v.ownBlock=some k->k≠n/\k≠m):=by
 obtain⟨q,i⟩:=h.row;obtain⟨r,c,a,-⟩:=h.map;refine⟨λe=>?_,λk b=>⟨λe=>h.lC.ne (by rw[b,e]),λe=>?_⟩⟩
 .rw [e,i]at a;cases a
 .rcases h.lC.own.2 with⟨rfl,_⟩|⟨g,j,o,rfl,s,p,_⟩
  .cases b
  .cases b;subst e;rw[p]at a;cases a
theorem be.eG{l:List (Nat × Nat)}{q:Nat × Nat->QC}{r:Nat × Nat->Nat->Nat}(h:be w m k v l q r)(s:Out (LZ m k v) w W)(d:cR w x n f):cR W x n f:=by
 obtain⟨a,j,t,d⟩:=d;refine⟨a,j,t,?_⟩;rcases d with d|⟨b,o,p,u,y,i,d⟩
 .exact .inl d
 .refine .inr ⟨b,o,p,u,y,s.heap i ?_,d⟩;obtain⟨p,z⟩:=h.row;obtain⟨D,c,A,-⟩:=h.map;rintro(e|e|e)
  .rw [e,z]at i;cases i
  .rw [e,A]at i;cases i
  .rcases h.lC.own.2 with⟨rfl,_⟩|⟨g,j,B,rfl,E,C,_⟩
   .cases e
   .cases e;rw[C]at i;cases i
def LG(w:M)(e:RW)(a:M):Prop:=∃L b,aK e (.tuple #[H L,aG 0])/\be a L b aW [] (λ_=>.nilIface) (λ_ _=>0)/\a.cell? (R L 0)=some (Y 0)/\w.heap.size<=L/\w.heap.size<=b/\au w a
theorem yC(w:M):aE 130 #[Y 0] w (LG w):=by have a:=λw=>eN 282 w;go_enter func130,ntmps130;go_wp2;go_ret2;have b:=cr (fe w (.map #[] 0) (N #[Y 0,.map (some w.heap.size),aW,aW] 286));obtain⟨c,f,z⟩:=b;refine⟨w.heap.size+1,w.heap.size,rfl,⟨⟨_,fe w (.map #[] 0) (N #[Y 0,.map (some w.heap.size),aW,aW] 286)⟩,c 1,c 3,⟨c 2,f 2,SJ _ _ _ _,λe=>by cases e⟩,f,?_,λ_ h=>(by cases h),ZK⟩,c 0,US _,QH _,aI (aI ak _) _⟩;have:=(PM.made w).out (Out.af (S:=λ_=>False) (aI ak (N #[Y 0,.map (some w.heap.size),aW,aW] 286))) id;simpa using this
theorem Jn(L:Nat)(w:M):aE 196 #[H L] w λe a=>aK e (.pointer (some (R L 2)))/\w=a:=by go_enter func196,ntmps196;go_wp2;go_ret;exact⟨aJ,rfl⟩
theorem z41(w:M):(zeroValue 41).run prog w=.ok aW w:=(zero_of_info (v:= aW) (n:=1) ai).1 w
theorem oX{w c u a:M}{l z:List (Nat × Nat)}{s:Nat × Nat->QC}{A:Nat × Nat->Nat->Nat}(h:be w n m v l s A)(d:au w c)(f:au c u)(g:oW n 2 v z u a):
  a.cell? (R n 0)=w.cell? (R n 0)/\a.cell? (R n 1)=w.cell? (R n 1)/\(∀k,w.heap.size<=k->k<c.heap.size->∀o,a.cell? (R k o)=c.cell? (R k o))/\Out (LZ n m v) w a/\(PM a m λp=>if p∈l then some (s p)else none)/\c.heap.size<=a.heap.size:=by
 have j:n<w.heap.size:=QO w _ h.c1;have b:au w u:=d.trans (f.mono d.size);obtain⟨D,E,F,G,i,K,t,L⟩:=g;obtain⟨x,O,P⟩:=kp b n j;have B:Out (LZ n m v) w a:=(Out.af (S:=LZ n m v) b).trans i λk _ e=>e.elim .inl λe=>.inr (.inr e);have q:=λk C=>(bo h.lC.own (k:=k) C).1;obtain⟨f1,f2⟩:=h.CV;refine⟨((t 0 aj).1).trans (x 0),((t 1 aj).1).trans (x 1),λk Q y o=>?_,B,?_,QE f.size i.size⟩
 .have r:a.heap[k]?=u.heap[k]?:=i.block k (RJ y f.size) λe=>e.elim (λe=>J) λe=>by have:=q k e;omega
  exact QQ (r.trans (f.block k y))
 .refine (h.map.out (Out.af (S:=λ_=>False) b) id).out i λe=>e.elim f1 λe=>(f2 m e).2 rfl
def oY(L c:Nat)(v:QC)(l:List (Nat × Nat))(g:Nat × Nat->Nat->Nat)(p:Nat × Nat)(f:aQ)(w a:M):Prop:=
 ∃d e b,e.Perm (if p∈l then l else l++ [p])/\be a L c d e b (λq=>if q=p then f else g q)/\a.cell? (R L 0)=w.cell? (R L 0)/\Out (LZ L c v) w a/\(∀k,d.ownBlock=some k->v.ownBlock=some k\/w.heap.size<=k)
theorem CW{w H u F t j:QA}{l:List (Nat × Nat)}{K:Nat × Nat->QC}{N:Nat × Nat->Nat->Nat}{p:Nat × Nat}(h:be w n m v l K N)(M:p∉l)(r:au w H)(R:au H u)(g:oW n 2 v (l++ [p]) u F)(y:au F t)(L:cR t x 128 f/\wB x)(a1:PM j m λb=>if b=p then some x else if b∈l then some (K b)else none)(o:Obj)(_:ty o≠5)(h6:j=t.putObj m o):oY n m v l N p f w j:=by
 have O:n<w.heap.size:=QO w _ h.c1;have d:au w u:=r.trans (R.mono r.size);obtain⟨s0,s1,-,s3,s4,-⟩:=oX h r R g;obtain⟨f1,f2⟩:=h.CV;obtain⟨I,l2,z,Y,g3,J,g5,g6⟩:=g;have P:∀k,I.ownBlock=some k->k≠m:=λk A e=>by
  rcases J k A with G|G
  .exact (f2 k G).2 e
  .have:=h.map.lt;have:=d.size;omega
 have B:Out (λk=>k=m) t j:=by rw[h6];exact(Out.refl (λk=>k=m) t).we (λ_=>rfl) o
 have s:Out (λk=>k=m) F j:=(Out.af y).tr B;have i:j.heap[n]?=F.heap[n]?:=s.block n (RJ O (QE d.size g3.size)) λe=>f1 e.symm;have Q:u.heap[n]?=w.heap[n]?:=d.block n O;have C:Out (LZ n m v) w j:=s3.trans s λk _ e=>.inr (.inl e);obtain⟨a3,a4,a9⟩:=kp d n O;refine⟨I,l2,λq=>if q=p then x else K q,by rw[aq M];exact z,⟨?_,?_,?_,Y.out s (λe=>f1 e.symm) P,λD=>?_,a1.congr λb=>?_,λq a5=>?_,?_⟩,?_,C,λk A=>(J k A).imp id λe=>QE d.size e⟩
 .obtain ⟨a0,a6⟩:=h.row;rw[i,g6,wU Q];simp only[World.setCell,WU,a6];exact⟨_,rfl⟩
 .exact (QQ i).trans (s1.trans h.c1)
 .exact (QQ i).trans (((g5 3 aj).1.trans (a3 3)).trans h.c3)
 .rw [cF i D];by_cases e:D=2
  .rw [e];exact Y.fy
  .exact ((g5 D e).2.trans (a4 D)).trans (h.fy D)
 .have:=z.mem_iff (a:=b);simp only[TJ,SP]at this;by_cases e:b=p
  .simp [e,z.mem_iff]
  .by_cases G:b∈l<;>simp[e,G,this]
 .by_cases e:q=p
  .simp only[e,if_true];obtain⟨⟨a,T,a7,U⟩,V⟩:=L;refine⟨⟨a,T,a7,U.imp id ?_⟩,V⟩;rintro⟨b,o2,a0,a8,W,X,A⟩;refine⟨b,o2,a0,a8,W,B.heap X λe=>?_,A⟩;obtain⟨b0,c,Z,-⟩:=s4.out (Out.af (S:=λ_=>False) y) id;rw[e,Z]at X;cases X
  .simp only[aq e];have E:q∈l:=by have:=z.mem_iff.1 a5;simp only[TJ,SP]at this;exact this.resolve_right e
   exact⟨h.eG C (h.iQ q E).1,(h.iQ q E).2⟩
 .refine (z.nodup_iff).2 ?_;rw[YB];exact⟨h.mA,aJ,λa W b y e=>M (by simp at y;rw[<-y,<-e];exact W)⟩
 .exact (QQ i).trans s0
theorem Ah{l:List (Nat × Nat)}{s:Nat × Nat->QC}{E:Nat × Nat->Nat->Nat}{p:Nat × Nat}(h:be w n m v l s E)(F:p∈l)(G:au w W)(t:cR W x 128 f/\wB x)(O:PM z m λb=>if b=p then some x else if b∈l then some (s b)else none)(o:Obj)(_:ty o≠5)(Q:z=W.putObj m o):oY n m v l E p f w z:=by
 have T:n<w.heap.size:=QO w _ h.c1;obtain⟨f1,f2⟩:=h.CV;have i:Out (λk=>k=m) W z:=by rw[Q];exact(Out.refl (λk=>k=m) W).we (λ_=>rfl) o
 have g:Out (λk=>k=m) w z:=(Out.af G).tr i;have d:z.heap[n]?=w.heap[n]?:=g.block n T λe=>f1 e.symm;have j:Out (LZ n m v) w z:=g.mono λk _ e=>.inr (.inl e);refine⟨v,l,λq=>if q=p then x else s q,by rw[ao F],⟨?_,?_,?_,h.lC.out g (λe=>f1 e.symm) λk r=>(f2 k r).2,λK=>?_,O.congr λb=>?_,λq L=>?_,h.mA⟩,QQ d,j,λk r=>.inl r⟩
 .obtain ⟨u,U⟩:=h.row;exact⟨u,d.trans U⟩
 .exact (QQ d).trans h.c1
 .exact (QQ d).trans h.c3
 .exact (cF d K).trans (h.fy K)
 .by_cases e:b=p
  .simp [e,F]
  .simp [e]
 .by_cases e:q=p
  .simp only[e,if_true];obtain⟨⟨a,y,V,A⟩,B⟩:=t;refine⟨⟨a,y,V,A.imp id ?_⟩,B⟩;rintro⟨b,X,u,Z,H,C,r⟩;refine⟨b,X,u,Z,H,i.heap C λe=>?_,r⟩;obtain⟨N,c,D,-⟩:=h.map.out (Out.af (S:=λ_=>False) G) id;rw[e,D]at C;cases C
  .simp only[aq e];exact⟨h.eG j (h.iQ q L).1,(h.iQ q L).2⟩
theorem qY(v:QC)(f:aQ)(w:M)(h:cR w v 128 f):aE 199 #[v] w (rY 128 f w):=by obtain⟨a,c,rfl,h⟩:=h;obtain⟨b,o,d,e,rfl,g,i⟩:=h.resolve_left aj;exact eF b o 128 c f w (λk h=>(QT w b (o+k) d 5 e g).trans (i k h)) J
theorem kE(a b:Bool)(w:M):(VC a 10000 4 (.bool b)).run prog w=.ok () w:=by have c:prog.underlying 4=some .bool:=ai;unfold VC;simp[SU c]
theorem mD(b:Bool)(a:List TE)(r:Option (Nat × QC))(w:M)(h:XB .bool (.bool b) a 0=some r):(XE 4 (.bool b) a).run prog w=.ok r w:=by have c:prog.underlying 4=some .bool:=ai;unfold XE;simp[SU c,h]
theorem cP.below{l:List (Nat × Nat)}(h:cP w n m v l)(a:au w W):cP W n m v l:=by obtain⟨k,f,-⟩:=kp a n (QO w _ h.cell);exact⟨(k m).trans h.cell,(f m).trans h.fy,aP a h.own,h.ne⟩
theorem wY(a c:Nat)(b:Bool)(v:QC)(w:M)(h:a_ w a (.map #[] c)):
  (TD 293 (.map (some a)) (.bool b) v).run prog w=.ok () (w.putObj a (.map #[{key:=.bool b,val:=v,born:=c}] (c+1))):=by
 have d:prog.underlying 293=some (.map 4 291):=ai;unfold TD;simp only[RZ,SU d,RI,kE,cb h,mD b [] none w rfl];exact cf _ h
theorem uF(a c d:Nat)(b:Bool)(v e:QC)(w:M)(h:a_ w a (.map #[{key:=.bool b,val:=e,born:=d}] c)):
  (TD 293 (.map (some a)) (.bool !b) v).run prog w=.ok () (w.putObj a (.map #[{key:=.bool b,val:=e,born:=d},{key:=.bool !b,val:=v,born:=c}] (c+1))):=by
 have f:prog.underlying 293=some (.map 4 291):=ai;unfold TD;have g:=mD (!b) [{key:=.bool b,val:=e,born:=d}] none w (by cases b<;>rfl);simp only[RZ,SU f,RI,kE,cb h,g];exact cf _ h
theorem CX(d c e f:Nat)(v a:QC)(w:M)(h:a_ w d (.map #[{key:=.bool true,val:=a,born:=e},{key:=.bool false,val:=v,born:=f}] c))(b:Bool):
  (UZ 293 (.map (some d)) (.bool b) false).run prog w=.ok (if b then a else v) w:=by
 have g:prog.underlying 293=some (.map 4 291):=ai;unfold UZ;have i:=mD b [{key:=.bool true,val:=a,born:=e},{key:=.bool false,val:=v,born:=f}] (some (if b then(0,a)else(1,v))) w (by cases b<;>rfl);cases b<;>simp[RZ,SU g,RI,kE,cb h,i]
theorem CY(d f:QC)(W:M):∃g c,(TD 293 (.map (some W.heap.size)) ed d).run prog (W.alloc (.map #[] 0)).drew=.ok () g
  /\(TD 293 (.map (some W.heap.size)) iG f).run prog g=.ok () c
  /\(∀u b,u.heap[W.heap.size]?=c.heap[W.heap.size]?->(UZ 293 (.map (some W.heap.size)) (.bool b) false).run prog u=.ok (if b then d else f) u)
  /\au W c/\W.heap.size<c.heap.size:=by
 have h:(W.alloc (.map #[] 0)).drew.heap[W.heap.size]?=some (.map #[] 0):=QB _ _;have i:au W (W.alloc (.map #[] 0)).drew:=aV (aI ak _);have a:=Z_ h;refine⟨_,_,wY _ _ true d _ h,uF _ _ _ true f _ _ (SR a),λu b j=>?_,?_,?_⟩
 .exact CX _ _ _ _ _ _ _ (j.trans (SR (by rw[WO];exact a))) b
 .exact (i.grown (grownBy_putObj' _ _ _) (TL a) (λk e=>by cases e;exact QH _)).grown (grownBy_putObj' _ _ _) (by rw[WO];exact TL a) (λk e=>by cases e;exact QH _)
 .rw [WO,WO];exact a
theorem uG(L x:Nat)(v:QC)(l:List (Nat × Nat))(a0:Nat × Nat->QC)(a4:Nat × Nat->Nat->Nat)(m r:Nat)(u:QC)(f:aQ)(w:QA)(h:be w L x v l a0 a4)(h0:w.cell? (ag L 0)=some (ae 0))(t:cR w u 128 f)(a5:m<=15)(c5:r<=4095)(a6:(m,r)∉l)(a8:l.length<100000):
  aE 132 #[ar L,.agg #[ae m,ae r,u]] w λe b=>aK e (aG 0)/\oY L x v l a4 (m,r) f w b:=by
 obtain⟨K,O,rfl⟩:=t.form;have d1:decide ((m:Int)<0)=false:=aJ;have d2:decide (15<(m:Int))=false:=aR;have d3:decide ((r:Int)<0)=false:=aJ;have d4:decide (4095<(r:Int))=false:=aR;obtain⟨W,P⟩:=ah ((w.alloc (al #[ae m,ae r,.slice K 128 O] 206)).alloc (al #[ae m,ae r] 289));have Q:au w W:=by rw[<-P];exact aI (aI ak _) _
 have j:=gb w (al #[ae m,ae r,.slice K 128 O] 206) (al #[ae m,ae r] 289);have n:=fe w (al #[ae m,ae r,.slice K 128 O] 206) (al #[ae m,ae r] 289);rw[P]at j n;have y:L<w.heap.size:=QO w _ h.c1;have z:PM W.drew x λp=>if p∈l then some (a0 p)else none:=h.map.out (Out.af (S:=λ_=>False) (aV Q)) id
 have A:=g' z 282 41 aW true underlying282 (z41 _) (m,r);rw[aq a6]at A;obtain⟨X,y2,y3⟩:=cr n;obtain⟨c6,c7,c8⟩:=kp Q L y;have c1:=h.c1;have T:=ad h;simp only[Option.getD_none,Option.isSome_none,if_true]at A;have Z:=aB (Ne.symm h.CV.1) h.CV.1;have H:=ad h.map.lt;clear h z;have a9:=λw=>eN 293 w;obtain⟨w1,U,b0,b5,B,q,a7⟩:=CY (.func (.func 196) #[] #[]) (.func (.func 197) #[] #[]) W;have C:=B U.drew true rfl;have c:au w U:=Q.trans (q.mono Q.size);obtain⟨p1,p2,p3⟩:=cr (q.block _ (show w.heap.size<W.heap.size by rw[<-P];simp;omega)|>.trans j);obtain⟨q1,q2,q3⟩:=cr (q.block _ (show w.heap.size+1<W.heap.size by rw[<-P];simp)|>.trans n);obtain⟨b6,b7,b8⟩:=kp c L y;simp only[if_true]at C;have d:=T.lC;have N:=ad (λ(u:QA) (t:au U u)=>Ag L 2 v l (m,r) u (d.below (c.trans (t.mono c.size))) a8);clear d;have b9:=ad (λ(u V:QA) (t:au U u) (g:oW L 2 v (l++ [(m,r)]) u V)=>oX T c t g);go_enter func132,ntmps132;go_wp2_with fail;go_region;go_wp2_with fail;go_region_held3(λb=>b.cell? (ag w.heap.size 1)=some (ae r)/\b.cell? (ag L 0)=some (ae 0)/\b.cell? ⟨w.heap.size+1,0,none⟩=some (ae m)/\b.cell? ⟨w.heap.size+1,1,none⟩=some (ae r)) ((simp[*,go_sem];done)) (first|(go_at_call 196;refine(Jn L _).mono ?_;rintro e V ⟨rfl,rfl⟩)|(go_at_call 198;refine(N _ bF).mono ?_;rintro e V ⟨rfl,M⟩;obtain⟨s0,s1,D,s3,s4,s5⟩:=b9.out _ _ bF M;have R:=ad M;have z1:=D w.heap.size (QH _) aa 1;have z2:=D w.heap.size (QH _) aa 2;have y0:=D (w.heap.size+1) aa aa 0;have X:=D (w.heap.size+1) aa aa 1;rw[p1 1]at z1;rw[p1 2]at z2;rw[q1 0]at y0;rw[q1 1]at X;rw[h0]at s0;rw[c1]at s1;clear M D;have I:=ad s3;have Y:=ad s4;clear s3 s4));go_wp2_with fail;go_region_held3(λb=>b.cell? (ag w.heap.size 2)=some (.slice K 128 O)/\b.cell? (ag L 1)=some (.map (some x))/\b.cell? ⟨w.heap.size+1,0,none⟩=some (ae m)/\b.cell? ⟨w.heap.size+1,1,none⟩=some (ae r)) ((simp[*,go_sem];done)) (first|(go_at_call 199;refine(qY _ _ _ (T.eG (I.drew) t)).mono ?_;rintro e w5 ⟨c0,rfl,i,E⟩;have a:au V w5:=(aV ak).trans E;have F:=Y.out.out (Out.af (S:=λ_=>False) a) id;obtain⟨w6,e6,g6,o6,t6,s⟩:=kh F 282 41 underlying282 (m,r) c0;have c2:=ad (CW T a6 c (Below.drew ak) R a ⟨fX i,k_ i⟩ g6 o6 t6 s);have c3:=H.out;have J:=Z.out;obtain⟨a1,-,-⟩:=kp a w.heap.size aa;obtain⟨a2,-,-⟩:=kp a (w.heap.size+1) aa;obtain⟨a3,-,-⟩:=kp a L aa;have G:∀k o,k≠x->w6.cell? (ag k o)=w5.cell? (ag k o):=λk o c4=>(by rw[s];exact QQ (TI c4));have b1:=(G w.heap.size 2 aa).trans ((a1 2).trans z2);have b2:=(G L 1 J.1).trans ((a3 1).trans s1);have b3:=(G (w.heap.size+1) 0 aa).trans ((a2 0).trans y0);have b4:=(G (w.heap.size+1) 1 aa).trans ((a2 1).trans X);simp only[pv]at e6;clear F g6 s G i E));go_wp2_with fail;go_ret;exact⟨rfl,c2⟩
theorem CZ(L n:Nat)(v:QC)(l:List (Nat × Nat))(O:Nat × Nat->QC)(P:Nat × Nat->Nat->Nat)(m r:Nat)(u:QC)(f:aQ)(w:QA)(h:be w L n v l O P)(_:w.cell? (ag L 0)=some (ae 0))(Q:cR w u 128 f)(T:m<=15)(a6:r<=4095)(U:(m,r)∈l)(_:l.length<100000):
  aE 132 #[ar L,.agg #[ae m,ae r,u]] w λe j=>aK e (aG 0)/\oY L n v l P (m,r) f w j:=by
 obtain⟨A,B,rfl⟩:=Q.form;have d1:decide ((m:Int)<0)=false:=aJ;have d2:decide (15<(m:Int))=false:=aR;have d3:decide ((r:Int)<0)=false:=aJ;have d4:decide (4095<(r:Int))=false:=aR;obtain⟨W,V⟩:=ah ((w.alloc (al #[ae m,ae r,.slice A 128 B] 206)).alloc (al #[ae m,ae r] 289));have d:au w W:=by rw[<-V];exact aI (aI ak _) _
 have g:=gb w (al #[ae m,ae r,.slice A 128 B] 206) (al #[ae m,ae r] 289);have q:=fe w (al #[ae m,ae r,.slice A 128 B] 206) (al #[ae m,ae r] 289);rw[V]at g q;have C:L<w.heap.size:=QO w _ h.c1;have s:PM W.drew n λp=>if p∈l then some (O p)else none:=h.map.out (Out.af (S:=λ_=>False) (aV d)) id
 have t:=g' s 282 41 aW true underlying282 (z41 _) (m,r);rw[ao U]at t;obtain⟨N,x2,x3⟩:=cr g;obtain⟨X,y2,y3⟩:=cr q;obtain⟨M,a8,a9⟩:=kp d L C;have R:=h.c1;have D:=ad h;simp only[TF,Option.isSome_some,if_true]at t;have E:=aB (Ne.symm h.CV.1) h.CV.1;have F:=ad h.map.lt;clear h s;go_enter func132,ntmps132;go_wp2_with fail;go_region;go_wp2_with fail;go_region_held3(λj=>j.cell? (ag w.heap.size 2)=some (.slice A 128 B)/\j.cell? (ag L 1)=some (.map (some n))/\j.cell? ⟨w.heap.size+1,0,none⟩=some (ae m)/\j.cell? ⟨w.heap.size+1,1,none⟩=some (ae r)) ((simp[*,go_sem];done)) (first|(go_at_call 199;refine(qY _ _ _ (D.eG (by first|exact(Out.af d).drew|exact(Out.af d).drewN _|exact(Out.af d).drew.drew|exact(Out.af d).drew.drewN _) Q)).mono ?_;rintro e G ⟨I,rfl,c,b⟩;have a:au W G:=⟨b.os,b.tape,b.output,b.size,b.block⟩;have x:au w G:=d.trans (a.mono d.size);have y:=D.map.out (Out.af (S:=λ_=>False) x) id;obtain⟨Y,J,Z,o6,t6,i⟩:=kh y 282 41 underlying282 (m,r) I;have a0:=ad (Ah D U x ⟨fX c,k_ c⟩ Z o6 t6 i);have a4:=F.out;have K:=E.out;obtain⟨a1,-,-⟩:=kp a w.heap.size aa;obtain⟨H,-,-⟩:=kp a (w.heap.size+1) aa;obtain⟨a3,-,-⟩:=kp a L aa;have z:∀k o,k≠n->Y.cell? (ag k o)=G.cell? (ag k o):=λk o a5=>(by rw[i];exact QQ (TI a5));have b1:=(z w.heap.size 2 aa).trans ((a1 2).trans (N 2));have b2:=(z L 1 K.1).trans ((a3 1).trans ((M 1).trans R));have b3:=(z (w.heap.size+1) 0 aa).trans ((H 0).trans (X 0));have b4:=(z (w.heap.size+1) 1 aa).trans ((H 1).trans (X 1));simp only[pv]at J;clear y Z i z c b));go_wp2_with fail;go_ret;exact⟨rfl,a0⟩
end Go.Proofs.YtbimjlmclegaeaaGreat
