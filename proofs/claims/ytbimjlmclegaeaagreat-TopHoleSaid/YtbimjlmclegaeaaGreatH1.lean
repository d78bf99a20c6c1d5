/- TopHole: a batch under way, the power gone, a member taken out in the dark: every block reads as ahead or as behind; part 2 of 6. Conditions: none. -/
import Derived.Test.YtbimjlmclegaeaaGreatH0
namespace Go.Proofs.YtbimjlmclegaeaaGreat
set_option linter.all false
set_option maxRecDepth 1000000
set_option maxHeartbeats 8000000
open Go.RowKit Go.Proofs.Tryz
open Go renaming World->QA,World->M,heap_alloc_new->QB,Value->QC,Value->H,cell_of_row->QS,bodyPost_ret->QT,heap_setCell_other->RJ,results->RP,Ending->RV,info_parts->SB,TypeId->SQ,Addr->SR,run_underlying->SS,MapEntry->TC,madeCells->TN,maxLen->UE,results_cell_tmp->UF,callsIn_wide->UR,callFunc->VF,ownsRow_setCell_other->XS
open Nat renaming le_trans->QD,le_refl->QE,zero_le->QO,zero_add->RE,lt_of_lt_of_le->RL,le_of_eq->RN,not_lt_zero->RQ,mod_eq_of_lt->SA,mod_lt->SC,le_of_lt->TF,lt_succ_self->TI,lt_irrefl->TL,mul_one->TX,le_succ->US,mul_comm->VB,add_zero->VK,zero_mul->VY,min_eq_left->WM,div_add_mod->WN,xor_lt_two_pow->XT,mod_one->YE,min_le_left->ZF,mul_le_mul_left->ZR
open Go.IntKind renaming i64->QG,u64->VP
open Go.World renaming block_lt_of_cell?->QN,cell?_of_block->QP,size_setCell->RT,news_of_block->RW,ownsRow_nil->SD,putObj_heap_same->SO,size_alloc->SP,putObj_heap_other->TE,cell?_setCell_other->VG,frozen?_setCell->VQ,putObj_size->WR,cell?_alloc_lt->YW
open List renaming getElem?_eq_getElem->QQ,getElem?_eq_some_iff->QR,length_append->QU,mem_of_getElem?->QV,getElem?_append_right->RA,length_map->RB,getElem?_append_left->RD,getElem?_eq_none->RF,getElem?_map->RI,mem_map->RK,mem_cons_self->RZ,length_cons->SE,getElem?_range->SF,mem_cons_of_mem->SG,map_append->SH,mem_singleton->SM,append_assoc->SV,getElem?_take->SX,mem_append->TH,ext_getElem?->TJ,map_cons->TO,range->TQ,eq_nil_of_length_eq_zero->TS,mem_iff_getElem?->TV,append_nil->TZ,take_length->UB,cons_append->UC,take_add_one->UG,mem_cons->UH,range_succ->UL,nil_append->UN,getElem_map->UQ,flatMap_append->UY,length_take->VD,length_filter_le->VI,length->VU,length_nil->VW,getElem?_toArray->VX,size_toArray->WA,pairwise_iff_getElem->WG,exists_mem_of_ne_nil->WH,length_eq_zero_iff->WO,take_append_drop->XA,any_eq_true->XD,append_toArray->XL,map_nil->XR,mem_of_find?_eq_some->XV,findIdx?_eq_none_iff->XW,pairwise_map->XZ,nodup_append->YA,getElem_mem->YI,modify_zero_cons->YP,modify_succ_cons->YQ,mem_iff_getElem->YZ,nodup_nil->ZI,mem_of_mem_take->ZJ,length_pos_iff->ZK,getElem?_modify->ZL,flatten_append->ZM
open Go.RowKit.Below renaming heap_alloc->QW,heap_setCell->RO,refl->SU
open Go.RowKit renaming Hid->QX,Below->SK
open Option renaming map_some->QY,getD_some->TD,isSome_iff_exists->UJ,map_none->VE,map_eq_some_iff->YB,map_map->YN
open Go.Lib renaming hid->QZ
open _root_.Array renaming getElem?_eq_some_iff->RC,getElem?_eq_getElem->RU,getElem?_toList->TU,toList_modify->VM,getElem?_eq_none->WT,toList_eraseIdxIfInBounds->WU,getElem?_modify->WV,replicate_zero->ZD,replicate_succ->ZE
open Go.Result renaming andThen_ok->RG,ok->YT
open Go.Proofs renaming enters_of->RH
open Option.some renaming inj->RM,injEq->SI
open Go.Value renaming slice->RR,int->SJ
open Go.Sem renaming run_bind->RY,run_pure->VA
open Bool renaming false_eq_true->SL
open Go.IntWalk renaming i64_in->SN
open Go.Instr renaming makeSlice->SY,mapUpdate->SZ,lookup->UZ,checkKey->VC,keyThatStays->WJ,findNow->XB,findKey->XE,sameBits->XN
open Int renaming natCast_mul->TK,tmod_eq_emod_of_nonneg->UI,tdiv_eq_ediv_of_nonneg->VH
open Go.Fence renaming wide->TT
open Go.Proofs.Tryz renaming underlying5->UA,underlying41->UO,prog->VR,underlying3->XF,underlying162->XY,underlying338->YU
open BitVec renaming ofInt->UK,ofInt_natCast->WX,toNat_ofNat->XK
open Go.Act renaming eval->VO
open Go.Oper renaming semAt_some->WK
open Go.Sort renaming ahead->XO
open Go.Exit renaming inBlock->XP
open List.Perm renaming refl->XX
open Go.Shelf renaming Ren->ZC
open Go.Op renaming equalIn->ZH
variable {w W z:World}{n m k i j r C:Nat}{c:Int}{v x y:Value}{T:List Nat}{p:Addr}{P:Option Addr}{A:Array Value}{d:Bool}{S Q X:Nat->Prop}{t:TypeId}{L:List Value}{O:Obj}{f:aN}{F:dp}{g:aA}{K:bq}{l:List Pt}{D:Dk}{U:Dv}{b:By}
theorem fp(h:g.ok)(w:M):aF 26 #[g.V] w λe a=>aL e (aH 0)/\aq w a:=
 tA _ _ _ w ⟨(aA.gm h).m3,(aA.gm h).m16,(aA.gm h).c1,(aA.gm h).tC,(aA.gm h).s1,(aA.gm h).iS⟩
theorem Al(w:M):(zeroValue 339).run prog w=.ok (.map none) w:=zeroValue339 w
theorem wY(d x:Nat)(w:M):(ZH (d+1) 339 (.map (some x)) (.map none)).run prog w=.ok false w:=by unfold ZH;simp only[RY,SS underlying339,RG];rfl
theorem ui(d:Nat)(w:M):(ZH (d+1) 339 (.map none) (.map none)).run prog w=.ok true w:=by unfold ZH;simp only[RY,SS underlying339,RG];rfl
theorem Le(a:Nat)(w:M):(binOp .eql 339 (.map (some a)) (.map none)).run prog w=.ok iL w:=by unfold binOp;simp only[RY,show Op.equal 339 (.map (some a)) (.map none)=ZH (9999+1) 339 (.map (some a)) (.map none)from rfl,wY,RG];rfl
theorem I'(w:M):(binOp .eql 339 (.map none) (.map none)).run prog w=.ok ec w:=by unfold binOp;simp only[RY,show Op.equal 339 (.map none) (.map none)=ZH (9999+1) 339 (.map none) (.map none)from rfl,ui,RG];rfl
theorem uj(g:aA)(B:bq)(v:QC)(w:QA)(u2:g.ok)(u3:B.ok g)(n5:B.n<=256)(u4:fj w v B):
  aF 168 #[g.V,v] w (Nf g B w):=by
 obtain⟨v9,w0,rfl,n6,e1⟩:=u4;have s3:=ad e1;have s4:=λw=>eJ 338 w;have s5:=λw=>eJ 339 w;obtain⟨o,y,z⟩:=g;have d1:decide ((B.n:Int)>256)=false:=aS;obtain⟨n,e2⟩:=ah B.n;rw[e2]at s3 n5 d1 n6;rw[e2];have n7:=ad e2;have b6:=ad u2;have s6:=ad u3;clear e2;go_enter func168,ntmps168;go_wp2_with(go_at_call 26;refine(fp b6.out _).mono ?_;rintro e w1 ⟨rfl,h0⟩;obtain⟨k0,f0,z0⟩:=kp h0 w.heap.size dG);have b8:aq w w1:=(aK aj _).trans (h0.mono aJ);have b9:aX w1 w.heap.size (ao #[ae o,ae y,ae z] 39):=(h0.block w.heap.size aJ).trans (QB w _);obtain⟨c0,c3⟩:=ah w1.heap.size;have j5:QX (jY ⟨o,y,z⟩ B w c0 0 (λ_=>0) (λ_=>.nilFunc) (w1.alloc (.map #[] 0))):=by refine⟨aK b8 _,by rw[<-c3];exact b8.size,?_,λr c4=>(by cases c4),λr w7 c4=>(by cases c4),λj u5=>aa⟩;rw[<-c3];exact(KM.made w1).congr λr=>rfl
 have s7:QX ((w1.alloc (.map #[] 0)).heap[w.heap.size]?=some (ao #[ae o,ae y,ae z] 39)):=(QW _ _ _ (Z_ b9)).trans b9;rw[c3];clear b8 b9 c3;go_loopw [8,30] (λl i wr=>∃(k:Nat) (Q:aN) (n8:Nat->QC),l=.bool true/\i= ae k/\k<=n/\QX (jY ⟨o,y,z⟩ B w c0 k Q n8 wr)/\QX (aX wr w.heap.size (ao #[ae o,ae y,ae z] 39))) (λ_ i _=>n-(intOf i).toNat)
 case atStart=>exact⟨0,_,_,rfl,rfl,QO _,j5,s7⟩
 case round=>
  obtain⟨k,Q,n8,rfl,rfl,u6,a9,c5⟩:=hrel;clear j5 s7;by_cases Y:k<n
  .obtain ⟨j3,s8,h3,h5,rfl,j6,n9⟩:=s3.resolve_left aa;obtain⟨p1,u,p2,J⟩:=n9 k Y;have h7:aX wr j3 (.cells h3 61 h5):=(a9.dA.block j3 (Z_ j6)).trans j6;have c1:wr.cell? ⟨j3,s8+k*2,none⟩=some (ae (B.aM k:Nat)):=(QS wr j3 _ h3 61 h5 h7).trans p1;have c2:wr.cell? ⟨j3,s8+k*2+1,none⟩=some u:=(QS wr j3 _ h3 61 h5 h7).trans p2;obtain⟨m7,m8,m9,rfl⟩:=J.form;obtain⟨t1,t2,t3⟩:=cr c5;have s9:=ad J;have f7:=s6.aM k (by rw[n7.out];exact Y);have h8:=ad (λw=>ys (g:=⟨o,y,z⟩) b6 f7 w);obtain⟨b,c6⟩:=ah (B.aM k);rw[c6]at c1 h8;obtain⟨E,e4⟩:=ah (aA.row ⟨o,y,z⟩ b);obtain⟨m0,e5⟩:=ah (aA.mem ⟨o,y,z⟩ b);obtain⟨q0,j7⟩:=ah (b/aA.E ⟨o,y,z⟩);obtain⟨p0,j8⟩:=ah (aA.par ⟨o,y,z⟩ E);rw[e4,e5,j7,j8]at h8;have o0:E<=4096:=by have:=aA.iU b6 f7;have:=aA.iJ b6;rw[<-e4,<-c6];omega
   have j9:m0<=16:=by have:=aA.kC b6 b;have:=b6.m16;rw[<-e5];omega
   have V:=aT c6 e4 e5;clear h7 c6 e4 e5 j7 j8;go_wp2_with fail;refine(h8 _).mono ?_;rintro e f ⟨rfl,e7⟩;have h9:aq wr (wr.alloc (ao #[ae b,.slice (some (ag m7 m8)) 128 m9] 61)):=aK aj _;obtain⟨W,o1⟩:=ah (f.alloc (ao #[ae q0,ae E,ae m0,ae p0] 248));have S:aq wr W:=by rw[<-o1];exact aK (h9.trans (e7.mono h9.size)) _
   obtain⟨x1,x2,x3⟩:=cr (show W.heap[f.heap.size]?=_ by rw[<-o1];exact QB f _);obtain⟨y1,y2,y3⟩:=cr (show W.heap[wr.heap.size]?=some (ao #[ae b,.slice (some (ag m7 m8)) 128 m9] 61)by rw[<-o1];exact(QW _ _ _ (RL aJ e7.size)).trans ((e7.block _ aJ).trans (QB wr _)));have u7:wr.heap.size<f.heap.size:=RL aJ e7.size;obtain⟨t4,t5,t6⟩:=kp S w.heap.size t3;clear h9;cases k1:aZ ⟨o,y,z⟩ B k E with
   |true=>
    have A:=a9.out.outer.below S;have O:=du A 338 339 (.map none) false YU (Al _) E;rw[ak k1]at O;simp only[TD,SL,if_false]at O;have c7:=ad (λ(o2:QA) (c6:aq W o2)=>du (A.below c6) 338 339 (.map none) false YU (Al _) E);have j4:=ad k1;have o4:=λw=>Le (Q E) w;have k2:wr.heap.size≠Q E:=by have:=(a9.inner E j4).2.2.lt;omega
    have f8:f.heap.size≠Q E:=by have:=(a9.inner E j4).2.2.lt;omega
    have c8:aq w W:=a9.dA.trans (S.mono a9.dA.size);have C:=ad (jY.vY a9 V S j4);have o5:(UZ 338 (.map (some c0)) (ae E) false).run prog W.drew=.ok (.map (some (Q E))) W.drew:=by have:=c7.out _ (a_ aj);rw[ak j4.out]at this;simpa using this
    go_wp2_with fail;go_region_held3(λb4=>b4.cell? (ag wr.heap.size 1)=some (.slice (some (ag m7 m8)) 128 m9)/\b4.cell? (ag f.heap.size 1)=some (ae E)/\b4.cell? (ag f.heap.size 2)=some (ae m0)) ((simp[*,go_sem];done)) (first|(go_at_call 199;refine(hG _ _ _ (s9.below (a_ c8))).mono ?_;rintro e w5 ⟨o7,rfl,d,F⟩;obtain⟨o8,o9,n0,rfl⟩:=(eR d).form;have c:aq W w5:=⟨F.os,F.tape,F.output,F.size,F.block⟩;have b5:aZ ⟨o,y,z⟩ B (k+1) E=true:=dt.2 ⟨k,aa,by rw[V.1,V.2.1]⟩;obtain⟨I,e6,g6,o6⟩:=hc ((C.2.1 E b5).2.2.below c) aa 339 206 underlying339 (show m0<=1000000 by omega) (.agg #[ae m0,ae E,(.slice (some (ag o8 o9)) 128 n0)]);have p3:=ad (a9.next aa c8 C.1 C.2.1 C.2.2.1 C.2.2.2 c (eR d) V o6 g6);have i0:QX (aX I w.heap.size (ao #[ae o,ae y,ae z] 39)):=o6.heap ((c.block _ t6).trans ((S.block _ t3).trans c5)) (λe=>by obtain⟨D,⟨u8,u9,h1,_⟩,_⟩:=((C.2.1 E b5).2.2).own;rw[<-e,(S.block _ t3).trans c5.out]at h1;cases h1);have X:=c7.out w5 c;rw[ak j4.out]at X;simp only[TD,SL,if_false]at X;obtain⟨a1,-,a4⟩:=kp c wr.heap.size y3;obtain⟨a2,-,a5⟩:=kp c f.heap.size x3;have z1:=(QP (a:=ag wr.heap.size 1) (o6.block wr.heap.size a4 k2)).trans ((a1 1).trans (y1 1));have z2:=(QP (a:=ag f.heap.size 1) (o6.block f.heap.size a5 f8)).trans ((a2 1).trans (x1 1));have z3:=(QP (a:=ag f.heap.size 2) (o6.block f.heap.size a5 f8)).trans ((a2 2).trans (x1 2));clear c));go_wp2
    all_goals exact⟨⟨k+1,_,_,rfl,(by go_num),Y,p3,i0⟩,(by simp[intOf];omega)⟩
   |false=>
    have A:=a9.out.outer.below S;have O:=du A 338 339 (.map none) false YU (Al _) E;simp only[k1,Option.getD_none,SL,if_false]at O;obtain⟨w3,e3,g3,o3⟩:=hc (A.below (aK aj (.map #[] 0))) aa 338 339 YU (show E<=1000000 by omega) (.map (some W.heap.size));have j4:=ad k1;have C:=ad (jY.fresh a9 V S k1 o3 g3);have c3:=a9.out.outer.lt;have Z:∀x,x<W.heap.size->x≠c0->w3.heap[x]?=W.heap[x]?:=λx t0 n5=>(o3.block x (RL t0 aJ) n5).trans (QW _ _ _ t0);have i1:wr.heap.size≠c0:=aa;have c9:f.heap.size≠c0:=aa;have i2:w.heap.size≠c0:=λe=>by obtain⟨D,⟨u8,u9,h1,_⟩,_⟩:=a9.out.outer.own;rw[<-e,c5.out]at h1;cases h1
    have c8:=C.2.2.2.2;have v0:W.heap.size<w3.heap.size:=RL aJ o3.size;have k3:=QP (a:=ag wr.heap.size 1) (Z wr.heap.size y3 i1);have k4:=QP (a:=ag f.heap.size 1) (Z f.heap.size x3 c9);have k5:=QP (a:=ag f.heap.size 2) (Z f.heap.size x3 c9);rw[y1 1]at k3;rw[x1 1]at k4;rw[x1 2]at k5;have c7:=ad (λ(o2:QA) (c6:aq w3 o2)=>du (C.1.below c6) 338 339 (.map none) false YU (Al _) E);have b5:aZ ⟨o,y,z⟩ B (k+1) E=true:=dt.2 ⟨k,aa,by rw[V.1,V.2.1]⟩;have o5:(UZ 338 (.map (some c0)) (ae E) false).run prog w3.drew=.ok (.map (some W.heap.size)) w3.drew:=by have:=c7.out _ (a_ aj);rw[ak b5]at this;simpa using this
    have p4:QX (aX w3 w.heap.size (ao #[ae o,ae y,ae z] 39)):=(Z _ t6 i2).trans ((S.block _ t3).trans c5);have o4:=λw=>I' w;clear Z;go_wp2_with fail;go_region_held3(λb4=>b4.cell? (ag wr.heap.size 1)=some (.slice (some (ag m7 m8)) 128 m9)/\b4.cell? (ag f.heap.size 1)=some (ae E)/\b4.cell? (ag f.heap.size 2)=some (ae m0)) ((simp[*,go_sem];done)) (first|(go_at_call 199;refine(hG _ _ _ (s9.below (a_ c8))).mono ?_;rintro e w5 ⟨o7,rfl,d,F⟩;obtain⟨o8,o9,n0,rfl⟩:=(eR d).form;have c:aq w3 w5:=⟨F.os,F.tape,F.output,F.size,F.block⟩;have k6:=(C.2.1 E b5).2.2.below c;rw[ak rfl]at k6;obtain⟨I,e6,g6,o6⟩:=hc k6 aa 339 206 underlying339 (show m0<=1000000 by omega) (.agg #[ae m0,ae E,(.slice (some (ag o8 o9)) 128 n0)]);have p3:=ad (a9.next aa c8 C.1 C.2.1 C.2.2.1 C.2.2.2.1 c (eR d) V (by rw[ak rfl];exact o6) (by rw[ak rfl];exact g6));have i0:QX (aX I w.heap.size (ao #[ae o,ae y,ae z] 39)):=o6.heap ((c.block _ aa).trans (p4)) aa;have X:=c7.out w5 c;rw[ak b5]at X;simp only[TD,SL,if_false,if_true]at X;obtain⟨a1,-,a4⟩:=kp c wr.heap.size aa;obtain⟨a2,-,a5⟩:=kp c f.heap.size aa;have z1:=(QP (a:=ag wr.heap.size 1) (o6.block wr.heap.size a4 aa)).trans ((a1 1).trans k3);have z2:=(QP (a:=ag f.heap.size 1) (o6.block f.heap.size a5 aa)).trans ((a2 1).trans k4);have z3:=(QP (a:=ag f.heap.size 2) (o6.block f.heap.size a5 aa)).trans ((a2 2).trans k5);clear c));go_wp2
    all_goals exact⟨⟨k+1,_,_,rfl,(by go_num),Y,p3,i0⟩,(by simp[intOf];omega)⟩
  .obtain rfl:n=k:=aa;obtain⟨e0,rfl⟩:∃e0:QA,e0=wr:=⟨_,rfl⟩;have T:QX (jY ⟨o,y,z⟩ B w c0 B.n Q n8 e0):=by rw[n7.out];exact a9
   have eZ:B.n<=1000000:=by rw[n7.out];omega
   obtain⟨p5,p6⟩:=T.rows b6 s6;have k7:=ad (λ(f:QA) (b2:aq e0 f) (x:aX f e0.heap.size (ao #[.map (some c0)] 338))=>by have:=tI e0.heap.size c0 B.n _ _ f x (T.out.outer.below b2) eZ p5;rw[p6]at this;exact this);have d0:(bq.eM ⟨o,y,z⟩ B).length<=4096:=QD (fy _ _) (aA.iJ b6);have k8:QX (∀r,r∈bq.eM ⟨o,y,z⟩ B->aZ ⟨o,y,z⟩ B B.n r=true/\r<4096):=λr c4=>⟨(br.1 c4).2,RL (br.1 c4).1 (aA.iJ b6)⟩;obtain⟨p7,i3⟩:=ah (bq.eM ⟨o,y,z⟩ B);rw[i3]at k7 d0 k8;have p8:=ad i3;clear i3;go_wp2_with(first|(go_at_call 252;refine(zN _ _).mono ?_;rintro e f ⟨rfl,rfl⟩)|(go_at_call 251;refine(k7 _ (aK aj _) (QB _ _)).mono ?_;rintro e w4 ⟨v4,rfl,h4,p9⟩;obtain⟨w8,n0,rfl,q1⟩:=au h4;have H4:=aT h4 p9 q1));have f9:aq e0 w4:=(aK aj _).trans (H4.2.1.mono aJ);have b0:=ad f9;obtain⟨d2,k9⟩:=ah (p7.map (bq.bP ⟨o,y,z⟩ B));have e8:=ad k9;have l0:QX (vX w4.heap.size w4 aO (d2.take 0)):=vX.nil _ _;have l1:QX (aq w4 w4):=aj;obtain⟨v1,q2,q3,q4,q5⟩:=SB Aj;obtain⟨v2,q6,q7,q8,q9⟩:=SB Nh;obtain⟨l2,e9⟩:=ah p7.length;have f1:=ad e9;rw[e9]at d0;rw[e9];clear f9 e9 k9;go_loopw [13,81] (λl i b7=>∃j:Nat,i= ae j/\j<=l2/\QX (aq w4 b7)/\QX (vX w4.heap.size b7 l (d2.take j))) (λ_ i _=>l2-(intOf i).toNat)
   case atStart=>exact⟨0,rfl,QO _,l1,l0⟩
   case round=>
    obtain⟨b7,rfl⟩:∃b7:QA,b7=wr:=⟨_,rfl⟩;obtain⟨j,rfl,u5,d3,i4⟩:=hrel;clear l0 l1;by_cases Y:j<l2
    .obtain ⟨r,c4⟩:∃r,p7[j]?=some r:=⟨_,QQ (by rw[f1.out];exact Y)⟩;obtain⟨i5,o0⟩:=k8.out r (QV c4);obtain⟨r1,rfl⟩:=H4.2.2.resolve_left (by have:=f1.out;omega);have h:w4.cell? (ag r1 j)=some (ae r):=(ow H4.1 (k:=j) (by rw[RI,c4];rfl)).1;have l3:b7.cell? (ag r1 j)=some (ae r):=((kp d3 r1 (QN _ _ h)).1 j).trans h;have H:aq e0 b7:=b0.trans (d3.mono b0.size);have f2:=ad H;have O:=du (T.out.outer.below H) 338 339 (.map none) false YU (Al _) r;rw[ak i5]at O;simp only[TD,SL,if_false]at O;obtain⟨v3,-,g0⟩:=T.inner r i5;obtain⟨r2,r3⟩:=T.Ng b6 r;have l4:=ad (λ(f:QA) (b2:aq e0 f) (x:aX f b7.heap.size (ao #[.map (some (Q r))] 339))=>by have:=tJ b7.heap.size (Q r) B.n _ _ f x (g0.below b2) eZ r2;rw[r3]at this;exact this);have d4:(bq.nP ⟨o,y,z⟩ B r).length<=16:=QD (fy _ _) b6.m16;have l5:QX (∀m,m∈bq.nP ⟨o,y,z⟩ B r->m<16/\∃q,cO ⟨o,y,z⟩ B B.n m r=some q):=λm g1=>⟨RL (br.1 g1).1 b6.m16,UJ.1 (br.1 g1).2⟩;obtain⟨KM,i6⟩:=ah (bq.nP ⟨o,y,z⟩ B r);rw[i6]at l4 d4 l5;have r4:=ad i6;have t7:=aB c4 i5;have l6:=ad g0;clear i6 c4 h H;go_wp2_with(first|(go_at_call 253;refine(zO _ _).mono ?_;rintro e w5 ⟨rfl,rfl⟩)|(go_at_call 251;refine(l4 _ (aK f2 _) (QB _ _)).mono ?_;rintro e I ⟨v6,rfl,h6,r5⟩;obtain⟨v5,v7,rfl,r6⟩:=au h6;have H6:=aT h6 r5 r6));have g2:aq b7 I:=(aK aj _).trans (H6.2.1.mono aJ);have b1:=ad g2;obtain⟨U,l7⟩:∃U:List Pt,(KM.map λm=>((m,r,bq.iM ⟨o,y,z⟩ B m r):Pt))=U:=⟨_,rfl⟩;have f3:=ad l7;have l8:QX (fa I.heap.size I aO (U.take 0)):=fa.nil _ _;have g4:QX (aq I I):=aj;obtain⟨n1,f4⟩:=ah KM.length;have f5:=ad f4;rw[f4]at d4;rw[f4];clear g2 f4 l3 l7;go_loopw [16,91] (λl i P=>∃q:Nat,i= ae q/\q<=n1/\QX (aq I P)/\QX (fa I.heap.size P l (U.take q))) (λ_ i _=>n1-(intOf i).toNat)
     case atStart=>exact⟨0,rfl,QO _,g4,l8⟩
     case round=>
      obtain⟨P,rfl⟩:∃P:QA,P=wr:=⟨_,rfl⟩;obtain⟨q,rfl,w9,d5,f6⟩:=hrel;clear l8 g4;by_cases g5:q<n1
      .obtain ⟨m,g1⟩:∃m,KM[q]?=some m:=⟨_,QQ (by rw[f5.out];exact g5)⟩;obtain⟨j9,t8,i7⟩:=l5.out m (QV g1);obtain⟨i8,rfl⟩:=H6.2.2.resolve_left (by have:=f5.out;omega);have h:I.cell? (ag i8 q)=some (ae m):=(ow H6.1 (k:=q) (by rw[RI,g1];rfl)).1;have l3:P.cell? (ag i8 q)=some (ae m):=((kp d5 i8 (QN _ _ h)).1 q).trans h;have H:aq e0 P:=(f2.trans (b1.mono f2.size)).trans (d5.mono (QD f2.size b1.size));have O:=du (T.out.outer.below H) 338 339 (.map none) false YU (Al _) r;rw[ak t7.2]at O;simp only[TD,SL,if_false]at O;have d6:=du (l6.below H) 339 206 (.agg #[ae 0,ae 0,aO]) false underlying339 (zeroValue206 _) m;rw[i7]at d6;simp only[QY,TD,SL,if_false]at d6;have d7:=(T.iM t8 (dH i7).1).below H;obtain⟨l9,m1,m2,r7⟩:=d7.form;rw[r7]at d6 d7;have g7:bq.iM ⟨o,y,z⟩ B m r=B.da t8:=by unfold bq.iM;rw[i7]
       have t9:=aT g1 d7 g7;obtain⟨us,d8,a0,i9⟩:=f6.out;have G:(U.take q).length=q:=by rw[VD,<-f3.out,RB,f5.out];omega
       have m3:U[q]?=some (m,r,bq.iM ⟨o,y,z⟩ B m r):=by rw[<-f3.out,RI,g1];rfl
       have r8:=ad m3;rw[G]at a0 d8;obtain⟨n2,n3,rfl,-⟩:=au a0;have K:=aT d8 a0 i9;have a3:=ad G;clear g1 h H g7 G m3;go_wp2_with(first|(at_builtin;refine aU _ rfl _ _ 162 rfl I.heap.size 206 v1 (.agg #[ae 0,ae 0,aO]) 3 40 XY q2 q3 q4 q5 rfl ai (.slice n2 q n3) q _ rfl (aP (aK aj _) K.2.1) (ag P.heap.size 0) 1 1 [ae m,ae r,.slice (some (ag l9 m1)) 128 m2] rfl rfl (RW (cs:= #[ae m,ae r,.slice (some (ag l9 m1)) 128 m2]) (t:=206) (fr:=(0,0)) (QB P _)) (by intro u J;simp at J;rcases J with rfl|rfl|rfl<;>rfl) aa (by unfold UE;omega) aa (by have:=d5.size;simp;omega) ?_));intro v8 b4 d N;obtain⟨r9,j0,rfl,-⟩:=au d;have a6:aq I (P.alloc (ao #[ae m,ae r,.slice (some (ag l9 m1)) 128 m2] 206)):=aK d5 _;have j1:QX (fa I.heap.size b4 (.slice r9 (q+1) j0) (U.take (q+1))):=by
        show fa _ _ _ _;rw[UG,r8.out];have M:aq P (P.alloc (ao #[ae m,ae r,.slice (some (ag l9 m1)) 128 m2] 206)):=aK aj _;refine fa.push (us:=us) (us':= [.slice (some (ag l9 m1)) 128 m2]) (by rw[K.1,a3.out]) rfl a3.symm rfl (aP M K.2.1) (λi p u e1 J=>(K.2.2 i p u e1 J).below M) (λi p u e1 J=>?_) d N;cases i with
        |zero=>simp at e1 J;rw[<-e1,<-J,t9.2.2];exact t9.2.1.below M
        |succ i=>simp at e1
       have j2:QX (aq I b4):=N.below a6 a6.size λk s0=>(bo K.2.1 s0).2;clear a6;go_wp2;exact⟨⟨q+1,by go_num,g5,j2,j1⟩,by simp[intOf];omega⟩
      .obtain rfl:q=n1:=aa;have g8:U.length=q:=by rw[<-f3.out,RB,f5.out]
       have R:U.take q=U:=by rw[<-g8,UB]
       rw[R]at f6;have m4:=f6.yz;obtain⟨a7,a8,s1,u0,-⟩:=m4;obtain⟨us,d8,a0,i9⟩:=(show vX _ _ _ _ from i4.out);have d9:d2.length=l2:=by rw[<-e8.out,RB,f1.out]
       have G:(d2.take j).length=j:=by rw[VD,d9];omega
       have m5:d2[j]?=some U:=by rw[<-e8.out,RI,t7.1,<-f3.out,<-r4.out];rfl
       rw[G]at d8 a0;obtain⟨n2,n3,rfl,-⟩:=au a0;subst s1;have b3:aq b7 P:=b1.trans (d5.mono b1.size);have g9:aq w4 P:=d3.trans (b3.mono d3.size);have K:=aT d8 (aP b3 a0) (λ(i:Nat) (l:List Pt) (u:QC) h1 h2=>(i9 i l u h1 h2).below b3);have s2:=ad f6.yz;have a3:=aT G m5 g9;clear g8 R d9 G m5 b3 g9;go_wp2_with(first|(at_builtin;refine aU _ rfl _ _ 253 rfl w4.heap.size 162 v2 aO 1 24 underlying253 q6 q7 q8 q9 rfl ai (.slice n2 j n3) j _ rfl (aP (aK aj _) K.2.1) (ag P.heap.size 0) 1 1 [.slice a7 U.length a8] rfl rfl (RW (cs:= #[.slice a7 U.length a8]) (t:=162) (fr:=(0,0)) (QB P _)) (by intro u J;simp at J;rw[J];rfl) aa (by unfold UE;omega) aa (by have:=a3.2.2.size;simp;omega) ?_));intro v8 b4 d N;obtain⟨r9,j0,rfl,-⟩:=au d;have M:aq P (P.alloc (ao #[.slice a7 U.length a8] 162)):=aK aj _;have a6:aq w4 (P.alloc (ao #[.slice a7 U.length a8] 162)):=aK a3.2.2 _;have j1:QX (vX w4.heap.size b4 (.slice r9 (j+1) j0) (d2.take (j+1))):=by show vX _ _ _ _;rw[UG,a3.2.1];have n4:=a3.1;refine vX.push (L:=d2.take j) (l:=U) (us:=us) (u:=.slice a7 U.length a8) (s:=P.heap.size+1) (W:=P.alloc (ao #[.slice a7 U.length a8] 162)) (lv:=.slice n2 j n3) (by rw[K.1,n4]) (by rw[n4];exact aP M K.2.1) (λi p u e1 J=>(K.2.2 i p u e1 J).below M) (s2.below M) (by rw[n4];exact d) (by rw[n4];exact N)
       have j2:QX (aq w4 b4):=N.below a6 a6.size λk s0=>(bo K.2.1 s0).2;clear a6 M;go_wp2;exact⟨⟨j+1,by go_num,Y,j2,j1⟩,by simp[intOf];omega⟩
    .obtain rfl:j=l2:=aa;have d9:d2.length=j:=by rw[<-e8.out,RB,f1.out]
     have R:d2.take j=d2:=by rw[<-d9,UB]
     rw[R]at i4;have A:=i4.Pr;have c6:aq w b7:=T.dA.trans ((b0.trans (d3.mono b0.size)).mono T.dA.size);have m6:d2=bq.fH ⟨o,y,z⟩ B:=by rw[<-e8.out,<-p8.out];rfl
     rw[m6]at A;have u1:=aB A c6;obtain⟨a7,a8,rfl,-⟩:=A;clear d9 R m6 c6;go_wp2;go_ret2;exact⟨_,rfl,u1.1,u1.2⟩
def bq.c_(g:aA)(B:bq):Nat:=(B.fH g).length+((B.fH g).map VU).sum
theorem bq.qP(h:g.ok)(B:bq):(B.fH g).length<=4096:=by unfold bq.fH;rw[RB];exact QD (fy _ _) (aA.iJ h)
theorem bq.yG(h:g.ok)(B:bq)(a:l∈B.fH g):l.length<=16:=by unfold bq.fH at a;obtain⟨r,_,rfl⟩:=RK.1 a;unfold bq.bP;rw[RB];exact QD (fy _ _) h.m16
theorem sy(g:aA)(B:bq)(v:QC)(w:QA)(C:g.ok)(T:B.ok g)(d:B.n<=256)(U:fj w v B):
  aF 104 #[g.V,v] w λe V=>aL e (.tuple #[ae (B.c_ g:Nat),aH 0])/\aq w V:=by
 have X:=ad (λ(W:QA) (f:aq w W)=>uj g B v W C T d (U.below f));have j:=bq.qP C B;have c:QX (∀l,l∈B.fH g->l.length<=16):=λl m=>bq.yG C B m;have D:QX (B.c_ g=(B.fH g).length+((B.fH g).map VU).sum):=rfl;obtain⟨L,G⟩:=ah (B.fH g);obtain⟨Z,p⟩:=ah (B.c_ g);rw[G]at j c D;rw[p]at D;rw[p];have H:=ad G;obtain⟨a2,a3,a4⟩:=g;go_enter func104,ntmps104;go_wp2_with(go_at_call 168;refine(X _ (aK aj _)).mono ?_;rintro e N ⟨u,rfl,E,f⟩;rw[H.out]at E;have M:=aB E f;obtain⟨a5,a6,rfl,-,R⟩:=E;have I:=ad R);obtain⟨n,d⟩:=ah L.length;have A:=ad d;rw[d]at j;rw[d];go_loop [8,21] (λs i=>∃k:Nat,i= ae k/\k<=n/\s= ae (n+((L.take k).map VU).sum:Nat)) (λ_ i=>n-(intOf i).toNat)
 case atStart=>exact⟨0,rfl,QO _,aJ⟩
 case round=>
  obtain⟨k,rfl,a7,rfl⟩:=hrel;have q:((L.take k).map VU).sum<=16*k:=by
   have:∀(l:List (List Pt)),(∀x∈l,x.length<=16)->(l.map VU).sum<=16*l.length:=λl=>by
    induction l with
    |nil=>intro _;simp
    |cons a l Y=>intro h;have:=Y λx F=>h x (SG _ F);have:=h a RZ;simp only[TO,List.sum_cons,SE];omega
   have K:=this (L.take k) λx F=>c.out x (ZJ F);have O:(L.take k).length<=k:=List.length_take_le _ _;omega
  by_cases r:k<n
  .obtain ⟨l,m⟩:∃l,L[k]?=some l:=⟨_,QQ (by rw[A.out];exact r)⟩;obtain⟨b,o,J,a0,rfl,f,a1⟩:=I.resolve_left (by intro e;have:=A.out;rw[e]at this;simp at this;omega);obtain⟨u,K,O⟩:=a1 k l m;obtain⟨a8,a9,rfl,-,-⟩:=O;have c1:=(QS N b (o+k) J 162 a0 f).trans K;have t:=c.out l (QV m);have P:QX (((L.take (k+1)).map VU).sum=((L.take k).map VU).sum+l.length):=by show _=_;rw[UG,m];simp
   obtain⟨S,Q⟩:=ah (((L.take k).map VU).sum);obtain⟨b0,y⟩:=ah l.length;rw[Q,y]at P;rw[Q]at q|-;rw[y]at c1 t;go_wp2;go_round
   case rel=>exact⟨k+1,by go_num,r,by rw[P.out];go_num⟩
   case measure=>simp[intOf];omega
  .obtain rfl:k=n:=aa;have z:L.take k=L:=by rw[<-A.out,UB]
   rw[z,<-show Z=k+(L.map VU).sum by rw[D.out,A.out]];go_wp2;go_ret2;exact⟨rfl,(aK aj _).trans (M.2.mono aJ)⟩
structure np(g:aA)(r:Nat)(l:List Pt):Prop where
 rr:r<g.R
 ne:l≠[]
 mem:∀p,p∈l->p.1<g.M/\p.2.1=r/\p.1≠g.par r
 Lf:l.Pairwise fun p q=>p.1<q.1
theorem np.ax(h:np g r l){p:Pt}(a:l[i]?=some p):p.1<g.M/\p.2.1=r/\p.1≠g.par r:=h.mem p (QV a)
theorem np.lt(h:np g r l){p q:Pt}(a:i<j)(b:l[i]?=some p)(c:l[j]?=some q):p.1<q.1:=by obtain⟨d,rfl⟩:=QR.1 b;obtain⟨e,rfl⟩:=QR.1 c;exact WG.1 h.Lf i j d e a
theorem bq.fq{p:Pt}(a:p∈K.bP g r):∃m,m<g.M/\K.gd g m r=true/\p=(m,r,K.iM g m r):=by unfold bq.bP at a;obtain⟨m,b,rfl⟩:=RK.1 a;exact⟨m,(br.1 b).1,(br.1 b).2,rfl⟩
def Ni(w:M)(e:RV)(a:M):Prop:=∃(x:Int) (b:Bool),aL e (.tuple #[Y x,.bool b,aH 0])/\aq w a
theorem gR(g:aA):((g.s:Nat):Int)*(g.c:Nat)=((g.R:Nat):Int):=by unfold aA.R;rw[TK]
theorem yH(h:g.ok)(d:m<g.M)(f:r<g.R)(w:QA):aF 131 #[g.V,Y m,Y r] w (Ni w):=by
 have a:=aA.gm h;by_cases e:tn (g.M:Nat) (g.c:Nat) (m:Nat) (r:Nat)=((g.M:Nat):Int)-1
 .exact (yp _ _ _ _ _ w a J J J (by rw[gR];omega) e).mono λ_ _ ⟨b,c⟩=>⟨_,_,b,c⟩
 .exact (yq _ _ _ _ _ w a J J J (by rw[gR];omega) e).mono λ_ _ ⟨b,c⟩=>⟨_,_,b,c⟩
theorem uk(h:g.ok)(c:r<g.R)(w:QA):aF 355 #[g.V,Y r] w λe a=>aL e (.tuple #[Y (g.par r:Nat),aH 0])/\aq w a:=by refine(wo (g.M:Nat) (g.c:Nat) (g.s:Nat) (r:Nat) w (aA.gm h) J (by rw[gR];omega)).mono ?_;rintro e a ⟨rfl,b⟩;rw[show((r:Nat):Int)/((g.c:Nat):Int)=((r/g.c:Nat):Int)from rfl,ox g h];exact⟨rfl,b⟩
def kH(a:Nat->Bool):Nat->Nat
 |0=>0
 |n+1=>kH a n+if a n=true then 1 else 0
theorem qQ{a:Nat->Bool}:∀{n:Nat},(∀i,i<n->a i=false)->kH a n=0
 |0,_=>rfl
 |n+1,h=>by unfold kH;rw[qQ λi b=>h i J,h n J];rfl
theorem yI{a:Nat->Bool}:∀{n:Nat},(∀i j,i<n->j<n->a i=true->a j=true->i=j)->kH a n<=1
 |0,_=>QO _
 |n+1,h=>by
  show kH a n+(if a n=true then 1 else 0)<=1;by_cases e:a n=true
  .rw [qQ λi b=>by
    cases c:a i with
    |false=>rfl
    |true=>have:=h i n J J c e;omega]
   rw[ak e];omega
  .have:=yI (n:=n) λi j b d=>h i j J J;rw[al e];omega
def Nj(g:aA)(c:Nat->Bool)(l:List Pt)(par:Nat)(w:M)(e:RV)(a:M):Prop:=∃b,aL e (.tuple #[ar b,aH 0])/\yF a b g c l par/\aq w a
theorem Ja(g:aA)(f:Nat->Bool)(l:List Pt)(r:Nat)(i6 pv:QC)(w:QA)(R:g.ok)(h1:Af w i6 g.M f)(I:e' w pv l)(J:np g r l)(f5:∀i j,i<g.M->j<g.M->f i=true->f j=true->i=j)(l2:l.length<=g.M-1):
  aF 326 #[g.V,i6,pv] w (Nj g f l (g.par r) w):=by
 have g0:=R.m16;have g1:=R.m3;have a0:=aA.iV R r;have l3:=aA.iJ R;have j4:=J.rr;have l4:=ad R;have j5:=ad h1;have j6:=ad I;have g2:=ad J;have j7:=ad (yI f5);have g3:=ad (λ(m:Nat) (w:QA) (g0:m<g.M)=>yH R g0 J.rr w);have c9:=ad (λ(w:QA)=>uk R J.rr w);have g4:=ad (λ(w:QA)=>fp R w);have g5:=ad (λ(W:QA) (f6:aq w W)=>lq 356 #[] (RH func356 aE rfl) l (λ_=>false) pv W (I.below f6) aa λW2 d0 p a6 u j8=>Ci p u W2 j8);obtain⟨i7,i8,rfl,a7⟩:=h1;obtain⟨l5,i9,rfl,j9,V⟩:=I;obtain⟨c,h,t,v,rfl,a8,V⟩:=V.resolve_left J.ne;obtain⟨k1,d3⟩:∃p,l[0]?=some p:=by
  cases l with
  |nil=>exact absurd rfl J.ne
  |cons a l=>exact⟨a,rfl⟩
 have c0:=(QS w c (h+0*3+1) t 206 v a8).trans (V 0 k1 d3).2.1;rw[(J.ax d3).2.1]at c0;simp only[VY,VK]at c0;obtain⟨n,g6⟩:=ah l.length;have k2:0<n:=by rw[<-g6];exact ZK.2 J.ne
 have e_:n<=g.M-1:=aa;have f7:=ad g6;have E:=aB a8 V;have Z:=Z_ a8;obtain⟨par,a9⟩:=ah (g.par r);rw[a9]at a0 c9;rw[a9,g6];have b0:=ad a9;have g7:=ad a7;obtain⟨F,b5,b6⟩:=g;simp only at g0 g1 a0 e_;have k3:((n:Int)==0)=false:=by rw[beq_eq_false_iff_ne];omega
 go_enter func326,ntmps326;go_wp2_with(go_at_call 26;refine(g4 _).mono ?_;rintro e w1 ⟨rfl,b7⟩;obtain⟨k0,f0,z0⟩:=kp b7 w.heap.size dG);have d4:aq w w1:=(aK aj _).trans (b7.mono aJ);have d6:aX w1 w.heap.size (ao #[ae F,ae b5,ae b6] 39):=(b7.block w.heap.size aJ).trans (QB w _);have b8:QX (aq w w1):=d4;have k4:QX (aX w1 w.heap.size (ao #[ae F,ae b5,ae b6] 39)):=d6;have b9:=d4.size;go_loopw [39] (λi wr=>∃k:Nat,i= ae k/\k<=n/\QX (aq w1 wr)) (λi _=>n-(intOf i).toNat)
 case atStart=>exact⟨0,rfl,QO _,aj⟩
 case round=>
  obtain⟨k,rfl,l6,A⟩:=hrel;have j0:=(A.block _ z0).trans k4;obtain⟨t1,t2,t3⟩:=cr j0;by_cases L:k<n
  .obtain ⟨p,a6⟩:∃p,l[k]?=some p:=⟨_,QQ (by rw[f7.out];exact L)⟩;obtain⟨h1,I,u,h3,h4⟩:=E.2 k p a6;obtain⟨H,N,M⟩:=g2.ax a6;have G:=(A.block c (RL Z b9)).trans ((b8.block c Z).trans E.1);have c1:=(QS wr c (h+k*3) t 206 v G).trans h1;have c2:=(QS wr c (h+k*3+1) t 206 v G).trans I;have c3:=(QS wr c (h+k*3+2) t 206 v G).trans h3;obtain⟨j1,j2,j3,rfl⟩:=h4.form;obtain⟨c7,k5,k6⟩:=p;simp only at H N M c1 c2 c3;subst N;have g8:=ad (λ(w:QA)=>g3.out c7 w H);go_wp2_with(go_at_call 131;refine(g8 _).mono ?_;rintro e w2 ⟨x,y,rfl,d0⟩;have d:=ad d0);have c4:QX (aq w1 w2):=(aK A _).trans (d.mono (by have:=A.size;simp;omega));go_wp2;exact⟨⟨k+1,by go_num,L,c4⟩,by simp[intOf];omega⟩
  .obtain rfl:k=n:=aa;obtain⟨O,rfl⟩:∃O:QA,O=wr:=⟨_,rfl⟩;have G:=(A.block c (RL Z b9)).trans ((b8.block c Z).trans E.1);have c1:O.cell? ⟨c,h+1,none⟩=some (ae r):=by rw[<-c0];exact QP (a:=⟨c,h+1,none⟩) (G.trans E.1.symm)
   have g9:=A.size;have h0:=aB G j0;go_wp2_with fail;obtain⟨X,k7,P,d7⟩:=qi O (ao #[ae F,ae b5,ae b6,.slice i7 F i8,.slice (some (ag c h)) k i9,ae 0] 427);obtain⟨x1,x2,x3⟩:=cr d7;have y1:=((kp P w.heap.size t3).1 0).trans (t1 0);have y2:=((kp P w.heap.size t3).1 1).trans (t1 1);have y3:=((kp P w.heap.size t3).1 2).trans (t1 2);have y4:=((kp P c (Z_ h0.1)).1 (h+1)).trans c1;have h5:=aB P d7;have d8:=Z_ h0.1;rw[k7];go_region_held3(λf8=>f8.cell? (ag w.heap.size 0)=some (ae F)/\f8.cell? (ag w.heap.size 1)=some (ae b5)/\f8.cell? (ag w.heap.size 2)=some (ae b6)/\f8.cell? ⟨c,h+1,none⟩=some (ae r)) ((simp[*,go_sem];done)) (first|(go_at_call 355;refine(c9 _).mono ?_;rintro e w5 ⟨rfl,Q⟩;have D:aq X w5:=⟨Q.os,Q.tape,Q.output,Q.size,Q.block⟩;obtain⟨a1,-,-⟩:=kp D w.heap.size aa;obtain⟨a2,-,-⟩:=kp D c aa;obtain⟨a3,a4,a5⟩:=kp D O.heap.size x3;have b1:=(a1 0).trans y1;have b2:=(a1 1).trans y2;have b3:=(a1 2).trans y3;have b4:=(a2 (h+1)).trans y4;have d9:=ad D));obtain⟨Y,h6⟩:=ah (w5.setCell {block:=O.heap.size,off:=5} (SJ QG (par:Nat)));have e0:aX Y O.heap.size (ao #[ae F,ae b5,ae b6,.slice i7 F i8,.slice (some (ag c h)) k i9,ae par] 427):=by rw[<-h6];exact heap_setCell_same w5 O.heap.size 5 _ 427 _ ((d9.block _ x3).trans h5.2)
   have e4:aq O Y:=by rw[<-h6];exact(h5.1.trans (d9.mono h5.1.size)).setCell (QE _) _
   have e5:aq w Y:=b8.trans ((A.trans (e4.mono g9)).mono b9);have s:=(e4.block c d8).trans h0.1;have S:=aT e0 e5 s;have e6:=Z_ e0;have e7:=Z_ s;rw[h6];go_wp2_with fail;go_loopw [15,76] (λq i wr=>∃j:Nat,i= ae j/\j<=k/\QX (aq Y wr)/\∃z:Int,q= ae z/\QX (∀p,l[j]?=some p->z<p.1)) (λ_ i _=>k-(intOf i).toNat)
   case atStart=>exact⟨0,rfl,QO _,aj,-1,rfl,λp _=>aa⟩
   case round=>
    obtain⟨j,rfl,l7,d,z,rfl,h7⟩:=hrel;have h8:=(d.block _ e6).trans S.1;obtain⟨y1,y2,y3⟩:=cr h8;have s:=(d.block _ e7).trans S.2.2;have c1:wr.cell? ⟨c,h+1,none⟩=some (ae r):=by rw[<-c0];exact QP (a:=⟨c,h+1,none⟩) (s.trans E.1.symm)
    by_cases L:j<k
    .obtain ⟨p,a6⟩:∃p,l[j]?=some p:=⟨_,QQ (by rw[f7.out];exact L)⟩;obtain⟨h1,I,u,h3,h4⟩:=E.2 j p a6;obtain⟨H,N,M⟩:=g2.ax a6;rw[N]at I;have h9:=h7.out p a6;have e1:=(QS wr c (h+j*3) t 206 v s).trans h1;have e2:=(QS wr c (h+j*3+1) t 206 v s).trans I;have e3:=(QS wr c (h+j*3+2) t 206 v s).trans h3;obtain⟨j1,j2,j3,rfl⟩:=h4.form;have i0:QX (∀c8,l[j+1]?=some c8->(p.1:Int)<c8.1):=λc8 i1=>by have:=g2.lt (TI j) a6 i1;omega
     obtain⟨c7,k5,k6⟩:=p;simp only at H M h9 e1 e2 e3;have e8:QX (∀c8,l[j+1]?=some c8->((c7:Nat):Int)<c8.1):=i0.out;have d1:decide ((c7:Int)<=z)=false:=aS;have d2:((c7:Int)==(par:Int))=false:=by rw[sr];simp;rw[<-b0.out];exact M
     obtain⟨B1,e9⟩:=ah (wr.alloc (ao #[ae c7,ae r,.slice (some (ag j1 j2)) 128 j3] 206));have c5:aq wr B1:=by rw[<-e9];exact aK aj _
     obtain⟨x1,x2,x3⟩:=cr (show B1.heap[wr.heap.size]?=_ by rw[<-e9];exact QB _ _);have y5:=((kp c5 O.heap.size y3).1 5).trans (y1 5);have y6:=((kp c5 c (Z_ s)).1 (h+1)).trans c1;have i2:=ad c5;go_wp2_with fail;go_quiet(fail);have c4:QX (aq Y (B1.drewN nq)):=cK (d.trans (i2.mono d.size)) nq;go_wp2;exact⟨⟨j+1,by go_num,L,c4,_,rfl,e8⟩,by simp[intOf];omega⟩
    .obtain rfl:j=k:=aa;obtain⟨f9,rfl⟩:∃f9:QA,f9=wr:=⟨_,rfl⟩;have i3:aq w f9:=S.2.1.trans (d.mono S.2.1.size);have T:=ad (g5 f9 i3);rw[f7.out]at T;have f1:QX (l.any (λ_=>false)=false):=by show _=_;simp
     rw[f1.out]at T;have a7:=g7.out;go_wp2_with(go_at_call 357;refine T.mono ?_;rintro e w7 ⟨rfl,K⟩;have i4:=ad K);have c6:QX (yF w7 O.heap.size ⟨F,b5,b6⟩ f l (aA.par ⟨F,b5,b6⟩ r)/\aq w w7):=by have K:aq Y w7:=d.trans (i4.mono d.size);refine⟨?_,S.2.1.trans (K.mono S.2.1.size)⟩;rw[b0.out];have f2:=j6.out;rw[f7.out]at f2;exact⟨_,_,(K.block _ e6).trans S.1,j5.below (S.2.1.trans (K.mono S.2.1.size)),f2.below (S.2.1.trans (K.mono S.2.1.size))⟩
     have f3:aq w w7:=c6.2;go_loop [19,110] (λq i=>∃m:Nat,i= ae m/\m<=F/\q= ae (kH f m:Nat)) (λ_ i=>F-(intOf i).toNat)
     case atStart=>exact⟨0,rfl,QO _,rfl⟩
     case round=>
      obtain⟨m,rfl,k8,rfl⟩:=hrel;by_cases U:m<F
      .obtain ⟨b,o,k9,l0,rfl,f6,l1⟩:=a7.resolve_left aa;have c1:=(QS w7 b (o+m) k9 4 l0 ((f3.block b (Z_ f6)).trans f6)).trans (l1 m U);have B:QX (kH f (m+1)=kH f m+if f m=true then 1 else 0):=rfl;have i5:kH f m<=m:=by
        have:∀q,kH f q<=q:=λq=>by
         induction q with
         |zero=>exact QE _
         |succ q l8=>show kH f q+(if f q=true then 1 else 0)<=q+1;split<;>omega
        exact this m
       obtain⟨C,f4⟩:=ah (kH f m);rw[f4]at B i5;rw[f4];cases f5:f m with
       |true=>
        rw[f5]at c1 B;simp only[if_true]at B;go_wp2;go_round
        case rel=>exact⟨m+1,by go_num,U,by rw[B.out];go_num⟩
        case measure=>simp[intOf];omega
       |false=>
        rw[f5]at c1 B;simp only[SL,if_false,VK]at B;go_wp2;go_round
        case rel=>exact⟨m+1,by go_num,U,by rw[B.out]⟩
        case measure=>simp[intOf];omega
      .obtain rfl:m=F:=aa;have d5:decide ((kH f m:Int)>1)=false:=by have h1:kH f m<=1:=j7.out;simp;omega
       obtain⟨C,f4⟩:=ah (kH f m);rw[f4]at d5;rw[f4];go_wp2;go_ret2;exact⟨_,rfl,by rw[<-b0.out];exact c6.1,c6.2⟩
section
section
variable {P:Program}
def hJ(a:Int)(e:TC):Bool:=match e.key with| .int .u8 b=>a==b|_=>false
def fU(a:Int):List TC->Nat->Option (Nat × H)
 | [],_=>none
 |e::b,i=>if hJ a e then some (i,e.val)else fU a b (i+1)
def mB(b:List TC):Prop:=∀e∈b,∃a,e.key=.int .u8 a
theorem HZ{b:Array TC}{c:Nat}(h:mB b.toList):ty (.map b c)=1000000:=by simp only[ty];rw[al];rw[XD];rintro⟨e,f,d⟩;obtain⟨a,g⟩:=h e f;rw[g]at d;cases d
theorem um{a b:Int}{e:TC}(h:e.key=.int .u8 b):hJ a e=(a==b):=by simp[hJ,h]
theorem oV(a:Int):∀(c:List TC) (i:Nat),mB c->XB (.int .u8) (.int .u8 a) c i=some (fU a c i)
 | [],i,_=>rfl
 |e::c,i,h=>by obtain⟨b,d⟩:=h e RZ;have f:=oV a c (i+1) λg j=>h g (SG _ j);simp only[XB,fU,d,Instr.sameNow,if_true,um d];cases k:(a==b)<;>simp[f]
theorem il(a:Int):∀(b:List TC) (i:Nat),fU a b i=(fU a b 0).map λp=>(p.1+i,p.2)
 | [],_=>rfl
 |e::b,i=>by
  simp only[fU];split
  .simp
  .rw [il a b (i+1),il a b (0+1),YN];congr 1;funext p;simp;omega
theorem yJ(a:Int):∀(b:List TC) (i:Nat) (v:H),fU a b 0=some (i,v)->∃e,b[i]?=some e/\hJ a e=true/\e.val=v
 | [],_,_,h=>by cases h
 |e::b,i,v,h=>by
  simp only[fU]at h;split at h
  .rename_i d;cases h;exact⟨e,rfl,d,rfl⟩
  .rw [il]at h;cases c:fU a b 0 with
   |none=>rw[c]at h;cases h
   |some p=>obtain⟨j,u⟩:=p;rw[c]at h;simp at h;obtain⟨rfl,rfl⟩:=h;obtain⟨f,g,k,l⟩:=yJ a b j u c;exact⟨f,by simpa using g,k,l⟩
def UM(w:M)(d:Nat)(f:Int->Option H):Prop:=
 ∃c b,w.heap[d]?=some (.map c b)/\mB c.toList/\∀a,(fU a c.toList 0).map (·.2)=f a
theorem UM.out{S:Nat->Prop}{w w1:M}{a:Nat}{f:Int->Option H}(h:UM w a f)(b:Out S w w1)(d:¬S a):UM w1 a f:=by obtain⟨e,c,g,i,j⟩:=h;exact⟨e,c,b.heap g d,i,j⟩
theorem UM.lt{w:M}{a:Nat}{f:Int->Option H}(h:UM w a f):a<w.heap.size:=by obtain⟨d,c,b,e,g⟩:=h;exact Z_ b
theorem UM.made(w:M):UM (w.alloc (.map #[] 0)) w.heap.size λ_=>none:=⟨#[],0,QB _ _,λ_ h=>by simp at h,λ_=>rfl⟩
theorem UM.congr{w:M}{b:Nat}{f g:Int->Option H}(h:UM w b f)(e:∀a,f a=g a):UM w b g:=by obtain⟨d,c,i,j,k⟩:=h;exact⟨d,c,i,j,λa=>(k a).trans (e a)⟩
theorem iF(b:Bool)(k:SQ)(a:Int)(w:M)(c:P.underlying k=some (.int .u8)):(VC b 10000 k (.int .u8 a)).run P w=.ok () w:=by unfold VC;simp[SS c]
theorem jf(k:SQ)(a:Int)(b:List TC)(w:M)(c:P.underlying k=some (.int .u8))(h:mB b):(XE k (.int .u8 a) b).run P w=.ok (fU a b 0) w:=by unfold XE;simp[SS c,oV a b 0 h]
theorem dQ{w:M}{d:Nat}{f:Int->Option H}(h:UM w d f)(t k e:SQ)(z:H)(c:Bool)(j:P.underlying t=some (.map k e))(g:P.underlying k=some (.int .u8))(l:(zeroValue e).run P w=.ok z w)(a:Int):
  (UZ t (.map (some d)) (.int .u8 a) c).run P w=.ok (if c then .tuple #[(f a).getD z,.bool (f a).isSome]else(f a).getD z) w:=by
 obtain⟨m,r,n,o,q⟩:=h;have b:=q a;unfold UZ;simp only[RY,SS j,RG,VA,iF _ _ _ _ g,jf _ _ _ _ g o,b_ n];cases i:fU a m.toList 0 with
 |none=>rw[i]at b;simp only[VE]at b;rw[<-b];simp[l]
 |some p=>rw[i]at b;simp only[QY]at b;rw[<-b];simp
theorem qR(a:Int)(v:H)(x:TC):∀(c:List TC) (i:Nat),(∀b,hJ b x=(b==a))->x.val=v->fU a c i=none->∀b,(fU b (c++ [x]) i).map (·.2)=if b=a then some v else(fU b c i).map (·.2)
 | [],i,g,h,_,b=>by
  simp only[UN,fU,g b];by_cases e:b=a
  .simp [e,h]
  .simp [e]
 |y::c,i,g,h,f,b=>by
  simp only[UC,fU]at f|-;split at f
  .cases f
  .rename_i j;have k:=qR a v x c (i+1) g h f b;by_cases d:hJ b y=true
   .rw [ak d,ak d,al];intro e;subst e;exact j d
   .rw [al d,al d,k]
theorem uo(a:Int)(v:H):∀(c:List TC) (i j:Nat) (u:H),fU a c i=some (i+j,u)->∀b,(fU b (c.modify j λe=>{e with key:=.int .u8 a,val:=v}) i).map (·.2)=if b=a then some v else(fU b c i).map (·.2)
 | [],_,_,_,h,_=>by cases h
 |y::c,i,j,u,h,b=>by
  simp only[fU]at h;split at h
  .rename_i d;simp at h;obtain⟨rfl,rfl⟩:=h;have g:hJ b y=(b==a):=by unfold hJ at d|-;cases l:y.key<;>simp[l]at d|-;rename_i m q;cases m<;>simp at d|-;rw[d]
   simp only[YP,fU,g];by_cases e:b=a
   .subst e;simp[hJ]
   .have:hJ b {y with key:=.int .u8 a,val:=v}=false:=by simp[hJ,e]
    simp[e,this]
  .rename_i d;cases j with
   |zero=>
    have:=il a c (i+1);rw[h]at this;cases k:fU a c 0 with
    |none=>rw[k]at this;cases this
    |some p=>rw[k]at this;simp at this;omega
   |succ j=>
    have n:=uo a v c (i+1) j u (by rw[h];congr 2;omega) b;simp only[YQ,fU];by_cases f:hJ b y=true
    .rw [ak f,ak f,al];intro e;subst e;exact d f
    .rw [al f,al f,n]
theorem bc{w:M}{m:Nat}{f:Int->Option H}(h:UM w m f)(t k e:SQ)(U:P.underlying t=some (.map k e))(O:P.underlying k=some (.int .u8))(a:Int)(v:H):
  ∃D,(SZ t (.map (some m)) (.int .u8 a) v).run P w=.ok () D/\UM D m (λb=>if b=a then some v else f b)/\(∃o,ty o=1000000/\D=w.putObj m o):=by
 obtain⟨g,s,A,B,Q⟩:=h;have q:=Z_ A;unfold SZ;simp only[RY,SS U,RG,iF _ _ _ _ O,jf _ _ _ _ O B,b_ A];cases E:fU a g.toList 0 with
 |none=>
  have d:mB (g.push {key:=.int .u8 a,val:=v,born:=s}).toList:=by
   intro x C;simp at C;rcases C with C|rfl
   .exact B x (by simpa using C)
   .exact ⟨a,rfl⟩
  refine⟨w.putObj m (.map (g.push {key:=.int .u8 a,val:=v,born:=s}) (s+1)),cf _ A,⟨_,_,SO q,d,λb=>?_⟩,_,HZ d,rfl⟩
  .rw [Array.toList_push,qR a v _ _ _ (λb=>by simp[hJ]) rfl E b,Q b]
 |some p=>
  obtain⟨i,u⟩:=p;obtain⟨x,r,l,V⟩:=yJ a _ i u E;have F:g[i]?=some x:=by simpa using r
  have G:x.key=.int .u8 a:=by obtain⟨c,S⟩:=B x (QV r);rw[um S]at l;rw[S];simp at l;rw[l]
  have K:(WJ (((g[i]?).map (·.key)).getD (.int .u8 a)) (.int .u8 a)).run P w=.ok (.int .u8 a) w:=by rw[F];simp[G,WJ,XN]
  simp only[RY,K,RG];have d:mB (g.modify i λe=>{e with key:=.int .u8 a,val:=v}).toList:=by
   intro y T;rw[VM,TV]at T;obtain⟨j,n⟩:=T;rw[ZL]at n;cases L:g.toList[j]? with
   |none=>rw[L]at n;simp at n
   |some z=>
    rw[L]at n;simp at n;subst n;split
    .exact ⟨a,rfl⟩
    .exact B z (QV L)
  refine⟨w.putObj m (.map (g.modify i λe=>{e with key:=.int .u8 a,val:=v}) s),cf _ A,⟨_,_,SO q,d,λb=>?_⟩,_,HZ d,rfl⟩
  .rw [VM,uo a v _ 0 i u (by rw[E,RE]) b,Q b]
end
end
def qf(w:M)(v:H)(l:List Nat):Prop:=
 ∃a c,v=.slice a l.length c/\(l= []\/∃b o d e,a=some (R b o)/\w.heap[b]?=some (.cells d 3 e)/\∀(i m:Nat),l[i]?=some m->d[o+i]?=some (Y m))
theorem qf.below(h:qf w v T)(f:aq w W):qf W v T:=by obtain⟨a,c,e,h⟩:=h;refine⟨a,c,e,h.imp id ?_⟩;rintro⟨b,o,g,i,e,d,j⟩;exact⟨b,o,g,i,e,(f.block b (Z_ d)).trans d,j⟩
theorem qf.out{w w1:M}(h:qf w v T)(f:Out S w w1)(g:∀k o,S k->w.heap[k]?=some o->ty o≠3):qf w1 v T:=by obtain⟨a,c,e,h⟩:=h;refine⟨a,c,e,h.imp id ?_⟩;rintro⟨b,o,i,j,e,d,l⟩;exact⟨b,o,i,j,e,f.heap d λm=>g b _ m d rfl,l⟩
theorem FV(h:w.ownsRow n 3 1 v T.length (T.map λa=>.int .i64 (a:Nat))):qf w v T:=by
 rcases h.2 with⟨rfl,d⟩|⟨g,b,c,rfl,l,f,o,p,r,j⟩
 .exact ⟨none,0,by rw[d],.inl (TS d)⟩
 .refine ⟨_,b,rfl,.inr ⟨g,0,c,_,rfl,f,λi m e=>?_⟩⟩;have k:=(QR.1 e).1;have:=congrArg (λq=>q[i]?) j;simp only[SX,TX,RI,e,ak k,QY]at this;rw[RE];simpa using this
def cX(M:Nat)(a:Nat->Bool)(l:List Pt)(par:Nat):List Nat:=
 if dW M a l par=3 then ZZ M (qN par l)else if dW M a l par=2 then ZZ M (Ai par l)else[]
theorem Am(M:Nat)(a:Nat->Bool)(l:List Pt)(par:Nat):dW M a l par=1\/dW M a l par=2\/dW M a l par=3\/dW M a l par=4:=by
 unfold dW;split
 .exact .inl rfl
 .split
  .split
   .exact .inr (.inr (.inr rfl))
   .split
    .exact .inr (.inr (.inl rfl))
    .exact .inr (.inl rfl)
  .split
   .exact .inr (.inr (.inl rfl))
   .exact .inr (.inl rfl)
theorem CI:prog.underlying 375=some (.int .u8):=underlying375
theorem Nk(w:M):(zeroValue 423).run prog w=.ok .nilFunc w:=zeroValue423 w
theorem Lg(i j l m:H)(W:M):∃d f g c,(SZ 424 (.map (some W.heap.size)) (.int .u8 1) i).run prog (W.alloc (.map #[] 0))=.ok () d
  /\(SZ 424 (.map (some W.heap.size)) (.int .u8 4) j).run prog d=.ok () f/\(SZ 424 (.map (some W.heap.size)) (.int .u8 3) l).run prog f=.ok () g
  /\(SZ 424 (.map (some W.heap.size)) (.int .u8 2) m).run prog g=.ok () c
  /\UM c W.heap.size (λb=>if b=2 then some m else if b=3 then some l else if b=4 then some j else if b=1 then some i else none)/\aq W c/\W.heap.size<c.heap.size:=by
 obtain⟨d,q,r,C,_,s⟩:=bc (UM.made W) 424 375 423 underlying424 CI 1 i;obtain⟨f,t,u,D,_,v⟩:=bc r 424 375 423 underlying424 CI 4 j;obtain⟨g,w,u3,E,_,x⟩:=bc u 424 375 423 underlying424 CI 3 l;obtain⟨c,y,n,F,_,z⟩:=bc u3 424 375 423 underlying424 CI 2 m;refine⟨d,f,g,c,q,t,w,y,n,?_,n.lt⟩;have A:aq W (W.alloc (.map #[] 0)):=aK aj _;have h:∀{a b:M} {o:Obj},aq W a->b=a.putObj W.heap.size o->aq W b:=λ{a b o} p B=>by rw[B];exact p.grown (grownBy_putObj' _ _ _) p.size (λk e=>by cases e;exact QE _)
 exact h (h (h (h A s) v) x) z
def Lh(g:aA)(b:Nat->Bool)(l:List Pt)(r:Nat)(w:QA)(e:RV)(a:QA):Prop:=
 ∃pv c,aL e (.tuple #[.agg #[Y r,.int .u8 (dW g.M b l (g.par r):Nat),Y (g.par r:Nat),pv,c],aH 0])/\e' a pv l/\qf a c (cX g.M b l (g.par r))/\aq w a
theorem Nl{f g i j k:H}(h:aX w n (.cells #[f,g,i,j,k] t (0,0)))(a b c d e:H):
  (((((w.setCell (R n 0) a).setCell (R n 1) b).setCell (R n 2) c).setCell (R n 3) d).setCell (R n 4) e).heap[n]?=some (.cells #[a,b,c,d,e] t (0,0)):=
 heap_setCell_same _ n 4 _ t e (heap_setCell_same _ n 3 _ t d (heap_setCell_same _ n 2 _ t c (heap_setCell_same _ n 1 _ t b (heap_setCell_same w n 0 _ t a h))))
theorem Nn(w:M)(b:Nat)(a c d e f:H):Out (λk=>k=b) w (((((w.setCell (R b 0) a).setCell (R b 1) c).setCell (R b 2) d).setCell (R b 3) e).setCell (R b 4) f):=
 (((((Out.refl (λk=>k=b) w).setCell (p:=R b 0) (λ_=>rfl) a).setCell (p:=R b 1) (λ_=>rfl) c).setCell (p:=R b 2) (λ_=>rfl) d).setCell (p:=R b 3) (λ_=>rfl) e).setCell (p:=R b 4) (λ_=>rfl) f
def No(x:M)(r b par:Nat)(s:H)(a:M):Prop:=
 ∃T,s= ar T/\x.heap.size<=T/\a.heap[T]?=some (N #[Y r,eb b,Y par,aO,aO] 377)/\aq x a
theorem CJ(g:aA)(y:Nat->Bool)(l:List Pt)(r:Nat)(k6 pv:QC)(w:QA)(k1:g.ok)(h1:Af w k6 g.M y)(h2:e' w pv l)(g0:np g r l)(n3:∀i j,i<g.M->j<g.M->y i=true->y j=true->i=j)(k7:l.length<=g.M-1):
  aF 300 #[g.V,k6,pv] w (Lh g y l r w):=by
 have k8:=k1.m16;have k9:=k1.m3;have o0:=ad (λ(W:QA) (c9:aq w W)=>Ja g y l r k6 pv W k1 (h1.below c9) (h2.below c9) g0 n3 k7);have h0:=ad (λ(d:Nat) (W:QA) (h:yF W d g y l (g.par r))=>FU d g y l (g.par r) W h k1 k7);have p9:=ad g0;have L:=Am g.M y l (g.par r);have d7:QX (∀(d:Nat) (W:QA),yF W d g y l (g.par r)->∃a8:Nat,(∀d0 w,(VF a8 d0).run prog w=.ok (.enter a8 d0) w)/\aF a8 #[ar d] W (iC (cX g.M y l (g.par r)) W)/\(dW g.M y l (g.par r)=1/\a8=327\/dW g.M y l (g.par r)=4/\a8=327\/dW g.M y l (g.par r)=3/\a8=328\/dW g.M y l (g.par r)=2/\a8=329)):=by
  intro d W a9;have O:aF 327 #[ar d] W (iC [] W):=(FQ d W).mono λe C ⟨h1,h2⟩=>⟨_,h1,SD _ _ _ _,h2⟩;have d1:=RH (P:=prog) func327 aE rfl;rcases L with h|h|h|h
  .exact ⟨327,d1,by unfold cX;rw[h];exact O,.inl ⟨h,rfl⟩⟩
  .exact ⟨329,RH (P:=prog) func329 aE rfl,by unfold cX;rw[h];exact I_ d g y l _ W a9 aa k8,.inr (.inr (.inr ⟨h,rfl⟩))⟩
  .exact ⟨328,RH (P:=prog) func328 aE rfl,by unfold cX;rw[h];exact FT d g y l _ W a9 aa k8,.inr (.inr (.inl ⟨h,rfl⟩))⟩
  .exact ⟨327,d1,by unfold cX;rw[h];exact O,.inr (.inl ⟨h,rfl⟩)⟩
 have q0:=ad h2;obtain⟨q6,q7,rfl,-⟩:=h1;obtain⟨q8,q9,rfl,o1,b0⟩:=h2;obtain⟨b3,d8,Q,U,rfl,d9,b0⟩:=b0.resolve_left g0.ne;obtain⟨o2,e0⟩:∃p,l[0]?=some p:=by
  cases l with
  |nil=>exact absurd rfl g0.ne
  |cons a l=>exact⟨a,rfl⟩
 have c0:=(QS w b3 (d8+0*3+1) Q 206 U d9).trans (b0 0 o2 e0).2.1;rw[(g0.ax e0).2.1]at c0;simp only[VY,VK]at c0;obtain⟨n,k2⟩:=ah l.length;have o3:0<n:=by rw[<-k2];exact ZK.2 g0.ne
 have e_:n<=15:=aa;have g5:=ad k2;have h3:=aB d9 b0;have b4:=Z_ d9;have o4:=λw=>eJ 424 w;obtain⟨o5,l0,l1,l2,l3⟩:=SB Aj;obtain⟨K,e6⟩:=ah (dW g.M y l (g.par r));obtain⟨c,H⟩:=ah (cX g.M y l (g.par r));rw[e6]at h0 L d7;rw[H]at d7;have l4:QX (Lh g y l r w=λe C=>∃pv l5,aL e (.tuple #[.agg #[ae r,eb K,ae (g.par r:Nat),pv,l5],aH 0])/\e' C pv l/\qf C l5 c/\aq w C):=by show _=_;unfold Lh;rw[e6,H]
 rw[k2];have n4:((n:Int)==0)=false:=by rw[beq_eq_false_iff_ne];omega
 obtain⟨b5,b6,b7⟩:=g;simp only at k8 k9;clear n3 k7 e0 k2 e6 H;go_enter func300,ntmps300;go_wp2_with(go_at_call 326;rw[<-g5.out];refine(o0 _ (aK (aK aj _) _)).mono ?_;rintro e w1 ⟨d,rfl,a9,l6⟩;have e7:=ad l6;have e8:=ad a9;obtain⟨x1,x2,x3,x4,u1,u2,u3,u4,l7,l8,o6⟩:=Lg (.func (.func 327) #[ar d] #[]) (.func (.func 327) #[ar d] #[]) (.func (.func 328) #[ar d] #[]) (.func (.func 329) #[ar d] #[]) w1;have g6:=aB l7 l8;obtain⟨q1,q2,q3,q4,q5⟩:=id e8;obtain⟨r1,r2,r3⟩:=cr ((g6.2.block _ (Z_ q3)).trans q3);have F:aq w x4:=(aK (aK aj _) _).trans ((e7.trans (g6.2.mono e7.size)).mono aS);have s1:=((kp F b3 b4).1 (d8+1)).trans c0;have r0:=RL b4 F.size;have N:=ad F;clear F);rw[g5.out];go_cut [11] (λs o7=>No x4 r K (aA.par ⟨b5,b6,b7⟩ r) s o7)
 case first=>
  go_region_held3(λC=>C.cell? ⟨b3,d8+1,none⟩=some (ae r)/\C.cell? (ag d 5)=some (ae (aA.par ⟨b5,b6,b7⟩ r:Nat))) ((simp[*,go_sem];done)) (first|(go_at_call 330;refine(h0 d _ ((e8.below g6.2).below bF)).mono ?_;rintro e w5 ⟨rfl,z⟩;have G:aq x4 w5:=(by first|exact⟨z.os,z.tape,z.output,z.size,z.block⟩|(refine Below.trans ?_ (z.mono ?_);(first|exact aK (a_ aj) _|exact a_ (aK aj _)|go_grown);(simp;done)));obtain⟨a1,-,z1⟩:=kp G b3 (RL b4 N.size);obtain⟨a2,-,z2⟩:=kp G d r3;have b1:=(a1 (d8+1)).trans s1;have b2:=(a2 5).trans (r1 5);(try(obtain⟨a3,a4,a5⟩:=kp z x4.heap.size (Nat.lt_of_lt_of_eq (TI x4.heap.size) (SP _ _).symm)));(try(have h7:=(z.block x4.heap.size (Nat.lt_of_lt_of_eq (TI x4.heap.size) (SP _ _).symm)).trans (QB _ _);have H7:=ad h7));have f:=ad G;clear G))
  all_goals go_wp2
  all_goals go_meet
  all_goals first
   |exact⟨_,rfl,QE _,Nl H7 _ _ _ _ _,((((f.setCell (QE _) _).setCell (QE _) _).setCell (QE _) _).setCell (QE _) _).setCell (QE _) _⟩
   |exact⟨_,rfl,f.size,QB _ _,aK f _⟩
 case rest=>
  rename_i o8;refine o8 _ _ ?_;obtain⟨T,rfl,o9,h4,e9⟩:=hcut;obtain⟨a8,r4,f3,l9⟩:=d7.out d wc ((e8.below g6.2).below e9);have f4:=dQ (g6.1.out (Out.af (S:=λ_=>False) e9) id) 424 375 423 .nilFunc false underlying424 CI (Nk _) (K:Nat);have d2:((if((K:Nat):Int)=2 then some (Value.func (.func 329) #[ar d] #[])else if((K:Nat):Int)=3 then some (.func (.func 328) #[ar d] #[])else if((K:Nat):Int)=4 then some (.func (.func 327) #[ar d] #[])else if((K:Nat):Int)=1 then some (.func (.func 327) #[ar d] #[])else none).getD .nilFunc)=Value.func (.func a8) #[ar d] #[]:=by rcases l9 with⟨h,k3⟩|⟨h,k3⟩|⟨h,k3⟩|⟨h,k3⟩<;>subst h<;>subst k3<;>rfl
  rw[d2]at f4;simp only[SL,if_false]at f4;obtain⟨v0,v1,v2⟩:=cr h4;have f:=aT e9 o9 h4;have p0:=ad f3;clear d2;go_wp2_with((refine p0.mono ?_);rintro e w6 ⟨l5,rfl,h5,h6⟩;have M:=aB (FV h5) h6;obtain⟨b8,b9,rfl,-⟩:=au h5;obtain⟨e1,e2,e3⟩:=kp h6 T v2);obtain⟨Y,k4⟩:=ah (w6.setCell {block:=T,off:=4} (RR b8 c.length b9));have f5:Y.heap[T]?=some (ao #[ae r,eb K,ae (aA.par ⟨b5,b6,b7⟩ r:Nat),aO,.slice b8 c.length b9] 377):=by rw[<-k4];exact heap_setCell_same w6 T 4 _ 377 _ ((M.2.block T v2).trans f.2.2)
  have D:Out (λk=>k=T) w6 Y:=by rw[<-k4];exact(Out.refl (λk=>k=T) w6).setCell (p:=ag T 4) (λ_=>rfl) _
  have n5:w.heap.size<=T:=QD N.size f.2.1;have p1:=Z_ f5;have h8:aq w Y:=(Out.trans (S:=λk=>w.heap.size<=k) (Out.af (N.trans ((f.1.trans (M.2.mono f.1.size)).mono N.size))) D λk _ e=>by rw[e];exact n5).below (λ_ _ h=>h) (QE _);have h9:qf Y (.slice b8 c.length b9) c:=M.1.out D λk o n6 m=>by subst n6;rw[(M.2.block k v2).trans f.2.2]at m;cases m;simp[ty]
  have f6:=aT f5 h8 h9;have m0:=ad D;have i0:QX (fa Y.heap.size Y aO (l.take 0)):=fa.nil _ _;rw[k4];clear k4 f5 D h8 h9 f4;go_loopw [54] (λi wr=>∃(k:Nat) (m1:QC),i= ae k/\k<=n/\QX (Out (λk=>k=T) Y wr)/\QX (wr.heap[T]?=some (ao #[ae r,eb K,ae (aA.par ⟨b5,b6,b7⟩ r:Nat),m1,.slice b8 c.length b9] 377))/\QX (fa Y.heap.size wr m1 (l.take k))) (λi _=>n-(intOf i).toNat)
  case atStart=>exact⟨0,_,rfl,QO _,Out.refl _ _,f6.1,i0⟩
  case round=>
   obtain⟨k,m1,rfl,n6,E,i1,i2⟩:=hrel;clear i0;obtain⟨t1,t2,t3⟩:=cr i1;have p2:=E.size;by_cases i3:k<n
   .obtain ⟨p,c4⟩:∃p,l[k]?=some p:=⟨_,QQ (by rw[g5.out];exact i3)⟩;obtain⟨g1,g2,u,g3,g4⟩:=h3.2 k p c4;have c5:wr.heap[b3]?=some (.cells Q 206 U):=E.heap ((f6.2.1.block b3 b4).trans h3.1) aa;have c1:=(QS wr b3 (d8+k*3) Q 206 U c5).trans g1;have c2:=(QS wr b3 (d8+k*3+1) Q 206 U c5).trans g2;have c3:=(QS wr b3 (d8+k*3+2) Q 206 U c5).trans g3;have R:dR wr u p.2.2:=(g4.below f6.2.1).out E λb o c9 m=>by subst c9;rw[f6.1]at m;cases m;simp[ty]
    obtain⟨p3,p4,p5,rfl⟩:=R.form;have n7:=aB c4 R;obtain⟨us,i4,c6,m2⟩:=(show fa _ _ _ _ from i2.out);have I:(l.take k).length=k:=by rw[VD,g5.out];omega
    rw[I]at i4 c6;obtain⟨m3,m4,rfl,-⟩:=au c6;have i5:(RR m3 k m4).ownBlock≠some T:=λe=>by have:=(bo c6 e).2;omega
    have A:=ca i4 c6 m2 I i5;obtain⟨g7,g8,p6⟩:=p;simp only at c1 c2 c3;obtain⟨X,n8,m5,i6⟩:=qi wr (ao #[ae g7,ae g8,.slice (some (ag p3 p4)) 128 p5] 206);obtain⟨x0,r5,m6⟩:=cr i6;have g9:=aB m5 i6;clear c4 c5 R I i5;go_wp2_with fail;refine(hG _ _ _ (n7.2.below g9.1)).mono ?_;rintro e w7 ⟨r6,rfl,x,c7⟩;obtain⟨d3,d4,d5,rfl⟩:=(eR x).form;obtain⟨Z,m7⟩:=ah (w7.setCell (ag wr.heap.size 2) (.slice (some (ag d3 d4)) 128 d5));have f7:Z.heap[wr.heap.size]?=some (ao #[ae g7,ae g8,.slice (some (ag d3 d4)) 128 d5] 206):=by rw[<-m7];exact heap_setCell_same w7 wr.heap.size 2 _ 206 _ ((c7.block _ m6).trans g9.2)
    have i7:aq wr w7:=g9.1.trans (c7.mono g9.1.size);have f8:aq wr Z:=by rw[<-m7];exact i7.setCell (QE _) _
    have i8:dR Z (.slice (some (ag d3 d4)) 128 d5) p6:=(eR x).out (show Out (λk=>k=wr.heap.size) w7 Z by rw[<-m7];exact(Out.refl (λk=>k=wr.heap.size) w7).setCell (p:=ag wr.heap.size 2) (λ_=>rfl) _) λb o c9 m=>by subst c9;rw[(c7.block _ m6).trans g9.2]at m;cases m;simp[ty]
    obtain⟨f0,f1,f2⟩:=cr ((c7.block _ m6).trans g9.2);obtain⟨z0,z1,z2⟩:=cr f7;obtain⟨y0,y1,y2⟩:=kp f8 T t3;have k5:=aT f7 f8 i8;clear f7 i7 f8 i8;rw[n8]at*;clear n8;go_wp2_with(first|(at_builtin;refine aU _ rfl _ _ 162 rfl Y.heap.size 206 o5 (.agg #[ae 0,ae 0,aO]) 3 40 XY l0 l1 l2 l3 rfl ai (.slice m3 k m4) k _ rfl (aP (aK aj _) (aP k5.2.1 A.2.1)) (ag Z.heap.size 0) 1 1 [ae g7,ae g8,.slice (some (ag d3 d4)) 128 d5] rfl rfl (RW (cs:= #[ae g7,ae g8,.slice (some (ag d3 d4)) 128 d5]) (t:=206) (fr:=(0,0)) (QB Z _)) (by intro u f9;simp at f9;rcases f9 with rfl|rfl|rfl<;>rfl) aa (by unfold UE;omega) aa (by have:=k5.2.1.size;simp;omega) ?_));intro r7 C x J;obtain⟨i9,a0,rfl,-⟩:=au x;have j0:aq Z (Z.alloc (ao #[ae g7,ae g8,.slice (some (ag d3 d4)) 128 d5] 206)):=aK aj _;have B:aq wr (Z.alloc (ao #[ae g7,ae g8,.slice (some (ag d3 d4)) 128 d5] 206)):=aK k5.2.1 _;have c8:C.heap[T]?=some (ao #[ae r,eb K,ae (aA.par ⟨b5,b6,b7⟩ r:Nat),.slice m3 k m4,.slice b8 c.length b9] 377):=J.heap ((B.block _ t3).trans i1) A.2.2.2.2;have D:Out (λq=>q=T) Y C:=J.out (E.then B) λq a6 r8=>by have:=(bo A.2.1 a6).2;omega
    have j1:fa Y.heap.size C (.slice i9 (k+1) a0) (l.take (k+1)):=by
     rw[UG,n7.1];refine fa.push (us:=us) (us':= [.slice (some (ag d3 d4)) 128 d5]) (by rw[A.1,A.2.2.2.1]) rfl A.2.2.2.1.symm rfl (aP B A.2.1) (λi p u c4 f9=>(A.2.2.1 i p u c4 f9).below B) (λi p u c4 f9=>?_) x J;cases i with
     |zero=>simp at c4 f9;rw[<-c4,<-f9];exact k5.2.2.below j0
     |succ i=>simp at c4
    have j2:(RR i9 (k+1) a0).ownBlock≠some T:=λe=>by have h1:=x;have:=(bo h1 e).2;omega
    obtain⟨k0,r9,s3⟩:=cr c8;obtain⟨V,hV⟩:=ah (C.setCell (ag T 3) (.slice i9 (k+1) a0));have MD:Out (λq=>q=T) C V:=by rw[<-hV];exact(Out.refl (λq=>q=T) C).setCell (p:=ag T 3) (λ_=>rfl) _
    have m8:QX (V.heap[T]?=some (ao #[ae r,eb K,ae (aA.par ⟨b5,b6,b7⟩ r:Nat),.slice i9 (k+1) a0,.slice b8 c.length b9] 377)):=by rw[<-hV];exact heap_setCell_same C T 3 _ 377 _ c8
    have m9:QX (Out (λq=>q=T) Y V):=D.tr MD;have n0:QX (fa Y.heap.size V (.slice i9 (k+1) a0) (l.take (k+1))):=j1.out MD (λq a6 e=>j2 (by rw[<-e];exact a6)) λq o a6 m=>by subst a6;rw[c8]at m;cases m;simp[ty]
    clear j0 B c8 D j1 MD;go_wp2;exact⟨⟨k+1,_,by go_num,i3,m9,m8,n0⟩,by simp[intOf];omega⟩
   .obtain rfl:k=n:=aa;have d6:l.take k=l:=by rw[<-g5.out,UB]
    have a7:=i2.yz;rw[d6]at a7;obtain⟨j3,j4,j5,-⟩:=id a7;rw[g5.out]at j5;have p7:=N.size;have j6:wr.heap[w.heap.size+1]?=some (ao #[ae 0,.int .u8 0,ae 0,aO,aO] 377):=by
     have e1:=eZ w (ao #[ae b5,ae b6,ae b7] 39) (ao #[ae 0,.int .u8 0,ae 0,aO,aO] 377);have e2:=(e7.block _ (Z_ e1)).trans e1;have e3:=(g6.2.block _ (Z_ e2)).trans e2;have e4:=(f.1.block _ (Z_ e3)).trans e3;have j7:w.heap.size+1≠T:=λe=>by have:=Z_ e3;have:=f.2.1;omega
     have e5:=(M.2.block _ (Z_ e4)).trans e4;exact E.heap (m0.heap e5 j7) j7
    obtain⟨s0,p8,s2⟩:=cr j6;have j8:qf wr (.slice b8 c.length b9) c:=f6.2.2.out E λb o c9 m=>by subst c9;rw[f6.1]at m;cases m;simp[ty]
    have j9:aq w wr:=(Out.trans (S:=λk=>w.heap.size<=k) (Out.af f6.2.1) E λk _ e=>by rw[e];exact n5).below (λ_ _ h=>h) (QE _);have n1:=aT a7 j8 j9;subst j5;clear j8 j9 d6;go_wp2_with fail
    (try simp only[XP,Exit.then])
    rw[l4.out];refine QT (v:=.tuple #[.agg #[ae r,eb K,ae (aA.par ⟨b5,b6,b7⟩ r:Nat),.slice j3 k j4,.slice b8 c.length b9],aH 0]) ?_ rfl ?_
    .rw [UF rfl];go_simp
    .have n2:=Nn wr (w.heap.size+1) (ae r) (eb K) (ae (aA.par ⟨b5,b6,b7⟩ r:Nat)) (.slice j3 k j4) (.slice b8 c.length b9);have n9:∀q o,q=w.heap.size+1->wr.heap[q]?=some o->ty o=377:=λq o a6 m=>by subst a6;rw[j6]at m;cases m;rfl
     exact⟨_,_,rfl,n1.1.out n2 λq o a6 m=>by rw[n9 q o a6 m];decide,n1.2.1.out n2 λq o a6 m=>by rw[n9 q o a6 m];decide,(Out.trans (S:=λk=>w.heap.size<=k) (Out.af n1.2.2) n2 λk _ e=>by rw[e];exact US _).below (λ_ _ h=>h) (QE _)⟩
theorem FW(u v:H)(f:aN)(w:M)(s:dR w u f)(t:dR w v f):aF 364 #[u,v] w λe y=>aL e ec/\aq w y:=by
 obtain⟨b,o,c,z,A,rfl,-,B,C⟩:=s;obtain⟨q,D,r,g,h,rfl,-,j,l⟩:=t;have m:=aB B C;have n:=aB j l;go_enter func364,ntmps364;go_wp2;go_loopw [13] (λi wr=>∃k:Nat,i= Y k/\k<=128/\QX (aq w wr)) (λi _=>128-(intOf i).toNat)
 case atStart=>exact⟨0,rfl,QO _,aj⟩
 case round=>
  obtain⟨k,rfl,G,d⟩:=hrel;by_cases a:k<128
  .have E:=(QS wr b (o+k) z 5 A ((d.block b (Z_ m.1)).trans m.1)).trans (m.2 k a);have r:=(QS wr q (D+k) g 5 h ((d.block q (Z_ n.1)).trans n.1)).trans (n.2 k a);obtain⟨x,F⟩:=ah (f k);rw[F]at E r;go_wp2_with fail;go_quiet(fail);have p:QX (aq w (wr.drewN nq)):=cK d nq;go_wp2;exact⟨⟨k+1,by go_num,a,p⟩,by simp[intOf];omega⟩
  .obtain rfl:k=128:=J;go_wp2;go_ret;exact⟨rfl,d⟩
theorem FX(u v:H)(l:List Nat)(w:M)(B:qf w u l)(C:qf w v l)(D:l.length<=1000000):aF 366 #[u,v] w λe E=>aL e ec/\aq w E:=by
 obtain⟨a,c,rfl,F⟩:=B;obtain⟨T,G,rfl,j⟩:=C;have K:=I F;have L:=I j;obtain⟨n,p⟩:=ah l.length;have x:=I p;rw[p]at D;rw[p];go_enter func366,ntmps366;go_wp2;go_loopw [13] (λi wr=>∃k:Nat,i= Y k/\k<=n/\QX (aq w wr)) (λi _=>n-(intOf i).toNat)
 case atStart=>exact⟨0,rfl,QO _,aj⟩
 case round=>
  obtain⟨k,rfl,U,h⟩:=hrel;by_cases d:k<n
  .obtain ⟨m,y⟩:∃m,l[k]?=some m:=⟨_,QQ (by rw[x.out];exact d)⟩;have f:l≠[]:=by intro e;have:=x.out;rw[e]at this;simp at this;omega
   obtain⟨b,o,O,P,rfl,z,Q⟩:=K.resolve_left f;obtain⟨A,S,q,r,rfl,g,s⟩:=L.resolve_left f;have V:=(QS wr b (o+k) O 3 P ((h.block b (Z_ z)).trans z)).trans (Q k m y);have G:=(QS wr A (S+k) q 3 r ((h.block A (Z_ g)).trans g)).trans (s k m y);go_wp2_with fail;go_quiet(fail);have t:QX (aq w (wr.drewN nq)):=cK h nq;go_wp2;exact⟨⟨k+1,by go_num,d,t⟩,by simp[intOf];omega⟩
  .obtain rfl:k=n:=J;go_wp2;go_ret;exact⟨rfl,h⟩
theorem FY(p:Pt)(u v:H)(W:M)(d:dR W u p.2.2)(f:dR W v p.2.2):aF 363 #[.agg #[Y p.1,Y p.2.1,u],.agg #[Y p.1,Y p.2.1,v]] W λe h=>aL e ec/\aq W h:=by have i:=I (λ(g:M) (a:aq W g)=>FW u v p.2.2 g (d.below a) (f.below a));obtain⟨b,o,c,rfl⟩:=d.form;obtain⟨k,l,m,rfl⟩:=f.form;obtain⟨n,q,r⟩:=p;go_enter func363,ntmps363;go_wp2_with(go_at_call 364;refine(i _ (aK (aK aj _) _)).mono ?_;rintro e s ⟨rfl,a⟩;have j:=I a);go_ret;exact⟨rfl,(aK (aK aj _) _).trans (j.mono aS)⟩
theorem FZ(u v:QC)(l:List Pt)(w:QA)(U:e' w u l)(V:e' w v l)(W:l.length<=1000000):aF 365 #[u,v,.func (.func 363) #[] #[]] w λe X=>aL e ec/\aq w X:=by
 obtain⟨a,c,rfl,-,Z⟩:=U;obtain⟨a2,K,rfl,-,z⟩:=V;have H:=ad Z;have N:=ad z;obtain⟨n,A⟩:=ah l.length;have L:=ad A;rw[A]at W;rw[A];go_enter func365,ntmps365;go_wp2;go_loopw [17] (λi wr=>∃k:Nat,i= ae k/\k<=n/\QX (aq w wr)) (λi _=>n-(intOf i).toNat)
 case atStart=>exact⟨0,rfl,QO _,aj⟩
 case round=>
  obtain⟨k,rfl,a1,f⟩:=hrel;by_cases q:k<n
  .obtain ⟨p,O⟩:∃p,l[k]?=some p:=⟨_,QQ (by rw[L.out];exact q)⟩;have r:l≠[]:=by intro e;have:=L.out;rw[e]at this;simp at this;omega
   obtain⟨b,o,B,C,rfl,g,M⟩:=H.resolve_left r;obtain⟨t,D,h,j,rfl,s,E⟩:=N.resolve_left r;obtain⟨R,I,x,Y,P⟩:=M k p O;obtain⟨J,i2,y,i3,Q⟩:=E k p O;have m:=(f.block b (Z_ g)).trans g;have d:=(f.block t (Z_ s)).trans s;have c1:=(QS wr b (o+k*3) B 206 C m).trans R;have K:=(QS wr b (o+k*3+1) B 206 C m).trans I;have c3:=(QS wr b (o+k*3+2) B 206 C m).trans Y;have e1:=(QS wr t (D+k*3) h 206 j d).trans J;have e2:=(QS wr t (D+k*3+1) h 206 j d).trans i2;have e3:=(QS wr t (D+k*3+2) h 206 j d).trans i3;have a0:=ad (λ(S:QA) (g:aq wr S)=>FY p x y S ((P.below f).below g) ((Q.below f).below g));obtain⟨a3,a4,a5,rfl⟩:=P.form;obtain⟨a6,a7,a8,rfl⟩:=Q.form;obtain⟨a9,b0,b1⟩:=p;simp only at c1 K c3 e1 e2 e3;have T:=Z_ d;go_wp2_with(go_at_call 363;refine(a0 _ (aK (aK aj _) _)).mono ?_;rintro e w2 ⟨rfl,g⟩;have F:=ad g);have G:QX (aq w w2):=(aK (aK f _) _).trans (F.mono (by have:=f.size;simp;omega));go_wp2;exact⟨⟨k+1,by go_num,q,G⟩,by simp[intOf];omega⟩
  .obtain rfl:k=n:=aa;go_wp2;go_ret;exact⟨rfl,f⟩
theorem F_(r m par:Nat)(pv i f g:H)(l:List Pt)(d:List Nat)(w:M)(n:e' w pv l)(o:qf w i d)(p:e' w f l)(q:qf w g d)(s:l.length<=1000000)(t:d.length<=1000000):
  aF 331 #[.agg #[Y r,eb m,Y par,pv,i],.agg #[Y r,eb m,Y par,f,g]] w λe u=>aL e ec/\aq w u:=by
 have v:=I (λ(h:M) (b:aq w h)=>FZ pv f l h (n.below b) (p.below b) s);have x:=I (λ(h:M) (b:aq w h)=>FX i g d h (o.below b) (q.below b) t);obtain⟨a,c,rfl,-⟩:=n;obtain⟨y,z,rfl,-⟩:=o;obtain⟨A,c3,rfl,-⟩:=p;obtain⟨B,c4,rfl,-⟩:=q;go_enter func331,ntmps331;go_wp2_with(first|(go_at_call 365;refine(v _ (aK (aK aj _) _)).mono ?_;rintro e C ⟨rfl,b⟩;obtain⟨D,-,E⟩:=kp b w.heap.size aS;obtain⟨F,-,G⟩:=kp b (w.heap.size+1) aJ;have j:=I ((aK (aK aj _) _).trans (b.mono aS)))|(go_at_call 366;refine(x _ j).mono ?_;rintro e K ⟨rfl,b⟩;have k:=I b));go_ret;exact⟨rfl,j.trans (k.mono j.size)⟩
section
open Go.Sort Go.Shelf
def An:ZC:=⟨fun|6=>332|15=>325|14=>367|28=>353|29=>354|20=>377|21=>378|22=>379|23=>380|24=>381|25=>382|26=>383|27=>384|46=>386|47=>371|48=>372|49=>387|50=>388|57=>389|n=>n,fun|22=>162|24=>206|25=>430|3=>3|39=>157|0=>0|53=>224|55=>87|4=>4|46=>445|45=>444|50=>386|5=>5|9=>9|66=>460|70=>214|76=>469|77=>470|n=>n,fun|n=>n⟩
theorem Li:SlLaysF0.n6 prog An:={
 mixed:=aE
 f6:=⟨Tryz.f332.name,ai,func332.trans (congrArg some aE)⟩
 f14:=⟨Tryz.f367.name,ai,func367.trans (congrArg some aE)⟩
 f15:=func325.trans (congrArg some aE)
 f20:=⟨Tryz.f377.name,ai,func377.trans (congrArg some aE)⟩
 f21:=⟨Tryz.f378.name,ai,func378.trans (congrArg some aE)⟩
 f22:=⟨Tryz.f379.name,ai,func379.trans (congrArg some aE)⟩
 f23:=⟨Tryz.f380.name,ai,func380.trans (congrArg some aE)⟩
 f24:=⟨Tryz.f381.name,ai,func381.trans (congrArg some aE)⟩
 f25:=⟨Tryz.f382.name,ai,func382.trans (congrArg some aE)⟩
 f26:=⟨Tryz.f383.name,ai,func383.trans (congrArg some aE)⟩
 f27:=⟨Tryz.f384.name,ai,func384.trans (congrArg some aE)⟩
 f28:=func353.trans (congrArg some aE)
 f29:=func354.trans (congrArg some aE)
 f46:=⟨Tryz.f386.name,ai,func386.trans (congrArg some aE)⟩
 f47:=func371.trans (congrArg some aE)
 f48:=func372.trans (congrArg some aE)
 f49:=⟨Tryz.f387.name,ai,func387.trans (congrArg some aE)⟩
 f50:=⟨Tryz.f388.name,ai,func388.trans (congrArg some aE)⟩
 f57:=⟨Tryz.f389.name,ai,func389.trans (congrArg some aE)⟩
 t0:=underlying0
 a0:=isAgg0
 z0:=sizeOf0
 v0:=zeroValue0
 t3:=XF
 a3:=isAgg3
 z3:=sizeOf3
 v3:=zeroValue3
 t4:=underlying4
 a4:=isAgg4
 z4:=sizeOf4
 v4:=zeroValue4
 t5:=UA
 a5:=isAgg5
 z5:=sizeOf5
 v5:=zeroValue5
 t9:=underlying9
 a9:=isAgg9
 z9:=sizeOf9
 v9:=zeroValue9
 t22:=XY
 a22:=isAgg162
 z22:=sizeOf162
 v22:=zeroValue162
 t25:=underlying430
 a25:=isAgg430
 z25:=sizeOf430
 v25:=zeroValue430
 t39:=underlying157
 a39:=isAgg157
 z39:=sizeOf157
 v39:=zeroValue157
 t45:=underlying444
 a45:=isAgg444
 z45:=sizeOf444
 v45:=zeroValue444
 t46:=underlying445
 a46:=isAgg445
 z46:=sizeOf445
 v46:=zeroValue445
 t50:=underlying386
 a50:=isAgg386
 z50:=sizeOf386
 v50:=zeroValue386
 t53:=underlying224
 a53:=isAgg224
 z53:=sizeOf224
 v53:=zeroValue224
 t55:=underlying87
 a55:=isAgg87
 z55:=sizeOf87
 v55:=zeroValue87
 t66:=underlying460
 a66:=isAgg460
 z66:=sizeOf460
 v66:=zeroValue460
 t70:=underlying214
 a70:=isAgg214
 z70:=sizeOf214
 v70:=zeroValue214
 t76:=underlying469
 a76:=isAgg469
 z76:=sizeOf469
 v76:=zeroValue469
 t77:=underlying470
 a77:=isAgg470
 z77:=sizeOf470
 v77:=zeroValue470}
structure PE where
 m:Fin 16
 r:Nat
 b:Nat
 o:Nat
 c:Nat
instance:Inhabited PE:=⟨⟨0,0,0,0,0⟩⟩
def PE.enc(x:PE):List H:= [Y x.m.val,Y x.r,.slice (some ⟨x.b,x.o,none⟩) 128 x.c]
def Ft(x y:PE):Int:=((x.m.val:Nat):Int)-((y.m.val:Nat):Int)
theorem Np:SWO (ltOf Ft):=by
 refine⟨λx=>?_,λx y z a b=>?_,λx y z a b=>?_⟩
 .unfold ltOf Ft;simp
 .unfold ltOf Ft at*;simp only[decide_eq_true_eq]at*;omega
 .unfold ltOf Ft at*;simp only[decide_eq_false_iff_not]at*;omega
theorem F'(x y:PE)(W:M):aF 333 (#[Value.agg x.enc.toArray,Value.agg y.enc.toArray] ++ #[]) W λe n=>aL e (Y (Ft x y))/\∃q d,n=grow (W.drewN q) d:=by
 obtain⟨⟨m,g⟩,r,b,o,c⟩:=x;obtain⟨⟨f,a⟩,h,i,j,k⟩:=y;have l:QX (Ft ⟨⟨m,g⟩,r,b,o,c⟩ ⟨⟨f,a⟩,h,i,j,k⟩=(m:Int)-(f:Int)):=rfl;obtain⟨z,p⟩:=ah (Ft ⟨⟨m,g⟩,r,b,o,c⟩ ⟨⟨f,a⟩,h,i,j,k⟩);rw[p]at l|-;simp only[PE.enc];go_enter func333,ntmps333;go_wp2;go_ret;have e:∀A B:Obj,(W.alloc A).alloc B=grow (W.drewN 0) (#[A] ++ #[B]):=λA B=>by rw[alloc_eq_grow,alloc_eq_grow,grow_grow];rfl
 exact⟨by rw[l.out];rfl,0,_,e _ _⟩
def lA(p:Pt)(u:H):PE:=match u with
 | .slice (some a) _ c=>⟨⟨p.1%16,SC _ ai⟩,p.2.1,a.block,a.off,c⟩
 |_=>⟨0,0,0,0,0⟩
theorem CK{p:Pt}(h:p.1<16):(lA p (.slice (some (R n m)) 128 k)).enc= [Y p.1,Y p.2.1,.slice (some (R n m)) 128 k]:=by simp only[lA,PE.enc,SA h]
theorem Jb{p:Pt}(h:p.1<16):(lA p (.slice (some (R n m)) 128 k)).m.val=p.1:=by simp only[lA,SA h]
theorem Ga{α:Type}[Inhabited α](a:α->List H)(k:Nat)(w:M)(g m:Nat)(d:Array α)(c:Array Obj){b:Nat × Nat}(h:aX w g (.cells A t b)):
  (sortWorldK a k w g 0 m d c).heap[g]?=some (.cells (putCells id 0 (flatK a k d) A) t b):=by
 unfold sortWorldK;have e:g<(putRowK a k (XO w m) g 0 d).heap.size:=by have:=Z_ h;simpa[putRowK,putRow,mapBlock,XO]using this
 rw[heap_grow_old _ _ e];have:(XO w m).heap[g]?=some (.cells A t b):=h;simp only[putRowK,putRow,mapBlock,WV,if_true,this,QY,onCells]
theorem CL{α:Type}[Inhabited α](a:α->List H)(k:Nat)(w:M)(g m:Nat)(d:Array α)(b:Array Obj):Out (λq=>q=g) w (sortWorldK a k w g 0 m d b):=by
 refine⟨rfl,rfl,rfl,?_,λq c f=>?_⟩
 .simp [sortWorldK,putRowK,putRow,mapBlock,XO,grow]
 .unfold sortWorldK;have h:q<(putRowK a k (XO w m) g 0 d).heap.size:=by simpa[putRowK,putRow,mapBlock,XO]using c
  rw[heap_grow_old _ _ h];simp only[putRowK,putRow,mapBlock,WV,al (λe=>f (Eq.symm e))];rfl
def Nq(B:Nat)(l:List Pt)(v:H)(w:M)(e:RV)(b:M):Prop:=
 aL e (.tuple #[])/\∃a:List Pt,a.Perm l/\(a.Pairwise λp q=>p.1<q.1)/\e' b v a/\SK B w b
theorem gx(h:L[j]?=some v):L[j]! =v:=by rw[List.getElem!_eq_getElem?_getD,h];rfl
theorem CM(B:Nat)(v:QC)(l:List Pt)(w:QA)(h:fa B w v l)(c1:B<=w.heap.size)(a4:l≠[])(a5:∀p,p∈l->p.1<16)(gU:(l.map (·.1)).Nodup)(c9:l.length<=1000000):
  aF 332 #[v,.func (.func 333) #[] #[]] w (Nq B l v w):=by
 obtain⟨K,a6,a7,W⟩:=h;rcases a7.2 with⟨_,h0⟩|⟨g,X,L,rfl,a8,a1,r1,r2,r3,r4⟩
 .exact absurd (TS h0) a4
 let d:Array PE:=((l.zip K).map λx=>lA x.1 x.2).toArray;have C:d.size=l.length:=by simp[d,a6]
 have Q:∀(i:Nat) (p:Pt) (u:QC),l[i]?=some p->K[i]?=some u->d[i]?=some (lA p u):=λi p u r O=>by
  have c2:(l.zip K)[i]?=some (p,u):=by rw[List.getElem?_zip_eq_some];exact⟨r,O⟩
  show((l.zip K).map λx=>lA x.1 x.2).toArray[i]?=_;rw[VX,RI,c2];rfl
 have t:∀(i:Nat) (p:Pt) (u:QC),l[i]?=some p->K[i]?=some u->(lA p u).enc= [ae p.1,ae p.2.1,u]/\(lA p u).m.val=p.1:=λi p u r O=>by obtain⟨b,o,c,rfl⟩:=(W i p u r O).form;have:=a5 p (QV r);exact⟨CK this,Jb this⟩
 have O:∀i,i<l.length->∃p u,l[i]?=some p/\K[i]?=some u:=λi D=>⟨_,_,QQ D,QQ aa⟩;have S:∀j,j<l.length*3->(flatK PE.enc 3 d)[j]! =(dg l K)[j]!:=λj F=>by
  obtain⟨p,u,r,f⟩:=O (j/3) aa;rw[get_flatK _ _ _ _ (by rw[C];exact F)];have e1:d[j/3]! =lA p u:=by rw[Array.getElem!_eq_getD,Array.getD_eq_getD_getElem?,Q _ _ _ r f];rfl
  obtain⟨f1,f2,f3⟩:=jH r f;rw[e1,(t _ _ _ r f).1];have Z:j%3<3:=SC _ ai;have a9:=WN j 3;obtain⟨q,a2⟩:=ah (j%3);rw[a2]at Z a9|-
  match q,Z with
  |0,_=>have e:j=j/3*3:=aa;rw[e,gx f1];rfl
  |1,_=>have e:j=j/3*3+1:=aa;rw[e,gx f2];rfl
  |2,_=>have e:j=j/3*3+2:=aa;rw[e,gx f3];rfl
 have c3:HoldsK PE.enc 3 w g 0 d:=λj F=>by
  rw[size_flatK,C]at F;obtain⟨k1,f1,z1⟩:=cr a1;refine⟨?_,f1 _⟩;rw[k1,S j F,RE];show L[j]?=some (dg l K)[j]!;rw[<-r4,List.getElem!_eq_getElem?_getD,SX,ak F];rw[TU];have:j<L.size:=by rw[r3];omega
  rw[RU this];rfl
 have H:CmpLays prog 333 #[] PE.enc 3 Ft g 0 d.size w:=λm a3 d0 _ x y=>F' x y _;have b7:=AnyQ.slices_SortFunc Li 3 isAgg206 sizeOf206 PE.enc (λ_=>rfl) (λx v b8=>by simp[PE.enc]at b8;rcases b8 with rfl|rfl|rfl<;>rfl) Ft Np 333 #[] g 0 X d w (RH func333 aE rfl) H c3 (Z_ a1) (by rw[C];omega);rw[C]at b7;refine(show aF 332 _ _ _ from b7).mono ?_;rintro e d1 ⟨rfl,s,n,a3,z,T,rfl⟩;obtain⟨p1,-,p3⟩:=z;have N:s.size=l.length:=by rw[p1,C]
 have U:s.toList.Perm d.toList:=by
  have e1:s.extract 0 l.length=s:=by rw[<-N];simp
  have e2:d.extract 0 l.length=d:=by rw[<-C];simp
  rw[e1,e2]at p3;exact p3
 let look:PE->Pt:=λx=>(l.find? λp=>decide (p.1=x.m.val)).getD (0,0,λ_=>0);have E:∀(i:Nat) (p:Pt) (u:QC),l[i]?=some p->K[i]?=some u->look (lA p u)=p:=λi p u r O=>by
  show(l.find? λq=>decide (q.1=(lA p u).m.val)).getD _=p;rw[(t i p u r O).2];cases b0:l.find? (λq=>decide (q.1=p.1))with
  |none=>have:=List.find?_eq_none.1 b0 p (QV r);simp at this
  |some q=>
   have h1:=List.find?_some b0;have h2:=XV b0;simp only[decide_eq_true_eq]at h1;obtain⟨j,F,rfl⟩:=YZ.1 h2;obtain⟨D,rfl⟩:=QR.1 r;have:j=i:=by
    have b9:=λa b (c4:a<l.length) (a8:b<l.length) (b1:a<b)=>WG.1 gU a b (by simpa using c4) (by simpa using a8) b1;by_cases e:j=i
    .exact e
    .exfalso;rcases Nat.lt_or_gt_of_ne e with e|e
     .exact b9 j i F D e (by rw[UQ,UQ];exact h1)
     .exact b9 i j D F e (by rw[UQ,UQ];exact h1.symm)
   subst this;rfl
 have G:∀x,x∈d.toList->∃(i:Nat) (p:Pt) (u:QC),l[i]?=some p/\K[i]?=some u/\x=lA p u:=λx c5=>by obtain⟨i,D,rfl⟩:=YZ.1 c5;obtain⟨p,u,r,f⟩:=O i (by rw[<-C];simpa using D);refine⟨i,p,u,r,f,?_⟩;have:=Q i p u r f;rw[<-TU,QQ D]at this;exact RM this
 have b2:d.toList.map look=l:=by
  apply TJ;intro i;rw[RI,TU];by_cases D:i<l.length
  .obtain ⟨p,u,r,f⟩:=O i D;rw[Q i p u r f,r,QY,E i p u r f]
  .rw [RF aa,WT (by rw[C];omega)];rfl
 have z:(s.toList.map look).Perm l:=by have:=U.map look;rw[b2]at this;exact this
 refine⟨rfl,s.toList.map look,z,?_,?_,?_⟩
 .have M:((s.toList.map look).map (·.1)).Nodup:=(z.map _).nodup_iff.2 gU;refine WG.2 λi j D F R=>?_;have I:i<s.size:=by simpa using D
  have Y:j<s.size:=by simpa using F
  have b3:=T i j (QO _) R aa;rw[getElem!_pos s i I,getElem!_pos s j Y]at b3;have c0:∀q (a2:q<s.size),(look s[q]).1=s[q].m.val:=λq a2=>by obtain⟨a,p,u,r,f,e⟩:=G s[q] (U.mem_iff.1 aJ);rw[e,E a p u r f,(t a p u r f).2]
  have c6:(look s[i]).1<=(look s[j]).1:=by rw[c0 i I,c0 j Y];unfold ltOf Ft at b3;simp only[decide_eq_false_iff_not]at b3;omega
  have J:=WG.1 M i j (by simpa using D) (by simpa using F) R;simp only[UQ,Array.getElem_toList]at J|-;omega
 .have b4:=Ga PE.enc 3 w g n s a3 a1;have c7:=CL PE.enc 3 w g n s a3;have P:(s.toList.map look).length=l.length:=by simp[N]
  refine⟨_,X,by rw[P],by rw[P];exact r1,.inr ⟨g,0,_,_,rfl,b4,λi p r=>?_⟩⟩;have D:i<s.size:=by have:=(QR.1 r).1;simpa using this
  obtain⟨a,p0,u,V,f,e⟩:=G s[i] (U.mem_iff.1 aJ);have b5:p=p0:=by rw[RI,TU,RU D,QY,e,E a p0 u V f]at r;exact(RM r).symm
  subst b5;have A:∀q,q<3->(putCells id 0 (flatK PE.enc 3 s) L)[0+i*3+q]?=some ((lA p u).enc[q]!):=λq a2=>by
   have b6:i*3+q<L.size:=by rw[r3];omega
   rw[RE];unfold putCells;rw[Array.getElem?_mapIdx,RU b6,QY,ak ⟨QO _,by rw[size_flatK];omega⟩,Nat.sub_zero,get_flatK _ _ _ _ aa];rw[show(i*3+q)/3=i by omega,show(i*3+q)%3=q by omega,getElem!_pos s i D,e];rfl
  rw[(t a p u V f).1]at A;refine⟨A 0 ai,A 1 ai,u,A 2 ai,(W a p u V f).out c7 λk o c8 a0=>?_⟩;subst c8;rw[a1]at a0;cases a0;simp[ty]
 .exact (CL PE.enc 3 w g n s a3).below (λq _ e=>by rw[e];exact a8) c1
end
structure ZY(w:M)(r N t u:Nat):Prop where
 aM:w.heap[r]? =some (ao #[Y (N:Int),Y (t:Int),Y (u:Int)] 221)
 lo:5<=N
 hi:N<=2048
 t:t<N
 u:u<=N
theorem ZY.cV(h:ZY w r n m k)(a:aq w W):ZY W r n m k:=
 ⟨(a.block r (RC.1 h.aM).1).trans h.aM,h.lo,h.hi,h.t,h.u⟩
theorem ZY.out{w w1:M}(h:ZY w r n m k)(a:Out S w w1)(b:¬S r):ZY w1 r n m k:=
 ⟨a.heap h.aM b,h.lo,h.hi,h.t,h.u⟩
theorem uq(N t u:Nat)(w:M)(b:5<=N)(c:N<=2048)(d:t<N)(f:u<=N):aF 84 #[Y N,Y t,Y u] w λe a=>aL e (.tuple #[ar w.heap.size,aH 0])/\ZY a w.heap.size N t u/\aq w a:=by go_enter func84,ntmps84;go_wp2;go_ret2;exact⟨rfl,⟨QB _ _,b,c,d,f⟩,aK aj _⟩
theorem nr(r N t u k:Nat)(w:M)(h:ZY w r N t u)(b:k<=N):aF 316 #[ar r,Y k] w λe a=>aL e (Y ((t+k)%N:Nat))/\∃q,a=w.drewN q:=by
 obtain⟨c,f1,d⟩:=cr h.aM;have f:=h.lo;have g:=h.hi;have i:=h.t;have j:QG.wrap ((t:Int)+k)=(t:Int)+k:=bs;have l:((t:Int)+k).tmod N=((t+k)%N:Nat):=by rw[UI J];simp
 go_enter func316,ntmps316;go_wp2_with fail;go_quiet(fail);go_wp2;go_ret;exact⟨rfl,_,rfl⟩
theorem qS(r N t u:Nat)(w:M)(h:ZY w r N t u):aF 303 #[ar r] w λe a=>aL e (Y (N-u:Nat))/\∃q,a=w.drewN q:=by obtain⟨b,f1,c⟩:=cr h.aM;have d:=h.hi;have f:=h.u;have g:QG.wrap ((N:Int)-u)=(N-u:Nat):=bs;go_enter func303,ntmps303;go_wp2_with fail;go_quiet(fail);go_wp2;go_ret;exact⟨aJ,_,rfl⟩
theorem qT(r N t u:Nat)(w:M)(h:ZY w r N t u):aF 204 #[ar r] w λe a=>aL e (Y u)/\a=w:=by obtain⟨b,f1,c⟩:=cr h.aM;go_enter func204,ntmps204;go_wp2;go_ret;exact⟨rfl,rfl⟩
theorem mC(r N t u:Nat)(w:M)(h:ZY w r N t u):aF 299 #[ar r] w λe a=>aL e (Y N)/\a=w:=by obtain⟨b,f1,c⟩:=cr h.aM;go_enter func299,ntmps299;go_wp2;go_ret;exact⟨rfl,rfl⟩
theorem mD(r N t u:Nat)(w:M)(h:ZY w r N t u):aF 277 #[ar r] w λe a=>aL e (Y ((t+u)%N:Nat))/\∃q,a=w.drewN q:=by obtain⟨c,f1,d⟩:=cr h.aM;have b:=I (nr r N t u u w h h.u);go_enter func277,ntmps277;go_wp2_with(first|(go_at_call 316;refine b.mono ?_;rintro e a ⟨rfl,q,rfl⟩));go_ret;exact⟨rfl,_,rfl⟩
def yK(N s n:Nat):Nat:=if n=0 then 0 else if n<=N-s then 1 else 2
def BJ(s k:Nat):Nat:=if k=0 then s else 0
def H_(N s n k:Nat):Nat:=if k=0 then min n (N-s)else n-(N-s)
def Lj(r s n:Nat)(w:M)(e:RV)(a:M):Prop:=
 aL e (.func (.func 343) #[] #[.pointer (some ⟨w.heap.size+2,0,none⟩),ar w.heap.size,.pointer (some ⟨w.heap.size+1,0,none⟩)])/\
  a.heap[w.heap.size]?=some (N #[ar r] 148)/\a.heap[w.heap.size+1]?=some (N #[Y (s:Int)] 3)/\a.heap[w.heap.size+2]?=some (N #[Y (n:Int)] 3)/\
  a.heap.size=w.heap.size+3/\aq w a
theorem qU(r s n:Nat)(w:M):aF 318 #[ar r,Y s,Y n] w (Lj r s n w):=by
 go_enter func318,ntmps318;go_wp2;go_ret;refine⟨aJ,?_,?_,?_,aJ,aK (aK (aK aj _) _) _⟩
 .exact ((QW _ _ _ aS).trans (QW _ _ _ aJ)).trans (QB w _)
 .refine (QW _ _ _ aJ).trans ?_;have:=QB (w.alloc (N #[ar r] 148)) (N #[Y (s:Int)] 3);rwa[SP]at this
 .have:=QB ((w.alloc (N #[ar r] 148)).alloc (N #[Y (s:Int)] 3)) (N #[Y (n:Int)] 3);rwa[SP,SP]at this
section
open Go.Shelf
attribute [local go_sem] WK
def BK(N s n k:Nat):Nat:=if k=0 then n else if k=1 then n-(N-s)else 0
theorem CN(c:i<m)(d:n<=m)(h:k<yK m i n):0<BK m i n k/\BK m i n k<=n/\BJ i k<=i/\H_ m i n k=min (BK m i n k) (m-BJ i k)/\BK m i n k-H_ m i n k=BK m i n (k+1):=by
 have a:(k=0/\0<n)\/(k=1/\0<n/\m-i<n):=by
  unfold yK at h;split at h
  .omega
  .split at h<;>omega
 rcases a with⟨rfl,b⟩|⟨rfl,b,e⟩
 .simp [BK,BJ,H_];omega
 .simp [BK,BJ,H_];omega
def sA(X:Nat->Prop)(a:Nat->M->Prop)(k:Nat)(A:M)(e:RV)(b:M):Prop:=
 aL e ec/\Out X A b/\a (k+1) b
structure Nr(X:Nat->Prop)(Rdy:Nat->M->Prop)(W wr:M)(c1 c3 N s n k:Nat):Prop where
 h1:wr.heap[c1]? =some (ao #[Y (BK N s n k:Nat)] 3)
 h3:wr.heap[c3]? =some (ao #[Y (BJ s k:Nat)] 3)
 out:Out (fun b=>X b\/b=c1\/b=c3) W wr
 MG:Rdy k wr
theorem wZ(l a y c3 r N s n t u:Nat)(X:Nat->Prop)(c:Nat->QA->Prop)(W:QA)(b8:ZY W r N t u)(c8:s<N)(c9:n<=N)(h1:W.heap[a]?=some (.cells #[.int .i64 (n:Int)] 3 (0,0)))(h2:W.heap[y]?=some (.cells #[.pointer (some ⟨r,0,none⟩)] 148 (0,0)))(h3:W.heap[c3]?=some (.cells #[.int .i64 (s:Int)] 3 (0,0)))(M:¬X a)(I:¬X y)(Y:¬X c3)(J:¬X r)(z:a≠c3)(a0:y≠a)(a4:y≠c3)(a5:r≠a)(a6:r≠c3)(C:c 0 W)(D:∀k A B,c k A->Out (λb=>b=a\/b=c3) A B->c k B)(b9:∀q k A,k<yK N s n->c k A->YieldAt TT q VR l #[.agg #[.int .i64 (BJ s k:Nat),.int .i64 (H_ N s n k:Nat)]] A (sA X c k A)):
  CallsIn TT 2 VR 343 #[.func (.yield l) #[] #[],.pointer (some ⟨a,0,none⟩),.pointer (some ⟨y,0,none⟩),.pointer (some ⟨c3,0,none⟩)] W
   λe c0=>(∃v,e=.returned v)/\Out (λb=>X b\/b=a\/b=c3) W c0/\c (yK N s n) c0:=by
 refine callsIn_of_wp Tryz.func343 rfl trivial ?_;simp only[Tryz.ntmps343,WA,SE,VW,Nat.reduceAdd,Nat.reduceSub,ZE,ZD,List.push_toArray,XL,UN,UC];have a7:=QZ b8;have d0:=QZ b9;have E:=QZ D;have H2:=QZ h2;have H0:QX (Nr X c W W a c3 N s n 0):=⟨h1,h3,Out.refl _ _,C⟩;clear b8 b9 D h1 h2 h3 C;gi_wp2
 gi_loopw [] (λwr=>∃k,k<=yK N s n/\QX (Nr X c W wr a c3 N s n k)) (λwr=>(intOf ((wr.cell? ⟨a,0,none⟩).getD undef)).toNat)
 case atStart=>exact⟨0,QO _,H0.out⟩
 case round=>
  obtain⟨k,e9,f⟩:=hrel;have F:=f.out.out.heap H2.out (λe=>e.elim I λe=>e.elim a0 a4);have g:=a7.out.out f.out.out (λe=>e.elim J λe=>e.elim a5 a6);obtain⟨S,a2,a3⟩:=cr f.out.h1;obtain⟨b1,b2,b3⟩:=cr F;obtain⟨d1,d2,d3⟩:=cr f.out.h3;obtain⟨e1,e2,e3⟩:=cr g.aM;have d4:=g.lo;have d5:=g.hi;clear g F;by_cases G:k<yK N s n
  .obtain ⟨r1,d6,d7,m,T⟩:=CN c8 c9 G;have e4:QG.wrap ((N:Int)-(BJ s k:Nat))=(N-BJ s k:Nat):=by go_arith
   obtain⟨R,x⟩:∃R,BK N s n k=R:=⟨_,rfl⟩;obtain⟨A,U⟩:∃A,BJ s k=A:=⟨_,rfl⟩;have K:=QZ (And.intro x U);rw[x]at S r1 d6 m T;rw[U]at d1 d7 m e4;gi_wp2_with fail;obtain⟨L,a8⟩:∃L,H_ N s n k=L:=⟨_,rfl⟩;rw[a8]at m T;have a9:(if N-A<R then((N-A:Nat):Int)else(R:Int))=(L:Int):=by rw[m];split<;>omega
   have d8:min (R:Int) ((N-A:Nat):Int)=(L:Int):=by rw[m];omega
   have j:QX (L<=R):=by rw[m];exact ZF _ _
   have O:QX (0<L):=by show 0<L;omega
   clear m
   gi_region
   have b0:=QZ (E.out _ _ wr.drew f.out.MG (Out.refl _ _).drew);have P:=QZ (λq=>d0.out q k wr.drew G b0.out);rw[U,a8]at P;have b4:=QZ (f.out.out.drew);have E5:=QZ T;have o:=K;clear x U a8 K T a9;obtain⟨f0,c4,V,c5,d9,x⟩:=P.out 1;have c6:=QZ x;clear x;gi_wp2_with fail;refine c6.out.mono ?_;clear c6 d9;rintro e i ⟨rfl,d,Q⟩;have b5:=QZ (b4.out.trans d λ_ _ h=>.inl h);have b6:=QZ Q;have Z:i.heap[a]?=some (.cells #[.int .i64 (BK N s n k:Nat)] 3 (0,0)):=d.heap (w:=wr.drew) f.out.h1 M;have H:i.heap[c3]?=some (.cells #[.int .i64 (BJ s k:Nat)] 3 (0,0)):=d.heap (w:=wr.drew) f.out.h3 Y;have G1:=QZ Z;have G3:=QZ H;rw[o.out.1]at Z;rw[o.out.2]at H;have f1:QG.wrap ((R:Int)-L)=(R-L:Nat):=by have:=j.out;go_arith
   clear S a2 b1 d1 d2 e1 d Q;obtain⟨S,a2,a3⟩:=cr Z;obtain⟨d1,d2,d3⟩:=cr H;clear Z H;gi_wp2_with fail
   gi_region
   have e0:QX (wr.cell? ⟨a,0,none⟩=some (.int .i64 (R:Int))):=by rw[<-o.out.1];exact(cr f.out.h1).1 0
   have b7:Out (λb=>b=a\/b=c3) i (((i.setCell ⟨c3,0,none⟩ (.int .i64 0)).setCell ⟨a,0,none⟩ (.int .i64 (R-L:Nat))).drew):=(((Out.refl _ _).setCell (p:=⟨c3,0,none⟩) (λ_=>.inr rfl) _).setCell (p:=⟨a,0,none⟩) (λ_=>.inl rfl) _).drew;have n3:=heap_setCell_same i c3 0 _ 3 (.int .i64 0) G3.out;have n1:=heap_setCell_same (i.setCell ⟨c3,0,none⟩ (.int .i64 0)) a 0 _ 3 (.int .i64 (R-L:Nat)) ((RO _ _ _ _ z).trans G1.out);have e6:QX (Nr X c W (((i.setCell ⟨c3,0,none⟩ (.int .i64 0)).setCell ⟨a,0,none⟩ (.int .i64 (R-L:Nat))).drew) a c3 N s n (k+1)):=by
    refine⟨?_,?_,?_,?_⟩
    .rw [<-E5.out];exact n1
    .refine (RO (i.setCell ⟨c3,0,none⟩ (.int .i64 0)) _ _ _ (λe=>z e.symm)).trans ?_;exact n3
    .exact b5.out.trans b7 λ_ _ h=>.inr h
    .exact E.out _ _ _ b6.out b7
   have c7:(((i.setCell ⟨c3,0,none⟩ (.int .i64 0)).setCell ⟨a,0,none⟩ (.int .i64 (R-L:Nat))).drew).cell? ⟨a,0,none⟩=some (.int .i64 (R-L:Nat)):=(cr n1).1 0;have e7:=QZ c7;clear c7 n1 n3 b7;go_roundw
   case rel=>((repeat apply Exists.intro);exact⟨⟨k+1,by omega,e6.out⟩,rfl⟩)
   case measure=>rw[e0.out,e7.out];have:=j.out;have:=O.out;simp[intOf];omega
  .obtain rfl:k=yK N s n:=by omega
   have e8:BK N s n (yK N s n)=0:=by unfold BK yK;by_cases q0:n=0<;>by_cases q1:n<=N-s<;>simp[q0,q1] <;>omega
   simp only[e8]at S;gi_wp2;go_end0;exact⟨⟨_,rfl⟩,f.out.out,f.out.MG⟩
end
section
open Go.Shelf
attribute [local go_sem] WK
theorem Out.putObj(h:Out S W w)(c:n<W.heap.size->S n)(o:Obj):Out S W (w.putObj n o):=
 ⟨h.os,h.tape,h.output,by rw[WR];exact h.size,λk a b=>(TE (λe=>by subst e;exact b (c a))).trans (h.block k a b)⟩
theorem jg{P:Program}{n:Nat}{g:Operand}{ps:Array Tmp}{assign body:Code}{Q:Exit->Act->M->Prop}{a:Act}{w:M}{gf:Nat}{lb:Array H}(hg:a.eval g=.func (.func gf) #[] lb)(eg:∀args w,(VF gf args).run P w=.ok (.enter gf args) w)(h:∀(fn:FuncId) (rc:LoopState->Option Code->Loop),rc=(λst pe=>{state:=st,pending:=pe,fn,tmps:=a.tmps,params:=ps,assign,body,defers:=w.heap.size})->
   CallsIn TT (n-1) P gf (#[.func (.yield (w.heap.size+1)) #[] #[]] ++lb) ((w.alloc (.deferred (some []))).alloc (.loop (rc .ready none)))
    (rangePost TT n P (w.heap.size+1) Q {a with defers:= [{target:=.collected w.heap.size,args:= #[]}] ++a.defers})):
  (Code.rangeFunc g ps assign body).wpIn TT n P Q a w:=by
 refine wpIn_rangeFunc ?_;intro fn hfn;obtain⟨rc,hrc⟩:∃rc:LoopState->Option Code->Loop,rc=λst pe=>{state:=st,pending:=pe,fn,tmps:=a.tmps,params:=ps,assign,body,defers:=w.heap.size}:=⟨_,rfl⟩;have h1:=h fn rc hrc;obtain⟨W1,hW1⟩:=ah ((w.alloc (.deferred (some []))).alloc (.loop (rc .ready none)));rw[hW1]at h1;refine⟨w.heap.size+1,[{target:=.collected w.heap.size,args:= #[]}],W1,{target:=.fn (.func gf) lb,args:= #[.func (.yield (w.heap.size+1)) #[] #[]]},W1,gf,
  #[.func (.yield (w.heap.size+1)) #[] #[]] ++lb,W1,?_,?_,?_,?_,?_,?_⟩
 .rw [<-hW1,hrc];exact run_enterLoop_outer _ _ _ _ _
 .simp only[resolve,hg];simp[go_sem]
 .exact λ_ _=>True.intro
 .simp [invoke,go_sem,eg]
 .exact λh=>by cases h
 .exact h1
end
section
open Go.Shelf
attribute [local go_sem] WK
def Ao(k:Nat)(x y:aN):List H:=(TQ (2*k)).map λj=>.int .i64 ((if j%2=0 then x (j/2)else y (j/2):Nat))
theorem Ap(k:Nat)(x y:aN):Ao k x y++ [Y (x k:Nat),Y (y k:Nat)] =Ao (k+1) x y:=by unfold Ao;rw[show 2*(k+1)=2*k+1+1 by omega,UL,UL,SH,SH,SV];simp only[TO,XR,UC,UN];rw[ak J,al J,show 2*k/2=k by omega,show(2*k+1)/2=k by omega]
structure lB(Y:Nat->Prop)(w:M)(lo:Loop)(x y:aN)(k:Nat)(A:M):Prop where
 l:A.heap[w.heap.size+2]? =some (.loop lo)
 D:A.heap[w.heap.size+1]? =some (.deferred (some []))
 H':∃lv,A.heap[w.heap.size]? =some (N #[lv] 360)/\A.ownsRow (w.heap.size+3) 409 2 lv k (Ao k x y)
 out:Out Y w A
theorem lB.cV{d:Loop}{x y:aN}(h:lB S w d x y k W)(a:Out Q W z)(c:∀b,Q b->S b/\b<w.heap.size):lB S w d x y k z:=by
 obtain⟨g,i,⟨l,m,f⟩,o⟩:=h;have n:∀j,¬Q (w.heap.size+j):=λj e=>by have:=(c _ e).2;omega
 refine⟨a.heap g (n 2),a.heap i (n 1),⟨l,a.heap m (n 0),a.own f λb e p=>?_⟩,o.trans a λb _ e=>(c b e).1⟩;have:=(bo f e).2;have:=(c b p).2;omega
theorem lB.put{f lo':Loop}{x y:aN}(h:lB Q w f x y k W):lB Q w lo' x y k (W.putObj (w.heap.size+2) (.loop lo')):=by
 obtain⟨g,i,⟨j,l,c⟩,m⟩:=h;have a:Out (λb=>b=w.heap.size+2) W (W.putObj (w.heap.size+2) (.loop lo')):=Out.putObj (S:=λb=>b=w.heap.size+2) (Out.refl _ _) (λ_=>rfl) _;refine⟨SO (RC.1 g).1,a.heap i (by show¬w.heap.size+1=w.heap.size+2;omega),⟨j,a.heap l (by show¬w.heap.size=w.heap.size+2;omega),a.own c λb e d=>?_⟩,m.trans a λb d e=>?_⟩
 .have:=(bo c e).2;have:b=w.heap.size+2:=d;omega
 .have:b=w.heap.size+2:=e;omega
end
section
open Go.Shelf
attribute [local go_sem] WK
theorem Gb:(prog.info? 409).map (λi=>(i.zero,i.size,i.bytes))=some (some (.agg #[Y 0,Y 0]),2,16):=aE
theorem lB.endLoop{a:Loop}{x y:aN}(h:lB S w a x y k W)(d:a.state≠ .busy){jump:Option Code}(e:a.pending=jump):∃b c,(Instr.endLoop (w.heap.size+2)).run prog W=.ok jump c/\lB S w b x y k c:=by subst e;exact⟨_,_,run_endLoop h.l d,h.put⟩
def Lk(Y:Nat->Prop)(M:Nat)(x y:aN)(w:QA)(e:RV)(a:QA):Prop:=
 ∃b,aL e b/\a.ownsRow w.heap.size 409 2 b M (Ao M x y)/\Out Y w a
theorem Aq(gf:Nat)(lb:Array QC)(M:Nat)(x y:aN)(Y:Nat->Prop)(w:QA)(d5:∀args w,(VF gf args).run prog w=.ok (.enter gf args) w)(e8:M<=1000000)(d6:∀b,Y b->b<w.heap.size)(d7:∀(c:Nat->QA->Prop) (W:QA),aq w W->c 0 W->(∀k A B,c k A->Out Y A B->c k B)->
   (∀q k A,k<M->c k A->YieldAt TT q prog (w.heap.size+2) #[.agg #[ae (x k:Nat),ae (y k:Nat)]] A (sA (λb=>w.heap.size<=b) c k A))->
   CallsIn TT 2 prog gf (#[.func (.yield (w.heap.size+2)) #[] #[]] ++lb) W λe c5=>(∃v,aL e v)/\Out (λb=>w.heap.size<=b\/Y b) W c5/\c M c5):
  aF 342 #[aO,.func (.func gf) #[] lb] w (Lk Y M x y w):=by
 refine(UR (n:=3)).1 ?_;refine callsIn_of_wp_marks func342 rfl trivial ?_;simp only[ntmps342,WA,SE,VW,Nat.reduceAdd,Nat.reduceSub,ZE,ZD,List.push_toArray,XL,UN,UC];have d8:=ad d7;have a0:=ad d6;have d9:=ad d5;gi_wp2;obtain⟨o,r⟩:=ah (w.alloc (ao #[aO] 360));have s:o.heap.size=w.heap.size+1:=by rw[<-r];simp
 have a4:aX o w.heap.size (ao #[aO] 360):=by rw[<-r];exact QB _ _
 have e0:aq w o:=by rw[<-r];exact aK aj _
 rw[r];rename_i a5;have a6:=ad a5;refine jg (gf:=gf) (lb:=lb) rfl d9 ?_;intro c6 d a;rw[s];obtain⟨T,f⟩:=ah ((o.alloc (.deferred (some []))).alloc (.loop (d .ready none)));rw[f];have U:∀k,k<o.heap.size->T.heap[k]?=o.heap[k]?:=λk c7=>by rw[<-f];exact(QW _ _ k aS).trans (QW _ _ k c7)
 have V:aq w T:=by rw[<-f];exact aK (aK e0 _) _
 have e2:T.heap.size=w.heap.size+3:=by rw[<-f];simp[s]
 have a7:lB Y w (d .ready none) x y 0 T:=by
  refine⟨?_,?_,⟨_,(U _ aa).trans a4,SD _ _ _ _⟩,Out.af V⟩
  .rw [<-f];have:=QB (o.alloc (.deferred (some []))) (.loop (d .ready none));rwa[SP,s]at this
  .rw [<-f];have:=(QW (o.alloc (.deferred (some []))) (.loop (d .ready none)) o.heap.size aJ).trans (QB o _);rwa[s]at this
 refine(d8 (lB Y w (d .ready none) x y) T V a7 (λk A B I e3=>I.cV e3 λb e=>⟨e,a0 b e⟩) ?_).mono ?_
 .intro q k A c7 I;have c8:=I.l;have c9:=run_yield (P:=prog) (args:= #[.agg #[ae (x k:Nat),ae (y k:Nat)]]) c8 (by rw[a];rfl);rw[show(d .ready none).fn=c6 by rw[a]]at c9;refine⟨c6,_,_,_,c9,roundIn_of_wpIn trivial ?_⟩;have X:lB Y w (d .ready none) x y k (A.alloc (ao #[ae (x k:Nat),ae (y k:Nat)] 409)):=I.cV (Out.af (S:=λ_=>False) (aK aj _)) λ_ e=>e.elim;have a8:=QB A (ao #[ae (x k:Nat),ae (y k:Nat)] 409);have Z:=run_beginRound (P:=prog) X.l (by rw[a]);have E:=X.put (lo':={d .ready none with state:=.busy});obtain⟨C,g⟩:=ah ((A.alloc (ao #[ae (x k:Nat),ae (y k:Nat)] 409)).putObj (w.heap.size+2) (.loop {d .ready none with state:=.busy}));rw[g]at Z E;have i:=ad E;have a9:QX (Out (λb=>w.heap.size<=b) A C):=by rw[<-g];exact Out.putObj (Out.af (aK aj _)) (λ_=>by show w.heap.size<=w.heap.size+2;omega) _
  have b0:aX C A.heap.size (ao #[ae (x k:Nat),ae (y k:Nat)] 409):=by rw[<-g];exact(TE (by have:=(RC.1 c8).1;omega)).trans a8
  obtain⟨a1,a2,a3⟩:=cr b0;obtain⟨e4,z,h4⟩:=E.H';obtain⟨L,O,rfl,-⟩:=au h4;have l:=ad h4;obtain⟨i1,b1,b2,b3,b4⟩:=SB Gb;have b5:=ad z;obtain⟨c3,f3,z3⟩:=cr z;obtain⟨R,d0⟩:=ah (sA (λb=>w.heap.size<=b) (lB Y w (d .ready none) x y) k A);rw[d0,a];have F:=ad a;gi_wp2;refine⟨C,Z,?_⟩;have b6:w.heap.size+3<=C.heap.size:=by have:=(RC.1 i.l).1;omega
  gi_wp2_with(first|(gi_at_builtin;refine wpListIn_append_own _ rfl _ _ 360 rfl (w.heap.size+3) 409 i1 (.agg #[ae 0,ae 0]) 2 16 underlying360 b1 b2 b3 b4 rfl ai (.slice L k O) k (Ao k x y) rfl (l.alloc _) (ag C.heap.size 0) 1 1 [ae (x k:Nat),ae (y k:Nat)] rfl rfl (RW (cs:= #[ae (x k:Nat),ae (y k:Nat)]) (t:=409) (fr:=(0,0)) (QB C _)) (by intro u d1;simp at d1;rcases d1 with rfl|rfl<;>rfl) (by unfold UE;omega) aa (by have:=i.out.out.size;have:=b6;simp;omega) ?_));intro e9 H D b7 _;have N:=ad D;have d2:Out (λb=>(RR L k O).ownBlock=some b) C H:=(Out.af (aK aj _)).grown b7 λb Q _=>Q;have b8:∀j,j<3->¬(RR L k O).ownBlock=some (w.heap.size+j):=λj e5 e=>by have:=(bo l e).2;omega
  have J:aX H w.heap.size (ao #[.slice L k O] 360):=d2.heap b5 (b8 0 aa);have b9:=ad d2;have c0:=ad J;obtain⟨G,K,rfl,-⟩:=au D;obtain⟨c3,f3,z3⟩:=cr J;gi_wp2;have z:lB Y w {d .ready none with state:=.busy} x y (k+1) (H.setCell (ag w.heap.size 0) (.slice G (k+1) K)):=by
   have d3:∀j,0<j->j<3->∀c1,aX C (w.heap.size+j) c1->(H.setCell (ag w.heap.size 0) (.slice G (k+1) K)).heap[w.heap.size+j]?=some c1:=λj e5 e6 c1 h=>
    (RO _ _ _ _ (by show w.heap.size+j≠w.heap.size;omega)).trans (b9.heap h λe=>by have:=(bo l e).2;omega)
   refine⟨?_,d3 1 aa aa _ i.D,⟨_,heap_setCell_same _ _ 0 _ _ _ c0,?_⟩,?_⟩
   .have:=d3 2 aa aa _ i.l;rw[F.out]at this|-;exact this
   .rw [<-Ap];exact XS N (λe=>absurd (show w.heap.size+3<=w.heap.size from(bo N e).2) aa) _
   .exact (i.out.out.trans b9 λb Q e=>by have:=(bo l e).2;omega).setCell (p:=ag w.heap.size 0) (λe=>absurd e (TL _)) _
  have c2:Out (λb=>w.heap.size<=b) A (H.setCell (ag w.heap.size 0) (.slice G (k+1) K)):=(a9.trans b9 λb Q e=>by have:=(bo l e).2;show w.heap.size<=b;omega).setCell (p:=ag w.heap.size 0) (λ_=>QE _) _;have m:=run_endRound (P:=prog) none z.l;refine⟨_,_,m,?_⟩;have e1:({({d .ready none with state:=.busy}:Loop)with state:=if(none:Option Code).isNone then .ready else .done,pending:=none}:Loop)=d .ready none:=by rw[F.out];rfl
  rw[e1,<-d0];refine⟨rfl,Out.putObj c2 (λ_=>by show w.heap.size<=w.heap.size+2;omega) _,?_⟩;rw[F.out]at z|-;exact z.put
 .rintro e W2 ⟨⟨v,rfl⟩,e7,h2⟩;obtain⟨lo',W3,m,z⟩:=h2.endLoop (by rw[a];simp) (jump:=none) (by rw[a]);refine⟨none,W3,m,?_⟩;refine a6 _ _ ?_;obtain⟨e4,J,g4⟩:=z.H';obtain⟨L,O,rfl,-⟩:=au g4;obtain⟨c4,f4,z4⟩:=cr J;have H3:=ad z;have G4:=ad g4;gi_wp2;refine⟨aJ,.inl ⟨_,_,rfl,run_takeDeferred H3.D,?_⟩⟩;have d4:Out (λk=>k=w.heap.size+1) W3 (W3.putObj (w.heap.size+1) (.deferred none)):=Out.putObj (S:=λk=>k=w.heap.size+1) (Out.refl _ _) (λ_=>rfl) _;refine⟨.slice L M O,?_,_,rfl,cq (d4.own G4 λb Q e=>?_) (Nat.le_add_right _ _),H3.out.out.trans d4 λb Q e=>?_⟩
  .simp [RP,Tryz.f342,go_sem]
  .have:=(bo G4 Q).2;omega
  .omega
end
section
open Go.Shelf
attribute [local go_sem] WK
theorem Jc(N s n:Nat):yK N s n<=2:=by
 unfold yK;split
 .omega
 .split<;>omega
theorem kh(a c c3 r N s n t u:Nat)(w:M)(g:ZY w r N t u)(z:s<N)(A:n<=N)(h:w.heap[a]?=some (ao #[Y (n:Int)] 3))(d:w.heap[c]?=some (ao #[ar r] 148))(i:w.heap[c3]?=some (ao #[Y (s:Int)] 3))(k:a≠c3):
  aF 317 #[.func (.func 343) #[] #[ar a,ar c,ar c3]] w (Lk (λb=>b=a\/b=c3) (yK N s n) (BJ s) (H_ N s n) w):=by
 have B:=Z_ h;have C:=Z_ d;have z3:=Z_ i;have L:=Z_ g.aM;have l:c≠a:=λe=>by rw[e,h]at d;cases d
 have m:c≠c3:=λe=>by rw[e,i]at d;cases d
 have o:r≠a:=λe=>by have:=g.aM;rw[e,h]at this;cases this
 have p:r≠c3:=λe=>by have:=g.aM;rw[e,i]at this;cases this
 have D:=I (Aq 343 #[ar a,ar c,ar c3] (yK N s n) (BJ s) (H_ N s n) (λb=>b=a\/b=c3) w (λy w=>by simp[VF,go_sem,Tryz.f343]) (by have:=Jc N s n;omega) (λb E=>by rcases E with rfl|rfl<;>omega) (by intro q W j v x F;exact wZ (w.heap.size+2) a c c3 r N s n t u (λb=>w.heap.size<=b) q W (g.out (Out.af (S:=λ_=>False) j) id) z A ((j.block _ B).trans h) ((j.block _ C).trans d) ((j.block _ z3).trans i) J J J J k l m o p v x F));go_enter func317,ntmps317;go_wp2_with fail;refine D.mono ?_;rintro e O ⟨P,rfl,G,f⟩;have K:=aB G f;go_wp2;go_ret;exact⟨_,rfl,K⟩
def TR:List Nat:= [221]
def ur[Lo](r N t u:Nat)(w:M)(e:RV)(b:M):Prop:=∃a n c,aL e (.tuple #[.slice a n c,aH 0])/\ZY b r N t u/\Fr TR aG w b
theorem ZY.fr[Lo](h:ZY w r n m k)(a:Fr T aG w W)(b:T.contains 221=false):ZY W r n m k:=⟨a.hp h.aM b,h.lo,h.hi,h.t,h.u⟩
theorem Gc[Lo](r N t u n:Nat)(w:QA)(h:ZY w r N t u)(C:Lo.lo<=r)(D:u+n<=N):aF 305 #[ar r,ae n] w (ur r N t (u+n) w):=by
 have E:=h.lo;have F:=h.hi;have d1:decide ((n:Int)<0)=false:=aJ;have d2:decide (((N-u:Nat):Int)<(n:Int))=false:=aS;have z:(t+u)%N<N:=SC _ aa;obtain⟨H,q⟩:=ah ((t+u)%N);have A:=ad h;have G:=ad q;rw[q]at z;clear q;go_enter func305,ntmps305;go_wp2_with fail;refine(qS r N t u w A).mono ?_;rintro e K ⟨rfl,s,rfl⟩;have f:=ad (A.out.out (S:=λ_=>False) ((Out.refl _ w).drewN s) id);go_wp2_with fail;refine(mD r N t u _ f).mono ?_;rintro e K ⟨rfl,v,rfl⟩;rw[G.out];have g:=f.out.out (S:=λ_=>False) ((Out.refl _ _).drewN v) id;have c:QX (aq w ((w.drewN s).drewN v)):=cK (cK aj _) _;have i:=ad g;clear g;generalize (w.drewN s).drewN v=W2 at*;go_wp2_with fail;refine(qU r H n W2).mono ?_;rintro e B ⟨rfl,L,O,P,R,j⟩;have d:=i.out.out (Out.af (S:=λ_=>False) j) id;have Q:=ad (kh (W2.heap.size+2) W2.heap.size (W2.heap.size+1) r N H n t u B d z aa P L O aa);have x:=ad j;have y:=ad d;clear d;go_wp2_with fail;refine Q.mono ?_;rintro e o ⟨I,rfl,T,b⟩;have U:r<W2.heap.size:=Z_ i.aM;have a:=y.out.out b (λe=>by rcases e with e|e<;>omega);obtain⟨Y,f4,J⟩:=cr a.aM;have l:=heap_setCell_same o r 2 _ 221 (ae ((u+n:Nat):Int)) a.aM;have a0:QG.wrap ((u:Int)+n)=(u+n:Nat):=bs;obtain⟨V,W,rfl,-⟩:=au T;have m:Fr TR aG w (o.setCell (ag r 2) (ae ((u+n:Nat):Int))):=by
  have X:aq w B:=c.trans (x.mono c.size);have Z:Fr TR aG w o:=(Fr.af X).out b λk a1 e=>by have:=c.size;rcases e with e|e<;>omega
  exact Z.set (p:=ag r 2) a.aM rfl C _
 have M:QX (ur r N t (u+n) w (.returned (.tuple #[.slice V (yK N H n) W,aH 0])) (o.setCell (ag r 2) (ae ((u+n:Nat):Int)))):=⟨_,_,_,rfl,⟨l,a.lo,a.hi,a.t,D⟩,m⟩;clear m;go_wp2;go_ret2;exact M
theorem Ge[Lo](r N t u n:Nat)(w:QA)(h:ZY w r N t u)(D:Lo.lo<=r)(X:n<=u):aF 278 #[ar r,ae n] w (ur r N ((t+n)%N) (u-n) w):=by
 have o:=h.lo;have q:=h.hi;have s:=h.t;have K:=h.u;have d1:decide ((n:Int)<0)=false:=aJ;have d2:decide ((u:Int)<(n:Int))=false:=aS;obtain⟨Z,f1,L⟩:=cr h.aM;have v:=ad h;have x:=ad L;go_enter func278,ntmps278;go_wp2_with fail;refine(qU r t n w).mono ?_;rintro e O ⟨rfl,P,Q,T,H,i⟩;have d:=v.out.out (Out.af (S:=λ_=>False) i) id;have U:=ad (kh (w.heap.size+2) w.heap.size (w.heap.size+1) r N t n t u O d s aa T P Q aa);have y:=ad i;have z:=ad d;clear d;go_wp2_with fail;refine U.mono ?_;rintro e m ⟨R,rfl,V,c⟩;have b:=z.out.out c (λe=>by have:=x.out;rcases e with e|e<;>omega);obtain⟨I,Y,rfl,-⟩:=au V;have E:Fr TR aG w m:=(Fr.af y).out c λk J e=>by rcases e with e|e<;>omega
 have A:=ad b;have W:=ad E;obtain⟨k4,f4,z4⟩:=cr b.aM;have a0:QG.wrap ((u:Int)-n)=(u-n:Nat):=bs;have f:=nr r N t u n m.drew (b.out (S:=λ_=>False) (Out.refl _ _).drew id) aa;have j:(t+n)%N<N:=SC _ aa;obtain⟨M,B⟩:=ah ((t+n)%N);rw[B]at f j;have F:=ad B;have C:=ad f;clear b E B f;go_wp2_with fail
 go_region_law (first|(go_simp;go_at_call 316;refine C.mono ?_;rintro e w5 ⟨rfl,G,rfl⟩))
 all_goals go_wp2
 all_goals go_ret2
 all_goals(
  have l:=A.out.out (S:=λ_=>False) (w1:=m.drewN (1+G)) ((Out.refl _ _).drewN _) id;have a:=heap_setCell_same (m.drewN (1+G)) r 1 _ 221 (ae (M:Int)) l.aM;have g:=heap_setCell_same _ r 2 _ 221 (ae ((u-n:Nat):Int)) a;refine⟨_,_,_,rfl,⟨by rw[F.out];exact g,o,q,by rw[F.out];exact j,aa⟩,?_⟩;exact((W.drewN _).set (p:=ag r 1) l.aM rfl D _).set (p:=ag r 2) a rfl D _)
end
structure Wl where
 ep:Nat
 nx:Nat
 sure:Bool
 lg:Option (Nat × (Nat->Nat))
 bad:Nat
 N:Nat
 t:Nat
 u:Nat
def Gf(w:M)(p:Option SR):Option (Nat × (Nat->Nat))->Prop
 |none=>p=none
 |some (c,f)=>∃g v,p=some ⟨g,0,none⟩/\w.heap[g]?=some (N #[.int .i64 (c:Nat),v] 385)/\cA w v 128 f
structure lC[Lo](w:M)(W r B J:Nat)(p:Option SR)(x:Wl):Prop where
 aM:w.heap[W]? =some (ao #[ar B,Y J,bg x.ep,ar r,bg x.nx,.bool x.sure,.pointer p,aH x.bad] 153)
 ring:ZY w r x.N x.t x.u
 lg:Gf w p x.lg
 lo:Lo.lo<=W/\Lo.lo<=r
def bH[Lo](w:M)(W r B J:Nat)(x:Wl):Prop:=∃p,lC w W r B J p x
theorem Gf.fr[Lo]{l:Option (Nat × (Nat->Nat))}(h:Gf w P l)(a:Fr T aG w W)(b:T.contains 385=false)(d:T.contains 5=false):Gf W P l:=by
 match l,h with
 |none,h=>exact h
 |some (c,f),h=>obtain⟨g,v,rfl,e,i⟩:=h;exact⟨g,v,rfl,a.hp e b,i.fr a d⟩
theorem lC.fr[Lo]{x:Wl}(h:lC w n r m k P x)(a:Fr T aG w z)(b:T.contains 153=false)(c:T.contains 221=false)(d:T.contains 385=false)(e:T.contains 5=false):lC z n r m k P x:=
 ⟨a.hp h.aM b,h.ring.fr a c,h.lg.fr a d e,h.lo⟩
theorem bH.fr[Lo]{x:Wl}(h:bH w n r m k x)(a:Fr T aG w z)(b:T.contains 153=false)(c:T.contains 221=false)(d:T.contains 385=false)(e:T.contains 5=false):bH z n r m k x:=by obtain⟨p,h⟩:=h;exact⟨p,h.fr a b c d e⟩
theorem lC.ct[Lo]{x:Wl}(h:lC w n r m k P x)(a:Fr TB aG w z):lC z n r m k P x:=h.fr a rfl rfl rfl rfl
theorem lC.below[Lo]{W r B J:Nat}{x:Wl}(h:lC w W r B J P x)(a:aq w z):lC z W r B J P x:=h.fr (T:= []) (Fr.af a) rfl rfl rfl rfl
def fV:List Nat:= [100,106,108,142,217,219,1000000,153,221]
theorem Fr.bw[Lo](h:Fr TB aG w W):Fr fV aG w W:=h.wide fV rfl
theorem lC.break[Lo]{x:Wl}(h:lC w n r m k P x)(a:Nat):lC (w.setCell (R n 7) (aH a)) n r m k P {x with bad:=a}/\Fr fV aG w (w.setCell (R n 7) (aH a)):=by have b:Fr [153] aG w (w.setCell (R n 7) (aH a)):=(Fr.refl _ _ _).set (p:=R n 7) h.aM rfl h.lo.1 _;exact⟨⟨heap_setCell_same w n 7 _ 153 _ h.aM,h.ring.fr b rfl,h.lg.fr b rfl rfl,h.lo⟩,b.wide fV rfl⟩
def Ia[Lo](W r B J:Nat)(x:Wl)(b:By)(a:Dv->Dv × Nat)(w:M)(e:RV)(c:M):Prop:=
 aL e (.int .u16 ((b.op J a).2:Nat))/\aC c B (b.op J a).1/\bH c W r B J {x with bad:=(b.op J a).2}/\Fr fV aG w c
theorem aC.Jd[Lo](h:aC w n b)(a:aX w p.block O)(c:TB.all (λt=> ![ty O].contains t)=true)(d:Lo.lo<=p.block)(u:H):aC (w.setCell p u) n b:=
 h.fn (T:= [ty O]) ((Fr.refl _ _ _).set a aJ d u) c
theorem Gg[Lo](W r B J a j k l:Nat)(x:Wl)(b:By)(u:QC)(f:aN)(w:QA)(i:bH w W r B J x)(h:aC w B b)(z:J<b.N)(n:cA w u 128 f)(A:∀v,b.dv J=some v->a<v.d.n/\v.d.cn<1000000000000)(o:aX w j (ao #[ar W] 112))(q:aX w k (ao #[Y a] 3))(s:aX w l (ao #[u] 41)):
  aF 148 #[ar j,ar k,ar l] w (CC B b J (aR a f) w):=by
 obtain⟨p,i⟩:=i;obtain⟨O,f0,P⟩:=cr i.aM;obtain⟨Q,f1,S⟩:=cr o;obtain⟨U,f2,V⟩:=cr q;obtain⟨X,f3,z3⟩:=cr s;have t:Fr TB aG w w.drew:=(Fr.refl _ _ _).drew;have C:=I (gF B J a u f b w.drew (h.fn (T:= []) ((Fr.refl _ _ _).drew) rfl) z (n.fn t) A);have d:=I t;obtain⟨D,E,rfl⟩:=n.form;have F:=I i.aM;have G:=I o;have K:=I q;have L:=I s;go_enter func148,ntmps148;go_wp2_with fail;go_region_held3(λg=>g.cell? (ag j 0)=some (ar W)/\g.cell? (ag W 0)=some (ar B)/\g.cell? (ag W 1)=some (Y J)/\g.cell? (ag k 0)=some (Y a)/\g.cell? (ag l 0)=some (.slice D 128 E)) ((simp[*,go_sem];done)) (first|(go_at_call 52;refine C.mono ?_;rintro e Z ⟨rfl,m,c⟩;obtain⟨H,-,-⟩:=cr ((d.tr c).hp F rfl);obtain⟨N,-,-⟩:=cr ((d.tr c).hp G rfl);obtain⟨M,-,-⟩:=cr ((d.tr c).hp K rfl);obtain⟨R,-,-⟩:=cr ((d.tr c).hp L rfl);have y:=aB m c))
 all_goals go_wp2
 all_goals go_ret
 all_goals(exact⟨rfl,y.1,d.tr y.2⟩)
theorem Gh[Lo](W r B J d:Nat)(x:Wl)(b:By)(w:M)(c:bH w W r B J x)(h:aC w B b)(l:J<b.N)(j:aX w d (ao #[ar W] 112)):
  aF 209 #[ar d] w (CC B b J be w):=by
 obtain⟨p,c⟩:=c;obtain⟨s,f0,t⟩:=cr c.aM;obtain⟨u,f1,v⟩:=cr j;have m:Fr TB aG w w.drew:=(Fr.refl _ _ _).drew;have n:=I (ik B J b w.drew (h.fn (T:= []) ((Fr.refl _ _ _).drew) rfl) l);have f:=I m;have o:=I c.aM;have q:=I j;go_enter func209,ntmps209;go_wp2_with fail;go_region_held3(λg=>g.cell? (R d 0)=some (ar W)/\g.cell? (R W 0)=some (ar B)/\g.cell? (R W 1)=some (Y J)) ((simp[*,go_sem];done)) (first|(go_at_call 56;refine n.mono ?_;rintro e y ⟨rfl,i,a⟩;obtain⟨z,-,-⟩:=cr ((f.tr a).hp o rfl);obtain⟨A,-,-⟩:=cr ((f.tr a).hp q rfl);have k:=aB i a))
 all_goals go_wp2
 all_goals go_ret
 all_goals(exact⟨rfl,k.1,f.tr k.2⟩)
theorem bH.op[Lo]{x:Wl}{a:Dv->Dv × Nat}(d:bH w n r m k x)(h:aC z m (b.op k a).1)(f:Fr TB aG w z):
  ∃p,lC z n r m k p x/\Ia n r m k x b a w (.returned (.int .u16 ((b.op k a).2:Nat))) (z.setCell (R n 7) (.int .u16 ((b.op k a).2:Nat)))/\(z.setCell (R n 7) (.int .u16 ((b.op k a).2:Nat))).cell? (R n 7)=some (.int .u16 ((b.op k a).2:Nat)):=by
 obtain⟨p,d⟩:=d;have c:=d.ct f;have e:=c.break (b.op k a).2;exact⟨p,c,⟨rfl,h.Jd (p:=R n 7) c.aM rfl c.lo.1 _,⟨p,e.1⟩,f.bw.tr e.2⟩,(cr e.1.aM).1 7⟩
theorem Je[Lo](W r B J a d g i:Nat)(x:Wl)(b:By)(u:H)(f:aN)(w:M)(c:bH w W r B J x)(h:aC w B b)(n:J<b.N)(o:cA w u 128 f)(q:∀v,b.dv J=some v->a<v.d.n/\v.d.cn<1000000000000)(s:x.bad=0)(t:aX w d (ao #[ar W] 112))(y:aX w g (ao #[Y a] 3))(z:aX w i (ao #[u] 41)):
  aF 147 #[ar W,.func (.func 148) #[] #[ar d,ar g,ar i]] w (Ia W r B J x b (aR a f) w):=by
 have A:=I (Gg W r B J a d g i x b u f w c h n o q t y z);have C:=I c;obtain⟨p,c⟩:=c;obtain⟨D,f0,K⟩:=cr c.aM;rw[s]at D;go_enter func147,ntmps147;go_wp2_with fail;refine A.mono ?_;rintro e L ⟨rfl,j,k⟩;obtain⟨O,E,F,G⟩:=C.op j k;obtain⟨P,f1,Q⟩:=cr E.aM;have l:=I F;obtain⟨S,m⟩:=ah ((b.op J (aR a f)).2);rw[m]at l G;rw[m];go_wp2;go_ret;exact l
theorem Jf[Lo](W r B J c:Nat)(x:Wl)(b:By)(w:M)(a:bH w W r B J x)(h:aC w B b)(j:J<b.N)(k:x.bad=0)(l:aX w c (ao #[ar W] 112)):
  aF 147 #[ar W,.func (.func 209) #[] #[ar c]] w (Ia W r B J x b be w):=by
 have m:=I (Gh W r B J c x b w a h j l);have n:=I a;obtain⟨p,a⟩:=a;obtain⟨o,f0,u⟩:=cr a.aM;rw[k]at o;go_enter func147,ntmps147;go_wp2_with fail;refine m.mono ?_;rintro e v ⟨rfl,d,f⟩;obtain⟨y,q,s,t⟩:=n.op d f;obtain⟨z,f1,A⟩:=cr q.aM;have g:=I s;obtain⟨C,i⟩:=ah ((b.op J be).2);rw[i]at g t;rw[i];go_wp2;go_ret;exact g
theorem kI[Lo](W r B J a:Nat)(x:Wl)(b:By)(u:H)(f:aN)(w:M)(o:bH w W r B J x)(h:aC w B b)(p:J<b.N)(m:cA w u 128 f)(q:∀v,b.dv J=some v->a<v.d.n/\v.d.cn<1000000000000)(s:x.bad=0):
  aF 85 #[ar W,Y a,u] w (Ia W r B J x b (aR a f) w):=by
 obtain⟨i,j,rfl⟩:=m.form;obtain⟨d,c⟩:=ah (((w.alloc (ao #[ar W] 112)).alloc (ao #[Y a] 3)).alloc (ao #[.slice i 128 j] 41));have g:aq w d:=by rw[<-c];exact aK (aK (aK aj _) _) _
 have n:aX d w.heap.size (ao #[ar W] 112):=by rw[<-c];exact(QW _ _ _ aS).trans (e_ _ _ _)
 have t:aX d (w.heap.size+1) (ao #[Y a] 3):=by rw[<-c];exact(QW _ _ _ aJ).trans (eZ _ _ _)
 have y:aX d (w.heap.size+1+1) (ao #[.slice i 128 j] 41):=by rw[<-c];have:=QB ((w.alloc (ao #[ar W] 112)).alloc (ao #[Y a] 3)) (ao #[.slice i 128 j] 41);rwa[SP,SP]at this
 have k:bH d W r B J x:=o.fr (T:= []) (Fr.af g) rfl rfl rfl rfl;have z:=I (Je W r B J a _ _ _ x b _ f d k (h.below g) p (m.below g) q s n t y);have A:=I g;obtain⟨F,-,-⟩:=cr n;go_enter func85,ntmps85;go_wp2_with(first|(go_at_call 147;refine z.mono ?_;rintro e G ⟨rfl,C,D,E⟩;have l:=aT C D E));go_ret;exact⟨rfl,l.1,l.2.1,(Fr.af A).tr l.2.2⟩
theorem kJ[Lo](W r B J:Nat)(x:Wl)(b:By)(w:M)(f:bH w W r B J x)(h:aC w B b)(g:J<b.N)(i:x.bad=0):
  aF 150 #[ar W] w (Ia W r B J x b be w):=by
 have a:aq w (w.alloc (ao #[ar W] 112)):=aK aj _;have j:=QB w (ao #[ar W] 112);have c:bH (w.alloc (ao #[ar W] 112)) W r B J x:=f.fr (T:= []) (Fr.af a) rfl rfl rfl rfl;have k:=I (Jf W r B J _ x b _ c (h.below a) g i j);have l:=I a;go_enter func150,ntmps150;go_wp2_with(first|(go_at_call 147;refine k.mono ?_;rintro e p ⟨rfl,m,n,o⟩;have d:=aT m n o));go_ret;exact⟨rfl,d.1,d.2.1,(Fr.af l).tr d.2.2⟩
theorem CO[Lo](W r B J:Nat)(x:Wl)(w:M)(a:bH w W r B J x):aF 254 #[ar W] w λe b=>aL e (Y x.N)/\w=b:=by obtain⟨p,a⟩:=a;obtain⟨d,f0,f⟩:=cr a.aM;have c:=I (mC r x.N x.t x.u w a.ring);go_enter func254,ntmps254;go_wp2_with(first|(go_at_call 299;refine c.mono ?_;rintro e g ⟨rfl,rfl⟩));go_ret;exact⟨rfl,rfl⟩
theorem CP[Lo](W r B J:Nat)(x:Wl)(w:M)(a:bH w W r B J x):aF 144 #[ar W] w λe b=>aL e (Y x.u)/\w=b:=by obtain⟨p,a⟩:=a;obtain⟨d,f0,f⟩:=cr a.aM;have c:=I (qT r x.N x.t x.u w a.ring);go_enter func144,ntmps144;go_wp2_with(first|(go_at_call 204;refine c.mono ?_;rintro e g ⟨rfl,rfl⟩));go_ret;exact⟨rfl,rfl⟩
theorem CR[Lo](W r B J:Nat)(x:Wl)(w:M)(a:bH w W r B J x):aF 175 #[ar W] w λe b=>aL e (.bool x.sure)/\w=b:=by obtain⟨p,a⟩:=a;obtain⟨c,f0,d⟩:=cr a.aM;go_enter func175,ntmps175;go_wp2;go_ret;exact⟨rfl,rfl⟩
theorem uu(n:Nat)(w:M)(b:5<=n)(c:n<=2048):aF 83 #[Y n] w λe a=>aL e ec/\w=a:=by have d1:decide (5<=(n:Int))=true:=aS;have d2:decide ((n:Int)<=2048)=true:=aS;go_enter func83,ntmps83;go_wp2;go_ret;exact⟨rfl,rfl⟩
def Wl.pl(x:Wl)(i:Nat):Nat:=2+((x.t+x.u)%x.N+i)%x.N
theorem qV[Lo](W r B J i:Nat)(x:Wl)(b:By)(u:QC)(f:aN)(w:QA)(t:bH w W r B J x)(h:aC w B b)(V:J<b.N)(K:cA w u 128 f)(a0:i<=4096)(L:∀v,b.dv J=some v->2+x.N<=v.d.n/\v.d.cn<1000000000000)(O:x.bad=0):
  aF 304 #[ar W,ae i,u] w (Ia W r B J x b (aR (x.pl i) f) w):=by
 obtain⟨p,c⟩:=t;have t:bH w W r B J x:=⟨p,c⟩;have A:=c.ring.lo;have C:=c.ring.hi;obtain⟨k0,f0,z0⟩:=cr c.aM;have l:∀v,b.dv J=some v->x.pl i<v.d.n/\v.d.cn<1000000000000:=λv X=>by have:=L v X;have:((x.t+x.u)%x.N+i)%x.N<x.N:=SC _ aa;unfold Wl.pl;omega
 have j:(x.t+x.u)%x.N<x.N:=SC _ aa;have d:((x.t+x.u)%x.N+i)%x.N<x.N:=SC _ aa;have k:=mD r x.N x.t x.u;have m:=mC r x.N x.t x.u;have a:x.pl i=2+((x.t+x.u)%x.N+i)%x.N:=rfl;have D:ZY w r x.N x.t x.u:=c.ring;have n:=ad (λ(o:QA) (y:Fr [] aG w o)=>(kI W r B J (x.pl i) x b u f o (t.fr y rfl rfl rfl rfl) (h.fn y rfl) V (K.fr y rfl) l O).mono (R':=Ia W r B J x b (aR (x.pl i) f) w) λe P g=>⟨g.1,g.2.1,g.2.2.1,(y.wide fV rfl).tr g.2.2.2⟩);obtain⟨N,Q⟩:=ah x.N;obtain⟨H,T⟩:=ah ((x.t+x.u)%N);rw[Q]at k m A C j d a D;rw[T]at k j d a;obtain⟨M,z⟩:=ah ((H+i)%N);rw[z]at d a;have e1:QG.wrap ((H:Int)+i)=(H:Int)+i:=bs;have e2:((H:Int)+i).tmod N=(M:Nat):=by rw[UI aa,<-z];simp
 have e3:QG.wrap (2+(M:Int))=(2+M:Nat):=bs;have n3:¬N=0:=aa;have e5:((H:Int)+i)%N=(M:Nat):=by rw[<-z];simp
 have E:=ad k;have F:=ad m;have s:=ad D;have G:=ad a;rw[a]at n;obtain⟨a1,a2,rfl⟩:=K.form;clear t L O l a Q T z D j d;go_enter func304,ntmps304;go_wp2_with fail;go_region_held3(λP=>P.cell? (ag W 3)=some (ar r)) ((simp[*,go_sem];done)) (first|(go_at_call 277;refine(E _ (s.out.out (S:=λ_=>False) (by first|exact(Out.refl _ _).drew|exact(Out.refl _ _).drewN _|exact(Out.refl _ _).drew.drewN _) id)).mono ?_;rintro e o ⟨rfl,q,rfl⟩)|(go_at_call 299;refine(F _ (s.out.out (S:=λ_=>False) (by first|exact(Out.refl _ _).drew|exact(Out.refl _ _).drewN _|exact(Out.refl _ _).drew.drewN _) id)).mono ?_;rintro e o ⟨rfl,rfl⟩)|(go_at_call 85;refine(n _ (by first|exact(Fr.refl _ _ _).drew|exact(Fr.refl _ _ _).drewN _|exact(Fr.refl _ _ _).drew.drewN _)).mono ?_;rintro e o ⟨rfl,Z,⟨R,U⟩,I⟩;obtain⟨m0,-,-⟩:=cr U.aM;have Y:=aT Z (show bH _ _ _ _ _ _ from⟨R,U⟩) I))
 all_goals go_wp2
 all_goals go_ret
 all_goals(
  rw[G.out];exact⟨rfl,Y⟩)
theorem By.fW(b:By)(k:Nat)(a:Dv->Dv × Nat):(b.op k a).1.N=b.N:=by
 unfold By.op;split
 .unfold By.off;split<;>rfl
 .split<;>rfl
def By.ck(b:By)(J:Nat)(f:aN):By × Nat:=if(b.op J (aR 1 f)).2=0 then(b.op J (aR 1 f)).1.op J be else b.op J (aR 1 f)
def hK[Lo](W r B J:Nat)(x:Wl)(b:By)(c:Nat)(w:M)(e:RV)(a:M):Prop:=
 aL e (aH c)/\aC a B b/\bH a W r B J x/\Fr fV aG w a
theorem hL(a b tail:Nat):Lt 128 (aV a b tail):=λk _=>jG (cI _) k
theorem CS[Lo](W r B J a d i:Nat)(x:Wl)(b:By)(w:QA)(T:bH w W r B J x)(h:aC w B b)(F:J<b.N)(U:cM a d)(V:i<=2047)(G:∀v,b.dv J=some v->2+x.N<=v.d.n/\v.d.cn<1000000000000)(X:x.bad=0):
  aF 86 #[ar W,.agg #[.int .u64 a,.int .u64 d,ae i]] w (hK W r B J {x with bad:=(b.ck J (aV a d i)).2} (b.ck J (aV a d i)).1 (b.ck J (aV a d i)).2 w):=by
 have q:aq w (w.alloc (ao #[.int .u64 a,.int .u64 d,ae i] 156)):=aK aj _;have l:=ad q;have Z:=ad T;have H:=ad h;have m:=ad (mn a d i (w.alloc (ao #[.int .u64 a,.int .u64 d,ae i] 156)) U V);obtain⟨f,N⟩:=ah (aV a d i);rw[N]at m|-;go_enter func86,ntmps86;go_wp2_with fail;refine m.mono ?_;rintro e K ⟨g,c,rfl,n,M⟩;have j:Fr [] aG w K:=Fr.af (l.trans (M.mono l.size));have s:=kI W r B J 1 x b _ f K (Z.fr j rfl rfl rfl rfl) (H.fn j rfl) F (gj n) (λv L=>⟨by have:=(G v L).1;omega,(G v L).2⟩) X;have o:=ad j;have t:=ad s;go_wp2_with fail;refine t.mono ?_;rintro e u ⟨rfl,O,P,Q⟩;obtain⟨E,y⟩:=ah ((b.op J (aR 1 f)).2);rw[y];by_cases p:E=0
 .have S:(b.op J (aR 1 f)).2=0:=y.trans p;subst p;have z:=kJ W r B J _ _ u P O (by rw[By.fW];exact F) S;have A:=ad z;have C:QX (Fr fV aG w u):=(o.wide fV rfl).tr Q;have D:QX (b.ck J f=(b.op J (aR 1 f)).1.op J be):=ak S;go_wp2_with fail;refine A.mono ?_;rintro e R ⟨rfl,I,Y,q3⟩;have k:QX (hK W r B J {x with bad:=(b.ck J f).2} (b.ck J f).1 (b.ck J f).2 w (.returned (.int .u16 (((b.op J (aR 1 f)).1.op J be).2:Nat))) R):=by rw[D.out];exact⟨rfl,I,Y,C.tr q3⟩
  go_wp2;go_ret;exact k
 .have k:QX (hK W r B J {x with bad:=(b.ck J f).2} (b.ck J f).1 (b.ck J f).2 w (.returned (.int .u16 (E:Int))) u):=by
   have D:b.ck J f=b.op J (aR 1 f):=al aa;rw[D];exact⟨by rw[y],O,P,(o.wide fV rfl).tr Q⟩
  have a0:(E:Int)≠0:=aa;go_wp2;go_ret;exact k
theorem Ar[Lo](W r B J:Nat)(x:Wl)(w:M)(a:bH w W r B J x)(b:x.sure=true):aF 181 #[ar W] w λe c=>aL e (aH 0)/\w=c:=by obtain⟨p,a⟩:=a;obtain⟨d,f0,f⟩:=cr a.aM;rw[b]at d;go_enter func181,ntmps181;go_wp2;go_ret;exact⟨rfl,rfl⟩
theorem CT[Lo](W r B J:Nat)(x:Wl)(b:By)(w:M)(d:bH w W r B J x)(h:aC w B b)(k:J<b.N)(l:x.bad=0)(m:x.sure=false):
  aF 181 #[ar W] w (hK W r B J {x with bad:=(b.op J be).2,sure:=(b.op J be).2==0} (b.op J be).1 (b.op J be).2 w):=by
 have n:=I (kJ W r B J x b w d h k l);obtain⟨p,d⟩:=d;obtain⟨o,f0,A⟩:=cr d.aM;rw[m]at o;go_enter func181,ntmps181;go_wp2_with fail;refine n.mono ?_;rintro e f ⟨rfl,s,⟨t,c⟩,u⟩;obtain⟨E,g⟩:=ah ((b.op J be).2);have a:Fr [153] aG f (f.setCell (R W 5) (.bool (E==0))):=(Fr.refl _ _ _).set (p:=R W 5) c.aM rfl c.lo.1 _;have i:QX (hK W r B J {x with bad:=(b.op J be).2,sure:=(b.op J be).2==0} (b.op J be).1 (b.op J be).2 w (.returned (aH E)) (f.setCell (R W 5) (.bool (E==0)))):=by have j:=heap_setCell_same f W 5 _ 153 (.bool (E==0)) c.aM;rw[g]at c j|-;exact⟨rfl,s.fn a rfl,⟨t,j,c.ring.fr a rfl,c.lg.fr a rfl rfl,c.lo⟩,u.tr (a.wide fV rfl)⟩
 obtain⟨C,f1,D⟩:=cr c.aM;rw[g];have v:((E:Int)==0)=(E==0):=by
  by_cases h:E=0
  .subst h;rfl
  .have y:¬(E:Int)=0:=aa;rw[beq_eq_false_iff_ne.2 h,beq_eq_false_iff_ne.2 y]
 obtain⟨q,z⟩:=ah (E==0);rw[z]at i v;go_wp2;go_ret;exact i
def Wl.cz(x:Wl)(a:Nat):Wl:={x with ep:=a,lg:=none,t:=(x.t+x.u)%x.N,u:=0}
def Wl.qo(x:Wl)(b a:Nat):Wl:=if a=0 then x.cz b else{x with bad:=a}
theorem qW[Lo](W r B J d:Nat)(x:Wl)(b:By)(w:QA)(O:bH w W r B J x)(h:aC w B b)(a5:J<b.N)(a6:cM d x.nx)(a1:∀v,b.dv J=some v->2+x.N<=v.d.n/\v.d.cn<1000000000000)(P:x.bad=0)(h1:x.sure=true):
  aF 203 #[ar W,bg d] w (hK W r B J (x.qo d (b.ck J (aV d x.nx ((x.t+x.u)%x.N))).2) (b.ck J (aV d x.nx ((x.t+x.u)%x.N))).1 (b.ck J (aV d x.nx ((x.t+x.u)%x.N))).2 w):=by
 obtain⟨p,i⟩:=O;have O:bH w W r B J x:=⟨p,i⟩;have a7:=i.ring.lo;have a8:=i.ring.hi;have V:(x.t+x.u)%x.N<x.N:=SC _ aa;obtain⟨k0,f0,z0⟩:=cr i.aM;rw[P,h1]at k0;have s:=ad (λ(l:QA) (y:Fr [] aG w l)=>(CS W r B J d x.nx ((x.t+x.u)%x.N) x b l (O.fr y rfl rfl rfl rfl) (h.fn y rfl) a5 a6 aa a1 P).mono (R':=hK W r B J {x with bad:=(b.ck J (aV d x.nx ((x.t+x.u)%x.N))).2} (b.ck J (aV d x.nx ((x.t+x.u)%x.N))).1 (b.ck J (aV d x.nx ((x.t+x.u)%x.N))).2 w) λe j g=>⟨g.1,g.2.1,g.2.2.1,(y.wide fV rfl).tr g.2.2.2⟩);have X:=ad i.ring;have A:=ad (mD r x.N x.t x.u);obtain⟨H,Z⟩:=ah ((x.t+x.u)%x.N);rw[Z]at s A V;have t:=ad Z;have N:=ad P;clear O a1 h1 Z P;go_enter func203,ntmps203;go_wp2_with fail;go_region_held3(λj=>j.cell? (ag W 3)=some (ar r)/\j.cell? (ag W 4)=some (bg x.nx)) ((simp[*,go_sem];done)) (first|(go_at_call 277;refine(A _ (X.out.out (S:=λ_=>False) (by first|exact(Out.refl _ _).drew|exact(Out.refl _ _).drewN _|exact(Out.refl _ _).drew.drewN _) id)).mono ?_;rintro e l ⟨rfl,q,rfl⟩)|(go_at_call 86;refine(s _ (by first|exact(Fr.refl _ _ _).drew|exact(Fr.refl _ _ _).drewN _|exact(Fr.refl _ _ _).drew.drewN _)).mono ?_;rintro e l ⟨rfl,M,⟨p2,D⟩,g3⟩;obtain⟨m0,a9,b0⟩:=cr D.aM;have m:=aT M D g3));have f:=ad m.2.1;have a2:QX (aV d x.nx H=aV d x.nx ((x.t+x.u)%x.N)):=by show _=_;rw[t.out]
 obtain⟨C,R⟩:=ah (aV d x.nx H);rw[R]at m f a2;rw[R];have F:QX (∀j Q,Q=(b.ck J C).2->hK W r B J (x.qo d (b.ck J C).2) (b.ck J C).1 (b.ck J C).2 w (.returned (aH Q)) j->hK W r B J (x.qo d (b.ck J (aV d x.nx ((x.t+x.u)%x.N))).2) (b.ck J (aV d x.nx ((x.t+x.u)%x.N))).1 (b.ck J (aV d x.nx ((x.t+x.u)%x.N))).2 w (.returned (aH Q)) j):=by intro j Q _ g;rw[<-a2.out];exact g
 obtain⟨E,T⟩:=ah ((b.ck J C).2);rw[T];rw[T]at m f;have z:=ad T;obtain⟨k3,f3,z3⟩:=cr f.aM;clear T R s;by_cases a3:E=0
 .subst a3;have I:=ad (λ(a4:QA) (y:Fr [] aG l a4)=>(Ge r x.N x.t x.u x.u a4 (f.ring.fr y rfl) f.lo.2 (QE _)).mono (R':=ur r x.N H 0 l) (by rintro e j ⟨a,n,c,rfl,q1,q2⟩;refine⟨a,n,c,rfl,?_,(y.wide TR rfl).tr q2⟩;rw[t.out,Nat.sub_self]at q1;exact q1));have Y:=ad (qT r x.N x.t x.u);have G:QX (ZY l r x.N x.t x.u):=f.ring;go_wp2_with fail;go_region_held3(λj=>j.cell? (ag W 3)=some (ar r)) ((simp[*,go_sem];done)) (first|(go_at_call 204;refine(Y _ (G.out.out (S:=λ_=>False) (by first|exact(Out.refl _ _).drew|exact(Out.refl _ _).drewN _|exact(Out.refl _ _).drew.drewN _) id)).mono ?_;rintro e K ⟨rfl,rfl⟩)|(go_at_call 278;refine(I _ (by first|exact(Fr.refl _ _ _).drew|exact(Fr.refl _ _ _).drewN _|exact(Fr.refl _ _ _).drew.drewN _)).mono ?_;rintro e K ⟨b1,b2,b3,rfl,M,D⟩;obtain⟨m0,a9,b0⟩:=cr (D.hp f.aM rfl);have U:=aB M D));have o:=U.2.hp f.aM rfl;have L:=heap_setCell_same K W 2 _ 153 (bg d) o;have a0:=heap_setCell_same _ W 6 _ 153 (.pointer none) L;have k:Fr [153] aG K ((K.setCell (ag W 2) (bg d)).setCell (ag W 6) (.pointer none)):=((Fr.refl _ _ _).set (p:=ag W 2) o rfl f.lo.1 _).set (p:=ag W 6) L rfl f.lo.1 _;have u:QX (hK W r B J (x.qo d (b.ck J C).2) (b.ck J C).1 (b.ck J C).2 w (.returned (aH 0)) ((K.setCell (ag W 2) (bg d)).setCell (ag W 6) (.pointer none))):=by
   have e1:x.qo d (b.ck J C).2=x.cz d:=by rw[z.out];rfl
   rw[e1];refine⟨by rw[z.out];rfl,(m.1.fn U.2 rfl).fn k rfl,⟨none,?_,?_,rfl,f.lo⟩,m.2.2.tr ((U.2.wide fV rfl).tr (k.wide fV rfl))⟩
   .have:x.bad=0:=N.out;rw[a0];simp[Wl.cz,this]
   .have:=U.1.fr k rfl;rw[<-t.out]at this;exact this
  clear k;go_wp2;go_ret;exact F.out _ 0 z.symm u
 .have u:QX (hK W r B J (x.qo d (b.ck J C).2) (b.ck J C).1 (b.ck J C).2 w (.returned (aH E)) l):=by
   have e1:x.qo d (b.ck J C).2={x with bad:=E}:=by rw[z.out];exact al a3
   rw[e1];exact⟨by rw[z.out],m.1,⟨_,m.2.1⟩,m.2.2⟩
  have b4:(E:Int)≠0:=aa;go_wp2;go_ret;exact F.out _ _ z.symm u
theorem uw[Lo](W r B J:Nat)(x:Wl)(b:By)(w:M)(a:bH w W r B J x)(h:aC w B b)(c:J<b.N)(d:cM x.ep x.nx)(f:∀v,b.dv J=some v->2+x.N<=v.d.n/\v.d.cn<1000000000000)(i:x.bad=0)(j:x.sure=true):
  aF 179 #[ar W] w (hK W r B J (x.qo x.ep (b.ck J (aV x.ep x.nx ((x.t+x.u)%x.N))).2) (b.ck J (aV x.ep x.nx ((x.t+x.u)%x.N))).1 (b.ck J (aV x.ep x.nx ((x.t+x.u)%x.N))).2 w):=by
 have k:=I (qW W r B J x.ep x b w a h c d f i j);obtain⟨p,a⟩:=a;obtain⟨m,f0,n⟩:=cr a.aM;go_enter func179,ntmps179;go_wp2_with fail;refine k.mono ?_;rintro e o ⟨rfl,g⟩;have l:=I g;go_wp2;go_ret;exact⟨rfl,l⟩
theorem As[Lo](W r B J:Nat)(x:Wl)(b:By)(w:M)(a:bH w W r B J x)(h:aC w B b)(d:J<b.N)(c:cM (x.ep+1) x.nx)(f:∀v,b.dv J=some v->2+x.N<=v.d.n/\v.d.cn<1000000000000)(i:x.bad=0)(j:x.sure=true):
  aF 139 #[ar W] w (hK W r B J (x.qo (x.ep+1) (b.ck J (aV (x.ep+1) x.nx ((x.t+x.u)%x.N))).2) (b.ck J (aV (x.ep+1) x.nx ((x.t+x.u)%x.N))).1 (b.ck J (aV (x.ep+1) x.nx ((x.t+x.u)%x.N))).2 w):=by
 have k:=I (qW W r B J (x.ep+1) x b w a h d c f i j);obtain⟨p,a⟩:=a;obtain⟨n,f0,o⟩:=cr a.aM;have l:=c.1;have q:VP.wrap ((x.ep:Int)+1)=(x.ep+1:Nat):=bs;go_enter func139,ntmps139;go_wp2_with fail;refine k.mono ?_;rintro e s ⟨rfl,g⟩;have m:=I g;go_wp2;go_ret;exact⟨rfl,m⟩
def By.db(b:By)(J:Nat)(pl:aN)(sf:dp):Nat->By × Nat
 |0=>(b,0)
 |n+1=>if(b.db J pl sf n).2=0 then(b.db J pl sf n).1.op J (aR (pl n) (sf n))else b.db J pl sf n
theorem By.ki(b:By)(J:Nat)(a:aN)(c:dp):∀n,(b.db J a c n).1.N=b.N
 |0=>rfl
 |n+1=>by
  unfold By.db;split
  .rw [By.fW,By.ki]
  .exact By.ki b J a c n
theorem By.jh{act:Dv->Dv × Nat}(h:∀U:Dv,(act U).1.d.n=U.d.n/\(act U).1.d.cn<=U.d.cn+m)(a:(b.op n act).1.dv n=some U):∃c,b.dv n=some c/\U.d.n=c.d.n/\U.d.cn<=c.d.cn+m:=by
 unfold By.op at a;split at a
 .refine ⟨U,?_,rfl,Nat.le_add_right _ _⟩;unfold By.off at a;split at a<;>exact a
 .split at a
  .rename_i d;exact absurd (d.symm.trans a) aJ
  .rename_i c d;have e:U=(act c.use).1:=by simpa[By.put]using a.symm
   subst e;exact⟨c,d,(h _).1.trans (Dv.CA c),QD (h _).2 (Nat.add_le_add_right (Dv.CB c) m)⟩
theorem ey(a:Nat)(f:aN)(v:Dv):(aR a f v).1.d.n=v.d.n/\(aR a f v).1.d.cn<=v.d.cn+1:=by
 unfold aR;split
 .exact ⟨rfl,US _⟩
 .exact ⟨rfl,QE _⟩
theorem dX(v:Dv):(be v).1.d.n=v.d.n/\(be v).1.d.cn<=v.d.cn+0:=by
 unfold be;split
 .exact ⟨rfl,QE _⟩
 .exact ⟨rfl,QO _⟩
theorem By.gH(b:By)(J:Nat)(d:aN)(e:dp):∀(n:Nat) (v:Dv),(b.db J d e n).1.dv J=some v->∃a,b.dv J=some a/\v.d.n=a.d.n/\v.d.cn<=a.d.cn+n
 |0,v,c=>⟨v,c,rfl,QE _⟩
 |n+1,v,c=>by
  unfold By.db at c;split at c
  .obtain ⟨h,i,j,l⟩:=By.jh (ey (d n) (e n)) c;obtain⟨a,f,g,k⟩:=By.gH b J d e n h i;exact⟨a,f,j.trans g,aa⟩
  .obtain ⟨a,f,g,k⟩:=By.gH b J d e n v c;exact⟨a,f,g,aa⟩
theorem By.CU(h:¬(b.db m f F k).2=0):∀n,k<=n->b.db m f F n=b.db m f F k:=by
 intro n c;induction n with
 |zero=>obtain rfl:k=0:=J;rfl
 |succ n a=>
  by_cases e:k=n+1
  .rw [e]
  .have:=a J;rw[By.db,this,al h]
def By.hM(b:By)(J:Nat)(a:aN)(c:dp)(n:Nat):By × Nat:=if(b.db J a c n).2=0 then(b.db J a c n).1.op J be else b.db J a c n
def Wl.cN(x:Wl)(c:Nat)(f:aN)(a:Nat):Wl:=if a=0 then{x with sure:=true,lg:=some (c,f),bad:=0}else{x with bad:=a}
theorem Wl.same{x:Wl}(h:x.bad=0):{x with bad:=0}=x:=by cases x;cases h;rfl
theorem fT.eI(h:fT X w v f):cA w v 128 f:=by obtain⟨b,o,e,rfl,i,j,h,a,c,d⟩:=h;exact⟨_,_,rfl,.inr ⟨b,o,a,c,rfl,d,λk g=>by rw[<-QS w b (o+k) a 5 c d];exact h k g⟩⟩
structure Jg[Lo](W r B J:Nat)(p:Option SR)(x:Wl)(b:By)(pl:aN)(sf:dp)(w:M)(k:Nat)(wr:M):Prop where
 ct:aC wr B (b.db J pl sf k).1
 kj:bH wr W r B J x
 bY:Fr fV aG w wr
 ok:(b.db J pl sf k).2=0
theorem Gi[Lo](X:Nat->Prop)(W r B J:Nat)(x:Wl)(b:By)(v:QC)(P:bW)(w:QA)(a7:bH w W r B J x)(h:aC w B b)(c7:J<b.N)(a5:nR X w v P)(d4:P.ok)(a8:1<=P.N)(d5:P.N<=1023)(a9:cM x.ep x.nx)(d6:∀v,b.dv J=some v->2+x.N<=v.d.n/\v.d.cn+10000<1000000000000)(h0:x.bad=0)(F:2*P.N+1<=x.N-x.u):
  aF 256 #[ar W,v] w (hK W r B J (x.cN (2*P.N+1) (bh x.ep x.nx P (2*P.N)) (b.hM J x.pl (bh x.ep x.nx P) (2*P.N)).2) (b.hM J x.pl (bh x.ep x.nx P) (2*P.N)).1 (b.hM J x.pl (bh x.ep x.nx P) (2*P.N)).2 w):=by
 obtain⟨p,y⟩:=a7;have a7:bH w W r B J x:=⟨p,y⟩;have d7:=y.ring.u;obtain⟨k0,f0,z0⟩:=cr y.aM;rw[h0]at k0;have Z:=ad (λ(Q:QA) (S:aq w Q)=>(tS X x.ep x.nx v P Q (a5.cV S) d4 a8 d5 a9).mono (R':=λe U=>∃H z,aL e (.tuple #[H,aH 0])/\jd w.heap.size (λ_=>False) U H (2*P.N+1) z (bh x.ep x.nx P)/\aq w U) (by rintro e U ⟨H,z,rfl,m,f⟩;exact⟨H,z,rfl,m.mono S.size (λ_ h=>h),S.trans (f.mono S.size)⟩));have d8:=ad a7;have d9:=ad h;have e0:=ad d6;have N:=ad y.ring;have G:=ad h0;obtain⟨pv,f2,f3,rfl,-⟩:=a5;obtain⟨d,M⟩:=ah (bh x.ep x.nx P);obtain⟨L,b0⟩:=ah (2*P.N);rw[M,b0]at Z;rw[b0]at F;have e1:L<=2046:=aa;rw[M,b0];go_enter func256,ntmps256;go_wp2_with fail;go_region_held3(λU=>U.cell? (ag W 2)=some (bg x.ep)/\U.cell? (ag W 4)=some (bg x.nx)) ((simp[*,go_sem];done)) (first|(go_at_call 302;refine(Z _ (by first|exact a_ aj|exact cK aj _)).mono ?_;rintro e Q ⟨H,z,rfl,m,f⟩;obtain⟨m0,f4,f5⟩:=kp f W z0;obtain⟨e2,b1,rfl,-⟩:=au m.own;have b2:=aB m f));have A:=b2.1;obtain⟨g,rfl⟩:∃g,e2=some (ag g 0):=by obtain⟨a,c,e,S⟩:=au A.own;cases e;exact S.resolve_left aa
 have c8:L+1<=b1:=by
  rcases A.own.2 with⟨e,_⟩|⟨f6,e3,e4,e,_,_,e5,_⟩
  .cases e
  .cases e;exact e5
 have j:Fr [] aG w Q:=Fr.af b2.2;have b3:=d8.fr j rfl rfl rfl rfl;have b4:=ad b3;have b5:=ad (d9.fn j rfl);have K:=ad (j.wide fV rfl);have b6:=ad (mC r x.N x.t x.u Q (N.fr j rfl));have b7:=ad (qS r x.N x.t x.u Q (N.fr j rfl));have d1:decide ((x.N:Int)<(L:Int)+1)=false:=aS;have d2:decide (((x.N-x.u:Nat):Int)<(L:Int)+1)=false:=aS;have i1:(L:Int)<=(b1:Int):=aa;have i2:(L:Int)+1<=(b1:Int):=aa;have i3:(0:Int)<=(L:Int):=aa;go_wp2_with(first|(go_at_call 299;refine b6.mono ?_;rintro e R ⟨rfl,rfl⟩)|(go_at_call 303;refine b7.mono ?_;rintro e R ⟨rfl,q,rfl⟩));have b8:QX (Jg W r B J p x b x.pl d R 0 (R.drewN q)):=⟨b5.fn (T:= []) ((Fr.refl _ _ _).drewN q) rfl,b4.fr (T:= []) ((Fr.refl _ _ _).drewN q) rfl rfl rfl rfl,(Fr.refl _ _ _).drewN q,rfl⟩;have b9:=ad b2.1;go_loopw [64] (λi wr=>∃k:Nat,i= ae k/\k<=L/\QX (Jg W r B J p x b x.pl d R k wr)) (λi _=>L-(intOf i).toNat)
 case atStart=>exact⟨0,rfl,QO _,b8⟩
 case round=>
  obtain⟨k,rfl,e6,n⟩:=hrel;have C:=n.bY.own b9.own rfl (λ_ _ h=>h);obtain⟨p2,c0⟩:=n.kj;obtain⟨k1,f1,z1⟩:=cr c0.aM;by_cases I:k<L
  .have a9:=(bC C (k:=k) (u:=z k) (by rw[cc _ _ _ aa])).1;have Y:cA wr (z k) 128 (d k):=(b9.sec k aa).eI.fr n.bY rfl;have a0:=qV W r B J k x (b.db J x.pl d k).1 (z k) (d k) wr n.kj n.ct (by rw[By.ki];exact c7) Y aa (λv a5=>by obtain⟨v0,m,f,D⟩:=By.gH b J x.pl d k v a5;have:=e0.out v0 m;exact⟨aa,aa⟩) G;have e7:b.db J x.pl d (k+1)=(b.db J x.pl d k).1.op J (aR (x.pl k) (d k)):=by rw[By.db,ak n.ok]
   obtain⟨a1,a2,a6⟩:=Y.form;rw[a6]at a9 a0;have c9:=ad e7;have c1:=ad a0;have d0:(k:Int)<(L:Int):=aa;go_wp2_with fail;refine c1.mono ?_;rintro e l ⟨rfl,m,f,D⟩;rw[<-c9.out]at m f;rw[<-c9.out];obtain⟨E,o⟩:=ah ((b.db J x.pl d (k+1)).2);rw[o];by_cases V:E=0
   .subst V;have c2:QX (Jg W r B J p x b x.pl d R (k+1) l):=⟨m,by rw[o,Wl.same G.out]at f;exact f,n.bY.tr D,o⟩;go_wp2;refine⟨⟨k+1,by go_num,I,c2⟩,by simp[intOf];omega⟩
   .have e8:b.hM J x.pl d L=b.db J x.pl d (k+1):=by
     have h1:¬(b.db J x.pl d (k+1)).2=0:=by rw[o];exact V
     have h2:=By.CU h1 L I;unfold By.hM;rw[h2,al h1]
    have s:QX (hK W r B J (x.cN (L+1) (d L) (b.hM J x.pl d L).2) (b.hM J x.pl d L).1 (b.hM J x.pl d L).2 w (.returned (aH E)) l):=by rw[e8];refine⟨by rw[o],m,?_,K.tr (n.bY.tr D)⟩;unfold Wl.cN;rw[o,al V];rw[o]at f;exact f
    have e9:(E:Int)≠0:=aa;go_wp2;go_ret;exact s
  .obtain rfl:k=L:=aa;have c3:=kJ W r B J x (b.db J x.pl d k).1 wr n.kj n.ct (by rw[By.ki];exact c7) G;have c4:=ad c3;have d3:QX (b.hM J x.pl d k=(b.db J x.pl d k).1.op J be):=ak n.ok;have a3:=ad C;go_wp2_with fail;refine c4.mono ?_;rintro e l ⟨rfl,m,f,D⟩;rw[<-d3.out]at m f;rw[<-d3.out];obtain⟨E,o⟩:=ah ((b.hM J x.pl d k).2);rw[o];by_cases V:E=0
   .subst V;have O:=D.own a3 rfl (λ_ _ h=>h);have c5:=(bC O (k:=k) (u:=z k) (by rw[cc _ _ _ aa])).1;have t:cA l (z k) 128 (d k):=((b9.sec k aa).eI.fr n.bY rfl).fr D rfl;obtain⟨a1,a2,a6⟩:=t.form;rw[a6]at c5;obtain⟨p3,f⟩:=f;obtain⟨k1,f1,z1⟩:=cr f.aM;have a4:=heap_setCell_same l W 5 _ 153 ec f.aM;have c6:=heap_setCell_same _ W 6 _ 153 (ar l.heap.size) a4;have j:Fr [153] aG l (((l.setCell (ag W 5) ec).setCell (ag W 6) (ar l.heap.size)).alloc (ao #[ae ((k+1:Nat):Int),.slice a1 128 a2] 385)):=(((Fr.refl _ _ _).set (p:=ag W 5) f.aM rfl f.lo.1 _).set (p:=ag W 6) a4 rfl f.lo.1 _).alloc _;have s:QX (hK W r B J (x.cN (k+1) (d k) (b.hM J x.pl d k).2) (b.hM J x.pl d k).1 (b.hM J x.pl d k).2 w (.returned (aH 0)) (((l.setCell (ag W 5) ec).setCell (ag W 6) (ar l.heap.size)).alloc (ao #[ae ((k+1:Nat):Int),.slice a1 128 a2] 385))):=by
     rw[o];refine⟨rfl,m.fn j rfl,⟨some (ag l.heap.size 0),?_,f.ring.fr j rfl,⟨l.heap.size,.slice a1 128 a2,rfl,?_,by rw[a6]at t;exact t.fr j rfl⟩,f.lo⟩,K.tr ((n.bY.tr D).tr (j.wide fV rfl))⟩
     .refine (QW _ _ _ (by simp only[RT];exact z1)).trans (c6.trans ?_);rw[o];rfl
     .have:=QB ((l.setCell (ag W 5) ec).setCell (ag W 6) (ar l.heap.size)) (ao #[ae ((k+1:Nat):Int),.slice a1 128 a2] 385);simp only[RT]at this;exact this
    have i4:(k:Int)<(k:Int)+1:=aa;go_wp2;go_ret;exact s
   .have s:QX (hK W r B J (x.cN (k+1) (d k) (b.hM J x.pl d k).2) (b.hM J x.pl d k).1 (b.hM J x.pl d k).2 w (.returned (aH E)) l):=by
     refine⟨by rw[o],m,?_,K.tr (n.bY.tr D)⟩;unfold Wl.cN;rw[o,al V];rw[o]at f;exact f
    have e9:(E:Int)≠0:=aa;go_wp2;go_ret;exact s
def Wl.fresh(N a:Nat):Wl:=⟨a,1,true,none,0,N,0,0⟩
def Ll[Lo](d B J N c:Nat)(b:By)(w:M)(e:RV)(a:M):Prop:=
 ∃W r,aL e (.tuple #[ar W,aH 0])/\aC a B b/\bH a W r B J (Wl.fresh N c)/\Fr fV aG w a/\w.heap.size<=W/\w.heap.size<=r
theorem oa(w:M)(n:Nat)(h:n<=1000000):(SY 41 (Y (n:Int)) (Y (n:Int))).run prog w=.ok (a' w.heap.size n n) (w.alloc (N (cw n λ_=>0) 5)):=by
 obtain⟨d,f,a,b,c⟩:=SB kg;have:=run_make (P:=prog) w 41 5 d (.int .u8 0) UO f a .i64 .i64 n n J J (by rw[c];omega) J;rw[this,b,TX];show YT _ (w.alloc (N (TN #[.int .u8 0] n) 5))=_;have e:TN #[.int .u8 0] n=cw n λ_=>0:=by
  apply Array.ext
  .simp [TN,cw]
  .intro i g j;have:i%1=0:=YE i;simp[TN,cw,this]
 rw[e];rfl
theorem qX(w:M)(n:Nat)(f:aN):cA (w.alloc (N (cw n f) 5)) (a' w.heap.size n n) n f:=
 ⟨_,_,rfl,.inr ⟨w.heap.size,0,_,_,rfl,QB _ _,λk a=>by rw[RE];exact dV _ _ _ a⟩⟩
structure Jh[Lo](W r B J N ep:Nat)(b:By)(w:M)(k:Nat)(wr:M):Prop where
 ct:aC wr B (b.db J (fun p=>2+p) (fun _ _=>0) k).1
 kj:bH wr W r B J (Wl.fresh N ep)
 bY:Fr fV aG w wr
theorem Au[Lo](B J N a:Nat)(b:By)(w:QA)(h:aC w B b)(A:Lo.lo<=w.heap.size)(Y:J<b.N)(h5:5<=N)(d:N<=2048)(C:a<=4611686018427387904)(a5:∀v,b.dv J=some v->2+N<=v.d.n/\v.d.cn+10000<1000000000000)(D:∀k,k<=N->(b.db J (λp=>2+p) (λ_ _=>0) k).2=0)(c:((b.db J (λp=>2+p) (λ_ _=>0) N).1.ck J (aV a 1 0)).2=0):
  aF 53 #[ar B,ae J,ae N,.int .u64 a] w (Ll 0 B J N a ((b.db J (λp=>2+p) (λ_ _=>0) N).1.ck J (aV a 1 0)).1 w):=by
 have E:=ad (uu N w h5 d);have F:=ad (uq N 0 0 w h5 d aa aa);have d1:decide (4611686018427387904<(a:Int))=false:=aS;have a9:∀w,(SY 41 (ae 128) (ae 128)).run prog w=.ok (a' w.heap.size 128 128) (w.alloc (ao (cw 128 λ_=>0) 5)):=λw=>oa w 128 aa;have a6:=ad h;have a0:=ad a5;have n:=ad D;have q:=ad c;have G:=ad C;go_enter func53,ntmps53;go_wp2_with(first|(go_at_call 83;refine E.mono ?_;rintro e l ⟨rfl,rfl⟩)|(go_at_call 84;refine F.mono ?_;rintro e l ⟨rfl,f,g⟩;have K:=aB f g));obtain⟨z,c⟩:=ah (l.alloc (ao #[ar B,ae J,bg a,ar w.heap.size,.int .u64 1,.bool true,.pointer none,aH 0] 153));have s:aq w z:=by rw[<-c];exact aK K.2 _
 have L:aX z l.heap.size (ao #[ar B,ae J,bg a,ar w.heap.size,.int .u64 1,.bool true,.pointer none,aH 0] 153):=by rw[<-c];exact QB _ _
 have j:ZY z w.heap.size N 0 0:=by rw[<-c];exact K.1.cV (aK aj _)
 have a1:w.heap.size<=l.heap.size:=K.2.size;have t:QX (Jh l.heap.size w.heap.size B J N a b w 0 z):=⟨a6.below s,⟨none,L,j,rfl,aa,A⟩,Fr.af s⟩;rw[c];obtain⟨W,a2⟩:=ah l.heap.size;obtain⟨r,O⟩:=ah w.heap.size;have P:r<=W:=aa;have u:=ad O;rw[a2,O]at t;rw[a2,O];go_loopw [38] (λi wr=>∃k:Nat,i= ae k/\k<=N/\QX (Jh W r B J N a b w k wr)) (λi _=>N-(intOf i).toNat)
 case atStart=>exact⟨0,rfl,QO _,t⟩
 case round=>
  obtain⟨k,rfl,Q,m⟩:=hrel;by_cases x:k<N
  .have a7:=λo=>(Fr.refl fV aG wr).alloc o;have S:=kI W r B J (2+k) (Wl.fresh N a) (b.db J (λp=>2+p) (λ_ _=>0) k).1 (a' wr.heap.size 128 128) (λ_=>0) (wr.alloc (ao (cw 128 λ_=>0) 5)) (m.kj.fr (T:= []) ((Fr.refl _ _ _).alloc _) rfl rfl rfl rfl) (m.ct.fn (T:= []) ((Fr.refl _ _ _).alloc _) rfl) (by rw[By.ki];exact Y) (qX _ _ _) (λv U=>by obtain⟨V,f,g,y⟩:=By.gH b J _ _ k v U;have:=a0.out V f;exact⟨aa,aa⟩) rfl;have X:=ad S;have a3:QX (b.db J (λp=>2+p) (λ_ _=>0) (k+1)=(b.db J (λp=>2+p) (λ_ _=>0) k).1.op J (aR (2+k) λ_=>0)):=by show _=_;rw[By.db,ak (n.out k Q)]
   have e1:QG.wrap (2+(k:Int))=(2+k:Nat):=bs;have a4:(k:Int)<(N:Int):=aa;go_wp2_with fail;refine X.mono ?_;rintro e Z ⟨rfl,f,g,y⟩;have H:=n.out (k+1) x;rw[a3.out]at H;rw[H]at g;rw[H];rw[<-a3.out]at f;have M:QX (Jh W r B J N a b w (k+1) Z):=⟨f,g,m.bY.tr (((Fr.refl _ _ _).alloc _).tr y)⟩;go_wp2;refine⟨⟨k+1,by go_num,x,M⟩,by simp[intOf];omega⟩
  .obtain rfl:k=N:=aa;have R:=CS W r B J a 1 0 (Wl.fresh k a) (b.db J (λp=>2+p) (λ_ _=>0) k).1 wr m.kj m.ct (by rw[By.ki];exact Y) ⟨G,aa,aa⟩ aa (λv U=>by obtain⟨V,f,g,y⟩:=By.gH b J _ _ k v U;have:=a0.out V f;exact⟨by show 2+k<=_;omega,aa⟩) rfl;have I:=ad R;go_wp2_with fail;refine I.mono ?_;rintro e Z ⟨rfl,f,g,y⟩;rw[q.out]at g;rw[q.out];have a8:QX (Ll 0 B J k a ((b.db J (λp=>2+p) (λ_ _=>0) k).1.ck J (aV a 1 0)).1 w (.returned (.tuple #[ar W,aH 0])) Z):=⟨W,r,rfl,f,g,m.bY.tr y,by rw[u.out];exact P,by rw[u.out];exact QE _⟩;go_wp2;go_ret2;exact a8
theorem Ji(a b:Nat)(e:a<256)(f:b<256):bits .xor .u8 (a:Int) (b:Int)=((a^^^b:Nat):Int):=by
 have g:a^^^b<2^8:=XT J J;have c:(UK 8 (a:Int)).toNat=a:=by rw[WX,XK];exact SA J
 have d:(UK 8 (b:Int)).toNat=b:=by rw[WX,XK];exact SA J
 show IntKind.u8.wrap ((UK 8 (a:Int)^^^UK 8 (b:Int)).toNat:Int)=_;rw[BitVec.toNat_xor,c,d,IntKind.wrap_u8];omega
structure ji(w:M)(sb g L:Nat)(f:aN)(many:Nat):Prop where
 ne:sb≠g
 hs:w.heap[sb]? =some (N #[a' g L L,Y many] 442)
 hg:w.heap[g]? =some (N (cw L f) 5)
 lt:∀k,k<L->f k<256
theorem ji.cV(h:ji w n m k f i)(a:aq w W):ji W n m k f i:=
 ⟨h.ne,(a.block _ (cr h.hs).2.2).trans h.hs,(a.block _ (cr h.hg).2.2).trans h.hg,h.lt⟩
def xo(f h:aN)(k:Nat):Nat:=f k^^^h k
theorem Ib(a:m<256)(b:k<256):m^^^k<256:=XT (n:=8) J J
def ux(w:M)(v:H)(n:Nat)(h:aN)(d g:Nat):Prop:=
 (∀k,k<n->h k<256)/\∃a c,v=.slice a n c/\(n=0\/∃b o,a=some (R b o)/\b≠d/\b≠g/\∀k,k<n->w.cell? ⟨b,o+k,none⟩=some (.int .u8 (h k)))
theorem w_(v:H)(h:aN)(q g L:Nat)(f:aN)(c:Nat)(w:M)(t:ji w q g L f c)(u:ux w v L h q g)(O:L<=200000)(P:c<=200000):
  aF 321 #[ar q,v] w λe D=>aL e (aH 0)/\ji D q g L (xo f h) (c+1)/\Out (λk=>k=q\/k=g) w D:=by
 obtain⟨d,a,F,rfl,u⟩:=u;obtain⟨Q,f0,S⟩:=cr t.hs;have s:=I t;have G:=I u;have y:=I d;have j:=t.ne;have T:((L:Int) !=(L:Int))=false:=aJ;go_enter func321,ntmps321;go_wp2;go_loopw [17] (λr wr=>∃k:Nat,k<=L/\r= Y k/\ji wr q g L (λi=>if i<k then f i^^^h i else f i) c/\Out (λk=>k=q\/k=g) w wr) (λr _=>L-(intOf r).toNat)
 case atStart=>exact⟨0,J,rfl,by simpa using s.out,Out.refl _ _⟩
 case round=>
  obtain⟨k,U,rfl,l,z⟩:=hrel;obtain⟨V,f1,W⟩:=cr l.hs;have m:=I l;by_cases d:k<L
  .rcases G.out with X|⟨b,o,rfl,A,B,K⟩
   .omega
   have d1:=z.cell (K k d) (λe=>e.elim A B);have d2:=(cr l.hg).1 k;rw[dV _ _ _ d,al (TL k)]at d2;have d3:=(cr l.hg).2.1 k;have n:=Ji (f k) (h k) (s.lt k d) (y k d);have C:=I z;go_wp2;go_roundw
   case rel=>
    refine⟨k+1,J,by go_num,⟨j,?_,?_,?_⟩,C.setCell (p:=R g k) (λ_=>.inr rfl) _⟩
    .rw [RJ _ _ _ _ (by simpa using j)];exact m.hs
    .refine (heap_setCell_same _ _ _ _ _ _ m.hg).trans ?_;rw[tw];congr 2;refine kz _ _ _ (λx _=>?_);by_cases e:x=k
     .subst e;rw[ak rfl,ak J]
     .rw [al e];by_cases E:x<k
      .rw [ak E,ak J]
      .rw [al E,al J]
    .intro x n;show(if x<k+1 then f x^^^h x else f x)<256;split
     .exact Ib (s.lt x n) (y x n)
     .exact s.lt x n
   case measure=>simp[intOf];omega
  .obtain rfl:k=L:=J;have C:=I z;go_wp2;go_ret;refine⟨rfl,⟨j,?_,?_,?_⟩,C.setCell (p:=R q 1) (λ_=>.inl rfl) _⟩
   .refine (heap_setCell_same _ _ _ _ _ _ m.hs).trans ?_;simp
   .rw [RJ _ _ _ _ (by simpa usingλe=>j e.symm)];refine m.hg.trans ?_;congr 2;exact kz _ _ _ (λx n=>by rw[ak n];rfl)
   .intro x n;exact Ib (s.lt x n) (y x n)
theorem qY(d g L:Nat)(f:aN)(a:Nat)(w:M)(h:ji w d g L f a)(n:L<=200000):
  aF 322 #[ar d] w (sj L f w):=by
 obtain⟨o,f0,p⟩:=cr h.hs;have i:=I (cr h.hg).1;go_enter func322,ntmps322;go_wp2_with fail;refine(eC g 0 L L f _ (λk j=>by rw[RE,i.out k,dV _ _ _ j]) J).mono ?_;rintro e q ⟨v,rfl,b,l⟩;have m:=I b;have c:=I l;go_wp2;go_ret;exact⟨v,rfl,m,c⟩
def Lm(n:Nat)(w:M)(e:RV)(b:M):Prop:=∃a g,aL e (.tuple #[ar a,aH 0])/\ji b a g n (λ_=>0) 0/\w.heap.size<=a/\w.heap.size<=g/\aq w b
theorem yL(n:Nat)(w:M)(h:n<=4096):aF 320 #[Y n] w (Lm n w):=by have a:=λw=>oa w n J;have d1:decide ((n:Int)<0)=false:=aJ;have d2:decide (4096<(n:Int))=false:=aS;go_enter func320,ntmps320;go_wp2;go_ret2;exact⟨w.heap.size+1,w.heap.size,rfl,⟨J,eZ _ _ _,(e_ _ _ _),λ_ _=>J⟩,J,QE _,aK (aK aj _) _⟩
def Ic(w:QA)(v:H)(M:Nat)(P:Nat->Bool)(f:dp):Prop:=
 ∃b o d e g,v=.slice (some (R b o)) M d/\w.heap[b]?=some (.cells e 41 g)/\∀m,m<M->∃a n c,e[o+m]?=some (.slice a n c)/\(P m=true->cA w (.slice a n c) 128 (f m))
theorem Ic.below{P:Nat->Bool}(h:Ic w v k P F)(f:aq w W):Ic W v k P F:=by obtain⟨b,o,d,i,j,e,g,l⟩:=h;refine⟨b,o,d,i,j,e,(f.block b (Z_ g)).trans g,λm p=>?_⟩;obtain⟨a,n,c,q,r⟩:=l m p;exact⟨a,n,c,q,λs=>(r s).below f⟩
theorem mE(h:cA W v 128 f)(d:aq W w)(e:∀k,k<128->f k<256)(r:W.heap.size<=n)(s:W.heap.size<=m):ux w v 128 f n m:=by obtain⟨a,g,rfl,h⟩:=h;obtain⟨b,o,i,j,rfl,c,l⟩:=h.resolve_left ai;have p:=Z_ c;exact⟨e,_,_,rfl,.inr ⟨b,o,rfl,J,J,λk q=>(QS w b (o+k) i 5 j ((d.block b p).trans c)).trans (l k q)⟩⟩
theorem Av(h:dR W v f)(a:aq W w)(b:∀k,k<128->f k<256)(c:W.heap.size<=n)(d:W.heap.size<=m):ux w v 128 f n m:=mE h.eI a b c d
def Ns(f:aN)(w:M)(e:RV)(a:M):Prop:=∃v,aL e (.tuple #[v,aH 0])/\dR a v f/\aq w a
theorem CV(g:aA)(r f:Nat)(v:QC)(l:dp)(w:QA)(H:g.ok)(b6:r<g.R)(b7:f<g.M)(h:Ic w v g.M (λm=>decide (m≠f)) l)(b8:∀m k,m<g.M->k<128->l m k<256):
  aF 294 #[g.V,ae r,ae f,v] w (Ns (λk=>xs (λm=>decide (m≠f)) (λm=>l m k) g.M) w):=by
 have M:=H.m16;have h3:=H.m3;have R:=ad (λ(w:QA)=>yH H b7 b6 w);have b9:=ad (λ(W:QA) (I:aq w W)=>h.below I);have c8:=ad h;have c9:=ad b8;obtain⟨b,o,Y,e0,e1,rfl,I,d0⟩:=h;obtain⟨K,e3,e4⟩:=g;simp only at b7 M h3;clear H b8 b6 I d0;go_enter func294,ntmps294;go_wp2_with(first|(go_at_call 131;refine(R _).mono ?_;rintro e N ⟨x,y,rfl,A⟩;obtain⟨k0,f0,z0⟩:=kp A w.heap.size dG;have B:=ad ((aK aj _).trans (A.mono aJ));clear A)|(go_at_call 320;refine(yL 128 _ ai).mono ?_;rintro e w2 ⟨O,P,rfl,c0,Q,T,p⟩;have L:=aY c0 Q T p;clear c0 Q T p));go_loopw [39] (λi wr=>∃(k d:Nat),i= ae k/\k<=K/\d<=k/\QX (aq N wr)/\QX (ji wr O P 128 (λj=>xs (λm=>decide (m≠f)) (λm=>l m j) k) d)) (λi _=>K-(intOf i).toNat)
 case atStart=>exact⟨0,0,rfl,QO _,QE _,L.2.2.2,L.1⟩
 case round=>
  obtain⟨k,d,rfl,e5,d3,U,z⟩:=hrel;have s:aq w wr:=B.trans (U.mono B.size);by_cases t:k<K
  .obtain ⟨e6,e7,c3,J,a0,d4,C,D⟩:=b9.out _ s;cases d4;obtain⟨a,n,c,c1,c4⟩:=D k t;have d1:=(QS wr b (o+k) J 41 a0 C).trans c1;by_cases e:k=f
   .have d2:((k:Int) !=(f:Int))=false:=by simp[e]
    have d5:QX (ji wr O P 128 (λj=>xs (λm=>decide (m≠f)) (λm=>l m j) (k+1)) d):=by
     have:(λj=>xs (λm=>decide (m≠f)) (λm=>l m j) (k+1))=λj=>xs (λm=>decide (m≠f)) (λm=>l m j) k:=by funext j;simp only[xs];simp[e]
     show ji _ _ _ _ _ _;rw[this];exact z
    clear e D C c1 s;go_wp2_with fail;exact⟨⟨k+1,d,by go_num,t,aa,U,d5⟩,by simp[intOf];omega⟩
   .have d2:((k:Int) !=(f:Int))=true:=by rw[bne,sr];simp[e]
    have V:ux wr (.slice a n c) 128 (l k) O P:=by
     obtain⟨e8,e9,c5,d6,d7,d8,_⟩:=c8.out;cases d8;have a1:Ic N (.slice (some (ag b o)) K Y) K (λm=>decide (m≠f)) l:=b9.out _ B;obtain⟨b2,o2,c6,a3,a4,e2,p,a5⟩:=a1;cases e2;obtain⟨a2,n2,c2,a6,E⟩:=a5 k t;have:(some (RR a n c):Option QC)=some (.slice a2 n2 c2):=by rw[<-d1,QS wr b (o+k) a3 41 a4 ((U.block b (Z_ p)).trans p),a6]
     cases this;exact mE (E (by simp[e])) U (λj d9=>c9.out k j t d9) L.2.1 L.2.2.1
    have a7:=ad (w_ (.slice a n c) (l k) O P 128 _ d wr z V ai aa);have a8:QX ((xo (λj=>xs (λm=>decide (m≠f)) (λm=>l m j) k) (l k))=λj=>xs (λm=>decide (m≠f)) (λm=>l m j) (k+1)):=by show _=_;funext j;simp only[xs,xo];simp[e]
    clear e D C c1 s V;go_wp2_with(go_at_call 321;refine a7.mono ?_;rintro e w3 ⟨rfl,G,zL⟩;rw[a8.out]at G;have a9:=ad G;have b0:QX (aq N w3):=(Out.trans (S:=λq=>N.heap.size<=q) (Out.af U) zL λq _ b1=>by have h1:=L.2.1;have h2:=L.2.2.1;rcases b1 with b1|b1<;>omega).below (λ_ _ h=>h) (QE _);clear G zL);go_wp2;exact⟨⟨k+1,d+1,by go_num,t,aa,b0,a9⟩,by simp[intOf];omega⟩
  .obtain rfl:k=K:=aa;obtain⟨F,hF⟩:=ah (λj=>xs (λm=>decide (m≠f)) (λm=>l m j) k);rw[hF]at z;have b3:=ad hF;have b4:=ad (qY O P 128 F d wr z ai);have X:=ad s;clear hF s;go_wp2_with(go_at_call 322;refine b4.mono ?_;rintro e w3 ⟨u,rfl,b5,Z⟩;have c7:=aB (eR b5) Z;obtain⟨f1,f2,rfl,-⟩:=au b5;clear b5 Z);go_ret2;exact⟨_,rfl,by rw[b3.out];exact c7.1,X.trans (c7.2.mono X.size)⟩
def ez(b:List Nat)(c:dp)(k:Nat):Nat:=b.foldl (λa m=>a^^^c m k) 0
def fI(a:aN)(l:List Pt)(k:Nat):Nat:=l.foldl (λx p=>x^^^p.2.2 k) (a k)
theorem xa(a:List Nat)(b:dp)(m:Nat):xo (ez a b) (b m)=ez (a++ [m]) b:=by funext k;simp[xo,ez,List.foldl_append]
theorem xb(a:aN)(l:List Pt)(p:Pt):xo (fI a l) p.2.2=fI a (l++ [p]):=by funext k;simp[xo,fI,List.foldl_append]
theorem ji.out{w w1:M}(h:ji w n m k f i)(a:Out S w w1)(b:¬S n)(c:¬S m):ji w1 n m k f i:=
 ⟨h.ne,a.heap h.hs b,a.heap h.hg c,h.lt⟩
def Aw(b:M)(B:Nat)(w:M)(v:H)(l:List Pt):Prop:=
 ∃a:List H,a.length=l.length/\w.ownsRow B 206 3 v l.length (dg l a)/\∀(i:Nat) (p:Pt) (u:H),l[i]?=some p->a[i]?=some u->dR b u p.2.2
theorem Aw.out{a w w1:M}(h:Aw a n w v l)(b:Out S w w1)(c:∀k,v.ownBlock=some k->¬S k):Aw a n w1 v l:=by obtain⟨d,e,f,g⟩:=h;exact⟨d,e,b.own f c,g⟩
theorem Aw.Pu(h:Aw W n w v l)(a:aq W w):fa n w v l:=by obtain⟨b,c,d,e⟩:=h;exact⟨b,c,d,λi p u f g=>(e i p u f g).below a⟩
theorem Aw.lt(h:Aw W n w v l)(a:v.ownBlock=some k):n<=k:=by obtain⟨c,d,b,e⟩:=h;exact(bo b a).2
def jj(a:Nat->Bool)(l:List Pt)(r par:Nat)(S:aN):List Pt:=(l.filter λp=> !a p.1)++if a par=true then[]else[(par,r,S)]
def Nt(L:List Pt)(w:M)(e:RV)(b:M):Prop:=∃v a,aL e (.tuple #[v,aH 0])/\e' b v a/\a.Perm L/\(a.Pairwise λp q=>p.1<q.1)/\aq w b
theorem Gj(g:aA)(f:Nat->Bool)(l:List Pt)(r:Nat)(o8 pv j5 k7:QC)(Z:dp)(w:QA)(g9:g.ok)(h1:Af w o8 g.M f)(h2:e' w pv l)(h3:qf w j5 (cX g.M f l (g.par r)))(h4:Ic w k7 g.M (λm=>(cX g.M f l (g.par r)).contains m) Z)(o9:np g r l)(s8:∀i j,i<g.M->j<g.M->f i=true->f j=true->i=j)(s9:l.length<=g.M-1)(t3:∀m k,m<g.M->k<128->Z m k<256)(H:∀p,p∈l->∀k,k<128->p.2.2 k<256)(k8:∀m,m∈cX g.M f l (g.par r)->m<g.M)(p0:(cX g.M f l (g.par r)).length<=16):
  aF 301 #[g.V,o8,.agg #[ae r,.int .u8 (dW g.M f l (g.par r):Nat),ae (g.par r:Nat),pv,j5],k7] w (Nt (jj f l r (g.par r) (fI (ez (cX g.M f l (g.par r)) Z) l)) w):=by
 have h0:=g9.m16;have p1:=g9.m3;have a6:=aA.iV g9 r;have x5:=ad g9;have p2:=ad (λ(w:QA)=>fp g9 w);have p3:=ad (λ(W:QA) (b8:aq w W)=>CJ g f l r o8 pv W g9 (h1.below b8) (h2.below b8) o9 s8 s9);have u8:=ad h1;have u9:=ad h2;have t4:=ad h3;have t5:=ad h4;have p4:=ad o9;have o7:=aT t3 H k8;have c9:QX (∀W e k9,Lh g f l r W e k9->∃pv j5,aL e (.tuple #[.agg #[ae r,.int .u8 (dW g.M f l (g.par r):Nat),ae (g.par r:Nat),pv,j5],aH 0])/\e' k9 pv l/\qf k9 j5 (cX g.M f l (g.par r))/\aq W k9):=λW e k9 h=>h;obtain⟨v0,h5⟩:=ah (dW g.M f l (g.par r));obtain⟨o,a7⟩:=ah (cX g.M f l (g.par r));obtain⟨par,d0⟩:=ah (g.par r);have p5:=ad d0;rw[a7]at t4 t5 o7 p0 c9 h3 h4;rw[h5]at c9;rw[d0]at c9 a6;rw[h5,a7,d0];have p6:=ad (λ(h6 h7:QC) (W:QA) (b8:aq w W) (g1:e' W h6 l) (g2:qf W h7 o)=>F_ r v0 par pv j5 h6 h7 l o W (u9.below b8) (t4.below b8) g1 g2 aa aa);obtain⟨x6,x7,rfl,l0⟩:=h1;obtain⟨x8,x9,rfl,-⟩:=h2;obtain⟨y0,y1,rfl,-⟩:=h3;obtain⟨t6,v1,t7,v2,v3,rfl,-⟩:=h4;have v4:=ad l0;obtain⟨t8,l1,l2,l3,l4⟩:=SB Aj;obtain⟨t9,y2,y3⟩:=g;simp only at h0 p1 a6 s9;clear g9 o9 s8 t3 H k8 h5 a7 d0 l0;go_enter func301,ntmps301;go_wp2_with(first|(go_at_call 26;refine(p2 _).mono ?_;rintro e w1 ⟨rfl,d1⟩;obtain⟨k0,f0,z0⟩:=kp d1 w.heap.size aS;obtain⟨k1,f1,z1⟩:=kp d1 (w.heap.size+1) aJ;have h8:=ad ((aK (aK aj _) _).trans (d1.mono aS));clear d1)|(go_at_call 300;refine(p3 _ h8).mono ?_;intro e w2 j6;obtain⟨h6,h7,rfl,g1,g2,g3⟩:=c9.out _ _ _ j6;obtain⟨k2,f2,z2⟩:=kp g3 (w.heap.size+1) z1;obtain⟨k3,f3,z3⟩:=kp g3 w.heap.size z0;have l5:=aT g1 g2 g3;obtain⟨a2,c2,rfl,-⟩:=g1;obtain⟨a3,c3,rfl,-⟩:=g2;have h9:=ad (h8.trans (l5.2.2.mono h8.size));clear j6 g3)|(go_at_call 331;refine(p6 _ _ _ (aK h9 _) (l5.1.below (aK aj _)) (l5.2.1.below (aK aj _))).mono ?_;rintro e N ⟨rfl,M⟩;obtain⟨k4,f4,z4⟩:=kp M w2.heap.size aJ;obtain⟨k5,f5,z5⟩:=kp M w.heap.size aS;have i0:=ad ((aK (SU w2.heap.size w2) _).trans (M.mono aJ));have l6:=ad ((M.block w2.heap.size aJ).trans (QB w2 _));clear M)|(go_at_call 320;refine(yL 128 _ ai).mono ?_;rintro e w4 ⟨b9,c0,rfl,u0,l7,l8,i1⟩;obtain⟨k6,f6,z6⟩:=kp i1 w2.heap.size z4;have c7:=aY u0 l7 l8 i1;clear u0 l7 l8 i1));have l9:w2.heap.size<N.heap.size:=z4;have J:aq w N:=h9.trans (i0.mono h9.size);have p7:=ad (l5.1.below i0);have p8:=ad (l5.2.1.below i0);have p9:=ad (t5.below J);have m0:=ad (u8.below J);have a8:=ad J;clear k0 z0 k1 z1 k2 z2 k3 z3 k4 z4 k5 k6 J;go_loopw [56] (λi wr=>∃(k s:Nat),i= ae k/\k<=o.length/\s<=k/\QX (aq N wr)/\QX (ji wr b9 c0 128 (ez (o.take k) Z) s)) (λi _=>o.length-(intOf i).toNat)
 case atStart=>exact⟨0,0,rfl,QO _,QE _,c7.2.2.2,c7.1⟩
 case round=>
  obtain⟨k,s,rfl,y4,v5,R,m1⟩:=hrel;by_cases H:k<o.length
  .obtain ⟨m,h0⟩:∃m,o[k]?=some m:=⟨_,QQ H⟩;have m2:m<t9:=o7.2.2 m (QV h0);obtain⟨i2,m3,a9,b0,rfl,I,b1⟩:=(show _\/_ from by obtain⟨_,_,e,h⟩:=p8.out;cases e;exact h).resolve_left (by intro e;rw[e]at H;simp at H);have c1:=(QS wr i2 (m3+k) a9 3 b0 ((R.block i2 (Z_ I)).trans I)).trans (b1 k m h0);obtain⟨y5,y6,u1,q0,q3,v6,i3,m4⟩:=p9.out;cases v6;obtain⟨a,n,c,m5,g5⟩:=m4 m m2;have m6:=(QS wr t6 (v1+m) q0 41 q3 ((R.block t6 (Z_ i3)).trans i3)).trans m5;have m7:=g5 (by simpa using QV h0);have m8:ux wr (.slice a n c) 128 (Z m) b9 c0:=mE m7 R (λj u2=>o7.1 m j m2 u2) c7.2.1 c7.2.2.1;have d2:=ad (w_ (.slice a n c) (Z m) b9 c0 128 _ s wr m1 m8 ai aa);have d3:QX (xo (ez (o.take k) Z) (Z m)=ez (o.take (k+1)) Z):=by show _=_;rw[xa,UG,h0];rfl
   clear h0 I b1 i3 m4 m5 g5 m7 m8;go_wp2_with(go_at_call 321;refine d2.mono ?_;rintro e w5 ⟨rfl,C,z⟩;rw[d3.out]at C;have q4:=ad C;have q5:QX (aq N w5):=(Out.trans (S:=λq=>N.heap.size<=q) (Out.af R) z λq _ O=>by have h1:=c7.2.1;have h2:=c7.2.2.1;rcases O with O|O<;>omega).below (λ_ _ h=>h) (QE _);clear C z);go_wp2;exact⟨⟨k+1,s+1,by go_num,H,aa,q5,q4⟩,by simp[intOf];omega⟩
  .obtain rfl:k=o.length:=aa;obtain⟨K,rfl⟩:∃K:QA,K=wr:=⟨_,rfl⟩;have a0:=m1;rw[UB]at a0;have i4:=(R.block _ l9).trans l6;obtain⟨t0,t1,t2⟩:=cr i4;have v7:=ad i4;clear i4;go_wp2_with fail;have d4:b9<K.heap.size/\c0<K.heap.size:=⟨Z_ a0.hs,Z_ a0.hg⟩;have m9:=R.size;have n0:QX (Aw N K.heap.size K aO ((l.take 0).filter λp=> !f p.1)):=⟨[],rfl,SD _ _ _ _,λi p u h=>by simp at h⟩;clear t0;go_loopw [18,72] (λv8 i wr=>∃(j s:Nat),i= ae j/\j<=l.length/\s<=100+j/\QX (aq N wr)/\K.heap.size<=wr.heap.size/\QX (ji wr b9 c0 128 (fI (ez o Z) (l.take j)) s)/\QX (Aw N K.heap.size wr v8 ((l.take j).filter λp=> !f p.1))) (λ_ i _=>l.length-(intOf i).toNat)
   case atStart=>exact⟨0,s,rfl,QO _,aa,R,QE _,a0,n0⟩
   case round=>
    obtain⟨j,n1,rfl,u2,v9,A,q6,d5,d6⟩:=hrel;clear n0;by_cases T:j<l.length
    .obtain ⟨p,hp⟩:∃p,l[j]?=some p:=⟨_,QQ T⟩;obtain⟨i2,m3,a9,b0,rfl,I,b1⟩:=(show _\/_ from by obtain⟨_,_,e,_,h⟩:=p7.out;cases e;exact h).resolve_left (by intro e;rw[e]at T;simp at T);obtain⟨g1,g2,u,g3,g4⟩:=b1 j p hp;have d7:=(A.block i2 (Z_ I)).trans I;have c1:=(QS wr i2 (m3+j*3) a9 206 b0 d7).trans g1;have m6:=(QS wr i2 (m3+j*3+1) a9 206 b0 d7).trans g2;have q7:=(QS wr i2 (m3+j*3+2) a9 206 b0 d7).trans g3;obtain⟨i5,q8,q9⟩:=p4.ax hp;simp only at i5;have n2:=o7.2.1 p (QV hp);obtain⟨j7,j8,j9,rfl⟩:=g4.form;obtain⟨c8,a1,i6,i7,rfl,E,a4⟩:=(show _\/_ from by obtain⟨_,_,e,h⟩:=m0.out;cases e;exact h).resolve_left aa;have c4:=(QS wr c8 (a1+p.1) i6 4 i7 ((A.block c8 (Z_ E)).trans E)).trans (a4 p.1 i5);obtain⟨X,y7,b2,d8⟩:=qi wr (ao #[ae p.1,ae p.2.1,.slice (some (ag j7 j8)) 128 j9] 206);have g6:aq N X:=A.trans (b2.mono A.size);have d2:=ad (w_ (.slice (some (ag j7 j8)) 128 j9) p.2.2 b9 c0 128 _ n1 X (d5.cV b2) (Av g4 g6 n2 c7.2.1 c7.2.2.1) ai aa);have d3:QX (xo (fI (ez o Z) (l.take j)) p.2.2=fI (ez o Z) (l.take (j+1))):=by show _=_;rw[xb,UG,hp];rfl
     have a5:QX ((l.take (j+1)).filter (λp=> !f p.1)=(l.take j).filter (λp=> !f p.1)++if f p.1=true then[]else[p]):=by show _=_;rw[UG,hp,List.filter_append];cases r3:f p.1<;>simp[r3]
     have i8:=d6.out;obtain⟨us,G,B,U⟩:=i8;have b3:((l.take j).filter λp=> !f p.1).length<=j:=QD (VI _ _) (List.length_take_le _ _);obtain⟨d9,b4⟩:=ah ((l.take j).filter (λp=> !f p.1));rw[b4]at G B U b3 a5;obtain⟨n,i9⟩:=ah d9.length;rw[i9]at G B b3;obtain⟨e0,e4,rfl,-⟩:=au B;have d:=ca G B U i9 b2;have r4:=aB d8 g4;obtain⟨x0,x1,x2⟩:=cr d8;have c5:=((kp b2 c8 (by have:=Z_ E;have:=A.size;omega)).1 (a1+p.1)).trans c4;have u3:=Z_ E;have u4:=A.size;obtain⟨y,e5⟩:=ah (f p.1);rw[e5]at c5 a5;obtain⟨n3,r5,y8⟩:=p;simp only at c1 m6 q7 c5 i5 d8 x0;clear hp I b1 g1 g2 g3 g4 d7 q8 q9 n2 E a4 c4 b2 d8 g6 G B U b4 i9 e5;have u5:=c7.2.1;have u6:=c7.2.2.1;have r6:=d.2.2.2.2.size;have L:QX (∀w5,Out (λq=>q=b9\/q=c0) X w5->aq N w5/\K.heap.size<=w5.heap.size/\w5.ownsRow K.heap.size 206 3 (.slice e0 n e4) n (dg d9 us)):=λw5 j6=>by
      have n4:∀q,(RR e0 n e4).ownBlock=some q->¬(q=b9\/q=c0):=λq O e=>by have:=(bo d.2.1 O).2;have h1:=d4.1;have h2:=d4.2;rcases e with e|e<;>omega
      have M:aq N X:=A.trans (d.2.2.2.2.mono A.size);exact⟨(Out.trans (S:=λq=>N.heap.size<=q) (Out.af M) j6 λq _ O=>by rcases O with O|O<;>omega).below (λ_ _ h=>h) (QE _),QD q6 (QD r6 j6.size),j6.own (aP d.2.2.2.2 d.2.1) n4⟩
     cases y with
     |true=>
      simp only[if_true,TZ]at a5;go_wp2_with(go_at_call 321;refine d2.mono ?_;rintro e w5 ⟨rfl,C,z⟩;rw[d3.out]at C;have q1:=z.block wr.heap.size x2 aa;have q2:=z.block c8 aa aa;have c6:=(QP (a:=⟨c8,a1+n3,none⟩) q2).trans c5;have r0:=(QP (a:=ag wr.heap.size 0) q1).trans (x0 0);have r1:=(QP (a:=ag wr.heap.size 1) q1).trans (x0 1);have r2:=(QP (a:=ag wr.heap.size 2) q1).trans (x0 2);have P:=aB C z;clear C z q1 q2);have j0:QX (Aw N K.heap.size w5 (.slice e0 n e4) ((l.take (j+1)).filter λp=> !f p.1)):=by show Aw _ _ _ _ _;rw[a5.out];exact⟨us,by rw[d.1,d.2.2.2.1],by rw[d.2.2.2.1];exact(L _ P.2).2.2,d.2.2.1⟩
      exact⟨⟨j+1,n1+1,by go_num,T,aa,(L _ P.2).1,(L _ P.2).2.1,P.1,j0⟩,by simp[intOf];omega⟩
     |false=>
      simp only[SL,if_false]at a5;go_wp2_with(first|(go_at_call 321;refine d2.mono ?_;rintro e w5 ⟨rfl,C,z⟩;rw[d3.out]at C;have q1:=z.block wr.heap.size x2 aa;have q2:=z.block c8 aa aa;have c6:=(QP (a:=⟨c8,a1+n3,none⟩) q2).trans c5;have r0:=(QP (a:=ag wr.heap.size 0) q1).trans (x0 0);have r1:=(QP (a:=ag wr.heap.size 1) q1).trans (x0 1);have r2:=(QP (a:=ag wr.heap.size 2) q1).trans (x0 2);have P:=aB C z;clear C z q1 q2)|(at_builtin;refine aU _ rfl _ _ 162 rfl K.heap.size 206 t8 (.agg #[ae 0,ae 0,aO]) 3 40 XY l1 l2 l3 l4 rfl ai (.slice e0 n e4) n _ rfl (aP (aK aj _) (L _ P.2).2.2) (ag w5.heap.size 0) 1 1 [ae n3,ae r5,.slice (some (ag j7 j8)) 128 j9] rfl rfl (RW (cs:= #[ae n3,ae r5,.slice (some (ag j7 j8)) 128 j9]) (t:=206) (fr:=(0,0)) (QB w5 _)) (by intro u V;simp at V;rcases V with rfl|rfl|rfl<;>rfl) aa (by unfold UE;omega) aa (by have:=(L.out _ P.2).2.1;simp;omega) ?_));intro w0 e6 D v;obtain⟨w6,r7,rfl,-⟩:=au D;obtain⟨n5,n6,b5⟩:=L.out _ P.2;have g7:aq w5 (w5.alloc (ao #[ae n3,ae r5,.slice (some (ag j7 j8)) 128 j9] 206)):=aK aj _;have e7:∀q,(RR e0 n e4).ownBlock=some q->K.heap.size<=q:=λq O=>(bo b5 O).2;have MC:=v.out (Out.refl (λq=>(RR e0 n e4).ownBlock=some q) _) λq O _=>O;have r8:QX (aq N e6):=v.below (aK n5 _) aS λq O=>by have:=e7 q O;omega
      have r9:QX (ji e6 b9 c0 128 (fI (ez o Z) (l.take (j+1))) (n1+1)):=(P.1.cV g7).out MC (λe=>by have:=e7 _ e;have:=d4.1;omega) λe=>by have:=e7 _ e;have:=d4.2;omega
      have s1:K.heap.size<=e6.heap.size:=by have:=MC.size;simp at this;omega
      have j0:QX (Aw N K.heap.size e6 (.slice w6 (n+1) r7) ((l.take (j+1)).filter λp=> !f p.1)):=by
       show Aw _ _ _ _ _;rw[a5.out];refine⟨us++ [.slice (some (ag j7 j8)) 128 j9],by simp[d.out.1,d.out.2.2.2.1],?_,λi p u hp V=>?_⟩
       .rw [oN (by rw[d.1,d.2.2.2.1]),QU,d.2.2.2.1];exact D
       .by_cases u7:i<d9.length
        .rw [RD u7]at hp;rw[RD (by rw[d.1,<-d.2.2.2.1];exact u7)]at V;exact d.2.2.1 i p u hp V
        .rw [RA aa]at hp;rw[RA (by rw[d.1,<-d.2.2.2.1];omega),d.1,<-d.2.2.2.1]at V;obtain⟨e1,e2⟩:=QR.1 hp;have w7:i-d9.length=0:=by simp at e1;omega
         rw[w7]at hp V;simp at hp V;subst hp;subst V;exact r4.2
      clear D v n5 n6 b5 g7 e7 MC;go_wp2;exact⟨⟨j+1,n1+1,by go_num,T,aa,r8,s1,r9,j0⟩,by simp[intOf];omega⟩
    .obtain rfl:j=l.length:=aa;obtain⟨e8,rfl⟩:∃e8:QA,e8=wr:=⟨_,rfl⟩;rw[UB]at d5 d6;have j1:=(A.block _ l9).trans l6;obtain⟨t0,t1,t2⟩:=cr j1;obtain⟨c8,a1,i6,i7,rfl,E,a4⟩:=(show _\/_ from by obtain⟨_,_,e,h⟩:=m0.out;cases e;exact h).resolve_left aa;have c4:=(QS e8 c8 (a1+par) i6 4 i7 ((A.block c8 (Z_ E)).trans E)).trans (a4 par a6);have j2:aq w e8:=a8.trans (A.mono a8.size);have e9:=ad j2;have Y:=d6.Pu A;have Q:(l.filter λp=> !f p.1).Pairwise λp q=>p.1<q.1:=p4.Lf.filter _;have n7:=aB Y Q;have i8:=Y;obtain⟨us,G,B,U⟩:=i8;obtain⟨e0,e4,f7,-⟩:=au B;cases e5:f par with
     |true=>
      rw[e5]at c4;have f8:QX (∀S,jj f l r par S=l.filter λp=> !f p.1):=λS=>by unfold jj;rw[ak e5,TZ]
      subst f7;clear e5 j1 E a4 j2 Y Q G B U;go_wp2_with fail;go_ret2;exact⟨_,_,rfl,n7.1.yz,by rw[f8.out],n7.2,e9⟩
     |false=>
      rw[e5]at c4;have f8:QX (∀S,jj f l r par S=(l.filter λp=> !f p.1)++ [(par,r,S)]):=λS=>by unfold jj;rw[al (by rw[e5];decide)]
      have b6:∀p,p∈(l.filter λp=> !f p.1)->p.1<16/\p.1≠par:=λp hp=>by obtain⟨e1,_,e3⟩:=p4.mem p (List.mem_filter.1 hp).1;have x3:p.1<t9:=e1;exact⟨aa,by rw[<-p5.out];exact e3⟩
      have gU:(((l.filter λp=> !f p.1)++ [(par,r,fI (ez o Z) l)]).map (·.1)).Nodup:=by rw[SH,List.map_singleton,YA];refine⟨XZ.2 (Q.imp λh e=>aa),aJ,λa x4 b b8 e=>?_⟩;simp at b8;obtain⟨p,hp,rfl⟩:=RK.1 x4;exact(b6 p hp).2 (by rw[e,b8])
      have f9:∀p,p∈(l.filter λp=> !f p.1)++ [(par,r,fI (ez o Z) l)]->p.1<16:=λp hp=>by
       rcases TH.1 hp with hp|hp
       .exact (b6 p hp).1
       .simp at hp;rw[hp];show par<16;omega
      have b3:(l.filter λp=> !f p.1).length<=16:=QD (VI _ _) aa;obtain⟨F,hF⟩:=ah (fI (ez o Z) l);rw[hF]at gU f9 d5;have s3:=ad hF;obtain⟨d9,b4⟩:=ah (l.filter λp=> !f p.1);rw[b4]at G B U gU f9 b3 f7 f8;obtain⟨n,i9⟩:=ah d9.length;rw[i9]at G B b3 f7;have d:=f' G B U i9 gU f9;have s4:=ad (λ(W:QA) (b8:aq e8 W)=>qY b9 c0 128 F n1 W (d5.cV b8) ai);subst f7;clear e5 j1 E a4 j2 Y Q G B U b6 gU f9 hF b4 i9 d6;go_wp2_with fail
      go_region_law (first|(refine df _ rfl (.tmp 97) (.tmp 105) 162 rfl K.heap.size 206 t8 (.agg #[ae 0,ae 0,aO]) 3 40 XY l1 l2 l3 l4 rfl ai (.slice e0 n e4) n (dg d9 us) (by simp[VO]) (aP (w:=e8) (aK x _) d.2.1) (ag w8.heap.size 0) 1 1 [ae par,ae r,.slice (some (ag n8 b7)) 128 n9] (by simp[VO]) rfl (RW (cs:= #[ae par,ae r,.slice (some (ag n8 b7)) 128 n9]) (t:=206) (fr:=(0,0)) (QB w8 _)) (by intro u V;simp at V;rcases V with rfl|rfl|rfl<;>rfl) aa (by unfold UE;omega) aa (by have:=x.size;simp;omega) ?_;intro w0 e6 D v;obtain⟨o0,o1,rfl,-⟩:=au D)|(go_simp;go_at_call 322;refine(s4 _ bF).mono ?_;rintro e w8 ⟨y9,rfl,j3,o2⟩;obtain⟨n8,b7,n9,rfl⟩:=(eR j3).form;have x:aq e8 w8:=(show aq e8 _ by go_grown).trans (o2.mono aJ);have s5:=ad (eR j3);obtain⟨s6,z7,z8⟩:=kp x w2.heap.size t2;have s0:=(s6 0).trans (t0 0);have s2:=(s6 2).trans (t0 2);clear j3 o2 s6))
      all_goals(
       have o3:aq w8 (w8.alloc (ao #[ae par,ae r,.slice (some (ag n8 b7)) 128 n9] 206)):=aK aj _;have j4:aq e8 (w8.alloc (ao #[ae par,ae r,.slice (some (ag n8 b7)) 128 n9] 206)):=aK x _;have Y:fa K.heap.size e6 (.slice o0 (n+1) o1) (d9++ [(par,r,F)]):=by
        refine fa.push (us:=us) (us':= [.slice (some (ag n8 b7)) 128 n9]) (by rw[d.1,d.2.2.2.1]) rfl d.2.2.2.1.symm rfl (aP j4 d.2.1) (λi p u hp V=>(d.2.2.1 i p u hp V).below j4) (λi p u hp V=>?_) D v;cases i with
        |zero=>simp at hp V;rw[<-hp,<-V];exact s5.below o3
        |succ i=>simp at hp
       have o4:w.heap.size<=K.heap.size:=QD a8.size m9;have o5:aq w e6:=v.below (aK (e9.trans (x.mono e9.size)) _) (by have:=e9.size;have:=x.size;simp;omega) λq O=>QD o4 (bo d.2.1 O).2;have g8:K.heap.size<=e6.heap.size:=by have h1:=(v.out (Out.refl (λq=>(RR e0 n e4).ownBlock=some q) _) λq O _=>O).size;have h2:=x.size;simp at h1;omega
       have s7:=ad (CM K.heap.size (.slice o0 (n+1) o1) (d9++ [(par,r,F)]) e6 Y g8 aJ d.2.2.2.2.2 d.2.2.2.2.1 (by rw[QU,d.2.2.2.1];simp;omega));have o6:=aB o5 o4;clear D v o3 j4 Y o5 g8 x)
      all_goals go_wp2_with(go_at_call 332;refine s7.mono ?_;rintro e w9 ⟨rfl,z9,g1,g2,g3,g4⟩;have g0:=aY g1 g2 g3 g4;clear g1 g2 g3 g4)
      all_goals go_ret2
      all_goals exact⟨_,_,rfl,g0.2.2.1,by rw[f8.out,s3.out];exact g0.1,g0.2.1,o6.1.trans (g0.2.2.2.mono o6.2)⟩
structure Ro where
 lz:Bool
 fr:Nat->Option Nat
 wt:List Pt
 sl:Bool
variable {o:Ro}
def Ax:Option Nat->Int
 |none=> -1
 |some x=>(x:Nat)
def Ro.down(a:Ro)(m r:Nat):Bool:=match a.fr m with|none=>false|some x=>decide (x<=r)
structure fg(w:QA)(R B:Nat)(wp:Option SR)(g:aA)(fb:Nat)(ro:Ro):Prop where
 aM:∃cap wv,w.heap[R]? =some (N #[ar B,Y g.M,Y g.c,Y g.s,.pointer wp,.bool ro.lz,a' fb g.M cap,wv,.bool ro.sl] 164)/\e' w wv ro.wt
 fJ:w.heap[fb]? =some (N (bu g.M fun m=> Y (Ax (ro.fr m))) 3)
theorem fg.fr[Lo](h:fg w n m P g k o)(a:Fr T aG w W)(c:T.contains 164=false)(d:T.contains 3=false)(e:T.contains 5=false)(f:T.contains 206=false):fg W n m P g k o:=by obtain⟨b,i,j,l⟩:=h.aM;exact⟨⟨b,i,a.hp j c,l.fr a e f⟩,a.hp h.fJ d⟩
theorem fg.below{R B:Nat}(h:fg w R B P g n o)(a:aq w W):fg W R B P g n o:=by
 letI:Lo:=⟨0⟩
 exact h.fr (T:= []) (Fr.af a) rfl rfl rfl rfl
theorem oW(R B:Nat)(a:Option SR)(g:aA)(b:Nat)(c:Ro)(m:Nat)(w:QA)(h:fg w R B a g b c)(d:m<g.M)(o:g.M<=16):aF 163 #[ar R,Y m] w λe i=>aL e ec/\w=i:=by obtain⟨j,p,l,q⟩:=h.aM;obtain⟨k,f,z⟩:=cr l;obtain⟨M,n⟩:=ah g.M;rw[n]at k d;have d2:decide ((m:Int)<(M:Int))=true:=aS;go_enter func163,ntmps163;go_wp2;go_ret;exact⟨rfl,rfl⟩
theorem jK(R B:Nat)(l:Option SR)(g:aA)(d:Nat)(a:Ro)(m r:Nat)(w:QA)(h:fg w R B l g d a)(i:m<g.M)(p:g.M<=16):aF 201 #[ar R,Y m,Y r] w λe q=>aL e (.bool (a.down m r))/\w=q:=by
 have n:=I (oW R B l g d a m w h i p);obtain⟨s,C,t,D⟩:=h.aM;obtain⟨k,f,z⟩:=cr t;have c:w.cell? (ag d m)=some (Y (Ax (a.fr m))):=((cr h.fJ).1 m).trans (cg _ _ _ i);have b:QX (a.down m r=match a.fr m with|none=>false|some x=>decide (x<=r)):=rfl;obtain⟨M,u⟩:=ah g.M;obtain⟨E,j⟩:=ah (a.down m r);rw[u]at k i;rw[j]at b|-;have v:(0:Int)<=(m:Int):=J;have y:(m:Int)<(M:Int):=J;cases o:a.fr m with
 |none=>rw[o]at c b;simp only[Ax]at c;go_enter func201,ntmps201;go_wp2_with(go_at_call 163;refine n.mono ?_;rintro e A ⟨rfl,rfl⟩);go_ret;exact⟨by rw[b.out];rfl,rfl⟩
 |some x=>
  rw[o]at c b;simp only[Ax]at c;simp only at b;have d1:((x:Int)==(-1:Int))=false:=by rw[beq_eq_false_iff_ne];omega
  have d2:((x:Int) !=(-1:Int))=true:=by rw[bne,d1];rfl
  go_enter func201,ntmps201;go_wp2_with(go_at_call 163;refine n.mono ?_;rintro e A ⟨rfl,rfl⟩);go_ret;exact⟨by rw[b.out];rfl,rfl⟩
def hN(s e:Nat):H:=if e=0 then .agg #[Y 0,aH 0]else .agg #[Y s,aH e]
theorem cC(s e:Nat):∃a b:Int,hN s e=.agg #[Y a,.int .u16 b]:=by
 unfold hN;split
 .exact ⟨_,_,rfl⟩
 .exact ⟨_,_,rfl⟩
theorem fs(s e:Nat)(w:M):aF 166 #[Y s,aH e] w λx b=>x=.returned (hN s e)/\aq w b:=by
 by_cases h:e=0
 .subst h;have a:QX (hN s 0=.agg #[Y 0,aH 0]):=rfl;rw[a.out];go_enter func166,ntmps166;go_wp2
  (try simp only[XP,Exit.then])
  refine QT (v:=.agg #[Y 0,aH 0]) (by simp[RP,results166,go_sem]) rfl ⟨rfl,?_⟩;exact aK aj _
 .have a:QX (hN s e=.agg #[Y s,aH e]):=by show _=_;unfold hN;rw[al h]
  rw[a.out];have d1:((e:Int)==0)=false:=by rw[beq_eq_false_iff_ne];omega
  go_enter func166,ntmps166;go_wp2
  (try simp only[XP,Exit.then])
  refine QT (v:=.agg #[Y s,aH e]) (by simp[RP,results166,go_sem]) rfl ⟨rfl,?_⟩;exact aK aj _
def Ro.mark(a:Ro)(m:Nat)(x:Option Nat):Ro:={a with fr:=λj=>if j=m then x else a.fr j}
theorem fg.set{b:Ro}(h:fg w n i P g j b)(m:Nat)(x:Option Nat):fg (w.setCell (R j m) (Y (Ax x))) n i P g j (b.mark m x)/\Out (λk=>k=j) w (w.setCell (R j m) (Y (Ax x))):=by
 have c:Out (λk=>k=j) w (w.setCell (R j m) (Y (Ax x))):=(Out.refl (λk=>k=j) w).setCell (p:=R j m) (λ_=>rfl) _;obtain⟨d,r,l,s⟩:=h.aM;have f:n≠j:=λe=>by have:=h.fJ;rw[<-e,l]at this;simp at this
 refine⟨⟨⟨d,r,c.heap l f,s.out c λk o q a=>?_⟩,?_⟩,c⟩
 .subst q;rw[h.fJ]at a;cases a;constructor<;>simp[ty]
 .have:=heap_setCell_same w j m _ 3 (Y (Ax x)) h.fJ;rw[this,eQ];congr 1;congr 1;apply k';intro k q;show(if k=m then Y (Ax x)else Y (Ax (b.fr k)))= Y (Ax (if k=m then x else b.fr k));split<;>rfl
theorem Gk(R B:Nat)(c:Option SR)(g:aA)(a:Nat)(b:Ro)(m:Nat)(f:Int)(w:QA)(h:fg w R B c g a b)(d:m<g.M)(i:g.M<=16):
  aF 96 #[ar R,Y m,.bool false,Y f] w λe j=>aL e (.tuple #[])/\fg j R B c g a (b.mark m none)/\Out (λk=>k=a) w j:=by
 have p:=I (oW R B c g a b m w h d i);have q:=I (h.set m none);obtain⟨r,u,l,v⟩:=h.aM;obtain⟨k,x,z⟩:=cr l;obtain⟨n,f2,y⟩:=cr h.fJ;have A:w.cell? (ag a m)=some (Y (Ax (b.fr m))):=(n m).trans (cg _ _ _ d);obtain⟨M,o⟩:=ah g.M;rw[o]at k d i;have s:(0:Int)<=(m:Int):=J;have t:(m:Int)<(M:Int):=J;clear h l o n;go_enter func96,ntmps96;go_wp2_with(go_at_call 163;refine p.mono ?_;rintro e C ⟨rfl,rfl⟩);go_end0;exact⟨rfl,q⟩
theorem Ay(R B:Nat)(c:Option SR)(g:aA)(a:Nat)(b:Ro)(m x:Nat)(w:QA)(h:fg w R B c g a b)(d:m<g.M)(l:g.M<=16):
  aF 96 #[ar R,Y m,.bool true,Y x] w λe n=>aL e (.tuple #[])/\fg n R B c g a (b.mark m (some x))/\Out (λk=>k=a) w n:=by
 have r:=I (oW R B c g a b m w h d l);have s:=I (h.set m none);have f:=I ((h.set m none).1.set m (some x));have t:QX ((b.mark m none).mark m (some x)=b.mark m (some x)):=by show _=_;unfold Ro.mark;simp only;congr 1;funext j;split<;>rfl
 obtain⟨u,D,i,E⟩:=h.aM;obtain⟨k,F,z⟩:=cr i;obtain⟨o,f2,G⟩:=cr h.fJ;have K:w.cell? (ag a m)=some (Y (Ax (b.fr m))):=(o m).trans (cg _ _ _ d);have v:R≠a:=λe=>by have:=h.fJ;rw[<-e,i]at this;simp at this
 obtain⟨M,p⟩:=ah g.M;rw[p]at k d l;have y:(0:Int)<=(m:Int):=J;have A:(m:Int)<(M:Int):=J;have C:max (0:Int) (x:Int)=(x:Int):=J;clear h i p o;go_enter func96,ntmps96;go_wp2_with(go_at_call 163;refine r.mono ?_;rintro e L ⟨rfl,rfl⟩);go_end0;rw[<-t.out];refine⟨rfl,?_⟩;have q:=f.out;exact⟨q.1,s.2.tr q.2⟩
def BL(m r:Nat)(p:Pt):Bool:=decide (p.1=m/\p.2.1=r)
def Ro.iG(a:Ro)(m r:Nat):Option (Nat->Nat):=(a.wt.find? (BL m r)).map (·.2.2)
theorem CW{c:Pt->Bool}(h:l.findIdx? c=some k):∃p,l[k]?=some p/\l.find? c=some p:=by
 induction l generalizing k with
 |nil=>cases h
 |cons a l d=>
  rw[List.findIdx?_cons]at h;cases b:c a with
  |true=>rw[b]at h;simp at h;subst h;exact⟨a,rfl,by rw[List.find?_cons,b]⟩
  |false=>rw[b]at h;simp only[SL,if_false,YB]at h;obtain⟨j,e,rfl⟩:=h;obtain⟨p,f,g⟩:=d e;exact⟨p,by simpa using f,by rw[List.find?_cons,b];exact g⟩
theorem qp{a:Pt->Bool}(h:l.find? a=none):l.findIdx? a=none:=by rw[XW];intro x b;have:=List.find?_eq_none.1 h x b;simpa using this
theorem mF(R B:Nat)(q:Option SR)(g:aA)(s:Nat)(a:Ro)(m r:Nat)(w:M)(h:fg w R B q g s a)(t:a.wt.length<=1000000)(i:a.iG m r=none):
  aF 249 #[ar R,Y m,Y r] w λe v=>aL e (.tuple #[aO,.bool false])/\aq w v:=by
 obtain⟨x,y,A,j⟩:=h.aM;obtain⟨k,f,z⟩:=cr A;have C:QX (mr a.wt (BL m r)= -1):=by show _=_;unfold mr;unfold Ro.iG at i;rw[qp (Option.map_eq_none_iff.1 i)]
 have l:=I (λ(W:M) (c:aq w W) (n:aX W w.heap.size (N #[Y m] 3)) (o:aX W (w.heap.size+1) (N #[Y r] 3))=>sp 293 #[ar w.heap.size,.pointer (some ⟨w.heap.size+1,0,none⟩)] (RH func293 aE rfl) a.wt (BL m r) y W (j.below c) t
  (λD b p G u E=>Cj p u w.heap.size (w.heap.size+1) m r D E ((b.block _ (Z_ n)).trans n) ((b.block _ (Z_ o)).trans o)))
 rw[C.out]at l;obtain⟨K,L,d,-⟩:=j;subst d;go_enter func249,ntmps249;go_wp2_with(go_at_call 292;refine(l _ (aK (aK aj _) _) (e_ _ _ _) (eZ _ _ _)).mono ?_;rintro e O ⟨rfl,c⟩;have F:=I c);go_ret2;exact⟨rfl,(aK (aK aj _) _).trans (F.mono aS)⟩
def Nu(f:aN)(w:M)(e:RV)(a:M):Prop:=∃v,aL e (.tuple #[v,.bool true])/\dR a v f/\aq w a
theorem qZ(R B:Nat)(X:Option SR)(g:aA)(Z:Nat)(a:Ro)(m r:Nat)(f:aN)(w:QA)(h:fg w R B X g Z a)(L:a.wt.length<=1000000)(i:a.iG m r=some f):
  aF 249 #[ar R,ae m,ae r] w (Nu f w):=by
 obtain⟨H,N,M,O⟩:=h.aM;obtain⟨k,a6,z⟩:=cr M;obtain⟨j,P⟩:∃j,a.wt.findIdx? (BL m r)=some j:=by
  cases I:a.wt.findIdx? (BL m r)with
  |some j=>exact⟨j,rfl⟩
  |none=>exfalso;unfold Ro.iG at i;obtain⟨p,t,_⟩:=YB.1 i;have:=XW.1 I p (XV t);rw[List.find?_some t]at this;cases this
 obtain⟨p,l,x⟩:=CW P;have y:p.2.2=f:=by unfold Ro.iG at i;rw[x]at i;exact RM i
 have Y:QX (mr a.wt (BL m r)=(j:Nat)):=by show _=_;unfold mr;rw[P]
 have A:=ad (λ(W:QA) (o:aq w W) (Q:aX W w.heap.size (ao #[ae m] 3)) (S:aX W (w.heap.size+1) (ao #[ae r] 3))=>sp 293 #[ar w.heap.size,.pointer (some ⟨w.heap.size+1,0,none⟩)] (RH func293 aE rfl) a.wt (BL m r) N W (O.below o) L
  (λJ q p t u a0=>Cj p u w.heap.size (w.heap.size+1) m r J a0 ((q.block _ (Z_ Q)).trans Q) ((q.block _ (Z_ S)).trans S)))
 rw[Y.out]at A;have b:=(QR.1 l).1;obtain⟨a7,a8,rfl,-,c⟩:=O;obtain⟨T,a1,C,D,rfl,s,c⟩:=c.resolve_left (by intro e;rw[e]at b;simp at b);obtain⟨-,-,u,c3,E⟩:=c j p l;rw[y]at E;have a2:=(QS w T (a1+j*3+2) C 206 D s).trans c3;have F:=Z_ s;obtain⟨a9,b0,b1,rfl⟩:=E.form;have a3:=ad E;obtain⟨n,G⟩:=ah a.wt.length;rw[G]at k b L A;have a4:(0:Int)<=(j:Int):=aa;have a5:(j:Int)<(n:Int):=aa;have d1:decide ((j:Int)<0)=false:=aJ;go_enter func249,ntmps249;go_wp2_with(first|(go_at_call 292;refine(A _ (aK (aK aj _) _) (e_ _ _ _) (eZ _ _ _)).mono ?_;rintro e w2 ⟨rfl,o⟩;have d:aq w w2:=(aK (aK aj _) _).trans (o.mono aS);obtain⟨q1,-,q3⟩:=kp d R z;obtain⟨q4,-,q6⟩:=kp d T F;have K:=ad d)|(go_at_call 199;refine(hG _ _ _ (a3.below K)).mono ?_;rintro e w3 ⟨v,rfl,U,o⟩;have V:=aB (eR U) o;obtain⟨b2,b3,rfl,-⟩:=au U));go_ret2;exact⟨_,rfl,V.1,K.trans (V.2.mono K.size)⟩
theorem iq(R B:Nat)(l:Option SR)(g:aA)(m:Nat)(n:Ro)(e:Nat)(w:QA)(h:fg w R B l g m n):aF 178 #[ar R,aH e] w λx o=>x=.returned (hN g.M e)/\aq w o:=by
 obtain⟨p,t,q,u⟩:=h.aM;obtain⟨k,f,z⟩:=cr q;have i:=I (λw=>fs g.M e w);obtain⟨a,b,c⟩:=cC g.M e;rw[c]at i|-;go_enter func178,ntmps178;go_wp2_with(go_at_call 166;refine(i _).mono ?_;rintro x r ⟨rfl,j⟩;obtain⟨y,A,C⟩:=kp j w.heap.size aJ;have s:=I j)
 (try simp only[XP,Exit.then])
 have d:aq w r:=(aK aj _).trans (s.mono aJ);refine QT (v:=.agg #[Y a,.int .u16 b]) (by simp[RP,results178,go_sem];go_simp) rfl ⟨rfl,?_⟩;exact(d.setCell (QE _) _).setCell (QE _) _
def By.bU(b:By):List Nat->By × Nat × Nat
 | [] =>(b,0,0)
 |k::a=>if(b.op k bS).2=0 then(b.op k bS).1.bU a else((b.op k bS).1,k,(b.op k bS).2)
theorem By.oX(b:By)(l c:List Nat):b.bU (l++c)=if(b.bU l).2.2=0 then(b.bU l).1.bU c else b.bU l:=by
 induction l generalizing b with
 |nil=>simp[By.bU]
 |cons k a f=>
  by_cases h:(b.op k bS).2=0
  .have d:b.bU (k::a)=(b.op k bS).1.bU a:=ak h;have e:b.bU (k::(a++c))=(b.op k bS).1.bU (a++c):=ak h;rw[UC,d,e,f]
  .have d:b.bU (k::a)=((b.op k bS).1,k,(b.op k bS).2):=al h;have e:b.bU (k::(a++c))=((b.op k bS).1,k,(b.op k bS).2):=al h;rw[UC,d,e,al h]
theorem By.CX(b:By)(l:List Nat):(b.bU l).1.N=b.N:=by
 induction l generalizing b with
 |nil=>rfl
 |cons k c a=>
  simp only[By.bU];by_cases h:(b.op k bS).2=0
  .rw [ak h,a,By.fW]
  .rw [al h];exact By.fW b k bS
theorem By.Ie(h:(b.op k bS).2=0):b.out=false/\(∃v,b.dv k=some v/\v.use.d=v.d/\v.d.failed=false)/\∀j v,b.dv j=some v->∃a,(b.op k bS).1.dv j=some a/\a.d=v.d:=by
 unfold By.op at h|-;by_cases d:b.out=true
 .rw [ak d]at h;cases h
 .have f:b.out=false:=by simpa using d
  rw[al d]at h|-;cases g:b.dv k with
  |none=>rw[g]at h;cases h
  |some v=>
   rw[g]at h;simp only at h|-;have c:v.use.d.failed=false:=by
    unfold bS at h;simp only at h;cases m:v.use.d.failed with
    |false=>rfl
    |true=>rw[m]at h;cases h
   have i:v.use.d=v.d:=by
    unfold Dv.use at c|-;split
    .split
     .rename_i n o;rw[ak n,ak o]at c;simp only[Dk.dead]at c;cases c
     .rfl
    .rfl
   refine⟨f,⟨v,rfl,i,by rw[<-i];exact c⟩,λj u l=>?_⟩;show∃a,(if j=k then some (bS v.use).1 else b.tick.dv j)=some a/\a.d=u.d;by_cases e:j=k
   .rw [ak e];subst e;rw[g]at l;cases l;exact⟨_,rfl,i⟩
   .rw [al e];exact⟨u,l,rfl⟩
theorem By.CY:∀{l:List Nat},(b.bU l).2.2=0->∀j v,b.dv j=some v->∃c,(b.bU l).1.dv j=some c/\c.d=v.d:=by
 intro l;induction l generalizing b with
 |nil=>exactλ_ j v h=>⟨v,h,rfl⟩
 |cons k p d=>
  intro h j v e;simp only[By.bU]at h|-;by_cases a:(b.op k bS).2=0
  .rw [ak a]at h|-;obtain⟨f,g,i⟩:=(By.Ie a).2.2 j v e;obtain⟨m,n,o⟩:=d h j f g;exact⟨m,n,o.trans i⟩
  .rw [al a]at h;exact absurd h a
theorem By.Ln(h:(b.op k bS).2=0)(j:Nat)(a:b.dv j=none):(b.op k bS).1.dv j=none:=by
 unfold By.op at h|-;by_cases c:b.out=true
 .rw [ak c]at h;cases h
 .rw [al c]at h|-;cases d:b.dv k with
  |none=>rw[d]at h;cases h
  |some v=>
   show(if j=k then some (bS v.use).1 else b.tick.dv j)=none;by_cases e:j=k
   .subst e;rw[d]at a;cases a
   .rw [al e];exact a
theorem By.CZ:∀{l:List Nat},(b.bU l).2.2=0->∀j,b.dv j=none->(b.bU l).1.dv j=none:=by
 intro l;induction l generalizing b with
 |nil=>exactλ_ j h=>h
 |cons k e c=>
  intro h j d;simp only[By.bU]at h|-;by_cases a:(b.op k bS).2=0
  .rw [ak a]at h|-;exact c h j (By.Ln a j d)
  .rw [al a]at h;exact absurd h a
theorem By.uy{l:List Nat}(h:(b.bU l).2.2=0){v:Dv}(c:(b.bU l).1.dv j=some v):∃a,b.dv j=some a/\v.d=a.d:=by
 cases d:b.dv j with
 |none=>rw[By.CZ h j d]at c;cases c
 |some a=>obtain⟨g,e,f⟩:=By.CY h j a d;rw[e]at c;cases c;exact⟨a,rfl,f⟩
def eN(b:By)(a:Ro)(m r:Nat):Nat->Nat:=match a.iG m r with
 |some f=>f
 |none=>match b.dv m with
  |some v=>v.d.view (1+r)
  |none=>λ_=>0
def uz(a:Ro)(m r:Nat):List Nat:=if(a.iG m r).isSome=true then[]else[m]
def fX(M:Nat)(a:Ro)(m r:Nat):List Nat:=if(a.iG m r).isNone=true/\a.down m r=true then(TQ M).flatMap (λj=>if j=m then[]else uz a j r)else uz a m r
def fc(M:Nat)(b:By)(a:Ro)(m r:Nat):Nat->Nat:=if(a.iG m r).isNone=true/\a.down m r=true thenλk=>xs (λj=>decide (j≠m)) (λj=>eN b a j r k) M else eN b a m r
theorem sB(h:(b.bU T).2.2=0):eN (b.bU T).1 o m r=eN b o m r:=by
 unfold eN;cases o.iG m r with
 |some f=>rfl
 |none=>
  cases a:b.dv m with
  |none=>rw[By.CZ h m a]
  |some v=>obtain⟨e,c,d⟩:=By.CY h m v a;rw[c];simp only[d]
def jk(k:Nat)(a:Ro)(m r:Nat):List Nat:=(TQ k).flatMap (λj=>if j=m then[]else uz a j r)
theorem mG(k:Nat)(a:Ro)(m r:Nat):jk (k+1) a m r=jk k a m r++(if k=m then[]else uz a k r):=by unfold jk;rw[UL,UY];simp
theorem By.oY{l a:List Nat}(h:(b.bU l).2.2≠0):b.bU (l++a)=b.bU l:=by rw[By.oX,al h]
theorem By.oZ{l a:List Nat}(h:(b.bU l).2.2=0):b.bU (l++a)=(b.bU l).1.bU a:=by rw[By.oX,ak h]
theorem Az{ro:Ro}(h:(b.bU (jk k ro m r)).2.2≠0):∀n,k<=n->b.bU (jk n ro m r)=b.bU (jk k ro m r):=by
 intro n c;induction n with
 |zero=>rw[show k=0 by omega]
 |succ n a=>
  by_cases e:k=n+1
  .rw [e]
  .rw [mG,By.oY (by rw[a J];exact h),a J]
def mH[Lo](B:Nat)(b:By)(l:List Nat)(f:aN)(w:M)(e:RV)(d:M):Prop:=
 ∃v,aL e (.tuple #[v,hN (b.bU l).2.1 (b.bU l).2.2])/\(∃a n c,v=.slice a n c)/\aC d B (b.bU l).1/\Fr TB aG w d/\((b.bU l).2.2=0->cA d v 128 f)
structure nS(g:aA)(b:By)(ro:Ro)(r:Nat):Prop where
 ok:g.ok
 rr:r<g.R
 N:b.N=g.M+1
 h':ro.wt.length<=1000000
 room:∀m v,m<g.M->b.dv m=some v->1+r<v.d.n
theorem jm[Lo](h:Out (λk=>k=n) w W)(a:aX w n O)(b:Lo.lo<=n):Fr [ty O] aG w W:=
 h.Cz λk _ e=>by subst e;exact⟨⟨O,a,aJ⟩,b⟩
theorem ns(w:M)(D:Nat)(x y:H):Out (λk=>k=D) w ((w.setCell (R D 0) x).setCell (R D 1) y):=
 ((Out.refl (λk=>k=D) w).setCell (λ_=>rfl) x).setCell (λ_=>rfl) y
theorem aC.low[Lo](h:aC w n b):Lo.lo<=w.heap.size:=QD h.lo (TF h.lt)
theorem Dv.If(v:Dv)(a:v.use.d.failed=false):v.use.d=v.d:=by
 unfold Dv.use at a|-;split
 .split
  .rename_i b c;rw[ak b,ak c]at a;simp only[Dk.dead]at a;cases a
  .rfl
 .rfl
theorem uB[Lo](R B:Nat)(q:Option SR)(g:aA)(s:Nat)(c:Ro)(m r:Nat)(b:By)(f:aN)(w:QA)(h:fg w R B q g s c)(a:aC w B b)(n:nS g b c r)(C:m<g.M)(t:c.iG m r=some f):
  aF 167 #[ar R,ae m,ae r] w (mH B b (uz c m r) (eN b c m r) w):=by
 have D:uz c m r= []:=by unfold uz;rw[t];rfl
 have E:eN b c m r=f:=by unfold eN;rw[t]
 rw[D,E];have F:=ad (λW (a:aq w W)=>oW R B q g s c m W (h.below a) C n.ok.m16);have G:=ad (λW=>ht (g.M:Nat) (g.c:Nat) (g.s:Nat) W (aA.gm n.ok));have K:=ad (λW (a:aq w W)=>qZ R B q g s c m r f W (h.below a) n.h' t);have y:=ad a;obtain⟨L,X,O,Z⟩:=h.aM;obtain⟨k,H,z⟩:=cr O;have P:(r:Int)<(g.s:Int)*(g.c:Int):=by rw[gR];exact_mod_cast n.rr
 have d1:decide ((r:Int)<0)=false:=aJ;have d2:decide ((g.s:Int)*(g.c:Int)<=(r:Int))=false:=aS;go_enter func167,ntmps167;go_wp2_with(first|(go_at_call 163;refine(F _ (aK aj _)).mono ?_;rintro e N ⟨rfl,rfl⟩)|(go_at_call 27;refine(G _).mono ?_;rintro e Q ⟨rfl,a⟩;have j:=(a.block _ aJ).trans (QB w (ao #[ae 0,aH 0] 172));have i:aq w Q:=(aK aj _).trans (a.mono aJ);obtain⟨M,I,A⟩:=kp a w.heap.size aJ;have d:=aB i j)|(go_at_call 249;refine(K _ d.1).mono ?_;rintro e S ⟨v,rfl,o,a⟩;have j:=(a.block _ A).trans d.2;have i:aq w S:=d.1.trans (a.mono d.1.size);obtain⟨Y,J,q9⟩:=kp a w.heap.size A;have u:=aT o i j;obtain⟨T,U,V,rfl⟩:=o.form));obtain⟨o,x,j⟩:=u.out;have l:=(x.setCell (p:=ag w.heap.size 0) (QE _) (ae 0)).setCell (p:=ag w.heap.size 1) (QE _) (aH 0);refine QT (v:=.tuple #[.slice (some (ag T U)) 128 V,.agg #[ae 0,aH 0]]) (by simp[RP,results167,go_sem];go_simp) rfl ⟨_,rfl,⟨_,_,_,rfl⟩,y.below l,Fr.af l,λ_=>?_⟩;exact o.eI.fr (jm (ns _ _ _ _) j y.low) rfl
theorem uC[Lo](R B:Nat)(E:Option SR)(g:aA)(F:Nat)(c:Ro)(m r:Nat)(b:By)(w:QA)(h:fg w R B E g F c)(a:aC w B b)(f:nS g b c r)(P:m<g.M)(G:c.iG m r=none)(I:c.down m r=false):
  aF 167 #[ar R,ae m,ae r] w (mH B b (uz c m r) (eN b c m r) w):=by
 have Y:uz c m r= [m]:=by unfold uz;rw[G];rfl
 have J:QX (∀v,b.dv m=some v->eN b c m r=v.d.view (1+r)):=λv Q=>by unfold eN;rw[G];simp only[Q]
 rw[Y];have a2:=ad (λW (a:aq w W)=>oW R B E g F c m W (h.below a) P f.ok.m16);have a3:=ad (λW=>ht (g.M:Nat) (g.c:Nat) (g.s:Nat) W (aA.gm f.ok));have a4:=ad (λW (a:aq w W)=>mF R B E g F c m r W (h.below a) f.h' G);have a0:=ad (λW (a:aq w W)=>jK R B E g F c m r W (h.below a) P f.ok.m16);rw[I]at a0;have a5:=RL f.rr (aA.iJ f.ok);have K:=ad (λW (L:aq w W)=>mA B m (1+r) b W (a.below L) (by rw[f.N];omega) (f.room m · P));have a6:=ad (λe W=>fs m e W);obtain⟨t,i⟩:=ah ((b.op m bS).2);have O:QX ((b.bU [m]).1=(b.op m bS).1/\(b.bU [m]).2.2=t/\hN (b.bU [m]).2.1 (b.bU [m]).2.2=hN m t):=by
  show _/\_;rw[<-i];unfold By.bU;by_cases S:(b.op m bS).2=0
  .rw [ak S];unfold By.bU;rw[S];exact⟨rfl,rfl,rfl⟩
  .rw [al S];exact⟨rfl,rfl,rfl⟩
 unfold mH;rw[O.2.2,O.1,O.2.1];have a7:=aB a.low i;have a1:=ad (λ(v:Dv) (Q:b.dv m=some v) (a8:v.use.d.failed=false)=>show v.use.d.view (1+r)=eN b c m r by rw[Dv.If v a8];exact(J v Q).symm);obtain⟨a9,c6,x1,x2⟩:=h.aM;obtain⟨k,c7,z⟩:=cr x1;have b0:(r:Int)<(g.s:Int)*(g.c:Int):=by rw[gR];exact_mod_cast f.rr
 have d1:decide ((r:Int)<0)=false:=aJ;have d2:decide ((g.s:Int)*(g.c:Int)<=(r:Int))=false:=aS;have w1:QG.wrap (1+(r:Int))=((1+r:Nat):Int):=by rw[SN _ aa];simp
 obtain⟨T,U,u⟩:=cC m t;rw[u];have V:QX (∀W,aF 166 #[ae m,aH t] W λx b2=>x=.returned (.agg #[ae T,.int .u16 U])/\aq W b2):=λW=>by rw[<-u];exact a6 t W
 unfold OQ at K;rw[i]at K;obtain⟨b1,y⟩:=ah ((b.op m bS).1);rw[y]at K|-;obtain⟨c8,A⟩:=ah (eN b c m r);rw[A]at a1|-;clear G Y I J i O y A;go_enter func167,ntmps167;go_wp2_with(first|(go_at_call 163;refine(a2 _ (aK aj _)).mono ?_;rintro e w2 ⟨rfl,rfl⟩)|(go_at_call 27;refine(a3 _).mono ?_;rintro e w3 ⟨rfl,a⟩;have o:=(a.block _ aJ).trans (QB w (ao #[ae 0,aH 0] 172));have d:aq w w3:=(aK aj _).trans (a.mono aJ);obtain⟨q4,q5,q6⟩:=kp a w.heap.size aJ;have j:=aB d o;clear d)|(go_at_call 249;refine(a4 _ j.1).mono ?_;rintro e w4 ⟨rfl,a⟩;have o:=(a.block _ q6).trans j.2;have d:aq w w4:=j.1.trans (a.mono j.1.size);obtain⟨b3,b4,b5⟩:=kp d R z;have l:=aB d o;clear d)|(go_at_call 201;refine(a0 _ l.1).mono ?_;rintro e w5 ⟨rfl,rfl⟩)|(go_at_call 185;refine(K _ l.1).mono ?_;rintro e w6 ⟨b6,b7,b8,rfl,p,n,q⟩;have o:=n.hp l.2 rfl;obtain⟨b9,c0,X⟩:=cr o;have C:=ca (Fr.tr (Fr.af l.1) n) o X p q)|(go_at_call 166;refine(V _).mono ?_;rintro e w7 ⟨rfl,a⟩;obtain⟨c1,c2,c3⟩:=kp a w.heap.size X;have Z:=aB a ((a.block _ X).trans C.2.1)));obtain⟨n,o,c4,p,q⟩:=C.out;obtain⟨s,H⟩:=Z.out;have c5:=ns w7 w.heap.size (ae T) (.int .u16 U);have L:=jm c5 H a7.1;have h6:=n.then s;refine QT (v:=.tuple #[.slice b6 b7 b8,.agg #[ae T,.int .u16 U]]) (by simp[RP,results167,go_sem];go_simp) rfl ⟨_,rfl,⟨_,_,_,rfl⟩,(p.below s).fn L rfl,(h6.new (QE _) _).new (QE _) _,λe=>?_⟩;obtain⟨v,N,M,D,-⟩:=q e;rw[a1.out v N M]at D;exact(D.below s).fr L rfl
theorem yM(w:M)(n:Nat)(h:n<=1000):(SY 42 (Y (n:Int)) (Y (n:Int))).run prog w=.ok (a' w.heap.size n n) (w.alloc (N (bu n λ_=> aO) 41)):=by
 obtain⟨d,f,a,b,c⟩:=SB oM;have:=run_make (P:=prog) w 42 41 d aO underlying42 f a .i64 .i64 n n J J (by rw[c];omega) J;rw[this,b,TX];show YT _ (w.alloc (N (TN #[aO] n) 41))=_;have e:TN #[aO] n=bu n λ_=> aO:=by
  apply Array.ext
  .simp [TN,bu]
  .intro i g j;have:i%1=0:=YE i;simp[TN,bu,this]
 rw[e];rfl
theorem C_(R B:Nat)(d:Option SR)(g:aA)(i:Nat)(b:Ro)(m r:Nat)(w:M)(h:fg w R B d g i b)(l:b.wt.length<=1000000):
  aF 249 #[ar R,Y m,Y r] w λe j=>(∃a n c,aL e (.tuple #[.slice a n c,.bool (b.iG m r).isSome]))/\aq w j:=by
 cases o:b.iG m r with
 |none=>refine(mF R B d g i b m r w h l o).mono ?_;rintro e j ⟨rfl,k⟩;exact⟨⟨_,_,_,rfl⟩,k⟩
 |some f=>refine(qZ R B d g i b m r f w h l o).mono ?_;rintro e j ⟨v,rfl,p,k⟩;obtain⟨q,s,t,rfl⟩:=p.form;exact⟨⟨_,_,_,rfl⟩,k⟩
theorem lD[Lo](R B:Nat)(c:Option SR)(g:aA)(d:Nat)(a:Ro)(m r:Nat)(b:By)(w:QA)(h:fg w R B c g d a)(i:aC w B b)(j:nS g b a r)(k:m<g.M)(l:a.iG m r=none->a.down m r=false):
  aF 167 #[ar R,Y m,Y r] w (mH B b (uz a m r) (eN b a m r) w):=by
 cases e:a.iG m r with
 |none=>exact uC R B c g d a m r b w h i j k e (l e)
 |some f=>exact uB R B c g d a m r b f w h i j k e
theorem nS.bU(h:nS g b o r){l:List Nat}(a:(b.bU l).2.2=0):nS g (b.bU l).1 o r:=
 ⟨h.ok,h.rr,by rw[By.CX];exact h.N,h.h',λm v c d=>by obtain⟨e,f,i⟩:=By.uy a d;rw[i];exact h.room m e c f⟩
theorem bl(s:Nat)(h:n≠0):hN s n=.agg #[Y s,aH n]:=al h
structure AA[Lo](B D S:Nat)(b:By)(ro:Ro)(M m r:Nat)(w:QA)(k:Nat)(wr:QA):Prop where
 ct:aC wr B (b.bU (jk k ro m r)).1
 ok:(b.bU (jk k ro m r)).2.2=0
 bY:Fr TB aG w wr
 Kx:wr.heap[D]? =some (N #[Y 0,aH 0] 172)
 rows:∃sv:Nat->H,wr.heap[S]? =some (N (bu M sv) 41)/\∀j,j<M->∃a n c,sv j= .slice a n c/\(j<k->j≠m->cA wr (.slice a n c) 128 (eN b ro j r))
theorem AA.step[Lo]{B D S:Nat}{g:Ro}(h:AA B D S b g i m r w k z)(N:k<i){s:By}{n c:Nat}{a:QA}(t:b.bU (jk (k+1) g m r)=(s,C,0))(A:aC a B s)(l:Fr TB aG z a)(E:cA a (.slice P n c) 128 (eN b g k r))(M:D<w.heap.size)(u:w.heap.size<=S)(F:Lo.lo<=w.heap.size)(o:Obj):
  AA B D S b g i m r w (k+1) ((a.setCell (ag S k) (.slice P n c)).alloc o):=by
 obtain⟨G,K,L⟩:=h.rows;have q:=l.hp K rfl;have x:∀W:QA,aq W (W.alloc o):=λW=>aK aj o;have d:∀v f,cA a v 128 f->cA ((a.setCell (ag S k) (.slice P n c)).alloc o) v 128 f:=λv f O=>(O.set (p:=ag S k) q (show(41:Nat)≠5 by decide) _).below (x _);refine⟨?_,by rw[t],((h.bY.tr l).new (p:=ag S k) u _).alloc o,?_,λj=>if j=k then .slice P n c else G j,?_,λj Q=>?_⟩
 .rw [t];exact(A.Jd (p:=ag S k) q rfl (QD F u) _).below (x _)
 .have y:=l.hp h.Kx rfl;refine(QW _ _ _ (by rw[RT];exact Z_ y)).trans ((RO _ _ _ _ ?_).trans y);intro e;have:D=S:=e;omega
 .refine (QW _ _ _ (by rw[RT];exact Z_ q)).trans ((heap_setCell_same a S k _ 41 _ q).trans ?_);rw[eQ]
 .by_cases e:j=k
  .subst e;refine⟨P,n,c,aJ,λ_ _=>d _ _ E⟩
  .obtain ⟨T,U,V,X,Z⟩:=L j Q;exact⟨T,U,V,by simp only[al e];exact X,λR H=>d _ _ ((Z J H).fr l rfl)⟩
theorem hO[Lo]{d:Nat × Nat}(e:Fr TB aG w W)(g:aC W m b)(i:aX W k (.cells A 172 d))(a:w.heap.size<=k)(j:Lo.lo<=w.heap.size)(x y:H):
  Fr TB aG w ((W.setCell (R k 0) x).setCell (R k 1) y)/\aC ((W.setCell (R k 0) x).setCell (R k 1) y) m b/\∀v n f,cA W v n f->cA ((W.setCell (R k 0) x).setCell (R k 1) y) v n f:=by
 have c:=jm (ns W k x y) i (QD j a);exact⟨(e.new (p:=R k 0) a _).new (p:=R k 1) a _,g.fn c rfl,λv n f h=>h.fr c rfl⟩
def o_(g:aA)(b:By)(a:Ro)(r:Nat):Prop:=∀m k,m<g.M->k<128->eN b a m r k<256
theorem AB[Lo](R B:Nat)(b7:Option SR)(g:aA)(b8:Nat)(ro:Ro)(m r:Nat)(b:By)(w:QA)(h:fg w R B b7 g b8 ro)(p:aC w B b)(a1:nS g b ro r)(c1:m<g.M)(d0:∀j,j<g.M->j≠m->ro.iG j r=none->ro.down j r=false)(d1:o_ g b ro r):
  aF 250 #[ar R,ae m,ae r] w (mH B b (jk g.M ro m r) (λk=>xs (λj=>decide (j≠m)) (λj=>eN b ro j r k) g.M) w):=by
 obtain⟨y,e7,q,O⟩:=qi w (ao #[ae 0,aH 0] 172);have P:w.heap.size<y.heap.size:=Z_ O;have Q:=aB q O;have e8:=ad (λW (C:Fr TB aG y W)=>(h.below q).fr C rfl rfl rfl rfl);have d4:=ad (λj W (C:Fr TB aG y W)=>C_ R B b7 g b8 ro j r W ((h.below q).fr C rfl rfl rfl rfl) a1.h');have c2:=ad (λj (U:j<g.M) W (C:Fr TB aG y W)=>jK R B b7 g b8 ro j r W ((h.below q).fr C rfl rfl rfl rfl) U a1.ok.m16);have G:=aY a1 c1 d0 d1;have d5:=ad (p.below q);obtain⟨e9,f9,x1,x2⟩:=(h.below q).aM;have a2:=ad x1;obtain⟨k0,f0,z0⟩:=cr x1;have f1:=a1.ok.m16;obtain⟨L,c3⟩:=ah (λk=>xs (λj=>decide (j≠m)) (λj=>eN b ro j r k) g.M);have f2:=ad c3;have a3:=ad p.low;rw[c3];obtain⟨d,d6,d7⟩:=g;simp only at f1 k0 c1 a2 G c2;have mk:=λw=>yM w d aa;obtain⟨D,s⟩:=ah w.heap.size;rw[s]at P;clear h p a1 d0 d1 x1 q O c3 c1;go_enter func250,ntmps250;go_wp2
 try simp only[e7,s]
 go_loopw [22] (λi wr=>∃k:Nat,i= ae k/\k<=d/\QX (aq y wr)) (λi _=>d-(intOf i).toNat)
 case atStart=>exact⟨0,rfl,QO _,aj⟩
 case round=>
  obtain⟨k,rfl,d8,V⟩:=hrel;obtain⟨q1,q2,q3⟩:=kp V R z0;by_cases o:k<d
  .have E:=ad o;have a4:(k:Int)<(d:Int):=aa;obtain⟨c4,Z⟩:=ah ((ro.iG k r).isSome);obtain⟨c5,H⟩:=ah (ro.down k r);have a5:k=m\/c4=true\/c5=false:=by
    by_cases e:k=m
    .exact .inl e
    .cases d9:ro.iG k r with
     |none=>exact .inr (.inr (by rw[<-H];exact G.2.2.1 k o e d9))
     |some f=>exact .inr (.inl (by rw[<-Z,d9];rfl))
   have a6:=ad (d4 k wr (Fr.af V));have a7:=ad (λW C=>c2.out k o W C);rw[Z]at a6;rw[H]at a7;clear Z H;obtain⟨t,f3⟩:=ah ((k:Int) !=(m:Int));have a8:t=false\/c4=true\/c5=false:=by
    rcases a5 with e|e|e
    .left;rw[<-f3,e];simp
    .exact .inr (.inl e)
    .exact .inr (.inr e)
   clear a5;go_wp2_with(first|(go_at_call 249;refine a6.mono ?_;rintro e w2 ⟨⟨a,n,c,rfl⟩,p⟩;have u:aq y w2:=V.trans (p.mono V.size);have a9:=ad u;clear p u)|(cases t<;>cases c4<;>cases c5<;>simp at a8))
   all_goals go_wp2_with(go_at_call 201;refine(a7 _ (Fr.af a9)).mono ?_;rintro e w3 ⟨rfl,rfl⟩)
   all_goals exact⟨⟨k+1,by go_num,E,a9⟩,by have:=E.out;simp[intOf];omega⟩
  .clear d4 c2;obtain⟨S,b9⟩:=ah wr.heap.size;have b0:QX (AA B D S b ro d m r y 0 (wr.alloc (ao (bu d λ_=> aO) 41))):=by have u:aq y (wr.alloc (ao (bu d λ_=> aO) 41)):=aK V _;exact⟨d5.below u,rfl,Fr.af u,(u.block D P).trans (s▸Q.2),λ_=> aO,by rw[<-b9];exact QB _ _,λj _=>⟨_,_,_,rfl,λh=>absurd h (RQ j)⟩⟩
   have c6:QX (y.heap.size<=S):=by rw[<-b9];exact V.size
   go_wp2
   try simp only[b9]
   go_loopw [55] (λi wr=>∃k:Nat,i= ae k/\k<=d/\QX (AA B D S b ro d m r y k wr)) (λi _=>d-(intOf i).toNat)
   case atStart=>exact⟨0,rfl,QO _,b0⟩
   case round=>
    clear b0 b9 q1 q3 V o d8;rename_i f4 k0;obtain⟨k,rfl,d8,l⟩:=hrel;by_cases o:k<d
    .have E:=ad o;have a4:(k:Int)<(d:Int):=aa;by_cases e:k=m
     .have d2:((k:Int)==(m:Int))=true:=by simp[e]
      have c7:QX (AA B D S b ro d m r y (k+1) wr):=by
       have K:jk (k+1) ro m r=jk k ro m r:=by rw[mG,ak e,TZ]
       obtain⟨c0,h1,h2⟩:=l.rows;exact⟨by rw[K];exact l.ct,by rw[K];exact l.ok,l.bY,l.Kx,c0,h1,λj U=>by obtain⟨a,n,c,h3,h4⟩:=h2 j U;exact⟨a,n,c,h3,λh5 h6=>h4 aa h6⟩⟩
      clear e;go_wp2;exact⟨⟨k+1,by go_num,E,c7⟩,by have:=E.out;simp[intOf];omega⟩
     .have d2:((k:Int)==(m:Int))=false:=aS;have x:=λW (C:aq wr W)=>lD R B b7 ⟨d,d6,d7⟩ b8 ro k r (b.bU (jk k ro m r)).1 W (e8 W (l.bY.then C)) (l.ct.below C) (G.1.bU l.ok) o (G.2.2.1 k o e);unfold mH at x;have e0:b.bU (jk (k+1) ro m r)=(b.bU (jk k ro m r)).1.bU (uz ro k r):=by rw[mG,al e,By.oZ l.ok]
      rw[<-e0,sB l.ok]at x;obtain⟨X,c8⟩:=ah (b.bU (jk (k+1) ro m r));rw[c8]at x;obtain⟨b2,s2,a0⟩:=X;simp only at x;obtain⟨e4,e5,N⟩:=cC s2 a0;rw[N]at x;obtain⟨z1,z2,z3⟩:=kp (SU wr.heap.size wr) R (l.bY.lt z0);have e6:=ad x;have b1:=aT c8 N e;clear x c8 N e0 e;obtain⟨c0,z,A⟩:=l.rows;have c9:=aB z A;clear z A;by_cases M:a0=0
      .have I:e4=0/\e5=0:=by
        have:=b1.2.1;rw[M]at this;simp only[hN,ak]at this;cases this;exact⟨rfl,rfl⟩
       obtain⟨rfl,rfl⟩:=I;go_wp2_with(go_at_call 167;refine(e6 _ aj).mono ?_;rintro e w3 ⟨v,rfl,⟨a,n,c,rfl⟩,g1,Y,g3⟩;obtain⟨p1,p2,p3⟩:=cr (Y.hp c9.1 rfl);have p4:=(p1 k).trans (cg _ _ _ o);clear p1;have F:=aT g1 Y (g3 M);clear g1 Y g3);refine⟨⟨k+1,by go_num,E,?_⟩,by have:=E.out;simp[intOf];omega⟩;exact l.step E (by rw[b1.1,M]) F.1 F.2.1 F.2.2 P c6 d5.low _
      .have I:e4=(s2:Nat)/\e5=(a0:Nat):=by
        have:=b1.2.1;rw[bl s2 M]at this;cases this;exact⟨rfl,rfl⟩
       obtain⟨rfl,rfl⟩:=I;have g0:(a0:Int)≠0:=aa;go_wp2_with(go_at_call 167;refine(e6 _ aj).mono ?_;rintro e w3 ⟨v,rfl,⟨a,n,c,rfl⟩,g1,Y,g3⟩;obtain⟨p1,p2,p3⟩:=cr (Y.hp l.Kx rfl);have F:=aB g1 Y;clear g1 Y g3);go_region
       all_goals go_wp2
       have b3:=Az (r:=r) (ro:=ro) (b:=b) (k:=k+1) (m:=m) (by rw[b1.1];exact M) d E;rw[b1.1]at b3;have h3:=(Fr.af (T:=TB) (S:=aG) Q.1).tr (l.bY.tr F.2);obtain⟨K,e2,-⟩:=hO h3 F.1 (F.2.hp l.Kx rfl) (RN s) (s▸a3.out) (ae s2) (aH a0);refine QT (v:=.tuple #[aO,.agg #[ae s2,aH a0]]) (by simp[RP,results250,go_sem];go_simp) rfl ?_;unfold mH;rw[b3];exact⟨_,by rw[bl _ M],⟨_,_,_,rfl⟩,e2.below (aK (a_ aj) _),(K.alloc _).drew,λe=>absurd e M⟩
    .obtain rfl:d=k:=aa;obtain⟨c0,z,A⟩:=l.rows;have b4:Ic wr (a' S d d) d (λj=>decide (j≠m)) (λj=>eN b ro j r):=⟨S,0,d,bu d c0,(0,0),rfl,z,λj U=>by obtain⟨a,n,c,K,e2⟩:=A j U;exact⟨a,n,c,by rw[RE,cg _ _ _ U,K],λe3=>e2 U (by simpa using e3)⟩⟩;have b5:=ad (CV ⟨d,d6,d7⟩ r m _ (λj=>eN b ro j r) wr G.1.ok G.1.rr G.2.1 b4 G.2.2.2);have f5:=ad (λW=>fs 0 0 W);rw[f2.out]at b5;obtain⟨z1,z2,z3⟩:=cr (l.bY.hp a2 rfl);obtain⟨y1,y2,y3⟩:=cr l.Kx;clear z A b4;have d3:¬((d:Nat):Int)<((d:Nat):Int):=aa;go_wp2_with(first|(go_at_call 294;refine b5.mono ?_;rintro e w3 ⟨v,rfl,x,p⟩;obtain⟨y4,y5,y6⟩:=kp p D y3;obtain⟨f6,f7,f8,rfl⟩:=x.form;have F:=aB x p;clear x p)|(go_at_call 166;refine(f5 _).mono ?_;rintro e w4 ⟨rfl,p⟩;obtain⟨y7,y8,y9⟩:=kp p D y6;have b6:=ad p;clear p;simp only[hN,ak]));obtain⟨x,p⟩:=F.out;have J:=p.trans (b6.mono p.size);have h3:=((Fr.af (T:=TB) (S:=aG) Q.1).tr l.bY).then J;obtain⟨K,e2,e3⟩:=hO h3 (l.ct.below J) ((J.block D y3).trans l.Kx) (RN s) (s▸a3.out) (ae 0) (aH 0);refine QT (v:=.tuple #[.slice (some (ag f6 f7)) 128 f8,.agg #[ae 0,aH 0]]) (by simp[RP,results250,go_sem];go_simp) rfl ?_;refine⟨_,?_,⟨_,_,_,rfl⟩,e2,K,λ_=>e3 _ _ _ (x.eI.below b6)⟩;rw[l.ok];rfl
theorem uD[Lo](R B:Nat)(s:Option SR)(g:aA)(t:Nat)(a:Ro)(m r:Nat)(b:By)(w:QA)(h:fg w R B s g t a)(c:aC w B b)(q:nS g b a r)(x:m<g.M)(D:a.iG m r=none)(E:a.down m r=true)(O:∀j,j<g.M->j≠m->a.iG j r=none->a.down j r=false)(P:o_ g b a r):
  aF 167 #[ar R,ae m,ae r] w (mH B b (fX g.M a m r) (fc g.M b a m r) w):=by
 have F:(a.iG m r).isNone=true/\a.down m r=true:=⟨by rw[D];rfl,E⟩;have Q:fX g.M a m r=jk g.M a m r:=by unfold fX;rw[ak F];rfl
 have S:fc g.M b a m r=λk=>xs (λj=>decide (j≠m)) (λj=>eN b a j r k) g.M:=by unfold fc;rw[ak F]
 have u:=ad (λW (d:aq w W)=>AB R B s g t a m r b W (h.below d) (c.below d) q x O P);rw[<-S,<-Q]at u;obtain⟨a5,y⟩:=ah (fc g.M b a m r);obtain⟨X,T⟩:=ah (b.bU (fX g.M a m r));unfold mH at u|-;rw[y,T]at u|-;obtain⟨b2,U,V⟩:=X;obtain⟨G,K,A⟩:=cC U V;simp only[A]at u|-;have Z:=ad (λW (c:aq w W)=>oW R B s g t a m W (h.below c) x q.ok.m16);have H:=ad (λW=>ht (g.M:Nat) (g.c:Nat) (g.s:Nat) W (aA.gm q.ok));have N:=ad (λW (c:aq w W)=>mF R B s g t a m r W (h.below c) q.h' D);have L:=ad (λW (c:aq w W)=>jK R B s g t a m r W (h.below c) x q.ok.m16);rw[E]at L;have M:=ad c.low;obtain⟨I,a6,Y,x2⟩:=h.aM;obtain⟨k,a7,z⟩:=cr Y;have J:(r:Int)<(g.s:Int)*(g.c:Int):=by rw[gR];exact_mod_cast q.rr
 have d1:decide ((r:Int)<0)=false:=aJ;have d2:decide ((g.s:Int)*(g.c:Int)<=(r:Int))=false:=aS;go_enter func167,ntmps167;go_wp2_with(first|(go_at_call 163;refine(Z _ (aK aj _)).mono ?_;rintro e w2 ⟨rfl,rfl⟩)|(go_at_call 27;refine(H _).mono ?_;rintro e w3 ⟨rfl,c⟩;have n:=(c.block _ aJ).trans (QB w (ao #[ae 0,aH 0] 172));have d:aq w w3:=(aK aj _).trans (c.mono aJ);obtain⟨q4,q5,q6⟩:=kp c w.heap.size aJ;have f:=aB d n)|(go_at_call 249;refine(N _ f.1).mono ?_;rintro e w4 ⟨rfl,c⟩;have n:=(c.block _ q6).trans f.2;have d:aq w w4:=f.1.trans (c.mono f.1.size);have i:=aB d n)|(go_at_call 201;refine(L _ i.1).mono ?_;rintro e w5 ⟨rfl,rfl⟩)|(go_at_call 250;refine(u _ i.1).mono ?_;rintro e w6 ⟨v,rfl,⟨a0,a1,a2,rfl⟩,o,l,p⟩;have n:=l.hp i.2 rfl;obtain⟨a3,a4,a8⟩:=cr n;have C:=aY (Fr.tr (Fr.af i.1) l) n o p));obtain⟨l,n,o,p⟩:=C.out;obtain⟨y1,y2,y3⟩:=hO l o n (QE _) M (ae G) (.int .u16 K);exact QT (v:=.tuple #[.slice a0 a1 a2,.agg #[ae G,.int .u16 K]]) (by simp[RP,results167,go_sem];go_simp) rfl ⟨_,rfl,⟨_,_,_,rfl⟩,y2,y1,λe=>y3 _ _ _ (p e)⟩
def yN(g:aA)(a:Ro)(m r:Nat):Prop:=a.iG m r=none->a.down m r=true->∀j,j<g.M->j≠m->a.iG j r=none->a.down j r=false
theorem o'[Lo](R B:Nat)(f:Option SR)(g:aA)(i:Nat)(a:Ro)(m r:Nat)(b:By)(w:QA)(h:fg w R B f g i a)(j:aC w B b)(k:nS g b a r)(l:m<g.M)(n:yN g a m r)(o:o_ g b a r):
  aF 167 #[ar R,Y m,Y r] w (mH B b (fX g.M a m r) (fc g.M b a m r) w):=by
 by_cases c:a.iG m r=none/\a.down m r=true
 .exact uD R B f g i a m r b w h j k l c.1 c.2 (n c.1 c.2) o
 .have d:¬((a.iG m r).isNone=true/\a.down m r=true):=λe=>c ⟨by simpa using e.1,e.2⟩;have p:fX g.M a m r=uz a m r:=by unfold fX;rw[al d]
  have q:fc g.M b a m r=eN b a m r:=by unfold fc;rw[al d]
  rw[p,q];exact lD R B f g i a m r b w h j k l λe=>by
   cases s:a.down m r with
   |false=>rfl
   |true=>exact absurd ⟨e,s⟩ c
theorem Gl[Lo](R B:Nat)(y:Option SR)(g:aA)(A:Nat)(a:Ro)(k:Nat)(b:By)(w:QA)(h:fg w R B y g A a)(l:aC w B b)(p:nS g b a (g.row k))(K:k<g.B)(L:yN g a (g.mem k) (g.row k))(O:o_ g b a (g.row k)):
  aF 103 #[ar R,ae k] w (mH B b (fX g.M a (g.mem k) (g.row k)) (fc g.M b a (g.mem k) (g.row k)) w):=by
 have C:=ad (ys p.ok K);have o:=ad (λW (c:aq w W)=>o' R B y g A a (g.mem k) (g.row k) b W (h.below c) (l.below c) p (aA.kC p.ok k) L O);obtain⟨a0,q⟩:=ah (fc g.M b a (g.mem k) (g.row k));obtain⟨X,P⟩:=ah (b.bU (fX g.M a (g.mem k) (g.row k)));unfold mH at o|-;rw[q,P]at o|-;obtain⟨b2,Q,S⟩:=X;obtain⟨D,E,s⟩:=cC Q S;simp only[s]at o|-;have T:=ad l.low;obtain⟨U,a1,V,x2⟩:=h.aM;obtain⟨c0,f0,z⟩:=cr V;obtain⟨m,F⟩:=ah (g.mem k);obtain⟨r,G⟩:=ah (g.row k);obtain⟨a2,t⟩:=ah (g.par r);obtain⟨a3,u⟩:=ah (k/g.E);rw[F,G]at o;rw[F,G,t,u]at C;go_enter func103,ntmps103;go_wp2_with(first|(go_at_call 165;refine(C _).mono ?_;rintro e Z ⟨rfl,l⟩;have n:=(l.block _ aJ).trans (QB w (ao #[ae 0,aH 0] 172));have c:aq w Z:=(aK aj _).trans (l.mono aJ);obtain⟨q4,q5,H⟩:=kp l w.heap.size aJ;have f:=aB c n)|(go_at_call 167;refine(o _ (aK f.1 _)).mono ?_;rintro e w6 ⟨v,rfl,⟨N,M,I,rfl⟩,i,d,j⟩;have n:=d.hp ((QW _ _ _ H).trans f.2) rfl;obtain⟨Y,J,a4⟩:=cr n;have x:=aY (Fr.tr (Fr.af (aK f.1 _)) d) n i j));obtain⟨d,n,i,j⟩:=x.out;obtain⟨y1,y2,y3⟩:=hO d i n (QE _) T (ae D) (.int .u16 E);exact QT (v:=.tuple #[.slice N M I,.agg #[ae D,.int .u16 E]]) (by simp[RP,results103,go_sem];go_simp) rfl ⟨_,rfl,⟨_,_,_,rfl⟩,y2,y1,λe=>y3 _ _ _ (j e)⟩
theorem Ig:(prog.info? 4).map (λi=>(i.zero,i.size,i.bytes))=some (some iL,1,1):=aE
theorem Gm(w:M)(n:Nat)(h:n<=1000):(SY 56 (Y (n:Int)) (Y (n:Int))).run prog w=.ok (a' w.heap.size n n) (w.alloc (N (bu n λ_=>.bool false) 4)):=by
 obtain⟨d,f,a,b,c⟩:=SB Ig;have:=run_make (P:=prog) w 56 4 d iL underlying56 f a .i64 .i64 n n J J (by rw[c];omega) J;rw[this,b,TX];show YT _ (w.alloc (N (TN #[.bool false] n) 4))=_;have e:TN #[.bool false] n=bu n λ_=>.bool false:=by
  apply Array.ext
  .simp [TN,bu]
  .intro i g j;have:i%1=0:=YE i;simp[TN,bu,this]
 rw[e];rfl
theorem e'.news(h:e' w v l)(A:l≠[]):∃(b o k:Nat) (c:List H),v=.slice (some (R b o)) l.length k/\c.length=l.length/\(∀j u,(dg l c)[j]?=some u->w.cell? (((R b o):SR).add j)=some u)/\(∀u,u∈dg l c->u.oneCell'=true)/\
  ∀(i:Nat) (p:Pt) (u:H),l[i]?=some p->c[i]?=some u->dR w u p.2.2:=by
 obtain⟨a,k,rfl,-,h⟩:=h;obtain⟨b,o,q,B,rfl,C,x⟩:=h.resolve_left A;obtain⟨c,n⟩:∃c:List H,c=(TQ l.length).map λi=>(q[o+i*3+2]?).getD iL:=⟨_,rfl⟩;have y:c.length=l.length:=by rw[n];simp
 have z:∀(i:Nat) (p:Pt),l[i]?=some p->∃u,c[i]?=some u/\q[o+i*3+2]?=some u/\dR w u p.2.2:=λi p g=>by obtain⟨-,-,u,m,D⟩:=x i p g;refine⟨u,?_,m,D⟩;rw[n,RI,SF (QR.1 g).1];simp[m]
 have d:∀j u,(dg l c)[j]?=some u->q[o+j]?=some u/\u.oneCell'=true:=λj u f=>by
  have s:=(QR.1 f).1;rw[qJ y]at s;obtain⟨p,g⟩:∃p,l[j/3]?=some p:=⟨_,QQ J⟩;obtain⟨E,t,F,m⟩:=z _ p g;obtain⟨G,K,L⟩:=jH g t;obtain⟨O,P,-⟩:=x _ p g;have Q:j%3=0\/j%3=1\/j%3=2:=J;rcases Q with e|e|e
  .rw [show j=j/3*3 by omega,G]at f;cases f;exact⟨by rw[show o+j=o+j/3*3 by omega];exact O,rfl⟩
  .rw [show j=j/3*3+1 by omega,K]at f;cases f;exact⟨by rw[show o+j=o+j/3*3+1 by omega];exact P,rfl⟩
  .rw [show j=j/3*3+2 by omega,L]at f;cases f;refine⟨by rw[show o+j=o+j/3*3+2 by omega];exact F,?_⟩;obtain⟨S,T,U,rfl⟩:=m.form;rfl
 refine⟨b,o,k,c,rfl,y,λj u f=>?_,λu r=>?_,λi p u g r=>?_⟩
 .rw [show((R b o):SR).add j=⟨b,o+j,none⟩by simp[Addr.add]];exact(QS w b (o+j) q 206 B C).trans (d j u f).1
 .obtain ⟨j,f⟩:=TV.1 r;exact(d j u f).2
 .obtain ⟨E,t,-,m⟩:=z i p g;rw[t]at r;cases r;exact m
theorem uE{a:Nat->Bool}(h:l≠[])(i:∀p,p∈l->p.1≠n)(j:∀p,p∈l->a p.1=true->a n=true->p.1=n):jj a l r n f≠[]:=by
 intro e;unfold jj at e;obtain⟨k,c⟩:=List.append_eq_nil_iff.1 e;obtain⟨p,b⟩:=WH l h;have d:=List.filter_eq_nil_iff.1 k p b;simp only[Bool.not_eq_true',Bool.not_eq_false]at d;by_cases g:a n=true
 .exact i p b (j p b d g)
 .rw [al g]at c;cases c
theorem mI(a:Nat->Bool)(l:List Pt)(r par:Nat)(S:aN):(jj a l r par S).length<=l.length+1:=by unfold jj;rw[QU];have:=VI (λp:Pt=> !a p.1) l;split<;>simp<;>omega
structure sC(w0 w:M)(T R:Nat)(pv lv:H)(wl:List Pt):Prop where
 new:w0.heap.size<=T
 aM:∃wv,w.heap[T]? =some (N #[ar R,pv,lv,wv] 258)/\fa w0.heap.size w wv wl
def Gn(a:Nat->Bool)(k j:Nat):H:=.bool (if j<k then a j else false)
def nt(M:Nat)(a:Ro)(l:List Pt)(r par:Nat):List Nat:=cX M (λm=>a.down m r) l par
def jn(M:Nat)(a:Ro)(l:List Pt)(r par:Nat):List Nat:=(nt M a l r par).flatMap λj=>fX M a j r
def kk(M:Nat)(b:By)(a:Ro)(l:List Pt)(r par:Nat):List Pt:=jj (λm=>a.down m r) l r par (fI (ez (nt M a l r par) λj=>fc M b a j r) l)
theorem dI[Lo]{d:Nat × Nat}(e:Fr TB aG w W)(f:aC W n b)(g:aX W m (.cells A 172 d))(a:w.heap.size<=m)(h:Lo.lo<=m)(x y:H):
  Fr TB aG w ((W.setCell (R m 0) x).setCell (R m 1) y)/\aC ((W.setCell (R m 0) x).setCell (R m 1) y) n b/\Fr [172] aG W ((W.setCell (R m 0) x).setCell (R m 1) y):=by
 have c:=jm (ns W m x y) g h;exact⟨(e.new (p:=R m 0) a _).new (p:=R m 1) a _,f.fn c rfl,c⟩
theorem Nv[Lo]{x y d g v:H}(a:aX W m (N #[d,g] 172))(h:aC W n b)(i:Fr TB aG w W)(j:k=0->cA W v 128 f)(c:w.heap.size<=m)(l:Lo.lo<=w.heap.size):
  w.heap.size<=m/\((W.setCell (R m 0) x).setCell (R m 1) y).heap[m]?=some (N #[x,y] 172)/\aC ((W.setCell (R m 0) x).setCell (R m 1) y) n b/\Fr TB aG w ((W.setCell (R m 0) x).setCell (R m 1) y)/\(k=0->cA ((W.setCell (R m 0) x).setCell (R m 1) y) v 128 f):=by
 obtain⟨o,p,q⟩:=hO i h a c l x y;exact⟨c,(heap_setCell_same _ m 1 _ 172 _ (heap_setCell_same W m 0 _ 172 _ a)),p,o,λe=>q _ _ _ (j e)⟩
theorem Nw[Lo](c:aC W n b)(a:Fr TB aG w W)(d:m=0->cA W v 128 f):
  w.heap.size<=W.heap.size/\(W.alloc (N #[x,y] 172)).heap[W.heap.size]?=some (N #[x,y] 172)/\aC (W.alloc (N #[x,y] 172)) n b/\Fr TB aG w (W.alloc (N #[x,y] 172))/\(m=0->cA (W.alloc (N #[x,y] 172)) v 128 f):=
 ⟨a.size,QB _ _,c.below (aK aj _),a.alloc _,λe=>(d e).below (aK aj _)⟩
theorem fa.off(h:fa n w v l)(d:w.heap[m]?=some O)(f:ty O≠206):∀k,v.ownBlock=some k->¬k=m:=by
 obtain⟨q,-,i,-⟩:=h;intro k a e;subst e;rcases i.2 with⟨b,-⟩|⟨g,j,o,b,p,c,-⟩
 .rw [b]at a;cases a
 .rw [b]at a;cases a;rw[c]at d;cases d;exact f rfl
theorem lE[Lo](h:aC w n b)(a:Out S w W)(c:∀k o,S k->w.heap[k]?=some o->TB.contains (ty o)=false):aC W n b:=h.fr (T:= []) (Fr.wk a) rfl c
structure sD(g:aA)(b:By)(ro:Ro)(r:Nat)(l:List Pt):Prop where
 fit:nS g b ro r
 row:np g r l
 one:∀i j,i<g.M->j<g.M->ro.down i r=true->ro.down j r=true->i=j
 h':l.length<=g.M-1
 eI:o_ g b ro r
 new:∀p,p∈l->∀k,k<128->p.2.2 k<256
def TW:List Nat:=258::206::TB
def Jj[Lo](d:M)(T R B:Nat)(pv f:H)(g:List Pt)(b:By)(L:List Pt)(x:By × Nat × Nat)(w:M)(e:RV)(a:M):Prop:=
 aL e (hN x.2.1 x.2.2)/\aC a B x.1/\Fr TB aG d a/\Fr TW aG w a/\(x.2.2=0->∃c,c.Perm L/\(c.Pairwise λp q=>p.1<q.1)/\sC d a T R pv f (g++c))
structure Lp[Lo](B S:Nat)(b:By)(ro:Ro)(M r:Nat)(bU:List Nat)(w:QA)(k:Nat)(wr:QA):Prop where
 ct:aC wr B (b.bU ((bU.take k).flatMap fun j=>fX M ro j r)).1
 ok:(b.bU ((bU.take k).flatMap fun j=>fX M ro j r)).2.2=0
 bY:Fr TB aG w wr
 rows:∃sv:Nat->H,wr.heap[S]? =some (N (bu M sv) 41)/\∀j,j<M->∃a n c,sv j= .slice a n c/\(j∈bU.take k->cA wr (.slice a n c) 128 (fc M b ro j r))
theorem gp(h:T[k]?=some j):T.take (k+1)=T.take k++ [j]:=by rw[UG,h];rfl
theorem Lp.step[Lo]{M r:Nat}(h:Lp m C b o M r T w k W)(u:T[k]?=some j){l:By}{x:Nat}{n c:Nat}(q:b.bU ((T.take (k+1)).flatMap λj=>fX M o j r)=(l,x,0))(y:aC z m l)(d:Fr TB aG W z)(A:cA z (.slice P n c) 128 (fc M b o j r))(s:w.heap.size<=C)(B:Lo.lo<=w.heap.size):
  Lp m C b o M r T w (k+1) (z.setCell (R C j) (.slice P n c)):=by
 obtain⟨D,E,F⟩:=h.rows;have g:=d.hp E rfl;have a:∀v f,cA z v 128 f->cA (z.setCell (R C j) (.slice P n c)) v 128 f:=λv f G=>G.set (p:=R C j) g (show(41:Nat)≠5 by decide) _;refine⟨?_,by rw[q],(h.bY.tr d).new (p:=R C j) s _,λi=>if i=j then .slice P n c else D i,?_,λi K=>?_⟩
 .rw [q];exact y.Jd (p:=R C j) g rfl (QD B s) _
 .rw [heap_setCell_same z C j _ 41 _ g,eQ]
 .by_cases e:i=j
  .subst e;exact⟨P,n,c,aJ,λ_=>a _ _ A⟩
  .obtain ⟨L,O,Q,S,U⟩:=F i K;refine⟨L,O,Q,by simp only[al e];exact S,λt=>a _ _ ((U ?_).fr d rfl)⟩;rw[gp u,TH]at t;exact t.resolve_right λV=>e (by simpa using V)
theorem yO(h:(b.bU T).2.2=0):fc n (b.bU T).1 o m r=fc n b o m r:=by unfold fc;simp only[sB h]
theorem o_.bU(h:o_ g b o r){l:List Nat}(a:(b.bU l).2.2=0):o_ g (b.bU l).1 o r:=λm k c d=>by rw[sB a];exact h m k c d
theorem lF{a:Nat->Bool}(h:m∈cX n a l k):m<n:=by
 unfold cX at h;split at h
 .exact (br.1 h).1
 .split at h
  .exact (br.1 h).1
  .cases h
theorem q_(M:Nat)(a:Nat->Bool)(l:List Pt)(par:Nat):(cX M a l par).length<=M:=by
 unfold cX;split
 .exact fy _ _
 .split
  .exact fy _ _
  .exact QO _
theorem o_.V(h:o_ g b o r)(c:m<g.M)(a:k<128):fc g.M b o m r k<256:=by
 unfold fc;split
 .exact BX λj d _=>h j k d a
 .exact h m k c a
theorem qf.fr[Lo]{l:List Nat}(h:qf w v l)(d:Fr T aG w W)(f:T.contains 3=false):qf W v l:=by obtain⟨a,c,e,h⟩:=h;refine⟨a,c,e,h.imp id ?_⟩;rintro⟨b,o,g,i,j,k,m⟩;exact⟨b,o,g,i,j,d.hp k f,m⟩
theorem sD.dn(h:sD g b o r l)(a:m<g.M):yN g o m r:=λ_ c j d e _=>by
 cases f:o.down j r with
 |false=>rfl
 |true=>exact absurd (h.one j m d a f c) e
theorem Jk[Lo](w0:QA)(T R B:Nat)(o1:Option SR)(g:aA)(o2:Nat)(u:Ro)(r:Nat)(b:By)(l c5:List Pt)(pv v0 v3:QC)(w:QA)(h:fg w0 R B o1 g o2 u)(K:Fr TB aG w0 w)(i0:aC w B b)(k5:sC w0 w T R pv v0 c5)(v4:e' w0 v3 l)(g9:sD g b u r l)(x4:c5.length<=1000000)(o3:Lo.lo<=w0.heap.size):
  Calls VR 255 #[.pointer (some ⟨T,0,none⟩),v3] w (Jj w0 T R B pv v0 c5 b (kk g.M b u l r (g.par r)) (b.bU (jn g.M u l r (g.par r))) w):=by
 obtain⟨U,o4⟩:∃U,w.alloc (.cells #[.int .i64 0,.int .u16 0] 172)=U:=⟨_,rfl⟩;have Y:SK w.heap.size w U:=by rw[<-o4];exact aK (SU _ _) _
 have i1:aX U w.heap.size (.cells #[.int .i64 0,.int .u16 0] 172 (0,0)):=by rw[<-o4];exact QB _ _
 have k6:w.heap.size<U.heap.size:=Z_ i1;have F:=QZ (And.intro Y (And.intro i1 (And.intro K.size i0.low)));have J:=K.then Y;have v5:=QZ (λW (K:Fr TB aG U W)=>h.fr (J.tr K) rfl rfl rfl rfl);have v6:=QZ (λj (N:j<g.M) W (K:Fr TB aG U W)=>jK R B o1 g o2 u j r W (h.fr (J.tr K) rfl rfl rfl rfl) N g9.fit.ok.m16);have A:=QZ (And.intro J (And.intro (i0.below Y) (And.intro (v4.fr J rfl rfl) g9)));obtain⟨A2,b1,v7⟩:=k5.aM;have o5:=Z_ b1;have i2:=(Y.block T (Z_ b1)).trans b1;have k7:=QZ (And.intro k5.new (And.intro i2 (v7.below Y)));obtain⟨t0,t1,t2⟩:=cr i2;obtain⟨x5,x6,x1,x2⟩:=(v5.out U (Fr.refl _ _ _)).aM;have k8:=QZ x1;obtain⟨k0,f0,z0⟩:=cr x1;have o6:=g9.fit.ok.m16;obtain⟨d,c6,c8⟩:=g;simp only at o6 k0 k8 v6;have mk:=λw=>Gm w d (by omega);obtain⟨a,x7,rfl,-,c9⟩:=v4;obtain⟨n7,o7,x8,x9,rfl,k9,c9⟩:=c9.resolve_left g9.row.ne;obtain⟨p0,i3⟩:∃p0,l[0]?=some p0:=by
  cases l0:l with
  |nil=>exact absurd l0 g9.row.ne
  |cons a l=>exact⟨a,rfl⟩
 obtain⟨-,c1,-⟩:=c9 0 p0 i3;have l1:p0.2.1=r:=(g9.row.ax i3).2.1;rw[l1]at c1;have L:=J.hp k9 rfl;have y0:=QZ L;have q0:=(QS U n7 (o7+1) x8 206 x9 L).trans (by simpa using c1);have q1:=Z_ L;have o8:(0:Int)<(l.length:Int):=by have:=g9.row.ne;have:l.length≠0:=λe=>this (WO.1 e);omega
 obtain⟨n,v8⟩:∃n,l.length=n:=⟨_,rfl⟩;rw[v8]at o8 A|-;obtain⟨D,z⟩:∃D,w.heap.size=D:=⟨_,rfl⟩;rw[z]at k6 o5;clear h K i0 k5 b1 v7 x1 x2 g9 c9 i3 c1 l1 k9 L Y i1 J i2;go_enter Tryz.func255,Tryz.ntmps255;go_wp2
 try simp only[o4,z]
 obtain⟨S,i4⟩:∃S,U.heap.size=S:=⟨_,rfl⟩;have l2:(U.alloc (.cells (bu d λ_=>.bool false) 4)).heap[S]?=some (.cells (bu d (Gn (λm=>u.down m r) 0)) 4 (0,0)):=by rw[<-i4,QB];rfl
 have o9:=QZ (And.intro l2 (aK (SU _ U) (.cells (bu d λ_=>.bool false) 4)));clear l2;rw[i4]at t2 z0 q1 k6
 try simp only[i4]
 go_loopw [26] (λi wr=>∃k:Nat,i=.int .i64 k/\k<=d/\QX (aX wr S (.cells (bu d (Gn (λm=>u.down m r) k)) 4 (0,0))/\SK U.heap.size U wr)) (λi _=>d-(intOf i).toNat)
 case atStart=>exact⟨0,rfl,QO _,o9.out⟩
 case round=>
  obtain⟨k,rfl,a0,x⟩:=hrel;obtain⟨y1,y2,y3⟩:=cr x.out.1;obtain⟨y4,y5,y6⟩:=kp x.out.2 T (by rw[i4];exact t2);obtain⟨y7,y8,y9⟩:=kp x.out.2 n7 (by rw[i4];exact q1);by_cases V:k<d
  .have l3:=QZ V;have l4:(k:Int)<(d:Int):=by omega
   have e_:0<n:=by omega
   have l5:=QZ (λW K=>v6.out k V W K);obtain⟨n8,i5⟩:∃n8,u.down k r=n8:=⟨_,rfl⟩;rw[i5]at l5;have z4:=(y1 k).trans (cg _ _ _ V);have q2:=QZ i5;clear y1 i5;go_wp2;go_region_held3(λt=>t.cell? ⟨T,0,none⟩=some (.pointer (some ⟨R,0,none⟩))/\t.cell? ⟨n7,o7+1,none⟩=some (.int .i64 (r:Nat))) ((simp[*,go_sem];done)) (first|(go_at_call 201;refine(l5.out _ (Fr.af (via x.out.2 (by go_grown)))).mono ?_;rintro e w3 ⟨rfl,rfl⟩))
   all_goals go_wp2
   refine⟨⟨k+1,by go_num,l3.out,?_,?_⟩,by have:=l3.out;simp[intOf];omega⟩
   .show (wr.setCell ⟨S,k,none⟩ (.bool n8)).heap[S]?=_;rw[heap_setCell_same wr S k _ 4 _ x.out.1,eQ];refine congrArg (λa=>some (Obj.cells a 4 (0,0))) (k' λj N=>?_);unfold Gn;by_cases e:j=k
    .subst e;simp[q2.out]
    .simp only[if_neg e,show(j<k+1)=(j<k)by simp;omega]
   .exact (via x.out.2 (a_ (SU _ _))).setCell (p:=⟨S,k,none⟩) (RN i4) (.bool n8)
  .obtain rfl:d=k:=by omega
   have h4:QX (Af wr (.slice (some ⟨S,0,none⟩) d d) d (λm=>u.down m r)):=⟨_,_,rfl,.inr ⟨S,0,_,_,rfl,x.out.1,λj N=>by rw[RE,cg _ _ _ N];simp[Gn,N]⟩⟩;have M:=CJ ⟨d,c6,c8⟩ (λm=>u.down m r) l r (.slice (some ⟨S,0,none⟩) d d) (.slice (some ⟨n7,o7,none⟩) n x7) wr A.out.2.2.2.fit.ok h4.out (A.out.2.2.1.below x.out.2) A.out.2.2.2.row A.out.2.2.2.one A.out.2.2.2.h';obtain⟨q3,q4,l6⟩:=kp x.out.2 R (by rw[i4];exact z0);obtain⟨j9,i6⟩:∃j9,dW d (λm=>u.down m r) l (aA.par ⟨d,c6,c8⟩ r)=j9:=⟨_,rfl⟩;obtain⟨f,b3⟩:∃f,cX d (λm=>u.down m r) l (aA.par ⟨d,c6,c8⟩ r)=f:=⟨_,rfl⟩;obtain⟨par,b4⟩:∃par,aA.par ⟨d,c6,c8⟩ r=par:=⟨_,rfl⟩;have s:=QZ (And.intro i6 (And.intro b3 b4));unfold Lh at M;rw[i6,b3,b4]at M;have q5:=QZ M;have z5:=λw=>yM w d (by omega);clear y1 y2 M i6 b3 b4;go_wp2_with(go_at_call 300;refine q5.out.mono ?_;rintro e w2 ⟨v1,v2,rfl,g1,g2,g3⟩;have l7:=via x.out.2 g3;obtain⟨a1,a2,a3⟩:=kp g3 T y6;obtain⟨a4,a5,a6⟩:=kp g3 R l6;obtain⟨k1,k2,rfl,-,-⟩:=id g1;obtain⟨k3,k4,rfl,-⟩:=id g2;rw[v8]at g1;have b5:=QZ (And.intro g1 (And.intro g2 (And.intro g3 l7)));clear g1 g2 g3 l7);obtain⟨P,q6⟩:∃P,w2.heap.size=P:=⟨_,rfl⟩;obtain⟨d0,d7⟩:∃d0,w2.alloc (.cells #[.int .i64 (r:Nat),.int .u8 (j9:Nat),.int .i64 (par:Nat),.slice k1 n k2,.slice k3 f.length k4] 377)=d0:=⟨_,rfl⟩;have d8:SK w2.heap.size w2 d0:=by rw[<-d7];exact aK (SU _ _) _
   have q7:aX d0 P (.cells #[.int .i64 (r:Nat),.int .u8 (j9:Nat),.int .i64 (par:Nat),.slice k1 n k2,.slice k3 f.length k4] 377 (0,0)):=by rw[<-d7,<-q6];exact QB _ _
   obtain⟨Q,l8⟩:∃Q,P+1=Q:=⟨_,rfl⟩;have v9:d0.heap.size=Q:=by rw[<-d7,SP,q6,l8]
   have h8:SK U.heap.size U d0:=via b5.out.2.2.2 d8;have h9:=QZ (And.intro q7 (And.intro h8 (And.intro (b5.out.1.below d8) (b5.out.2.1.below d8))));have q8:=QZ ((h4.out.below b5.out.2.2.1).below d8);have q9:QX (Lp B Q b u d r f d0 0 (d0.alloc (.cells (bu d λ_=> aO) 41))):=
    ⟨A.out.2.1.below (aK h8 _),rfl,(Fr.refl _ _ _).alloc _,λ_=> aO,by rw[<-v9];exact QB _ _,λj _=>⟨_,_,_,rfl,λh=>by simp at h⟩⟩
   try simp only[q6,d7,l8]
   go_loopw [72] (λi wr=>∃k:Nat,i=.int .i64 k/\k<=f.length/\QX (Lp B Q b u d r f d0 k wr)) (λi _=>f.length-(intOf i).toNat)
   case atStart=>exact⟨0,rfl,QO _,q9.out⟩
   case round=>
    rename_i z6;obtain⟨k,rfl,a0,x⟩:=hrel;have I:Fr TB aG U wr:=(Fr.af h9.out.2.1).tr x.out.bY;obtain⟨d1,d2,d3⟩:=cr (I.hp k7.out.2.1 rfl);obtain⟨d4,d5,d6⟩:=cr (x.out.bY.hp h9.out.1 rfl);have C:=QZ I;clear y4 y5 y6 y7 y8 y9 q3 q4 l6 a1 a2 a3 a4 a5 a6;by_cases V:k<f.length
    .have l3:=QZ V;have l4:(k:Int)<(f.length:Int):=by omega
     have w1:f.length<=16:=QD (s.out.2.1▸q_ _ _ _ _) o6;obtain⟨j,N⟩:∃j,f[k]?=some j:=⟨_,QQ V⟩;have i7:j<d:=lF (s.out.2.1▸QV N);obtain⟨A3,A4,r0,b6⟩:=h9.out.2.2.2;cases r0;obtain⟨r1,r2,r3,r4,rfl,n1,n2⟩:=b6.resolve_left (by intro e;rw[e]at V;simp at V);have n3:=x.out.bY.hp n1 rfl;have n4:=(QS wr r1 (r2+k) r3 3 r4 n3).trans (n2 k j N);have n5:=Z_ n3;have i8:=λW (K:SK wr.heap.size wr W)=>o' R B o1 ⟨d,c6,c8⟩ o2 u j r (b.bU ((f.take k).flatMap λj=>fX d u j r)).1 W (v5.out W (I.then K)) (x.out.ct.below K) (A.out.2.2.2.fit.bU x.out.ok) i7 (A.out.2.2.2.dn i7) (A.out.2.2.2.eI.bU x.out.ok);have w7:b.bU ((f.take (k+1)).flatMap λj=>fX d u j r)=(b.bU ((f.take k).flatMap λj=>fX d u j r)).1.bU (fX d u j r):=by rw[gp N,UY,By.oZ x.out.ok];simp
     unfold mH at i8;rw[<-w7,yO x.out.ok]at i8;obtain⟨X,r5⟩:∃X,b.bU ((f.take (k+1)).flatMap λj=>fX d u j r)=X:=⟨_,rfl⟩;rw[r5]at i8;obtain⟨b2,s2,d9⟩:=X;simp only at i8;obtain⟨i9,b1,j0⟩:=cC s2 d9;rw[j0]at i8;obtain⟨w8,b7,-⟩:=x.out.rows;have r6:=QZ b7;have a7:=C.out.hp k7.out.2.1 rfl;have L:=x.out.bY.hp h9.out.1 rfl;have b8:∀W,SK wr.heap.size wr W->Calls VR 167 #[.pointer (some ⟨R,0,none⟩),.int .i64 (j:Nat),.int .i64 (r:Nat)] W (λe t=>∃a n c,e=.returned (.tuple #[.slice a n c,.agg #[.int .i64 i9,.int .u16 b1]])/\aC t B b2/\(Fr TB aG wr t/\W.heap.size<=t.heap.size/\∀o,aX W wr.heap.size o->TB.contains (ty o)=false->aX t wr.heap.size o)/\(d9=0->cA t (.slice a n c) 128 (fc d b u j r))/\t.cell? ⟨T,0,none⟩=some (.pointer (some ⟨R,0,none⟩))/\t.cell? ⟨P,0,none⟩=some (.int .i64 (r:Nat))/\T<t.heap.size/\P<t.heap.size):=λW K=>(i8 W K).mono (by rintro e t ⟨v,rfl,⟨a,n,c,rfl⟩,g1,g2,g3⟩;have g4:=(Fr.af (T:=TB) (S:=aG) K).tr g2;exact⟨a,n,c,rfl,g1,⟨g4,g2.size,λo a8 k5=>g2.hp a8 k5⟩,g3,((cr (g4.hp a7 rfl)).1 0),((cr (g4.hp L rfl)).1 0),(cr (g4.hp a7 rfl)).2.2,(cr (g4.hp L rfl)).2.2⟩);have r7:=QZ b8;clear b8 a7 L;have j1:=QZ (And.intro r5 (And.intro j0 (And.intro N i7)));have w9:(j:Int)<(d:Int):=by omega
     clear i8 r5 j0 w7 N n1 n2 n3 b6 b7 I;go_wp2_with fail;go_cut [12,13,76,84,85,86] (λr8 r9 s0 s1 s3 s4 n9=>∃(a:Option SR) (n c o0:Nat),r8=.slice a n c/\r9=.pointer (some ⟨o0,0,none⟩)/\s0=.tuple #[.slice a n c,.agg #[.int .i64 i9,.int .u16 b1]]/\s1=.tuple #[.slice a n c,.agg #[.int .i64 i9,.int .u16 b1]]/\s3=.slice a n c/\s4=.agg #[.int .i64 i9,.int .u16 b1]/\QX (wr.heap.size<=o0/\aX n9 o0 (.cells #[.int .i64 i9,.int .u16 b1] 172 (0,0))/\aC n9 B b2/\Fr TB aG wr n9/\(d9=0->cA n9 (.slice a n c) 128 (fc d b u j r))))
     case first=>
      go_region_held3(λt=>t.cell? ⟨T,0,none⟩=some (.pointer (some ⟨R,0,none⟩))/\t.cell? ⟨P,0,none⟩=some (.int .i64 (r:Nat))) ((simp[*,go_sem];done)) (first|(go_at_call 167;refine(r7.out _ (by go_grown)).mono ?_;rintro e w3 ⟨a,n,c,rfl,g1,g2,g3,g4,g5,g6,g7⟩;(try(have h7:=g2.2.2 _ (QB wr (.cells #[.int .i64 0,.int .u16 0] 172)) rfl;obtain⟨c7,f7,z7⟩:=cr h7;have H7:=QZ h7;clear h7));have b5:=QZ (And.intro g1 (And.intro g2 g3));clear g1 g2 g3))
      all_goals go_wp2
      all_goals go_meet
      all_goals first
       |exact⟨_,_,_,_,rfl,rfl,rfl,rfl,rfl,rfl,Nv H7.out b5.out.1 b5.out.2.1.1 b5.out.2.2 (QE _) (x.out.ct.low)⟩
       |exact⟨_,_,_,_,rfl,rfl,rfl,rfl,rfl,rfl,Nw b5.out.1 b5.out.2.1.1 b5.out.2.2⟩
     case rest=>
      rename_i z8;refine z8 _ _ ?_;obtain⟨a,A5,c,o0,rfl,rfl,rfl,rfl,rfl,rfl,l9⟩:=hcut;have e0:=l9.out.2.2.2.1;have e4:=QZ e0;obtain⟨f1,f2,f3⟩:=cr l9.out.2.1;obtain⟨f4,f5,f6⟩:=cr (e0.hp (C.out.hp F.out.2.1 rfl) rfl);rw[z]at f4 f5 f6;obtain⟨f7,f8,f9⟩:=cr (e0.hp r6.out rfl);have f10:=(f7 j).trans (cg _ _ _ j1.out.2.2.2);clear f7 e0;by_cases h0:d9=0
      .have j2:i9=0/\b1=0:=by
        have:=j1.out.2.1;rw[h0]at this;simp only[hN,if_pos]at this;cases this;exact⟨rfl,rfl⟩
       obtain⟨rfl,rfl⟩:=j2;go_wp2;refine⟨⟨k+1,by go_num,l3.out,?_⟩,by have:=l3.out;simp[intOf];omega⟩;exact x.out.step j1.out.2.2.1 (by rw[j1.out.1,h0]) l9.out.2.2.1 e4.out (l9.out.2.2.2.2 h0) (RN v9) (QD F.out.2.2.2 (QD F.out.1.size h9.out.2.1.size))
      .have j2:i9=(s2:Nat)/\b1=(d9:Nat):=by
        have:=j1.out.2.1;rw[bl s2 h0]at this;cases this;exact⟨rfl,rfl⟩
       obtain⟨rfl,rfl⟩:=j2;have A6:(d9:Int)≠0:=by omega
       go_wp2;have h3:=(A.out.1.tr C.out).tr e4.out;have s5:w0.heap.size<=D:=by rw[<-z];exact F.out.2.2.1
       have l0:Lo.lo<=D:=by rw[<-z];exact F.out.2.2.2
       have m0:=e4.out.hp (C.out.hp F.out.2.1 rfl) rfl;rw[z]at m0;obtain⟨e1,e2,-⟩:=dI h3 l9.out.2.2.1 m0 s5 l0 (.int .i64 (s2:Nat)) (.int .u16 (d9:Nat));have s6:b.bU (jn d u l r par)=(b2,s2,d9):=by unfold jn nt;rw[<-s.out.2.2,s.out.2.1,<-XA (k+1) f,UY,By.oY (by rw[j1.out.1];exact h0),j1.out.1]
       refine QT (v:=.agg #[.int .i64 (s2:Nat),.int .u16 (d9:Nat)]) (by simp[RP,Tryz.results255,go_sem];go_simp) rfl ?_;rw[s.out.2.2,s6];have e5:=(Fr.af (T:=TB) (S:=aG) F.out.1).tr (C.out.tr e4.out);exact⟨by rw[bl _ h0],e2,e1,((e5.new (p:=⟨D,0,none⟩) (RN z) _).new (p:=⟨D,1,none⟩) (RN z) _).wide TW rfl,λe=>absurd e h0⟩
    .obtain rfl:k=f.length:=by omega
     obtain⟨w8,b7,j3⟩:=x.out.rows;have a8:=x.out.ok;have j4:=x.out.ct;rw[UB]at j3 a8 j4;have m1:Ic wr (.slice (some ⟨Q,0,none⟩) d d) d (λj=>f.contains j) (λj=>fc d b u j r):=⟨Q,0,d,bu d w8,(0,0),rfl,b7,λj N=>by obtain⟨a,n,c,e1,e2⟩:=j3 j N;exact⟨a,n,c,by rw[RE,cg _ _ _ N,e1],λe3=>e2 (by simpa using e3)⟩⟩;have m2:Af wr (.slice (some ⟨S,0,none⟩) d d) d (λm=>u.down m r):=q8.out.fr x.out.bY rfl;have m3:e' wr (.slice k1 n k2) l:=h9.out.2.2.1.fr x.out.bY rfl rfl;have b6:qf wr (.slice k3 f.length k4) f:=h9.out.2.2.2.fr x.out.bY rfl;have j5:=C.out.hp k8.out rfl;have a7:=C.out.hp k7.out.2.1 rfl;have L:=x.out.bY.hp h9.out.1 rfl;have s7:=Z_ j5;have j6:f.length<=16:=QD (s.out.2.1▸q_ _ _ _ _) o6;have b8:∀W,SK wr.heap.size wr W->Calls VR 301 #[.agg #[.int .i64 (d:Nat),.int .i64 (c6:Nat),.int .i64 (c8:Nat)],.slice (some ⟨S,0,none⟩) d d,.agg #[.int .i64 (r:Nat),.int .u8 (j9:Nat),.int .i64 (par:Nat),.slice k1 n k2,.slice k3 f.length k4],.slice (some ⟨Q,0,none⟩) d d] W (λe t=>∃a O c,e=.returned (.tuple #[.slice a (VU O) c,.int .u16 0])/\(e' t (.slice a O.length c) O/\O.Perm (kk d b u l r par)/\O.Pairwise (λp q=>p.1<q.1)/\SK wr.heap.size wr t)/\(∀o,t.cell? ⟨T,o,none⟩=wr.cell? ⟨T,o,none⟩)/\(∀o,t.frozen? ⟨T,o,none⟩=wr.frozen? ⟨T,o,none⟩)/\T<t.heap.size/\(∀o,t.cell? ⟨R,o,none⟩=wr.cell? ⟨R,o,none⟩)/\(∀o,t.cell? ⟨P,o,none⟩=wr.cell? ⟨P,o,none⟩)):=λW K=>by
      have:=Gj ⟨d,c6,c8⟩ (λm=>u.down m r) l r (.slice (some ⟨S,0,none⟩) d d) (.slice k1 n k2) (.slice k3 f.length k4) (.slice (some ⟨Q,0,none⟩) d d) (λj=>fc d b u j r) W A.out.2.2.2.fit.ok (m2.below K) (m3.below K)
       (by rw[s.out.2.1];exact b6.below K) (by rw[s.out.2.1];exact m1.below K) A.out.2.2.2.row A.out.2.2.2.one A.out.2.2.2.h' (λm k s8 a0=>A.out.2.2.2.eI.V s8 a0) A.out.2.2.2.new (λm s8=>lF s8) (by rw[s.out.2.1];exact j6)
      rw[s.out.1,s.out.2.1,s.out.2.2]at this;refine this.mono ?_;rintro e t ⟨v,O,rfl,p1,p2,p3,p4⟩;obtain⟨a,c,rfl,-⟩:=id p1;have p5:=K.trans (p4.mono K.size);refine⟨a,O,c,rfl,⟨p1,?_,p3,p5⟩,(kp p5 T d3).1,(kp p5 T d3).2.1,(kp p5 T d3).2.2,(kp p5 R s7).1,(kp p5 P d6).1⟩;unfold kk nt;rw[<-s.out.2.2,s.out.2.1,s.out.2.2];exact p2
     have r7:=QZ b8;obtain⟨z1,z2,z3⟩:=cr j5;clear b8 m2 m3 b6 j5 L m1 b7 j3;go_wp2_with fail;go_region_held3(λt=>t.cell? ⟨T,0,none⟩=some (.pointer (some ⟨R,0,none⟩))/\t.cell? ⟨R,1,none⟩=some (.int .i64 (d:Nat))/\t.cell? ⟨R,2,none⟩=some (.int .i64 (c6:Nat))/\t.cell? ⟨R,3,none⟩=some (.int .i64 (c8:Nat))/\t.cell? ⟨P,0,none⟩=some (.int .i64 (r:Nat))/\t.cell? ⟨P,1,none⟩=some (.int .u8 (j9:Nat))/\t.cell? ⟨P,2,none⟩=some (.int .i64 (par:Nat))/\t.cell? ⟨P,3,none⟩=some (.slice k1 n k2)/\t.cell? ⟨P,4,none⟩=some (.slice k3 f.length k4)) ((simp[*,go_sem];done)) (first|(go_at_call 301;refine(r7.out _ (by go_grown)).mono ?_;rintro e w4 ⟨a,O,c,rfl,g1,g2,g3,g4,g5,g6⟩;have E:=QZ g1;clear g1));have m4:O≠[]:=by intro e;have h1:=E.out.2.1;rw[e]at h1;have h2:=h1.length_eq;have h3:kk d b u l r par≠[]:=uE A.out.2.2.2.row.ne (λp s9=>by rw[<-s.out.2.2];exact(A.out.2.2.2.row.mem p s9).2.2) (λp s9 h5 h6=>A.out.2.2.2.one _ _ (A.out.2.2.2.row.mem p s9).1 (by rw[<-s.out.2.2];exact aA.iV A.out.2.2.2.fit.ok r) h5 h6);exact h3 (WO.1 h2.symm)
     have m5:=((k7.out.2.2.fr C.out rfl rfl).below E.out.2.2.2);have z9:=QZ m5;obtain⟨A7,m6,e6,m7⟩:=m5;obtain⟨A0,wc,rfl,-⟩:=au e6;obtain⟨r1,r2,A8,t3,r0,e_,eZ,m8,m9⟩:=E.out.1.news m4;cases r0;have H:=QZ (And.intro m6 (And.intro e6 (And.intro m7 (And.intro e_ (And.intro eZ (And.intro m8 m9))))));have x0:O.length<=17:=by rw[E.out.2.1.length_eq];have h1:=A.out.2.2.2.h';unfold kk;have h2:=mI (λm=>u.down m r) l r par (fI (ez (nt d u l r par) λj=>fc d b u j r) l);simp only at h1;omega
     have n0:0<O.length:=ZK.2 m4;obtain⟨A1,t4,t5,t6,t7⟩:=SB Aj;have G:=e6;have t8:w0.heap.size<=w4.heap.size:=QD (QD A.out.1.size C.out.size) E.out.2.2.2.size;clear m6 e6 m7 e_ m8 m9;go_wp2_with(first|(at_builtin;refine aU _ rfl _ _ 162 rfl w0.heap.size 206 A1 (.agg #[.int .i64 0,.int .i64 0,aO]) 3 40 Tryz.underlying162 t4 t5 t6 t7 rfl (by decide) (.slice A0 c5.length wc) c5.length _ rfl G ⟨r1,r2,none⟩ O.length _ (dg O t3) rfl (qJ H.out.2.2.2.1) eZ H.out.2.2.2.2.2.1 n0 (by unfold UE;omega) (by omega) t8 ?_));intro A9 w5 b9 c0;obtain⟨e7,e8,rfl,-⟩:=au b9;obtain⟨a9,c2⟩:=c0.ty G;have Z:=fa.push H.out.1 H.out.2.2.2.1 rfl rfl H.out.2.1 H.out.2.2.1 H.out.2.2.2.2.2.2 b9 c0;have c3:=(E.out.2.2.2.block T d3).trans a7;have y:=a9.heap c3 λe=>by have:=c2 T _ e c3;cases this
     have e9:=C.out.hp F.out.2.1 rfl;rw[z]at e9;have j7:=(E.out.2.2.2.block D (Z_ e9)).trans e9;have c4:=a9.heap j7 λe=>by have:=c2 D _ e j7;cases this
     have g0:=lE (j4.below E.out.2.2.2) a9 λk o a0 a8=>by rw[c2 k o a0 a8];rfl
     have g8:Fr TB aG w0 w5:=((A.out.1.tr C.out).then E.out.2.2.2).out a9 λk a0 e=>by have:=(bo G e).2;omega
     have e5:Fr TW aG w w5:=(((Fr.af (T:=TB) (S:=aG) F.out.1).tr (C.out.then E.out.2.2.2)).wide TW rfl).tr (a9.Cz λk a0 e=>⟨⟨_,RU a0,by rw[c2 k _ e (RU a0)];rfl⟩,by have:=(bo G e).2;omega⟩);have t9:=QZ e5;obtain⟨p1,p2,p3⟩:=cr y;obtain⟨p4,p5,p6⟩:=cr c4;have u0:=QZ (And.intro Z (And.intro y (And.intro c4 (And.intro g0 g8))));have u1:=QZ (λW=>fs 0 0 W);have u2:=QZ a8;have u3:¬D=T:=by omega
     have x3:¬T=D:=by omega
     clear a9 c2 Z c3 y e9 j7 c4 g0 g8 e5 b9 c0 G a7 a8 j4 eZ g2 g3 g4 g5 g6 d1 d2 d4 d5 z1 z2 z3;go_wp2_with(first|(go_at_call 166;refine(u1.out _).mono ?_;rintro e w6 ⟨rfl,i0⟩;obtain⟨p7,p8,p9⟩:=kp i0 D (by rw[RT];exact p6);have b0:=QZ i0;clear i0;simp only[hN,if_pos]));obtain⟨Z,y,c4,g0,g8⟩:=u0.out;have MQ:Out (λk=>k=T) w5 (w5.setCell ⟨T,3,none⟩ (.slice e7 (c5.length+O.length) e8)):=(Out.refl (λk=>k=T) w5).setCell (p:=⟨T,3,none⟩) (λ_=>rfl) _;have j8:w0.heap.size<=T:=k7.out.1;have s5:w0.heap.size<=D:=by rw[<-z];exact F.out.2.2.1
     have l0:Lo.lo<=D:=by rw[<-z];exact F.out.2.2.2
     have u4:=(lE g0 MQ λk o a0 a8=>by subst a0;rw[y]at a8;cases a8;rfl).below b0.out;have u5:=(g8.new (p:=⟨T,3,none⟩) j8 (.slice e7 (c5.length+O.length) e8)).then b0.out;have u6:=(b0.out.block D (by rw[RT];exact p6)).trans ((RO w5 ⟨T,3,none⟩ _ D u3).trans c4);have u7:=(b0.out.block T (by rw[RT];exact p3)).trans (heap_setCell_same w5 T 3 _ 258 (.slice e7 (c5.length+O.length) e8) y);have n6:=(Z.out MQ (Z.off y (show(258:Nat)≠206 by decide)) λk o a0 a8=>by subst a0;rw[y]at a8;cases a8;exact(show(258:Nat)≠5 by decide)).below b0.out;obtain⟨e1,e2,e3⟩:=dI u5 u4 u6 s5 l0 (.int .i64 0) (.int .u16 0);have u8:jn d u l r (aA.par ⟨d,c6,c8⟩ r)=f.flatMap λj=>fX d u j r:=by unfold jn nt;rw[s.out.2.1]
     refine QT (v:=.agg #[.int .i64 0,.int .u16 0]) (by simp[RP,Tryz.results255,go_sem];go_simp) rfl ?_;unfold Jj;rw[u8,u2.out,s.out.2.2];have u9:=((t9.out.set (p:=⟨T,3,none⟩) y rfl (QD o3 j8) (.slice e7 (c5.length+O.length) e8)).then b0.out);exact⟨rfl,e2,e1,(u9.new (p:=⟨D,0,none⟩) (RN z) _).new (p:=⟨D,1,none⟩) (RN z) _,λ_=>⟨O,E.out.2.1,E.out.2.2.1,⟨j8,_,e3.hp u7 rfl,n6.fr e3 rfl rfl⟩⟩⟩
def dO(g:aA)(a:Ro)(b:Nat->List Pt)(K:List Nat):List Nat:=K.flatMap λr=>jn g.M a (b r) r (g.par r)
theorem xc{a:Nat->List Pt}(h:T[k]?=some r):dO g o a (T.take (k+1))=dO g o a (T.take k)++jn g.M o (a r) r (g.par r):=by unfold dO;rw[gp h,UY];simp
def pb(g:aA)(b:By)(c:Ro)(d:Nat->List Pt)(a:List Pt)(r:Nat):Prop:=a.Perm (kk g.M b c (d r) r (g.par r))/\a.Pairwise λp q=>p.1<q.1
def dY{α β:Type}(P:α->β->Prop)(a:List α)(K:List β):Prop:=a.length=K.length/\∀(i:Nat) (x:α) (y:β),a[i]?=some x->K[i]?=some y->P x y
theorem dY.nil{α β:Type}{P:α->β->Prop}:dY P [] []:=⟨rfl,λi x y h=>by simp at h⟩
theorem dY.snoc{α β:Type}{P:α->β->Prop}{c:List α}{K:List β}{x:α}{y:β}(h:dY P c K)(e:P x y):dY P (c++ [x]) (K++ [y]):=by
 refine⟨by simp[h.1],λi u v a b=>?_⟩;by_cases d:i<c.length
 .rw [RD d]at a;rw[RD (by rw[<-h.1];exact d)]at b;exact h.2 i u v a b
 .rw [RA J]at a;rw[RA (by rw[<-h.1];omega),<-h.1]at b;have f:=(QR.1 a).1;have g:i-c.length=0:=by simp at f;omega
  rw[g]at a b;simp at a b;subst a;subst b;exact e
theorem Da{a:List (List Pt)}(h:∀l,l∈a->l.length<=n):a.flatten.length<=n*a.length:=by
 induction a with
 |nil=>simp
 |cons l a b=>have d:=h l (RZ ..);have e:=b λl c=>h l (SG _ c);simp only[List.flatten_cons,QU,SE,Nat.mul_add];omega
theorem Jm{a:Nat->List Pt}{d:List (List Pt)}(h:dY (pb g b o a) d T)(k:∀r,r∈T->(a r).length<=16):d.flatten.length<=17*T.length:=by
 rw[<-h.1];refine Da λe c=>?_;obtain⟨i,f⟩:=TV.1 c;have l:=(QR.1 f).1;obtain⟨r,j⟩:∃r,T[i]?=some r:=⟨_,QQ (by rw[<-h.1];exact l)⟩;have m:=h.2 i e r f j;have n:e.length<=(a r).length+1:=by rw[m.1.length_eq];exact mI _ _ _ _ _
 have p:=k r (QV j);omega
theorem Db(h:(b.bU T).2.2=0):kk n (b.bU T).1 o l r m=kk n b o l r m:=by unfold kk;simp only[yO h]
theorem sD.bU(h:sD g b o r l)(a:(b.bU T).2.2=0):sD g (b.bU T).1 o r l:=
 ⟨h.fit.bU a,h.row,h.one,h.h',h.eI.bU a,h.new⟩
theorem sC.fr[Lo]{T':List Nat}{T R:Nat}(h:sC W w T R v x l)(a:Fr T' aG w z)(b:T'.contains 258=false)(c:T'.contains 206=false)(d:T'.contains 5=false):sC W z T R v x l:=by obtain⟨e,f,g⟩:=h.aM;exact⟨h.new,e,a.hp f b,g.fr a d c⟩
structure OS[Lo](w0:M)(T R B:Nat)(g:aA)(b:By)(ro:Ro)(lf:Nat->List Pt)(K:List Nat)(pv lv:H)(w:M)(k:Nat)(wr:M):Prop where
 ct:aC wr B (b.bU (dO g ro lf (K.take k))).1
 ok:(b.bU (dO g ro lf (K.take k))).2.2=0
 bY:Fr TB aG w0 wr
 own:Fr TW aG w wr
 work:∃ls:List (List Pt),dY (pb g b ro lf) ls (K.take k)/\sC w0 wr T R pv lv ls.flatten
def Dc[Lo](f:M)(T R B:Nat)(g:aA)(b:By)(a:Ro)(c:Nat->List Pt)(K:List Nat)(pv i:H)(w:M)(e:RV)(d:M):Prop:=
 aL e (hN (b.bU (dO g a c K)).2.1 (b.bU (dO g a c K)).2.2)/\aC d B (b.bU (dO g a c K)).1/\Fr TB aG f d/\Fr TW aG w d/\((b.bU (dO g a c K)).2.2=0->∃h:List (List Pt),dY (pb g b a c) h K/\sC f d T R pv i h.flatten)
theorem xd[Lo](m:QA)(T R B:Nat)(b4:Option SR)(g:aA)(b5:Nat)(f:Ro)(b:By)(c:Nat->List Pt)(K:List Nat)(pv M:QC)(w:QA)(h:fg m R B b4 g b5 f)(b6:Fr TB aG m w)(b7:aC w B b)(b8:sC m w T R pv M [])(b9:Fs m M (K.map c))(d0:∀r,r∈K->sD g b f r (c r))(d4:K.length<=5000)(J:Lo.lo<=m.heap.size):
  aF 170 #[ar T] w (Dc m T R B g b f c K pv M w):=by
 obtain⟨d5,d6,j,a0⟩:=qi w (ao #[ae 0,aH 0] 172);have q:=aY j a0 b6.size b7.low;have a1:=b6.then j;obtain⟨d7,A,d8⟩:=b8.aM;have a2:=Z_ A;have L:=(j.block T (Z_ A)).trans A;obtain⟨t0,t1,t2⟩:=cr L;have C:=ca h b9 d0 d4 J;have O:QX (OS m T R B g b f c K pv M w 0 d5):=⟨b7.below j,rfl,a1,Fr.af j,[],dY.nil,b8.new,d7,L,d8.below j⟩;obtain⟨D,a⟩:=ah w.heap.size;obtain⟨d9,c0,rfl,-⟩:=b9;obtain⟨n,c1⟩:=ah K.length;have eZ:(K.map c).length=n:=by rw[RB,c1]
 rw[eZ]at t0 O C|-;have e0:n<=5000:=aa;rw[a]at a2;go_enter func170,ntmps170;go_wp2
 try simp only[d6,a]
 go_loopw [11] (λi wr=>∃k:Nat,i= ae k/\k<=n/\QX (OS m T R B g b f c K pv (.slice d9 n c0) w k wr)/\QX (aX wr D (ao #[ae 0,aH 0] 172))) (λi _=>n-(intOf i).toNat)
 case atStart=>exact⟨0,rfl,QO _,O,a▸q.2.1⟩
 case round=>
  obtain⟨k,rfl,e6,l,E⟩:=hrel;obtain⟨d1,d2,d3⟩:=cr E;by_cases a3:k<n
  .have c2:=ad a3;have c3:(k:Int)<(n:Int):=aa;obtain⟨r,F⟩:∃r,K[k]?=some r:=⟨_,QQ aa⟩;have a4:=QV F;obtain⟨e7,e8,c4,a5⟩:=C.2.1;rw[eZ]at c4;cases c4;obtain⟨c5,c6,a6,a7,rfl,n1,n2⟩:=a5.2.resolve_left (by intro e;rw[e]at eZ;simp at eZ;omega);obtain⟨u,n3,n4⟩:=n2 k (c r) (by rw[RI,F];rfl);have n5:=l.bY.hp n1 rfl;have n6:=(QS wr c5 (c6+k) a6 162 a7 n5).trans n3;have n7:=Z_ n5;obtain⟨P,Q,a8⟩:=l.work;have a9:=C.2.2.1 r a4;have c7:P.flatten.length<=17*n:=QD (Jm Q λr F=>by have h1:=(C.2.2.1 r (ZJ F));have h2:=h1.h';have h3:=h1.fit.ok.m16;omega) (ZR _ (by rw[VD];omega));have d:=Jk m T R B b4 g b5 f r (b.bU (dO g f c (K.take k))).1 (c r) P.flatten pv (.slice (some (ag c5 c6)) n c0) u wr C.1 l.bY l.ct a8 n4 (a9.bU l.ok) aa C.2.2.2.2;have e4:b.bU (dO g f c (K.take (k+1)))=(b.bU (dO g f c (K.take k))).1.bU (jn g.M f (c r) r (g.par r)):=by rw[xc F,By.oZ l.ok]
   unfold Jj at d;rw[<-e4,Db l.ok]at d;obtain⟨X,I⟩:=ah (b.bU (dO g f c (K.take (k+1))));rw[I]at d;obtain⟨b2,G,x⟩:=X;obtain⟨c8,A,U⟩:=cC G x;simp only[U]at d;obtain⟨e9,f0,rfl,-⟩:=id n4;have b0:x≠0->b.bU (dO g f c K)=(b2,G,x):=λt=>by
    have V:dO g f c K=dO g f c (K.take (k+1))++dO g f c (K.drop (k+1)):=by unfold dO;rw[<-UY,XA]
    rw[V,By.oY (by rw[I];exact t),I]
   have c9:=ad d;have y:=ca I U F Q b0;by_cases t:x=0
   .have z:c8=0/\A=0:=by
     have:=y.2.1;rw[t]at this;simp only[hN,ak]at this;cases this;exact⟨rfl,rfl⟩
    obtain⟨rfl,rfl⟩:=z;go_wp2_with(go_at_call 255;refine c9.mono ?_;rintro e w3 ⟨rfl,g1,g2,W,g4⟩;obtain⟨p1,p2,p3⟩:=cr (W.hp E rfl);have s:=aY g1 g2 W (g4 t));refine⟨⟨k+1,by go_num,c2,?_,(QW _ _ _ p3).trans (s.2.2.1.hp E rfl)⟩,by have:=c2.out;simp[intOf];omega⟩;obtain⟨e5,q1,q2,q3⟩:=s.2.2.2;have Z:∀o,aq w3 (w3.alloc o):=λo=>aK aj o;refine⟨by rw[y.1];exact s.1.below (Z _),by rw[y.1];exact t,s.2.1.alloc _,(l.own.tr s.2.2.1).alloc _,P++ [e5],?_,?_⟩
    .rw [gp y.2.2.1];exact y.2.2.2.1.snoc ⟨q1,q2⟩
    .rw [ZM];simp only[List.flatten_cons,List.flatten_nil,TZ];exact q3.fr (Fr.af (T:= []) (S:=aG) (Z _)) rfl rfl rfl
   .have z:c8=(G:Nat)/\A=(x:Nat):=by
     have:=y.2.1;rw[bl G t]at this;cases this;exact⟨rfl,rfl⟩
    obtain⟨rfl,rfl⟩:=z;have f1:(x:Int)≠0:=aa;go_wp2_with(go_at_call 255;refine c9.mono ?_;rintro e w3 ⟨rfl,g1,g2,W,g4⟩;obtain⟨p1,p2,p3⟩:=cr (W.hp E rfl);have s:=aT g1 g2 W);have b1:m.heap.size<=D:=by rw[<-a];exact q.2.2.1
    have b3:Lo.lo<=D:=by rw[<-a];exact q.2.2.2
    obtain⟨V,Y,-⟩:=dI s.2.1 s.1 (s.2.2.hp E rfl) b1 b3 (ae G) (aH x);refine QT (v:=.agg #[ae G,aH x]) (by simp[RP,results170,go_sem];go_simp) rfl ?_;unfold Dc;rw[y.2.2.2.2 t];exact⟨by rw[bl _ t],Y.below (aK aj _),V.alloc _,(((l.own.tr s.2.2).new (p:=ag D 0) (RN a) _).new (p:=ag D 1) (RN a) _).alloc _,λe=>absurd e t⟩
  .obtain rfl:n=k:=aa;have H:K.take n=K:=by rw[<-c1,UB]
   have N:=ad H;go_wp2;have b1:m.heap.size<=D:=by rw[<-a];exact q.2.2.1
   have b3:Lo.lo<=D:=by rw[<-a];exact q.2.2.2
   obtain⟨V,Y,e3⟩:=dI l.bY l.ct E b1 b3 (ae 0) (aH 0);refine QT (v:=.agg #[ae 0,aH 0]) (by simp[RP,results170,go_sem];go_simp) rfl ?_;obtain⟨i1,i2,i3,i6,P,i4,i5⟩:=l.out;rw[N.out]at Y i2 i4;unfold Dc;rw[i2];exact⟨rfl,Y,V,(i6.new (p:=ag D 0) (RN a) _).new (p:=ag D 1) (RN a) _,λ_=>⟨P,i4,i5.fr e3 rfl rfl rfl⟩⟩
def aQ(l:List Pt):bW:=⟨l.length,λi=>((l[i]?).map (·.1)).getD 0,λi=>((l[i]?).map (·.2.1)).getD 0,λi=>((l[i]?).map (·.2.2)).getD λ_=>0⟩
theorem dR.Nx(h:dR w v f):fT (λ_=>False) w v f:=by obtain⟨b,o,a,c,d,g,i,e,j⟩:=h;exact⟨b,o,a,g,i,id,λk l=>(QS w b (o+k) c 5 d e).trans (j k l),c,d,e⟩
theorem e'.Ny(h:e' w v l):nR (λ_=>False) w v (aQ l):=by
 obtain⟨a,f,rfl,q,h⟩:=h;rcases h with e|⟨b,o,d,y,rfl,z,k⟩
 .subst e;exact⟨a,f,λ_=>.bool false,rfl,q,.inl rfl,λi k=>absurd k (RQ i)⟩
 .have r:∀i,i<l.length->∃p,l[i]?=some p/\d[o+i*3]?=some (Y p.1)/\d[o+i*3+1]?=some (Y p.2.1)/\∃u,d[o+i*3+2]?=some u/\dR w u p.2.2:=λi c=>⟨_,QQ c,k i _ (QQ c)⟩;have m:∀j,w.cell? (R b j)=d[j]?:=λj=>QS w b j d 206 y z;refine⟨_,f,λi=>(d[o+i*3+2]?).getD iL,rfl,q,.inr ⟨b,o,rfl,id,λi c=>?_⟩,λi c=>?_⟩
  .obtain ⟨p,g,s,t,u,n,x⟩:=r i c;refine⟨(m _).trans ?_,(m _).trans ?_,(m _).trans ?_⟩
   .rw [s];simp[aQ,g]
   .rw [t];simp[aQ,g]
   .rw [n];rfl
  .obtain ⟨p,g,s,t,u,n,x⟩:=r i c;have e:(aQ l).da i=p.2.2:=by simp[aQ,g]
   simp only[n,TD];rw[e];exact x.Nx
theorem Dd(h:∀p,p∈l->p.1<=15/\p.2.1<=4095/\Lt 128 p.2.2):(aQ l).ok:=by
 have d:∀i,i<(aQ l).N->∃p,l[i]?=some p/\p∈l:=λi a=>⟨_,QQ a,YI a⟩;refine⟨λi a=>?_,λi a=>?_,λi a=>?_⟩
 .obtain ⟨p,b,c⟩:=d i a;simp only[aQ,b,QY,TD];exact(h p c).1
 .obtain ⟨p,b,c⟩:=d i a;simp only[aQ,b,QY,TD];exact(h p c).2.1
 .obtain ⟨p,b,c⟩:=d i a;simp only[aQ,b,QY,TD];exact(h p c).2.2
def OT[Lo](W r B J M:Nat)(x:Wl)(b:By)(c:Nat)(w:QA)(e:RV)(a:QA):Prop:=
 aL e (hN M c)/\aC a B b/\bH a W r B J x/\Fr fV aG w a
theorem AD[Lo](w0:QA)(T R B W r J:Nat)(g:aA)(A:Nat)(C:Ro)(b:By)(x:Wl)(a:List Pt)(pv a6:QC)(w:QA)(h:fg w R B (some ⟨W,0,none⟩) g A C)(l:aC w B b)(a7:bH w W r B J x)(a8:sC w0 w T R pv a6 a)(a9:J<b.N)(b0:(aQ a).ok)(F:1<=a.length)(b1:a.length<=1023)(b3:cM x.ep x.nx)(M:∀v,b.dv J=some v->2+x.N<=v.d.n/\v.d.cn+10000<1000000000000)(h0:x.bad=0)(f:2*a.length+1<=x.N-x.u):
  aF 171 #[ar T] w (OT W r B J g.M (x.cN (2*a.length+1) (bh x.ep x.nx (aQ a) (2*a.length)) (b.hM J x.pl (bh x.ep x.nx (aQ a)) (2*a.length)).2) (b.hM J x.pl (bh x.ep x.nx (aQ a)) (2*a.length)).1 (b.hM J x.pl (bh x.ep x.nx (aQ a)) (2*a.length)).2 w):=by
 obtain⟨I,D,b4,j,d,k⟩:=eL w (ao #[ae 0,aH 0] 172);have m:=aT d k l.low;obtain⟨c1,G,b5⟩:=a8.aM;have b6:T<D:=by rw[<-j];exact Z_ G
 have n:=(d.block T (Z_ G)).trans G;obtain⟨b7,b8,K,x2⟩:=(h.below d).aM;have s:=b5.below d;obtain⟨L,O,e1,-⟩:=s.yz;subst e1;have t:∀q,aq I q->aF 256 #[ar W,.slice L a.length O] q (λe c=>aL e (.int .u16 ((b.hM J x.pl (bh x.ep x.nx (aQ a)) (2*a.length)).2:Nat))/\(aC c B (b.hM J x.pl (bh x.ep x.nx (aQ a)) (2*a.length)).1/\bH c W r B J (x.cN (2*a.length+1) (bh x.ep x.nx (aQ a) (2*a.length)) (b.hM J x.pl (bh x.ep x.nx (aQ a)) (2*a.length)).2)/\Fr fV aG I c/\fg c R B (some ⟨W,0,none⟩) g A C)/\c.cell? ⟨T,0,none⟩=some (ar R)/\c.cell? ⟨T,3,none⟩=some (.slice L a.length O)/\c.cell? ⟨R,4,none⟩=some (ar W)/\(∀o,c.cell? ⟨D,o,none⟩=(#[ae 0,aH 0]:Array QC)[o]?)/\(∀o,c.frozen? ⟨D,o,none⟩=false)/\D<c.heap.size/\T<c.heap.size/\R<c.heap.size):=λq P=>by have u:=d.trans (P.mono d.size);refine(Gi (λ_=>False) W r B J x b _ (aQ a) q (a7.fr (T:= []) (Fr.af u) rfl rfl rfl rfl) (l.below u) a9 (s.yz.below P).Ny b0 F b1 b3 M h0 f).mono ?_;rintro e c ⟨rfl,Q,Y,g3⟩;have i:=(Fr.af (T:=fV) (S:=aG) P).tr g3;have q1:=(cr (i.hp n rfl)).1;exact⟨rfl,⟨Q,Y,i,(h.below d).fr i rfl rfl rfl rfl⟩,q1 0,q1 3,(cr (i.hp K rfl)).1 4,(cr (i.hp k rfl)).1,(cr (i.hp k rfl)).2.1,(cr (i.hp k rfl)).2.2,(cr (i.hp n rfl)).2.2,(cr (i.hp K rfl)).2.2⟩
 unfold OT;obtain⟨X,a0⟩:=ah (b.hM J x.pl (bh x.ep x.nx (aQ a)) (2*a.length));rw[a0]at t|-;obtain⟨b2,U⟩:=X;simp only at t;obtain⟨c2,y⟩:=ah (x.cN (2*a.length+1) (bh x.ep x.nx (aQ a) (2*a.length)) U);simp only[y]at t|-;obtain⟨a1,a2,V⟩:=cC g.M U;have a3:=ad (λq (h:fg q R B (some ⟨W,0,none⟩) g A C)=>iq R B (some ⟨W,0,none⟩) g A C U q h);rw[V]at a3|-;have b9:=ad t;obtain⟨t0,t1,t2⟩:=cr n;obtain⟨k0,f0,z0⟩:=cr K;clear M t a0 y f;go_enter func171,ntmps171;go_wp2_with fail
 try simp only[b4,j]
 go_region_held3(λc=>c.cell? ⟨T,0,none⟩=some (ar R)/\c.cell? ⟨T,3,none⟩=some (.slice L a.length O)/\c.cell? ⟨R,4,none⟩=some (ar W)) ((simp[*,go_sem];done)) (first|(go_at_call 256;refine(b9 _ bF).mono ?_;rintro e w3 ⟨rfl,Q,Y,g3,i,g5,g6,g7,g8,g9⟩;have z:=ad Q)|(go_at_call 178;refine(a3 _ z.2.2.2).mono ?_;rintro e w4 ⟨rfl,l⟩;obtain⟨p1,p2,p3⟩:=kp l D g7;obtain⟨p4,p5,p6⟩:=kp l T g8;obtain⟨p7,p8,p9⟩:=kp l R g9;have E:=ad l));go_wp2;have Z:=z.2.2.1.hp m.2.1 rfl;have H:=(E.block D g7).trans Z;have c0:Lo.lo<=D:=by rw[<-j];exact m.2.2
 have a4:=jm (ns w4 D (ae a1) (.int .u16 a2)) H c0;have N:=Fr.af (T:= []) (S:=aG) E;have a5:w.heap.size<=D:=RN j;refine QT (v:=.agg #[ae a1,.int .u16 a2]) (by simp[RP,results171,go_sem];go_simp) rfl ⟨rfl,(z.1.below E).fn a4 rfl,(z.2.1.fr N rfl rfl rfl rfl).fr a4 rfl rfl rfl rfl,?_⟩;exact((((Fr.af m.1).tr z.2.2.1).then E).new (p:=⟨D,0,none⟩) a5 _).new (p:=⟨D,1,none⟩) a5 _
abbrev fR:=Nat × (Dv->Dv × Nat)
def By.run(b:By):List fR->By × Nat × Nat
 | [] =>(b,0,0)
 |a::c=>if(b.op a.1 a.2).2=0 then(b.op a.1 a.2).1.run c else((b.op a.1 a.2).1,a.1,(b.op a.1 a.2).2)
def Lq(k:Nat):fR:=(k,bS)
def dq(k:Nat):fR:=(k,be)
def gY(p:Pt):fR:=(p.1,aR (1+p.2.1) p.2.2)
theorem By.pd(b:By)(l c:List fR):b.run (l++c)=if(b.run l).2.2=0 then(b.run l).1.run c else b.run l:=by
 induction l generalizing b with
 |nil=>simp[By.run]
 |cons k a f=>
  by_cases h:(b.op k.1 k.2).2=0
  .have d:b.run (k::a)=(b.op k.1 k.2).1.run a:=ak h;have e:b.run (k::(a++c))=(b.op k.1 k.2).1.run (a++c):=ak h;rw[UC,d,e,f]
  .have d:b.run (k::a)=((b.op k.1 k.2).1,k.1,(b.op k.1 k.2).2):=al h;have e:b.run (k::(a++c))=((b.op k.1 k.2).1,k.1,(b.op k.1 k.2).2):=al h;rw[UC,d,e,al h]
theorem By.pf{l a:List fR}(h:(b.run l).2.2≠0):b.run (l++a)=b.run l:=by rw[By.pd,al h]
theorem By.De{l a:List fR}(h:(b.run l).2.2=0):b.run (l++a)=(b.run l).1.run a:=by rw[By.pd,ak h]
theorem By.yP(b:By)(a:fR):b.run [a] =if(b.op a.1 a.2).2=0 then((b.op a.1 a.2).1,0,0)else((b.op a.1 a.2).1,a.1,(b.op a.1 a.2).2):=rfl
theorem By.jo{l:List fR}{a:fR}(h:(b.run l).2.2=0):(b.run (l++ [a])).1=((b.run l).1.op a.1 a.2).1/\(b.run (l++ [a])).2.2=((b.run l).1.op a.1 a.2).2/\(((b.run l).1.op a.1 a.2).2≠0->(b.run (l++ [a])).2.1=a.1):=by
 rw[By.De h,By.yP];by_cases e:((b.run l).1.op a.1 a.2).2=0
 .rw [ak e];exact⟨rfl,e.symm,λh=>absurd e h⟩
 .rw [al e];exact⟨rfl,rfl,λ_=>rfl⟩
theorem By.gb(b:By)(l:List fR):(b.run l).1.N=b.N:=by
 induction l generalizing b with
 |nil=>rfl
 |cons k c a=>
  simp only[By.run];by_cases h:(b.op k.1 k.2).2=0
  .rw [ak h,a,By.fW]
  .rw [al h];exact By.fW b k.1 k.2
theorem By.ei(a:Dv->Dv × Nat)(h:j≠k):(b.op k a).1.dv j=b.dv j:=by
 unfold By.op;by_cases c:b.out=true
 .rw [ak c];unfold By.off;split<;>rfl
 .rw [al c];cases d:b.dv k with
  |none=>rfl
  |some v=>exact al h
theorem By.gI:∀{l:List fR} (_:∀a,a∈l->∀v:Dv,(a.2 v).1.d.n=v.d.n/\(a.2 v).1.d.cn<=v.d.cn+1) {j:Nat} {v:Dv},(b.run l).1.dv j=some v->∃c,b.dv j=some c/\v.d.n=c.d.n/\v.d.cn<=c.d.cn+l.length:=by
 intro l;induction l generalizing b with
 |nil=>exactλ_ j v h=>⟨v,h,rfl,QE _⟩
 |cons a t n=>
  intro k j v d;have one:∀u,(b.op a.1 a.2).1.dv j=some u->∃c,b.dv j=some c/\u.d.n=c.d.n/\u.d.cn<=c.d.cn+1:=λu f=>by
   by_cases e:j=a.1
   .subst e;exact By.jh (k a (RZ ..)) f
   .rw [By.ei a.2 e]at f;exact⟨u,f,rfl,US _⟩
  simp only[By.run]at d;by_cases m:(b.op a.1 a.2).2=0
  .rw [ak m]at d;obtain⟨o,p,q,w⟩:=n (λx r=>k x (SG _ r)) d;obtain⟨c,g,i,s⟩:=one o p;exact⟨c,g,q.trans i,by simp only[SE];omega⟩
  .rw [al m]at d;obtain⟨c,g,i,s⟩:=one v d;exact⟨c,g,i,by simp only[SE];omega⟩
theorem By.dJ(b:By)(l:List Nat):b.bU l=b.run (l.map Lq):=by
 induction l generalizing b with
 |nil=>rfl
 |cons k c a=>simp only[By.bU,By.run,TO,Lq];rw[a]
theorem Jn(p:Pt)(v:Dv):((gY p).2 v).1.d.n=v.d.n/\((gY p).2 v).1.d.cn<=v.d.cn+1:=ey _ _ v
theorem sE(k:Nat)(v:Dv):((dq k).2 v).1.d.n=v.d.n/\((dq k).2 v).1.d.cn<=v.d.cn+1:=⟨(dX v).1,Nat.le_succ_of_le (dX v).2⟩
theorem gH:∀a,a∈l.map gY->∀v:Dv,(a.2 v).1.d.n=v.d.n/\(a.2 v).1.d.cn<=v.d.cn+1:=λa b v=>by obtain⟨p,-,rfl⟩:=RK.1 b;exact Jn p v
theorem xe:∀a,a∈T.map dq->∀v:Dv,(a.2 v).1.d.n=v.d.n/\(a.2 v).1.d.cn<=v.d.cn+1:=λa b v=>by obtain⟨p,-,rfl⟩:=RK.1 b;exact sE p v
def fK(a:Ro)(l:List Pt):List Pt:=l.filter λp=> !a.down p.1 p.2.1
structure Rs where
 b:By
 x:Wl
 ro:Ro
variable {s:Rs}
structure cl[Lo](w:QA)(R B W r:Nat)(g:aA)(fb:Nat)(s:Rs):Prop where
 row:fg w R B (some (ag W 0)) g fb s.ro
 ct:aC w B s.b
 kj:bH w W r B g.M s.x
 lo:Lo.lo<=R/\Lo.lo<=fb
def iN:List Nat:= [100,106,108,142,217,219,1000000,153,221,164]
theorem Fr.rw[Lo](h:Fr fV aG w W):Fr iN aG w W:=h.wide iN rfl
theorem Fr.rb[Lo](h:Fr TB aG w W):Fr iN aG w W:=h.wide iN rfl
def gZ[Lo](R B W r:Nat)(g:aA)(d:Nat)(step:Rs->Nat->Nat->Prop)(w:M)(e:RV)(a:M):Prop:=
 ∃b k c,step b k c/\aL e (hN k c)/\cl a R B W r g d b/\Fr iN aG w a
def dh(s a:Rs)(k b:Nat):Prop:=∃l,l.Perm s.ro.wt/\s.b.run ((fK s.ro l).map gY)=(a.b,k,b)/\a.x=s.x/\a.ro=if b=0 then{s.ro with wt:= []}else s.ro
def cd(s a:Rs)(k b:Nat):Prop:=if s.x.sure=true then dh s a k b else a=s/\k=0/\b=0
def Rs.synced(g:aA)(s:Rs):Rs × Nat:=if s.x.sure=true then(s,0)else({s with b:=(s.b.op g.M be).1,x:={s.x with bad:=(s.b.op g.M be).2,sure:=(s.b.op g.M be).2==0}},(s.b.op g.M be).2)
def bT(g:aA)(s a:Rs)(k b:Nat):Prop:=if(s.synced g).2=0 then cd (s.synced g).1 a k b else a=(s.synced g).1/\k=g.M/\b=(s.synced g).2
def ob(g:aA)(a:Ro):List Nat:=ZZ g.M λm=> !a.down m 0
def dZ(g:aA)(s a:Rs)(k b:Nat):Prop:=s.b.run ((ob g s.ro).map dq)=(a.b,k,b)/\a.x=s.x/\a.ro=s.ro
def Rs.nu(g:aA)(s:Rs)(a:Nat):By × Nat:=s.b.ck g.M (aV a s.x.nx ((s.x.t+s.x.u)%s.x.N))
def fL(g:aA)(s a:Rs)(k c:Nat):Prop:=a={s with b:=(s.nu g s.x.ep).1,x:=s.x.qo s.x.ep (s.nu g s.x.ep).2}/\k=g.M/\c=(s.nu g s.x.ep).2
def iH(p q:Rs->Rs->Nat->Nat->Prop)(s b:Rs)(k a:Nat):Prop:=(∃c d,p s c d 0/\q c b k a)\/(p s b k a/\a≠0)
def fY(g:aA):Rs->Rs->Nat->Nat->Prop:=iH (bT g) (iH (dZ g) (fL g))
structure Fit(g:aA)(C:Nat)(s:Rs):Prop where
 cJ:g.ok
 N:s.b.N=g.M+1
 mem:∀m v,m<g.M->s.b.dv m=some v->1+g.R<=v.d.n/\v.d.cn+C<1000000000000
 gB:∀v,s.b.dv g.M=some v->2+s.x.N<=v.d.n/\v.d.cn+C<1000000000000
 bad:s.x.bad=0
 cy:s.x.ep+C<=4611686018427387904/\1<=s.x.nx/\s.x.nx+C<=4611686018427387904
 h':s.ro.wt.length<=5000
 wt:∀p,p∈s.ro.wt->p.1<g.M/\p.2.1<g.R/\∀k,k<128->p.2.2 k<256
 mg:(s.ro.wt.map fun p=>(p.1,p.2.1)).Nodup
theorem Fit.cM(h:Fit g C s):cM s.x.ep s.x.nx:=by have:=h.cy;unfold Proofs.YtbimjlmclegaeaaGreat.cM;omega
abbrev pv(p:Nat × Nat):H:=.agg #[Y p.1,Y p.2]
theorem Jo:prog.underlying 289=some (.struct (prog.fieldsOf 289)):=aE
theorem Nz:prog.stoodInHeld 289=false:=aE
theorem f289:(prog.fieldsOf 289).toList.map (λf=>(f.name,f.type,f.offset))= [("member",3,0),("row",3,1)]:=aE
theorem q'(xs:Array H)(o:Nat)(i:Int)(w:M)(h:xs[o]?=some (Y i)):(part 3 xs o).run prog w=.ok (Y i) w:=by simp[part,go_sem,h]
theorem yQ:∃f1 f2,(prog.fieldsOf 289).toList= [f1,f2]/\f1.name= "member" /\f1.type=3/\f1.offset=0/\f2.name= "row" /\f2.type=3/\f2.offset=1:=by
 have h:=f289;generalize (prog.fieldsOf 289).toList=l at h
 match l,h with
 | [],h=>cases h
 | [_],h=>simp at h
 | [f1,f2],h=>simp at h;exact⟨f1,f2,rfl,h.1.1,h.1.2.1,h.1.2.2,h.2.1,h.2.2.1,h.2.2.2⟩
 |_::_::_::_,h=>simp at h
theorem Lr(a b:Nat × Nat)(w:M):(Op.equal 289 (pv a) (pv b)).run prog w=.ok (decide (a=b)) w:=by
 obtain⟨f1,f2,c,e,t1,f,g,t2,h⟩:=yQ;show(ZH (9999+1) 289 (pv a) (pv b)).run prog w=_;rw[run_equalIn_agg (P:=prog) (w:=w) 9999 289 _ _ Jo Nz,c];have i:=q' #[Y a.1,Y a.2] 0 a.1 w rfl;have j:=q' #[Y a.1,Y a.2] 1 a.2 w rfl;have k:=q' #[Y b.1,Y b.2] 0 b.1 w rfl;have l:=q' #[Y b.1,Y b.2] 1 b.2 w rfl;have m:=run_equalIn_int (P:=prog) (w:=w) 9998 3 .i64 .i64 (a.1:Nat) (b.1:Nat) u3;have n:=run_equalIn_int (P:=prog) (w:=w) 9998 3 .i64 .i64 (a.2:Nat) (b.2:Nat) u3;have d:decide (a=b)=(decide (a.1=b.1)&&decide (a.2=b.2)):=by obtain⟨q,r⟩:=a;obtain⟨s,t⟩:=b;simp
 simp only[Op.eqFields,e,t1,f,g,t2,h,RY,i,j,k,l,m,n,RG,Sem.run_ite];rw[d];by_cases o:a.1=b.1<;>by_cases p:a.2=b.2<;>simp[o,p] <;>omega
def dec:H->Nat × Nat
 | .agg cs=>match cs.toList with
  | [.int _ a,.int _ b] =>(a.toNat,b.toNat)
  |_=>(0,0)
 |_=>(0,0)
theorem mJ(p:Nat × Nat):dec (pv p)=p:=by simp[dec]
def Df(a:List TC):Prop:=∀e∈a,∃q,e.key=pv q
def bZ(p:Nat × Nat):List TC->Nat->Option (Nat × H)
 | [],_=>none
 |e::a,i=>if dec e.key=p then some (i,e.val)else bZ p a (i+1)
theorem lG(p:Nat × Nat)(w:M):∀(a:List TC) (i:Nat),Df a->(Instr.findAsking 289 (pv p) a i).run prog w=.ok (bZ p a i) w
 | [],i,_=>rfl
 |e::a,i,h=>by
  obtain⟨q,c⟩:=h e RZ;have d:=lG p w a (i+1) λb f=>h b (SG _ f);simp only[Instr.findAsking,bZ,c,RY,Lr,RG,mJ];by_cases e:p=q
  .subst e;simp
  .have b:¬q=p:=λh=>e h.symm;simp[e,b,d]
theorem jL(p:Nat × Nat)(w:M)(a:List TC)(h:Df a):(XE 289 (pv p) a).run prog w=.ok (bZ p a 0) w:=by
 unfold XE;simp only[RY,SS Jo,RG];cases a with
 |nil=>rfl
 |cons e a=>
  have:XB (.struct (prog.fieldsOf 289)) (pv p) (e::a) 0=none:=by obtain⟨q,b⟩:=h e RZ;simp[XB,b,Instr.sameNow]
  rw[this];exact lG p w _ 0 h
theorem ir(a:Bool)(p:Nat × Nat)(w:M):(VC a 10000 289 (pv p)).run prog w=.ok () w:=by
 obtain⟨f1,f2,b,d,t1,e,f,t2,g⟩:=yQ;have h:=q' #[Y p.1,Y p.2] 0 p.1 w rfl;have j:=q' #[Y p.1,Y p.2] 1 p.2 w rfl;have c:∀(i:Int),(VC a 9999 3 (Y i)).run prog w=.ok () w:=λi=>by unfold VC;simp[SS u3]
 show(VC a (9999+1) 289 (pv p)).run prog w=_;unfold VC;simp only[RY,SS Jo,RG];rw[<-Array.forIn_toList,b];simp[d,t1,e,f,t2,g,h,j,c]
theorem d_(p:Nat × Nat):∀(a:List TC) (i:Nat),bZ p a i=(bZ p a 0).map λx=>(x.1+i,x.2)
 | [],_=>rfl
 |e::a,i=>by
  simp only[bZ];split
  .simp
  .rw [d_ p a (i+1),d_ p a (0+1),YN];congr 1;funext x;simp;omega
theorem jq(p:Nat × Nat):∀(a:List TC) (i:Nat) (v:H),bZ p a 0=some (i,v)->∃e,a[i]?=some e/\dec e.key=p/\e.val=v
 | [],_,_,h=>by cases h
 |e::a,i,v,h=>by
  simp only[bZ]at h;split at h
  .rename_i c;cases h;exact⟨e,rfl,c,rfl⟩
  .rw [d_]at h;cases b:bZ p a 0 with
   |none=>rw[b]at h;cases h
   |some x=>obtain⟨j,u⟩:=x;rw[b]at h;simp at h;obtain⟨rfl,rfl⟩:=h;obtain⟨d,f,g,k⟩:=jq p a j u b;exact⟨d,by simpa using f,g,k⟩
theorem pg(p:Nat × Nat):∀(a:List TC) (i:Nat),bZ p a i=none->∀e∈a,dec e.key≠p
 | [],_,_,_,he=>by cases he
 |x::a,i,h,e,he=>by
  simp only[bZ]at h;split at h
  .cases h
  .rename_i b;rcases UH.1 he with rfl|he
   .exact b
   .exact pg p a (i+1) h e he
theorem uF(p:Nat × Nat):∀(a:List TC) (i:Nat),(∀e∈a,dec e.key≠p)->bZ p a i=none
 | [],_,_=>rfl
 |x::a,i,h=>by simp only[bZ];rw[al (h x RZ)];exact uF p a (i+1) λe b=>h e (SG _ b)
theorem ph(p q:Nat × Nat)(v:H)(x:TC)(d:dec x.key=p)(f:x.val=v):∀(a:List TC) (i:Nat),bZ p a i=none->(bZ q (a++ [x]) i).map (·.2)=if q=p then some v else(bZ q a i).map (·.2)
 | [],i,_=>by
  simp only[UN,bZ,d];by_cases e:p=q
  .subst e;simp[f]
  .have g:¬q=p:=λh=>e h.symm;simp[e,g]
 |y::a,i,c=>by
  simp only[UC,bZ]at c|-;split at c
  .cases c
  .rename_i j;have k:=ph p q v x d f a (i+1) c;by_cases b:dec y.key=q
   .rw [ak b,ak b,al];intro e;exact j (b.trans e)
   .rw [al b,al b,k]
theorem re(p q:Nat × Nat)(v:H):∀(a:List TC) (i j:Nat) (u:H),bZ p a i=some (i+j,u)->(bZ q (a.modify j λe=>{e with key:=pv p,val:=v}) i).map (·.2)=if q=p then some v else(bZ q a i).map (·.2)
 | [],_,_,_,h=>by cases h
 |y::a,i,j,u,h=>by
  simp only[bZ]at h;split at h
  .rename_i c;simp at h;obtain⟨rfl,rfl⟩:=h;simp only[YP,bZ,mJ,c];by_cases e:p=q
   .subst e;simp
   .have f:¬q=p:=λh=>e h.symm;simp[e,f]
  .rename_i c;cases j with
   |zero=>
    have:=d_ p a (i+1);rw[h]at this;cases d:bZ p a 0 with
    |none=>rw[d]at this;cases this
    |some x=>rw[d]at this;simp at this;omega
   |succ j=>
    have g:=re p q v a (i+1) j u (by rw[h];congr 2;omega);simp only[YQ,bZ];by_cases b:dec y.key=q
    .rw [ak b,ak b,al];intro e;exact c (b.trans e)
    .rw [al b,al b,g]
theorem nv(p q:Nat × Nat):∀(a:List TC) (i j:Nat) (u:H),(a.map λe=>dec e.key).Nodup->bZ p a i=some (i+j,u)->(bZ q (a.eraseIdx j) i).map (·.2)=if q=p then none else(bZ q a i).map (·.2)
 | [],_,_,_,_,h=>by cases h
 |y::a,i,j,u,d,h=>by
  simp only[TO,List.nodup_cons]at d;simp only[bZ]at h;split at h
  .rename_i c;simp at h;obtain⟨rfl,rfl⟩:=h;simp only[List.eraseIdx_zero,List.tail_cons,bZ];by_cases e:q=p
   .subst e;rw[ak rfl,uF q a i λe g k=>d.1 (by rw[c,<-k];exact List.mem_map_of_mem g)];rfl
   .rw [al e,al λh=>e (h.symm.trans c),d_ q a i,d_ q a (i+1),YN,YN];rfl
  .rename_i c;cases j with
   |zero=>
    have:=d_ p a (i+1);rw[h]at this;cases f:bZ p a 0 with
    |none=>rw[f]at this;cases this
    |some x=>rw[f]at this;simp at this;omega
   |succ j=>
    have l:=nv p q a (i+1) j u d.2 (by rw[h];congr 2;omega);simp only[List.eraseIdx_cons_succ,bZ];by_cases b:dec y.key=q
    .rw [ak b,ak b,al];intro e;exact c (b.trans e)
    .rw [al b,al b,l]
def PM(w:M)(c:Nat)(f:Nat × Nat->Option H):Prop:=
 ∃b a,w.heap[c]?=some (.map b a)/\Df b.toList/\(b.toList.map λe=>dec e.key).Nodup/\∀p,(bZ p b.toList 0).map (·.2)=f p
theorem PM.out{w w1:M}{f:Nat × Nat->Option H}(h:PM w n f)(a:Out S w w1)(b:¬S n):PM w1 n f:=by obtain⟨d,c,e,g⟩:=h;exact⟨d,c,a.heap e b,g⟩
theorem PM.lt{f:Nat × Nat->Option H}(h:PM w n f):n<w.heap.size:=by obtain⟨b,c,a,_⟩:=h;exact Z_ a
theorem PM.made(w:M):PM (w.alloc (.map #[] 0)) w.heap.size λ_=>none:=⟨#[],0,QB _ _,λ_ h=>by simp at h,aJ,λ_=>rfl⟩
theorem hh{f:Nat × Nat->Option H}(h:PM w n f)(t e:SQ)(z:H)(c:Bool)(d:prog.underlying t=some (.map 289 e))(g:(zeroValue e).run prog w=.ok z w)(p:Nat × Nat):
  (UZ t (.map (some n)) (pv p) c).run prog w=.ok (if c then .tuple #[(f p).getD z,.bool (f p).isSome]else(f p).getD z) w:=by
 obtain⟨i,m,j,k,o,l⟩:=h;have a:=l p;unfold UZ;simp only[RY,SS d,RG,VA,ir,jL _ _ _ k,b_ j];cases b:bZ p i.toList 0 with
 |none=>rw[b]at a;simp only[VE]at a;rw[<-a];simp[g]
 |some x=>rw[b]at a;simp only[QY]at a;rw[<-a];simp
theorem Gp(p:Nat × Nat):XN 10000 (pv p) (pv p)=true:=by show XN (9999+1) (pv p) (pv p)=true;unfold XN;simp[XN]
theorem kl{f:Nat × Nat->Option H}(h:PM w n f)(t e:SQ)(S:prog.underlying t=some (.map 289 e))(p:Nat × Nat)(v:H):
  ∃C,(SZ t (.map (some n)) (pv p) v).run prog w=.ok () C/\PM C n (λq=>if q=p then some v else f q)/\(∃o,ty o≠5/\C=w.putObj n o):=by
 obtain⟨c,D,r,s,K,L⟩:=h;have m:=Z_ r;unfold SZ;simp only[RY,SS S,RG,ir,jL _ _ _ s,b_ r];cases A:bZ p c.toList 0 with
 |none=>
  refine⟨w.putObj n (.map (c.push {key:=pv p,val:=v,born:=D}) (D+1)),cf _ r,⟨_,_,SO m,?_,?_,λq=>?_⟩,_,ia _ _,rfl⟩
  .intro x B;simp at B;rcases B with B|rfl
   .exact s x (by simpa using B)
   .exact ⟨p,rfl⟩
  .rw [Array.toList_push,SH,YA];refine⟨K,aJ,λa T b O=>?_⟩;simp only[TO,XR,SM]at O;obtain⟨e,U,rfl⟩:=RK.1 T;rw[O,mJ];exact pg p _ _ A e U
  .rw [Array.toList_push,ph p q v _ (mJ p) rfl _ _ A,L q]
 |some x=>
  obtain⟨i,u⟩:=x;obtain⟨x,g,k,V⟩:=jq p _ i u A;have E:c[i]?=some x:=by simpa using g
  have F:x.key=pv p:=by obtain⟨q,d⟩:=s x (QV g);rw[d,mJ]at k;rw[d,k]
  have G:(WJ (((c[i]?).map (·.key)).getD (pv p)) (pv p)).run prog w=.ok (pv p) w:=by rw[E];simp only[QY,TD,F,WJ,Gp,if_true];rfl
  simp only[RY,G,RG];refine⟨w.putObj n (.map (c.modify i λe=>{e with key:=pv p,val:=v}) D),cf _ r,⟨_,_,SO m,?_,?_,λq=>?_⟩,_,ia _ _,rfl⟩
  .intro y P;rw[VM,TV]at P;obtain⟨j,l⟩:=P;rw[ZL]at l;cases d:c.toList[j]? with
   |none=>rw[d]at l;simp at l
   |some z=>
    rw[d]at l;simp at l;subst l;split
    .exact ⟨p,rfl⟩
    .exact s z (QV d)
  .have e:((c.modify i λe=>{e with key:=pv p,val:=v}).toList.map λe=>dec e.key)=c.toList.map λe=>dec e.key:=by
    rw[VM];apply TJ;intro j;rw[RI,RI,ZL];cases d:c.toList[j]? with
    |none=>rfl
    |some z=>
     simp only[QY];by_cases Q:i=j
     .subst Q;rw[g]at d;cases d;simp only[if_true,Option.map_eq_map,QY,mJ,k]
     .simp [Q]
   rw[e];exact K
  .rw [VM,re p q v _ 0 i u (by rw[A,RE]),L q]
theorem qq{f:Nat × Nat->Option H}(h:PM w n f)(t g e:SQ)(r:prog.underlying t=some (.map 289 e))(k:SQ)(p:Nat × Nat):
  ∃j,(Builtin.delete_ #[t,k] g #[.map (some n),pv p]).run prog w=.ok (.tuple #[]) j/\PM j n (λq=>if q=p then none else f q)/\(∃o,ty o≠5/\j=w.putObj n o):=by
 obtain⟨l,s,a,c,m,v⟩:=h;have b:=Z_ a;cases d:bZ p l.toList 0 with
 |none=>
  refine⟨w.putObj n (.map l s),?_,⟨_,_,SO b,c,m,λq=>?_⟩,_,ia _ _,rfl⟩
  .unfold Builtin.delete_;simp[SS r,ir,jL _ _ _ c,b_ a,cf _ a,d]
  .show _=if q=p then none else f q
   by_cases e:q=p
   .subst e;rw[ak rfl,d];rfl
   .rw [al e,v q]
 |some x=>
  obtain⟨i,u⟩:=x;refine⟨w.putObj n (.map (l.eraseIdxIfInBounds i) s),?_,⟨_,_,SO b,?_,?_,λq=>?_⟩,_,ia _ _,rfl⟩
  .unfold Builtin.delete_;simp[SS r,ir,jL _ _ _ c,b_ a,cf _ a,d]
  .intro y z;rw[WU]at z;exact c y (List.mem_of_mem_eraseIdx z)
  .rw [WU];exact m.sublist ((List.eraseIdx_sublist _ _).map _)
  .rw [WU,nv p q _ 0 i u m (by rw[d,RE]),v q]
def cj(l:List (Nat × Nat)):List H:=l.flatMap λp=> [Y p.1,Y p.2]
theorem xf(l:List (Nat × Nat)):(cj l).length=l.length*2:=by
 induction l with
 |nil=>rfl
 |cons a l b=>simp[cj]at b|-;omega
theorem ft{l:List (Nat × Nat)}{p:Nat × Nat}(h:l[i]?=some p):(cj l)[2*i]?=some (Y p.1)/\(cj l)[2*i+1]?=some (Y p.2):=by
 induction l generalizing i with
 |nil=>cases h
 |cons a l b=>
  cases i with
  |zero=>cases h;exact⟨rfl,rfl⟩
  |succ i=>have:=b (i:=i) (by simpa using h);show(_::_::cj l)[2*(i+1)]?=_/\(_::_::cj l)[2*(i+1)+1]?=_;rw[show 2*(i+1)=2*i+1+1 by omega];simpa using this
structure cP(w:M)(b o:Nat)(v:H)(l:List (Nat × Nat)):Prop where
 cell:w.cell? (R b o)=some v
 fJ:w.frozen? (R b o)=false
 own:w.ownsRow 0 289 2 v l.length (cj l)
 ne:v.ownBlock≠some b
theorem Dg(v:H)(l:List (Nat × Nat))(w:M)(h:w.ownsRow 0 289 2 v l.length (cj l)):aF 412 #[v] w λe b=>aL e (Y l.length)/\w=b:=by obtain⟨a,c,rfl,-⟩:=au h;go_enter func412,ntmps412;go_wp2;go_ret;exact⟨rfl,rfl⟩
theorem cF(h:W.heap[n]?=w.heap[n]?)(o:Nat):W.frozen? (R n o)=w.frozen? (R n o):=by simp[World.frozen?,h]
theorem Ih(v:H)(w:M):(Instr.typeAssert (.iface 289 v) 20 289 false).run prog w=.ok v w:=aE
theorem NA:(prog.info? 289).map (λi=>(i.zero,i.size,i.bytes))=some (some (.agg #[Y 0,Y 0]),2,16):=aE
theorem uG(l:List (Nat × Nat))(p:Nat × Nat):cj l++ [Y p.1,Y p.2] =cj (l++ [p]):=by simp[cj]
theorem xg(h:W.heap[n]?=w.heap[n]?)(o:Nat)(u:H):(W.setCell (R n o) u).heap[n]?=(w.setCell (R n o) u).heap[n]?:=by simp only[World.setCell,WV,h]
def Ls(b o:Nat)(v:H)(e:List (Nat × Nat))(w a:M):Prop:=
 ∃d,cP a b o d e/\Out (λk=>k=b\/v.ownBlock=some k) w a/\(∀k,d.ownBlock=some k->v.ownBlock=some k\/w.heap.size<=k)/\((∀c,c≠o->a.cell? (R b c)=w.cell? (R b c)/\a.frozen? (R b c)=w.frozen? (R b c))/\a.heap[b]?=(w.setCell (R b o) d).heap[b]?)
theorem AE(b o:Nat)(v:QC)(l:List (Nat × Nat))(p:Nat × Nat)(w:QA)(h:cP w b o v l)(V:l.length<=100000):aF 416 #[.pointer (some (ag b o)),.iface 289 (pv p)] w λe q=>aL e (.tuple #[])/\Ls b o v (l++ [p]) w q:=by
 have C:=h.cell;have X:=h.fJ;have D:=QN w _ C;obtain⟨a,c,rfl,-⟩:=au h.own;obtain⟨Z,E,F,G,K⟩:=SB NA;obtain⟨A,B⟩:=p;obtain⟨N,s⟩:=ah l.length;rw[s]at C V;have Q:=ad s;have H:QX (w.ownsRow 0 289 2 (.slice a N c) N (cj l)):=by have:=h.own;rw[s]at this;exact this
 have x:QX ((RR a N c).ownBlock≠some b):=by have:=h.ne;rw[s]at this;exact this
 clear s;have M:=λW=>Ih (pv (A,B)) W;go_enter func416,ntmps416;go_wp2_with fail
 go_region_law (first|(refine df _ rfl (.tmp 7) (.tmp 10) 284 rfl 0 289 Z (.agg #[Y 0,Y 0]) 2 16 underlying284 E F G K rfl ai (.slice a N c) N (cj l) (by simp[VO]) (H.alloc _) (ag w.heap.size 0) 1 1 [Y A,Y B] (by simp[VO]) rfl (RW (cs:= #[Y A,Y B]) (t:=289) (fr:=(0,0)) (QB w.drew _)) (by intro u S;simp at S;rcases S with rfl|rfl<;>rfl) J (by unfold UE;omega) J (QO _) ?_;intro I q f d;obtain⟨g,i,rfl,-⟩:=au f;have r:Out (λk=>(RR a N c).ownBlock=some k) w q:=d.out (Out.af (by first|exact a_ (aK aj _)|exact aK (a_ aj) _)) (λk L _=>L);have j:=r.block b D x;have O:=aT f d r;have y:q.cell? (ag b o)=some (.slice a N c):=(QP j).trans C;have z:q.frozen? (ag b o)=false:=(cF j o).trans X;have m:=ad j;clear r))
 all_goals(
  have f:=O.1;have d:=O.2.1;have r:=O.2.2;have n:(RR g (N+1) i).ownBlock≠some b:=λe=>by
   rcases d.block e with e|e
   .exact x e
   .have T:b=w.heap.size+1:=by simpa using e
    omega
  have U:QX (Ls b o (.slice a N c) (l++ [(A,B)]) w (q.setCell (ag b o) (.slice g (N+1) i))):=by
   refine⟨.slice g (N+1) i,⟨World.cell?_setCell_same _ _ _ y,by rw[VQ];exact z,?_,n⟩,(r.mono λ_ _ e=>.inr e).setCell (p:=ag b o) (λ_=>.inl rfl) _,λk L=>?_,λR P=>⟨?_,?_⟩,xg m o _⟩
   .rw [<-uG,QU,Q.out];exact XS f (λe=>n e) _
   .rcases d.block L with e|e
    .exact .inl e
    .exact .inr (by have:k=w.heap.size+1:=(by simpa using e);omega)
   .rw [VG _ _ _ _ (λe=>P (by injection e with _ T;exact T.symm))];exact QP m
   .rw [VQ];exact cF m R
  clear f d r n y z)
 all_goals go_wp2
 all_goals go_end0
 all_goals exact⟨rfl,by first|exact U|(rw[Q.out];exact U)⟩
def Lu(w:M)(e:RV)(a:M):Prop:=(∃t,aL e (.bool t))/\∃q,a=w.drewN q
theorem uH(v:H)(l:List (Nat × Nat))(i j:Nat)(w:M)(h:w.ownsRow 0 289 2 v l.length (cj l))(e:i<l.length)(f:j<l.length):aF 413 #[v,Y i,Y j] w (Lu w):=by
 obtain⟨a,c,rfl,s⟩:=au h;obtain⟨g,rfl⟩:=s.resolve_left J;obtain⟨p,t⟩:∃p,l[i]?=some p:=⟨_,QQ e⟩;obtain⟨q,u⟩:∃q,l[j]?=some q:=⟨_,QQ f⟩;obtain⟨x,y⟩:=ft t;obtain⟨c3,c4⟩:=ft u;have k:=(bC h x).1;have m:=(bC h y).1;have n:=(bC h c3).1;have o:=(bC h c4).1;rw[VB]at k m n o;obtain⟨z,b⟩:=p;obtain⟨A,d⟩:=q;obtain⟨N,r⟩:=ah l.length;rw[r]at e f;rw[r];have B:(i:Int)<(N:Int):=J;have C:(j:Int)<(N:Int):=J;simp only at k m n o;by_cases D:b<d
 .have d1:decide ((b:Int)<(d:Int))=true:=aS;go_enter func413,ntmps413;go_wp2_with fail;go_quiet(fail);go_wp2;go_ret;exact⟨⟨_,rfl⟩,_,rfl⟩
 .have d1:decide ((b:Int)<(d:Int))=false:=aS;by_cases E:b=d
  .have d2:((b:Int)==(d:Int))=true:=aS;go_enter func413,ntmps413;go_wp2_with fail;go_quiet(fail);go_wp2;go_ret;exact⟨⟨_,rfl⟩,_,rfl⟩
  .have d2:((b:Int)==(d:Int))=false:=aS;go_enter func413,ntmps413;go_wp2_with fail;go_quiet(fail);go_wp2;go_ret;exact⟨⟨_,rfl⟩,_,rfl⟩
def km(l:List (Nat × Nat))(i j:Nat):List (Nat × Nat):=(l.set i (l.getD j (0,0))).set j (l.getD i (0,0))
theorem AF(l:List (Nat × Nat))(i j:Nat):(km l i j).length=l.length:=by simp[km]
theorem xh(l:List (Nat × Nat))(i j:Nat)(a:i<l.length)(b:j<l.length):(km l i j).Perm l:=by
 have e:km l i j=(l.toArray.swap i j (by simpa using a) (by simpa using b)).toList:=by apply TJ;intro k;simp[km,Array.swap,List.getD_eq_getElem?_getD,a,b]
 rw[e];have:=Array.swap_perm (xs:=l.toArray) (i:=i) (j:=j) (by simpa using a) (by simpa using b);simpa using this.toList
theorem xi(l:List (Nat × Nat))(i:Nat)(p:Nat × Nat)(b:i<l.length):((cj l).set (2*i) (Y p.1)).set (2*i+1) (Y p.2)=cj (l.set i p):=by
 induction l generalizing i with
 |nil=>simp at b
 |cons a l c=>
  cases i with
  |zero=>rfl
  |succ i=>have:=c i (by simpa using b);show(((_::_::cj l:List H).set (2*(i+1)) _).set (2*(i+1)+1) _)=(_::_::cj (l.set i p):List H);rw[<-this,show 2*(i+1)=2*i+1+1 by omega];simp
theorem jr(g N c:Nat)(l:List (Nat × Nat))(i j:Nat)(w:QA)(h:w.ownsRow 0 289 2 (a' g N c) N (cj l))(n:l.length=N)(F:i<N)(G:j<N):aF 414 #[a' g N c,ae i,ae j] w λe o=>aL e (.tuple #[])/\o.ownsRow 0 289 2 (a' g N c) N (cj (km l i j))/\Out (λk=>k=g) w o:=by
 obtain⟨p,t⟩:∃p,l[i]?=some p:=⟨_,QQ aa⟩;obtain⟨q,u⟩:∃q,l[j]?=some q:=⟨_,QQ aa⟩;obtain⟨K,L⟩:=ft t;obtain⟨c3,c4⟩:=ft u;obtain⟨v,O⟩:=bC h K;obtain⟨x,P⟩:=bC h L;obtain⟨y,Q⟩:=bC h c3;obtain⟨z,S⟩:=bC h c4;rw[VB]at v x y z O P Q S;obtain⟨A,B⟩:=p;obtain⟨b,d⟩:=q;have i1:(i:Int)<(N:Int):=aa;have i2:(j:Int)<(N:Int):=aa;have a:∀(W:QA) (f:List (Nat × Nat)) (k:Nat) (r:Nat × Nat),f.length=N->k<N->W.ownsRow 0 289 2 (a' g N c) N (cj f)->((W.setCell ⟨g,k*2,none⟩ (ae r.1)).setCell ⟨g,k*2+1,none⟩ (ae r.2)).ownsRow 0 289 2 (a' g N c) N (cj (f.set k r)):=λW f k r a0 a1 T=>by have:=tz (tz T (k*2) (ae r.1)) (k*2+1) (ae r.2);rw[VB k 2,xi f k r aa]at this;rw[VB k 2];exact this
 have m:=a w l i (b,d) n F h;simp only at m;obtain⟨⟨U,V⟩,X⟩:∃s,(l.set i (b,d))[j]?=some s:=⟨_,QQ (by rw[List.length_set];omega)⟩;obtain⟨c5,Z⟩:=ft X;obtain⟨C,H⟩:=bC m c5;obtain⟨D,M⟩:=bC m Z;rw[VB 2 j]at C D H M;have k7:((w.setCell ⟨g,i*2,none⟩ (ae b)).setCell ⟨g,i*2+1,none⟩ (ae d)).cell? ⟨g,j*2,none⟩=some (ae U):=C;have k8:((w.setCell ⟨g,i*2,none⟩ (ae b)).setCell ⟨g,i*2+1,none⟩ (ae d)).cell? ⟨g,j*2+1,none⟩=some (ae V):=D;have R:=ad a;have I:=ad m;have Y:=ad t;have J:=ad u;simp only at v x y z;go_enter func414,ntmps414;go_wp2_with fail
 go_region_law (fail)
 all_goals go_wp2
 all_goals go_end0
 all_goals(
  have E:=R.out _ _ j (A,B) (by rw[List.length_set];exact n) G (show(((w.setCell ⟨g,i*2,none⟩ (ae b)).setCell ⟨g,i*2+1,none⟩ (ae d)).drew).ownsRow 0 289 2 (a' g N c) N (cj (l.set i (b,d)))from I.out);have e:(l.set i (b,d)).set j (A,B)=km l i j:=by simp[km,List.getD_eq_getElem?_getD,Y.out,J.out]
  rw[e]at E;refine⟨rfl,E,?_⟩;exact(((((Out.refl (λk=>k=g) w).setCell (p:=⟨g,i*2,none⟩) (λ_=>rfl) _).setCell (p:=⟨g,i*2+1,none⟩) (λ_=>rfl) _).drew).setCell (p:=⟨g,j*2,none⟩) (λ_=>rfl) _).setCell (p:=⟨g,j*2+1,none⟩) (λ_=>rfl) _)
theorem Gq:(prog.info? 295).map (λi=>(i.methods.find? (·.name== "Less")).map λm=>(m.path.toList.length,m.func))=some (some (0,some (413,false))):=aE
theorem NB(a:Array SQ)(t:SQ)(p:SR)(x y:String)(w:M):(Builtin.ssaWrapNilChk_ a t #[.pointer (some p),strVal x,strVal y]).run prog w=.ok (.pointer (some p)) w:=rfl
theorem sF(b o:Nat)(v:H)(w:M)(wr:Option String)(h:w.cell? (R b o)=some v):(receiverAt 295 (.val (.pointer (some (R b o)))) false wr).run prog w=.ok v w:=by cases wr<;>simp[receiverAt,go_sem,Place.get,h,NB]
theorem mK(b o:Nat)(v:H)(w:M)(n:Nat)(h:w.cell? (R b o)=some v):(method (n+1) 295 (.pointer (some (R b o))) "Less").run prog w=.ok (413,v) w:=by
 have a:=Gq;cases c:prog.info? 295 with
 |none=>rw[c]at a;cases a
 |some i=>
  rw[c]at a;simp only[QY,SI]at a;cases d:i.methods.find? (·.name== "Less")with
  |none=>rw[d]at a;cases a
  |some m=>rw[d]at a;simp only[QY,SI,Prod.mk.injEq]at a;obtain⟨e,f⟩:=a;have g:m.path.toList= []:=TS e;unfold method;simp only[RY,typeInfo,run_program,c,VA,RG,d,g,follow,f,sF b o v w _ h]
theorem Jp:(prog.info? 295).map (λi=>(i.methods.find? (·.name== "Len")).map λm=>(m.path.toList.length,m.func))=some (some (0,some (412,false))):=aE
theorem uI(b o:Nat)(v:H)(w:M)(n:Nat)(h:w.cell? (R b o)=some v):(method (n+1) 295 (.pointer (some (R b o))) "Len").run prog w=.ok (412,v) w:=by
 have a:=Jp;cases c:prog.info? 295 with
 |none=>rw[c]at a;cases a
 |some i=>
  rw[c]at a;simp only[QY,SI]at a;cases d:i.methods.find? (·.name== "Len")with
  |none=>rw[d]at a;cases a
  |some m=>rw[d]at a;simp only[QY,SI,Prod.mk.injEq]at a;obtain⟨e,f⟩:=a;have g:m.path.toList= []:=TS e;unfold method;simp only[RY,typeInfo,run_program,c,VA,RG,d,g,follow,f,sF b o v w _ h]
theorem Gr:(prog.info? 295).map (λi=>(i.methods.find? (·.name== "Swap")).map λm=>(m.path.toList.length,m.func))=some (some (0,some (414,false))):=aE
theorem hP(b o:Nat)(v:H)(w:M)(n:Nat)(h:w.cell? (R b o)=some v):(method (n+1) 295 (.pointer (some (R b o))) "Swap").run prog w=.ok (414,v) w:=by
 have a:=Gr;cases c:prog.info? 295 with
 |none=>rw[c]at a;cases a
 |some i=>
  rw[c]at a;simp only[QY,SI]at a;cases d:i.methods.find? (·.name== "Swap")with
  |none=>rw[d]at a;cases a
  |some m=>rw[d]at a;simp only[QY,SI,Prod.mk.injEq]at a;obtain⟨e,f⟩:=a;have g:m.path.toList= []:=TS e;unfold method;simp only[RY,typeInfo,run_program,c,VA,RG,d,g,follow,f,sF b o v w _ h]
structure dc(b o:Nat)(v:H)(l:List (Nat × Nat))(w w':M):Prop where
 lH:∃l',l'.Perm l/\cP w' b o v l'
 out:Out (fun k=>v.ownBlock=some k) w w'
theorem dc.refl{l:List (Nat × Nat)}(h:cP w n m v l):dc n m v l w w:=⟨⟨l,XX _,h⟩,Out.refl _ _⟩
theorem cP.out{w w1:M}{l:List (Nat × Nat)}(h:cP w n m v l)(a:Out S w w1)(c:¬S n)(d:∀k,v.ownBlock=some k->¬S k):cP w1 n m v l:=by have b:=a.block n (QN w _ h.cell) c;exact⟨(QP b).trans h.cell,(cF b m).trans h.fJ,a.own h.own d,h.ne⟩
theorem dc.drewN{l:List (Nat × Nat)}(h:dc m k v l w W)(n:Nat):dc m k v l w (W.drewN n):=by obtain⟨⟨a,b,c⟩,d⟩:=h;exact⟨⟨a,b,c.out (S:=λ_=>False) ((Out.refl _ _).drewN n) id λ_ _=>id⟩,d.drewN n⟩
theorem dc.swap{b o g N c:Nat}{l a:List (Nat × Nat)}(m:a.Perm l)(h:cP W b o (a' g N c) a)(n:Out (λk=>(a' g N c).ownBlock=some k) w W)(p:i<a.length)(q:j<a.length)(r:a.length=N)(s:z.ownsRow 0 289 2 (a' g N c) N (cj (km a i j)))(d:Out (λk=>k=g) W z):dc b o (a' g N c) l w z:=by
 have f:=d.block b (QN W _ h.cell) (λe=>h.ne (by rw[e];rfl));refine⟨⟨km a i j,(xh a i j p q).trans m,(QP f).trans h.cell,(cF f o).trans h.fJ,?_,h.ne⟩,n.tr (d.mono λk _ e=>by subst e;rfl)⟩;rw[AF,r];exact s
theorem Jq(b o:Nat)(v:QC)(l:List (Nat × Nat))(j:Nat)(w:QA)(h:cP w b o v l)(E:j<l.length)(K:l.length<=100000):aF 275 #[.iface 295 (.pointer (some (ag b o))),ae j] w λe L=>aL e (.tuple #[])/\dc b o v l w L:=by
 obtain⟨a,c,rfl,O⟩:=au h.own;obtain⟨g,rfl⟩:=O.resolve_left aa;obtain⟨N,s⟩:=ah l.length;have P:QX (dc b o (a' g N c) l w w):=dc.refl (by rw[<-s];exact h);rw[s]at E K;have Q:=ad s;rw[s];go_enter func275,ntmps275;go_wp2_with fail;go_loopw [1] (λt1 wr=>∃k:Nat,t1= ae k/\k<N/\QX (dc b o (a' g N c) l w wr)) (λt1 _=>(intOf t1).toNat)
 case atStart=>exact⟨j,rfl,E,P⟩
 case round=>
  obtain⟨k,rfl,F,t⟩:=hrel;obtain⟨n,G,u⟩:=t.lH;have x:n.length=N:=G.length_eq.trans Q;have T:=u.cell;have U:=mK b o _ wr 591 T;by_cases y:k=0
  .subst y;go_wp2;go_end0;exact⟨rfl,t⟩
  .obtain ⟨q,a0⟩:=ah (k-1);have e1:QG.wrap ((k:Int)-1)=(q:Nat):=bs;have V:((q:Nat):Int).tdiv 2=(q/2:Nat):=by rw[VH aa];simp
   have W:QG.wrap ((q/2:Nat):Int)=(q/2:Nat):=bs;have i:q/2<N:=aa;have z:q/2<k:=aa;have p:wr.ownsRow 0 289 2 (a' g N c) n.length (cj n):=u.own;have d:=uH (a' g N c) n k (q/2) wr p aa aa;obtain⟨M,X⟩:=ah (q/2);rw[X]at V W i z d;have Z:((M:Int)==(k:Int))=false:=aS;have H:=ad d;have R:=ad u;have I:=ad G;have f:=ad x;go_wp2_with fail;refine H.mono ?_;rintro e w1 ⟨⟨Y,rfl⟩,nq,rfl⟩;have m:cP (wr.drewN nq) b o (a' g N c) n:=R.out.out (S:=λ_=>False) ((Out.refl _ _).drewN nq) id λ_ _=>id;have J:=hP b o _ (wr.drewN nq) 591 m.cell;have A:=jr g N c n M k (wr.drewN nq) (by have:=m.own;rw[f.out]at this;exact this) f i F;have r:=ad (t.drewN nq);have B:=ad m;have C:=ad A;cases Y with
   |false=>go_wp2;go_end0;exact⟨rfl,r⟩
   |true=>go_wp2_with fail;refine C.mono ?_;rintro e w2 ⟨rfl,g1,g2⟩;have D:QX (dc b o (a' g N c) l w w2):=dc.swap I B r.out.out (by rw[f.out];exact i) (by rw[f.out];exact F) f g1 g2;go_wp2;refine⟨⟨M,rfl,i,D⟩,by simp[intOf];omega⟩
def Lw(b o:Nat)(v:H)(l:List (Nat × Nat))(w:M)(e:RV)(a:M):Prop:=(∃t,aL e (.bool t))/\dc b o v l w a
theorem cP.drewN{l:List (Nat × Nat)}(h:cP w m k v l)(n:Nat):cP (w.drewN n) m k v l:=h.out (S:=λ_=>False) ((Out.refl _ _).drewN n) id λ_ _=>id
theorem Dh(b o:Nat)(v:QC)(l:List (Nat × Nat))(n:Nat)(w:QA)(h:cP w b o v l)(I:n<=l.length)(Y:l.length<=100000)(O:0<l.length):aF 315 #[.iface 295 (.pointer (some (ag b o))),ae 0,ae n] w (Lw b o v l w):=by
 obtain⟨a,c,rfl,J⟩:=au h.own;obtain⟨g,rfl⟩:=J.resolve_left aa;obtain⟨N,K⟩:=ah l.length;have H0:QX (dc b o (a' g N c) l w w):=dc.refl (by rw[<-K];exact h);rw[K]at I Y O;have a0:=ad K;rw[K];go_enter func315,ntmps315;go_wp2_with fail;go_loopw [7] (λt7 wr=>∃k:Nat,t7= ae k/\k<=n/\QX (dc b o (a' g N c) l w wr)) (λt7 _=>n-(intOf t7).toNat)
 case atStart=>exact⟨0,rfl,QO _,H0⟩
 case round=>
  obtain⟨k,rfl,a5,L⟩:=hrel;obtain⟨z,X,Z⟩:=L.lH;have P:z.length=N:=X.length_eq.trans a0;have e1:QG.wrap (2*(k:Int))=2*(k:Int):=bs;have e2:QG.wrap (2*(k:Int)+1)=(2*k+1:Nat):=bs;obtain⟨s,Q⟩:=ah (2*k+1);rw[Q]at e2;have d0:decide ((s:Int)<0)=false:=aJ;by_cases a1:s<n
  .have d1:decide ((n:Int)<=(s:Int))=false:=aS;have e3:QG.wrap ((s:Int)+1)=(s+1:Nat):=bs;obtain⟨A,S⟩:=ah (s+1);rw[S]at e3;have a2:k<s:=aa;have H:k<A:=aa;have p:=ad (λ(W:QA) (i j:Nat) (a3:cP W b o (a' g N c) z) (a6:i<N) (a7:j<N)=>uH (a' g N c) z i j W (by have:=a3.own;exact this) aa aa);have T:=mK b o _ wr 591 Z.cell;have U:=ad Z;have V:=ad X;have d:=ad P;by_cases M:A<n
   .have d2:decide ((A:Int)<(n:Int))=true:=aS;go_wp2_with fail;refine(p _ _ _ U aa aa).mono ?_;rintro e B ⟨⟨a4,rfl⟩,nq,rfl⟩;have q:=ad (U.drewN nq);have y:=ad (L.drewN nq);have C:=mK b o _ (wr.drewN nq) 591 q.cell;generalize wr.drewN nq=B at*;cases a4 with
    |true=>
     go_wp2_with fail;refine(p _ _ _ q aa aa).mono ?_;rintro e R ⟨⟨t,rfl⟩,f,rfl⟩;have m:=ad (q.drewN f);have r:=ad (y.drewN f);have D:=hP b o _ (B.drewN f) 591 m.cell;have u:=ad (jr g N c z k A (B.drewN f) (by have:=m.own;rw[d.out]at this;exact this) d aa aa);cases t with
     |false=>go_wp2;go_ret;exact⟨⟨_,rfl⟩,r⟩
     |true=>go_wp2_with fail;refine u.mono ?_;rintro e E ⟨rfl,F,G⟩;have x:QX (dc b o (a' g N c) l w E):=dc.swap V m r.out.out (by rw[d.out];omega) (by rw[d.out];omega) d F G;go_wp2;refine⟨⟨A,rfl,aa,x⟩,by simp[intOf];omega⟩
    |false=>
     go_wp2_with fail;refine(p _ _ _ q aa aa).mono ?_;rintro e R ⟨⟨t,rfl⟩,f,rfl⟩;have m:=ad (q.drewN f);have r:=ad (y.drewN f);have D:=hP b o _ (B.drewN f) 591 m.cell;have u:=ad (jr g N c z k s (B.drewN f) (by have:=m.own;rw[d.out]at this;exact this) d aa aa);cases t with
     |false=>go_wp2;go_ret;exact⟨⟨_,rfl⟩,r⟩
     |true=>go_wp2_with fail;refine u.mono ?_;rintro e E ⟨rfl,F,G⟩;have x:QX (dc b o (a' g N c) l w E):=dc.swap V m r.out.out (by rw[d.out];omega) (by rw[d.out];omega) d F G;go_wp2;refine⟨⟨s,rfl,aa,x⟩,by simp[intOf];omega⟩
   .have d2:decide ((A:Int)<(n:Int))=false:=aS;have q:=U;have y:=L;have C:=T;go_wp2_with fail;refine(p _ _ _ q aa aa).mono ?_;rintro e R ⟨⟨t,rfl⟩,f,rfl⟩;have m:=ad (q.drewN f);have r:=ad (y.drewN f);have D:=hP b o _ (wr.drewN f) 591 m.cell;have u:=ad (jr g N c z k s (wr.drewN f) (by have:=m.own;rw[d.out]at this;exact this) d aa aa);cases t with
    |false=>go_wp2;go_ret;exact⟨⟨_,rfl⟩,r⟩
    |true=>go_wp2_with fail;refine u.mono ?_;rintro e E ⟨rfl,F,G⟩;have x:QX (dc b o (a' g N c) l w E):=dc.swap V m r.out.out (by rw[d.out];omega) (by rw[d.out];omega) d F G;go_wp2;refine⟨⟨s,rfl,aa,x⟩,by simp[intOf];omega⟩
  .have d1:decide ((n:Int)<=(s:Int))=true:=aS;go_wp2;go_ret;exact⟨⟨_,rfl⟩,L⟩
def pj(b o:Nat)(v:H)(f:List (Nat × Nat))(w a:M):Prop:=
 ∃d e,e.Perm f/\cP a b o d e/\Out (λk=>k=b\/v.ownBlock=some k) w a/\(∀k,d.ownBlock=some k->v.ownBlock=some k\/w.heap.size<=k)/\((∀c,c≠o->a.cell? (R b c)=w.cell? (R b c)/\a.frozen? (R b c)=w.frozen? (R b c))/\a.heap[b]?=(w.setCell (R b o) d).heap[b]?)
theorem pj.of{d h:List (Nat × Nat)}(i:cP W n m x d)(o:d.Perm h)(p:Out (λk=>k=n\/v.ownBlock=some k) w W)(j:∀k,x.ownBlock=some k->v.ownBlock=some k\/w.heap.size<=k)(f:(∀a,a≠m->W.cell? (R n a)=w.cell? (R n a)/\W.frozen? (R n a)=w.frozen? (R n a))/\W.heap[n]?=(w.setCell (R n m) x).heap[n]?)(q:dc n m x d W z):pj n m v h w z:=by
 obtain⟨⟨r,s,g⟩,l⟩:=q;have b:=l.block n (QN W _ i.cell) i.ne;refine⟨x,r,s.trans o,g,p.trans l λk t e=>(j k e).elim .inr λe=>absurd t J,j,λa c=>⟨?_,?_⟩,b.trans f.2⟩
 .exact (QP b).trans (f.1 a c).1
 .exact (cF b a).trans (f.1 a c).2
theorem AG(b o:Nat)(v:H)(l:List (Nat × Nat))(p:Nat × Nat)(w:M)(h:cP w b o v l)(s:l.length<100000):aF 198 #[.iface 295 (.pointer (some (R b o))),.iface 289 (pv p)] w λe t=>aL e (.tuple #[])/\pj b o v (l++ [p]) w t:=by have r:=I (AE b o v l p w h J);have u:=h.cell;obtain⟨a,c,rfl,-⟩:=au h.own;obtain⟨N,f⟩:=ah l.length;rw[f]at s;rw[f]at r u;have k:=I f;rw[f];go_enter func198,ntmps198;go_wp2_with fail;refine r.mono ?_;rintro e m ⟨rfl,n,i,x,y,z⟩;have A:=uI b o n m 591 i.cell;have d:=Dg n _ m i.own;have q:=Jq b o n _ N m i (by rw[QU,k.out];show N<N+1;omega) (by rw[QU,k.out];show N+1<=_;omega);rw[QU,k.out]at d;have E:QG.wrap (((N+1:Nat):Int)-1)=(N:Nat):=bs;have j:=aY i x y z;have B:=I d;have C:=I q;go_wp2_with fail;refine B.mono ?_;rintro e F ⟨rfl,rfl⟩;go_wp2_with fail;refine C.mono ?_;rintro e G ⟨rfl,g⟩;have D:=I (pj.of j.1 (XX _) j.2.1 j.2.2.1 j.2.2.2 g);go_wp2;go_end0;exact⟨rfl,D⟩
theorem uJ{xs e:List H}(h:w.ownsRow k t 2 (a' i m j) m (xs++e))(c:xs.length=n*2)(q:n<=m):w.ownsRow k t 2 (a' i n j) n xs:=by
 refine⟨c,?_⟩;rcases h.2 with⟨a,_⟩|⟨r,d,b,a,f,g,s,l,o,p⟩
 .cases a
 .cases a;refine .inr ⟨i,j,b,rfl,f,g,J,l,o,?_⟩;have:=congrArg (List.take (n*2)) p;rw[List.take_take,WM J]at this;rw[this,<-c,List.take_left]
theorem xj(l m:List (Nat × Nat)):cj (l++m)=cj l++cj m:=by simp[cj]
theorem Di(b o:Nat)(v:QC)(l:List (Nat × Nat))(p:Nat × Nat)(w:QA)(h:cP w b o v (l++ [p]))(K:l.length<100000):aF 415 #[.pointer (some (ag b o))] w λe r=>aL e (.iface 289 (pv p))/\∃m,cP r b o m l/\Out (λk=>k=b) w r/\m.ownBlock=v.ownBlock/\((∀f,f≠o->r.cell? (ag b f)=w.cell? (ag b f)/\r.frozen? (ag b f)=w.frozen? (ag b f))/\r.heap[b]?=(w.setCell (ag b o) m).heap[b]?):=by
 have u:=h.cell;have L:=h.fJ;have x:=QN w _ u;have d:=h.own;rw[QU,List.length_singleton]at d;obtain⟨a,c,rfl,O⟩:=au d;obtain⟨g,rfl⟩:=O.resolve_left aa;have P:(l++ [p])[l.length]?=some p:=aJ;obtain⟨Q,S⟩:=ft P;obtain⟨y,H⟩:=bC d Q;obtain⟨z,M⟩:=bC d S;have T:=(bo d rfl).1;have s:l.length+1<=c:=by
  rcases d.2 with⟨e,_⟩|⟨R,U,V,e,_,_,W,_⟩
  .cases e
  .cases e;exact W
 obtain⟨n,q⟩:=p;obtain⟨N,D⟩:=ah l.length;rw[D]at u y z s K d;rw[VB]at y z;simp only at y z;have I:QG.wrap ((N:Int)+1-1)=(N:Nat):=bs;have E:QG.wrap (((N+1:Nat):Int)-1)=(N:Nat):=bs;have Y:QG.wrap (N:Int)=(N:Nat):=bs;have J:(N:Int)<(N:Int)+1:=aa;have i2:(N:Int)<=(c:Int):=aa;have i3:(0:Int)<=(N:Int):=aa;have A:=ad D;have j:=ad d;have t:=ad h.ne;go_enter func415,ntmps415;go_wp2_with fail
 go_region_law (fail)
 all_goals go_wp2_with fail
 all_goals go_region_law (fail)
 all_goals(
  have B:Out (λk=>k=b) w (((w.setCell (ag b o) (a' g N c)).alloc (ao #[ae n,ae q] 289)).drew.drew):=((((Out.refl (λk=>k=b) w).setCell (p:=ag b o) (λ_=>rfl) _).alloc _).drew).drew;have X:QX (∃m,cP (((w.setCell (ag b o) (a' g N c)).alloc (ao #[ae n,ae q] 289)).drew.drew) b o m l/\Out (λk=>k=b) w (((w.setCell (ag b o) (a' g N c)).alloc (ao #[ae n,ae q] 289)).drew.drew)/\m.ownBlock=(a' g (N+1) c).ownBlock/\((∀f,f≠o->(((w.setCell (ag b o) (a' g N c)).alloc (ao #[ae n,ae q] 289)).drew.drew).cell? (ag b f)=w.cell? (ag b f)/\(((w.setCell (ag b o) (a' g N c)).alloc (ao #[ae n,ae q] 289)).drew.drew).frozen? (ag b f)=w.frozen? (ag b f))/\(((w.setCell (ag b o) (a' g N c)).alloc (ao #[ae n,ae q] 289)).drew.drew).heap[b]?=(w.setCell (ag b o) m).heap[b]?)):=by
   have i:b<(w.setCell (ag b o) (a' g N c)).heap.size:=by rw[RT];exact x
   refine⟨a' g N c,⟨?_,?_,?_,?_⟩,B,rfl,λf C=>⟨?_,?_⟩,?_⟩
   .show ((w.setCell (ag b o) (a' g N c)).alloc _).cell? (ag b o)=_;rw[YW _ _ _ i];exact World.cell?_setCell_same _ _ _ u
   .show ((w.setCell (ag b o) (a' g N c)).alloc _).frozen? (ag b o)=_;rw[World.frozen?_alloc_past _ _ _ i,VQ];exact L
   .have F:=j.out;rw[xj]at F;have Z:=uJ F (by rw[xf,A.out]) (US N);rw[A.out];exact B.own Z (λk G e=>t.out (by rw[e]at G;exact G))
   .exact t
   .show ((w.setCell (ag b o) (a' g N c)).alloc _).cell? (ag b f)=_;rw[YW _ _ _ i,VG _ _ _ _ (λe=>C (by injection e with _ E;exact E.symm))]
   .show ((w.setCell (ag b o) (a' g N c)).alloc _).frozen? (ag b f)=_;rw[World.frozen?_alloc_past _ _ _ i,VQ]
   .exact QW _ _ _ i
  clear B j A)
 all_goals go_wp2
 all_goals go_ret
 all_goals exact⟨rfl,X⟩
def Ii(b o:Nat)(v:H)(l:List (Nat × Nat))(w:M)(e:RV)(a:M):Prop:=
 ∃p d f,aL e (.iface 289 (pv p))/\(f++ [p]).Perm l/\cP a b o d f/\Out (λk=>k=b\/v.ownBlock=some k) w a/\d.ownBlock=v.ownBlock/\((∀c,c≠o->a.cell? (R b c)=w.cell? (R b c)/\a.frozen? (R b c)=w.frozen? (R b c))/\a.heap[b]?=(w.setCell (R b o) d).heap[b]?)
theorem dc.trans{l a:List (Nat × Nat)}(b:a.Perm l)(c:Out (λk=>v.ownBlock=some k) w W)(h:dc n m v a W z):dc n m v l w z:=by obtain⟨⟨d,e,f⟩,g⟩:=h;exact⟨⟨d,e.trans b,f⟩,c.tr g⟩
theorem Dj(b o:Nat)(v:QC)(l:List (Nat × Nat))(w:QA)(h:cP w b o v l)(Y:l.length<=100000)(n:0<l.length):aF 276 #[.iface 295 (.pointer (some (ag b o)))] w (Ii b o v l w):=by
 have A:=uI b o v w 591 h.cell;have B:=hP b o v w 591 h.cell;have f:=Dg v l w h.own;obtain⟨a,c,rfl,J⟩:=au h.own;obtain⟨g,rfl⟩:=J.resolve_left aa;obtain⟨N,i⟩:=ah l.length;have p:=ad i;have y:QX (cP w b o (a' g N c) l):=by rw[<-i];exact h
 have j:=jr g N c l 0 (N-1) w (by have:=y.own;rw[i]at this;exact this) i aa aa;rw[i]at A B f Y n;obtain⟨M,W⟩:=ah (N-1);have e1:QG.wrap ((N:Int)-1)=(M:Nat):=bs;have C:M<N:=aa;rw[W]at j;have a0:=ad f;have D:=ad j;rw[i];clear j i W;go_enter func276,ntmps276;go_wp2_with fail;refine a0.mono ?_;rintro e w1 ⟨rfl,rfl⟩;go_wp2_with fail;refine D.mono ?_;rintro e X ⟨rfl,g1,g2⟩;have k:dc b o (a' g N c) l w X:=dc.swap (XX _) y (Out.refl _ _) (by rw[p.out];exact n) (by rw[p.out];exact C) p g1 g2;obtain⟨Z,H,E⟩:=k.lH;have F:Z.length=N:=H.length_eq.trans p;have G:=Dh b o _ Z M X E aa aa aa;have K:=ad k.out;have L:=ad H;have O:=ad G;clear k F;go_wp2_with fail;refine O.mono ?_;rintro e R ⟨⟨a4,rfl⟩,a1⟩;have m:=dc.trans L K a1;obtain⟨r,I,P⟩:=m.lH;have d:r.length=N:=I.length_eq.trans p;obtain⟨z,q,rfl⟩:∃z q,r=z++ [q]:=by
  have s:r≠[]:=λe=>by rw[e]at d;simp at d;omega
  exact⟨r.dropLast,r.getLast s,(List.dropLast_concat_getLast s).symm⟩
 have t:=Di b o _ z q R P (by rw[QU]at d;simp at d;omega);have u:=ad t;have Q:=ad m.out;have S:=ad I;have T:QX (R.heap[b]?=w.heap[b]?):=m.out.block b (QN w _ y.cell) y.ne;clear d;go_wp2_with fail;refine u.mono ?_;rintro e w4 ⟨rfl,a2,r1,r2,r3,U⟩;have a3:QX (Ii b o (a' g N c) l w (.returned (.iface 289 (pv q))) w4):=by
  refine⟨q,a2,z,rfl,S,r1,(Q.mono λ_ _ e=>.inr e).trans r2 λ_ _ e=>.inl e,r3,λV x=>⟨(U.1 V x).1.trans ?_,(U.1 V x).2.trans ?_⟩,U.2.trans (xg T o _)⟩
  .exact QP T
  .exact cF T V
 obtain⟨q1,q2⟩:=q;go_wp2;go_ret;exact a3
theorem PM.congr{f g:Nat × Nat->Option H}(h:PM w n f)(e:∀a,f a=g a):PM w n g:=by obtain⟨b,c,d,i,j,k⟩:=h;exact⟨b,c,d,i,j,λa=>(k a).trans (e a)⟩
structure bd(w:M)(L hm:Nat)(v:H)(l:List (Nat × Nat))(dv:Nat × Nat->H)(da:Nat × Nat->Nat->Nat):Prop where
 row:∃cs,w.heap[L]? =some (N cs 286)
 c1:w.cell? (R L 1)=some (.map (some hm))
 c3:w.cell? (R L 3)=some aO
 lH:cP w L 2 v l
 fJ:∀o,w.frozen? (R L o)=false
 map:PM w hm fun p=>if p∈l then some (dv p) else none
 iM:∀p,p∈l->cA w (dv p) 128 (da p)/\wO (dv p)
 mg:l.Nodup
def LZ(L a:Nat)(v:H)(k:Nat):Prop:=k=L\/k=a\/v.ownBlock=some k
theorem bd.Dl{l:List (Nat × Nat)}{d:Nat × Nat->H}{f:Nat × Nat->Nat->Nat}(h:bd w n m v l d f):m≠n/\(∀k,v.ownBlock=some k->k≠n/\k≠m):=by
 obtain⟨q,i⟩:=h.row;obtain⟨r,c,a,-⟩:=h.map;refine⟨λe=>?_,λk b=>⟨λe=>h.lH.ne (by rw[b,e]),λe=>?_⟩⟩
 .rw [e,i]at a;cases a
 .rcases h.lH.own.2 with⟨rfl,_⟩|⟨g,j,o,rfl,s,p,_⟩
  .cases b
  .cases b;subst e;rw[p]at a;cases a
theorem bd.eI{l:List (Nat × Nat)}{q:Nat × Nat->H}{r:Nat × Nat->Nat->Nat}(h:bd w m k v l q r)(s:Out (LZ m k v) w W)(d:cA w x n f):cA W x n f:=by
 obtain⟨a,j,t,d⟩:=d;refine⟨a,j,t,?_⟩;rcases d with d|⟨b,o,p,u,y,i,d⟩
 .exact .inl d
 .refine .inr ⟨b,o,p,u,y,s.heap i ?_,d⟩;obtain⟨p,z⟩:=h.row;obtain⟨D,c,A,-⟩:=h.map;rintro(e|e|e)
  .rw [e,z]at i;cases i
  .rw [e,A]at i;cases i
  .rcases h.lH.own.2 with⟨rfl,_⟩|⟨g,j,B,rfl,E,C,_⟩
   .cases e
   .cases e;rw[C]at i;cases i
def Lx(w:M)(e:RV)(a:M):Prop:=∃L b,aL e (.tuple #[ar L,aH 0])/\bd a L b aO [] (λ_=>.nilIface) (λ_ _=>0)/\a.cell? (R L 0)=some (Y 0)/\w.heap.size<=L/\w.heap.size<=b/\aq w a
theorem yR(w:M):aF 130 #[Y 0] w (Lx w):=by have a:=λw=>eJ 282 w;go_enter func130,ntmps130;go_wp2;go_ret2;have b:=cr (eZ w (.map #[] 0) (N #[Y 0,.map (some w.heap.size),aO,aO] 286));obtain⟨c,f,z⟩:=b;refine⟨w.heap.size+1,w.heap.size,rfl,⟨⟨_,eZ w (.map #[] 0) (N #[Y 0,.map (some w.heap.size),aO,aO] 286)⟩,c 1,c 3,⟨c 2,f 2,SD _ _ _ _,λe=>by cases e⟩,f,?_,λ_ h=>(by cases h),ZI⟩,c 0,US _,QE _,aK (aK aj _) _⟩;have:=(PM.made w).out (Out.af (S:=λ_=>False) (aK aj (N #[Y 0,.map (some w.heap.size),aO,aO] 286))) id;simpa using this
theorem Jr(L:Nat)(w:M):aF 196 #[ar L] w λe a=>aL e (.pointer (some (R L 2)))/\w=a:=by go_enter func196,ntmps196;go_wp2;go_ret;exact⟨aJ,rfl⟩
theorem z41(w:M):(zeroValue 41).run prog w=.ok aO w:=(zero_of_info (v:= aO) (n:=1) aE).1 w
theorem po{w c u a:M}{l z:List (Nat × Nat)}{s:Nat × Nat->H}{A:Nat × Nat->Nat->Nat}(h:bd w n m v l s A)(d:aq w c)(f:aq c u)(g:pj n 2 v z u a):
  a.cell? (R n 0)=w.cell? (R n 0)/\a.cell? (R n 1)=w.cell? (R n 1)/\(∀k,w.heap.size<=k->k<c.heap.size->∀o,a.cell? (R k o)=c.cell? (R k o))/\Out (LZ n m v) w a/\(PM a m λp=>if p∈l then some (s p)else none)/\c.heap.size<=a.heap.size:=by
 have j:n<w.heap.size:=QN w _ h.c1;have b:aq w u:=d.trans (f.mono d.size);obtain⟨D,E,F,G,i,K,t,L⟩:=g;obtain⟨x,O,P⟩:=kp b n j;have B:Out (LZ n m v) w a:=(Out.af (S:=LZ n m v) b).trans i λk _ e=>e.elim .inl λe=>.inr (.inr e);have q:=λk C=>(bo h.lH.own (k:=k) C).1;obtain⟨f1,f2⟩:=h.Dl;refine⟨((t 0 ai).1).trans (x 0),((t 1 ai).1).trans (x 1),λk Q y o=>?_,B,?_,QD f.size i.size⟩
 .have r:a.heap[k]?=u.heap[k]?:=i.block k (RL y f.size) λe=>e.elim (λe=>J) λe=>by have:=q k e;omega
  exact QP (r.trans (f.block k y))
 .refine (h.map.out (Out.af (S:=λ_=>False) b) id).out i λe=>e.elim f1 λe=>(f2 m e).2 rfl
def pq(L c:Nat)(v:H)(l:List (Nat × Nat))(g:Nat × Nat->Nat->Nat)(p:Nat × Nat)(f:aN)(w a:M):Prop:=
 ∃d e b,e.Perm (if p∈l then l else l++ [p])/\bd a L c d e b (λq=>if q=p then f else g q)/\a.cell? (R L 0)=w.cell? (R L 0)/\Out (LZ L c v) w a/\(∀k,d.ownBlock=some k->v.ownBlock=some k\/w.heap.size<=k)
theorem Dm{w H u F t j:QA}{l:List (Nat × Nat)}{K:Nat × Nat->QC}{N:Nat × Nat->Nat->Nat}{p:Nat × Nat}(h:bd w n m v l K N)(M:p∉l)(r:aq w H)(R:aq H u)(g:pj n 2 v (l++ [p]) u F)(y:aq F t)(L:cA t x 128 f/\wO x)(a1:PM j m λb=>if b=p then some x else if b∈l then some (K b)else none)(o:Obj)(a2:ty o≠5)(h6:j=t.putObj m o):pq n m v l N p f w j:=by
 have O:n<w.heap.size:=QN w _ h.c1;have d:aq w u:=r.trans (R.mono r.size);obtain⟨s0,s1,-,s3,s4,-⟩:=po h r R g;obtain⟨f1,f2⟩:=h.Dl;obtain⟨I,l2,z,Y,g3,J,g5,g6⟩:=g;have P:∀k,I.ownBlock=some k->k≠m:=λk A e=>by
  rcases J k A with G|G
  .exact (f2 k G).2 e
  .have:=h.map.lt;have:=d.size;omega
 have B:Out (λk=>k=m) t j:=by rw[h6];exact(Out.refl (λk=>k=m) t).wy (λ_=>rfl) o
 have s:Out (λk=>k=m) F j:=(Out.af y).tr B;have i:j.heap[n]?=F.heap[n]?:=s.block n (RL O (QD d.size g3.size)) λe=>f1 e.symm;have Q:u.heap[n]?=w.heap[n]?:=d.block n O;have C:Out (LZ n m v) w j:=s3.trans s λk _ e=>.inr (.inl e);obtain⟨a3,a4,a9⟩:=kp d n O;refine⟨I,l2,λq=>if q=p then x else K q,by rw[al M];exact z,⟨?_,?_,?_,Y.out s (λe=>f1 e.symm) P,λD=>?_,a1.congr λb=>?_,λq a5=>?_,?_⟩,?_,C,λk A=>(J k A).imp id λe=>QD d.size e⟩
 .obtain ⟨a0,a6⟩:=h.row;rw[i,g6,xg Q];simp only[World.setCell,WV,a6];exact⟨_,rfl⟩
 .exact (QP i).trans (s1.trans h.c1)
 .exact (QP i).trans (((g5 3 ai).1.trans (a3 3)).trans h.c3)
 .rw [cF i D];by_cases e:D=2
  .rw [e];exact Y.fJ
  .exact ((g5 D e).2.trans (a4 D)).trans (h.fJ D)
 .have:=z.mem_iff (a:=b);simp only[TH,SM]at this;by_cases e:b=p
  .simp [e,z.mem_iff]
  .by_cases G:b∈l<;>simp[e,G,this]
 .by_cases e:q=p
  .simp only[e,if_true];obtain⟨⟨a,T,a7,U⟩,V⟩:=L;refine⟨⟨a,T,a7,U.imp id ?_⟩,V⟩;rintro⟨b,o2,a0,a8,W,X,A⟩;refine⟨b,o2,a0,a8,W,B.heap X λe=>?_,A⟩;obtain⟨b0,c,Z,-⟩:=s4.out (Out.af (S:=λ_=>False) y) id;rw[e,Z]at X;cases X
  .simp only[al e];have E:q∈l:=by have:=z.mem_iff.1 a5;simp only[TH,SM]at this;exact this.resolve_right e
   exact⟨h.eI C (h.iM q E).1,(h.iM q E).2⟩
 .refine (z.nodup_iff).2 ?_;rw[YA];exact⟨h.mg,aJ,λa W b y e=>M (by simp at y;rw[<-y,<-e];exact W)⟩
 .exact (QP i).trans s0
theorem AH{l:List (Nat × Nat)}{s:Nat × Nat->QC}{E:Nat × Nat->Nat->Nat}{p:Nat × Nat}(h:bd w n m v l s E)(F:p∈l)(G:aq w W)(t:cA W x 128 f/\wO x)(O:PM z m λb=>if b=p then some x else if b∈l then some (s b)else none)(o:Obj)(P:ty o≠5)(Q:z=W.putObj m o):pq n m v l E p f w z:=by
 have T:n<w.heap.size:=QN w _ h.c1;obtain⟨f1,f2⟩:=h.Dl;have i:Out (λk=>k=m) W z:=by rw[Q];exact(Out.refl (λk=>k=m) W).wy (λ_=>rfl) o
 have g:Out (λk=>k=m) w z:=(Out.af G).tr i;have d:z.heap[n]?=w.heap[n]?:=g.block n T λe=>f1 e.symm;have j:Out (LZ n m v) w z:=g.mono λk _ e=>.inr (.inl e);refine⟨v,l,λq=>if q=p then x else s q,by rw[ak F],⟨?_,?_,?_,h.lH.out g (λe=>f1 e.symm) λk r=>(f2 k r).2,λK=>?_,O.congr λb=>?_,λq L=>?_,h.mg⟩,QP d,j,λk r=>.inl r⟩
 .obtain ⟨u,U⟩:=h.row;exact⟨u,d.trans U⟩
 .exact (QP d).trans h.c1
 .exact (QP d).trans h.c3
 .exact (cF d K).trans (h.fJ K)
 .by_cases e:b=p
  .simp [e,F]
  .simp [e]
 .by_cases e:q=p
  .simp only[e,if_true];obtain⟨⟨a,y,V,A⟩,B⟩:=t;refine⟨⟨a,y,V,A.imp id ?_⟩,B⟩;rintro⟨b,X,u,Z,H,C,r⟩;refine⟨b,X,u,Z,H,i.heap C λe=>?_,r⟩;obtain⟨N,c,D,-⟩:=h.map.out (Out.af (S:=λ_=>False) G) id;rw[e,D]at C;cases C
  .simp only[al e];exact⟨h.eI j (h.iM q L).1,(h.iM q L).2⟩
theorem rf(v:H)(f:aN)(w:M)(h:cA w v 128 f):aF 199 #[v] w (sj 128 f w):=by obtain⟨a,c,rfl,h⟩:=h;obtain⟨b,o,d,e,rfl,g,i⟩:=h.resolve_left ai;exact eC b o 128 c f w (λk h=>(QS w b (o+k) d 5 e g).trans (i k h)) J
theorem kK(a b:Bool)(w:M):(VC a 10000 4 (.bool b)).run prog w=.ok () w:=by have c:prog.underlying 4=some .bool:=aE;unfold VC;simp[SS c]
theorem mL(b:Bool)(a:List TC)(r:Option (Nat × H))(w:M)(h:XB .bool (.bool b) a 0=some r):(XE 4 (.bool b) a).run prog w=.ok r w:=by have c:prog.underlying 4=some .bool:=aE;unfold XE;simp[SS c,h]
theorem cP.below{l:List (Nat × Nat)}(h:cP w n m v l)(a:aq w W):cP W n m v l:=by obtain⟨k,f,-⟩:=kp a n (QN w _ h.cell);exact⟨(k m).trans h.cell,(f m).trans h.fJ,aP a h.own,h.ne⟩
theorem xk(a c:Nat)(b:Bool)(v:H)(w:M)(h:aX w a (.map #[] c)):
  (SZ 293 (.map (some a)) (.bool b) v).run prog w=.ok () (w.putObj a (.map #[{key:=.bool b,val:=v,born:=c}] (c+1))):=by
 have d:prog.underlying 293=some (.map 4 291):=aE;unfold SZ;simp only[RY,SS d,RG,kK,b_ h,mL b [] none w rfl];exact cf _ h
theorem uK(a c d:Nat)(b:Bool)(v e:H)(w:M)(h:aX w a (.map #[{key:=.bool b,val:=e,born:=d}] c)):
  (SZ 293 (.map (some a)) (.bool !b) v).run prog w=.ok () (w.putObj a (.map #[{key:=.bool b,val:=e,born:=d},{key:=.bool !b,val:=v,born:=c}] (c+1))):=by
 have f:prog.underlying 293=some (.map 4 291):=aE;unfold SZ;have g:=mL (!b) [{key:=.bool b,val:=e,born:=d}] none w (by cases b<;>rfl);simp only[RY,SS f,RG,kK,b_ h,g];exact cf _ h
theorem Dn(d c e f:Nat)(v a:H)(w:M)(h:aX w d (.map #[{key:=.bool true,val:=a,born:=e},{key:=.bool false,val:=v,born:=f}] c))(b:Bool):
  (UZ 293 (.map (some d)) (.bool b) false).run prog w=.ok (if b then a else v) w:=by
 have g:prog.underlying 293=some (.map 4 291):=aE;unfold UZ;have i:=mL b [{key:=.bool true,val:=a,born:=e},{key:=.bool false,val:=v,born:=f}] (some (if b then(0,a)else(1,v))) w (by cases b<;>rfl);cases b<;>simp[RY,SS g,RG,kK,b_ h,i]
theorem Dp(d f:H)(W:M):∃g c,(SZ 293 (.map (some W.heap.size)) ec d).run prog (W.alloc (.map #[] 0)).drew=.ok () g
  /\(SZ 293 (.map (some W.heap.size)) iL f).run prog g=.ok () c
  /\(∀u b,u.heap[W.heap.size]?=c.heap[W.heap.size]?->(UZ 293 (.map (some W.heap.size)) (.bool b) false).run prog u=.ok (if b then d else f) u)
  /\aq W c/\W.heap.size<c.heap.size:=by
 have h:(W.alloc (.map #[] 0)).drew.heap[W.heap.size]?=some (.map #[] 0):=QB _ _;have i:aq W (W.alloc (.map #[] 0)).drew:=a_ (aK aj _);have a:=Z_ h;refine⟨_,_,xk _ _ true d _ h,uK _ _ _ true f _ _ (SO a),λu b j=>?_,?_,?_⟩
 .exact Dn _ _ _ _ _ _ _ (j.trans (SO (by rw[WR];exact a))) b
 .exact (i.grown (grownBy_putObj' _ _ _) (TF a) (λk e=>by cases e;exact QE _)).grown (grownBy_putObj' _ _ _) (by rw[WR];exact TF a) (λk e=>by cases e;exact QE _)
 .rw [WR,WR];exact a
theorem uL(L x:Nat)(v:QC)(l:List (Nat × Nat))(a0:Nat × Nat->QC)(a4:Nat × Nat->Nat->Nat)(m r:Nat)(u:QC)(f:aN)(w:QA)(h:bd w L x v l a0 a4)(h0:w.cell? (ag L 0)=some (ae 0))(t:cA w u 128 f)(a5:m<=15)(c5:r<=4095)(a6:(m,r)∉l)(a8:l.length<100000):
  aF 132 #[ar L,.agg #[ae m,ae r,u]] w λe b=>aL e (aH 0)/\pq L x v l a4 (m,r) f w b:=by
 obtain⟨K,O,rfl⟩:=t.form;have d1:decide ((m:Int)<0)=false:=aJ;have d2:decide (15<(m:Int))=false:=aS;have d3:decide ((r:Int)<0)=false:=aJ;have d4:decide (4095<(r:Int))=false:=aS;obtain⟨W,P⟩:=ah ((w.alloc (ao #[ae m,ae r,.slice K 128 O] 206)).alloc (ao #[ae m,ae r] 289));have Q:aq w W:=by rw[<-P];exact aK (aK aj _) _
 have j:=e_ w (ao #[ae m,ae r,.slice K 128 O] 206) (ao #[ae m,ae r] 289);have n:=eZ w (ao #[ae m,ae r,.slice K 128 O] 206) (ao #[ae m,ae r] 289);rw[P]at j n;have y:L<w.heap.size:=QN w _ h.c1;have z:PM W.drew x λp=>if p∈l then some (a0 p)else none:=h.map.out (Out.af (S:=λ_=>False) (a_ Q)) id
 have A:=hh z 282 41 aO true underlying282 (z41 _) (m,r);rw[al a6]at A;obtain⟨X,y2,y3⟩:=cr n;obtain⟨c6,c7,c8⟩:=kp Q L y;have c1:=h.c1;have T:=ad h;simp only[Option.getD_none,Option.isSome_none,if_true]at A;have Z:=aB (Ne.symm h.Dl.1) h.Dl.1;have H:=ad h.map.lt;clear h z;have a9:=λw=>eJ 293 w;obtain⟨w1,U,b0,b5,B,q,a7⟩:=Dp (.func (.func 196) #[] #[]) (.func (.func 197) #[] #[]) W;have C:=B U.drew true rfl;have c:aq w U:=Q.trans (q.mono Q.size);obtain⟨p1,p2,p3⟩:=cr (q.block _ (show w.heap.size<W.heap.size by rw[<-P];simp;omega)|>.trans j);obtain⟨q1,q2,q3⟩:=cr (q.block _ (show w.heap.size+1<W.heap.size by rw[<-P];simp)|>.trans n);obtain⟨b6,b7,b8⟩:=kp c L y;simp only[if_true]at C;have d:=T.lH;have N:=ad (λ(u:QA) (t:aq U u)=>AG L 2 v l (m,r) u (d.below (c.trans (t.mono c.size))) a8);clear d;have b9:=ad (λ(u V:QA) (t:aq U u) (g:pj L 2 v (l++ [(m,r)]) u V)=>po T c t g);go_enter func132,ntmps132;go_wp2_with fail;go_region;go_wp2_with fail;go_region_held3(λb=>b.cell? (ag w.heap.size 1)=some (ae r)/\b.cell? (ag L 0)=some (ae 0)/\b.cell? ⟨w.heap.size+1,0,none⟩=some (ae m)/\b.cell? ⟨w.heap.size+1,1,none⟩=some (ae r)) ((simp[*,go_sem];done)) (first|(go_at_call 196;refine(Jr L _).mono ?_;rintro e V ⟨rfl,rfl⟩)|(go_at_call 198;refine(N _ bF).mono ?_;rintro e V ⟨rfl,M⟩;obtain⟨s0,s1,D,s3,s4,s5⟩:=b9.out _ _ bF M;have R:=ad M;have z1:=D w.heap.size (QE _) aa 1;have z2:=D w.heap.size (QE _) aa 2;have y0:=D (w.heap.size+1) aa aa 0;have X:=D (w.heap.size+1) aa aa 1;rw[p1 1]at z1;rw[p1 2]at z2;rw[q1 0]at y0;rw[q1 1]at X;rw[h0]at s0;rw[c1]at s1;clear M D;have I:=ad s3;have Y:=ad s4;clear s3 s4));go_wp2_with fail;go_region_held3(λb=>b.cell? (ag w.heap.size 2)=some (.slice K 128 O)/\b.cell? (ag L 1)=some (.map (some x))/\b.cell? ⟨w.heap.size+1,0,none⟩=some (ae m)/\b.cell? ⟨w.heap.size+1,1,none⟩=some (ae r)) ((simp[*,go_sem];done)) (first|(go_at_call 199;refine(rf _ _ _ (T.eI (I.drew) t)).mono ?_;rintro e w5 ⟨c0,rfl,i,E⟩;have a:aq V w5:=(a_ aj).trans E;have F:=Y.out.out (Out.af (S:=λ_=>False) a) id;obtain⟨w6,e6,g6,o6,t6,s⟩:=kl F 282 41 underlying282 (m,r) c0;have c2:=ad (Dm T a6 c (Below.drew aj) R a ⟨gj i,lr i⟩ g6 o6 t6 s);have c3:=H.out;have J:=Z.out;obtain⟨a1,-,-⟩:=kp a w.heap.size aa;obtain⟨a2,-,-⟩:=kp a (w.heap.size+1) aa;obtain⟨a3,-,-⟩:=kp a L aa;have G:∀k o,k≠x->w6.cell? (ag k o)=w5.cell? (ag k o):=λk o c4=>(by rw[s];exact QP (TE c4));have b1:=(G w.heap.size 2 aa).trans ((a1 2).trans z2);have b2:=(G L 1 J.1).trans ((a3 1).trans s1);have b3:=(G (w.heap.size+1) 0 aa).trans ((a2 0).trans y0);have b4:=(G (w.heap.size+1) 1 aa).trans ((a2 1).trans X);simp only[pv]at e6;clear F g6 s G i E));go_wp2_with fail;go_ret;exact⟨rfl,c2⟩
theorem Dq(L n:Nat)(v:QC)(l:List (Nat × Nat))(O:Nat × Nat->QC)(P:Nat × Nat->Nat->Nat)(m r:Nat)(u:QC)(f:aN)(w:QA)(h:bd w L n v l O P)(h0:w.cell? (ag L 0)=some (ae 0))(Q:cA w u 128 f)(T:m<=15)(a6:r<=4095)(U:(m,r)∈l)(a7:l.length<100000):
  aF 132 #[ar L,.agg #[ae m,ae r,u]] w λe j=>aL e (aH 0)/\pq L n v l P (m,r) f w j:=by
 obtain⟨A,B,rfl⟩:=Q.form;have d1:decide ((m:Int)<0)=false:=aJ;have d2:decide (15<(m:Int))=false:=aS;have d3:decide ((r:Int)<0)=false:=aJ;have d4:decide (4095<(r:Int))=false:=aS;obtain⟨W,V⟩:=ah ((w.alloc (ao #[ae m,ae r,.slice A 128 B] 206)).alloc (ao #[ae m,ae r] 289));have d:aq w W:=by rw[<-V];exact aK (aK aj _) _
 have g:=e_ w (ao #[ae m,ae r,.slice A 128 B] 206) (ao #[ae m,ae r] 289);have q:=eZ w (ao #[ae m,ae r,.slice A 128 B] 206) (ao #[ae m,ae r] 289);rw[V]at g q;have C:L<w.heap.size:=QN w _ h.c1;have s:PM W.drew n λp=>if p∈l then some (O p)else none:=h.map.out (Out.af (S:=λ_=>False) (a_ d)) id
 have t:=hh s 282 41 aO true underlying282 (z41 _) (m,r);rw[ak U]at t;obtain⟨N,x2,x3⟩:=cr g;obtain⟨X,y2,y3⟩:=cr q;obtain⟨M,a8,a9⟩:=kp d L C;have R:=h.c1;have D:=ad h;simp only[TD,Option.isSome_some,if_true]at t;have E:=aB (Ne.symm h.Dl.1) h.Dl.1;have F:=ad h.map.lt;clear h s;go_enter func132,ntmps132;go_wp2_with fail;go_region;go_wp2_with fail;go_region_held3(λj=>j.cell? (ag w.heap.size 2)=some (.slice A 128 B)/\j.cell? (ag L 1)=some (.map (some n))/\j.cell? ⟨w.heap.size+1,0,none⟩=some (ae m)/\j.cell? ⟨w.heap.size+1,1,none⟩=some (ae r)) ((simp[*,go_sem];done)) (first|(go_at_call 199;refine(rf _ _ _ (D.eI (by first|exact(Out.af d).drew|exact(Out.af d).drewN _|exact(Out.af d).drew.drew|exact(Out.af d).drew.drewN _) Q)).mono ?_;rintro e G ⟨I,rfl,c,b⟩;have a:aq W G:=⟨b.os,b.tape,b.output,b.size,b.block⟩;have x:aq w G:=d.trans (a.mono d.size);have y:=D.map.out (Out.af (S:=λ_=>False) x) id;obtain⟨Y,J,Z,o6,t6,i⟩:=kl y 282 41 underlying282 (m,r) I;have a0:=ad (AH D U x ⟨gj c,lr c⟩ Z o6 t6 i);have a4:=F.out;have K:=E.out;obtain⟨a1,-,-⟩:=kp a w.heap.size aa;obtain⟨H,-,-⟩:=kp a (w.heap.size+1) aa;obtain⟨a3,-,-⟩:=kp a L aa;have z:∀k o,k≠n->Y.cell? (ag k o)=G.cell? (ag k o):=λk o a5=>(by rw[i];exact QP (TE a5));have b1:=(z w.heap.size 2 aa).trans ((a1 2).trans (N 2));have b2:=(z L 1 K.1).trans ((a3 1).trans ((M 1).trans R));have b3:=(z (w.heap.size+1) 0 aa).trans ((H 0).trans (X 0));have b4:=(z (w.heap.size+1) 1 aa).trans ((H 1).trans (X 1));simp only[pv]at J;clear y Z i z c b));go_wp2_with fail;go_ret;exact⟨rfl,a0⟩
end Go.Proofs.YtbimjlmclegaeaaGreat
