/- TopHole: a batch under way, the power gone, a member taken out in the dark: every block reads as ahead or as behind; part 1 of 6. Conditions: none. -/
import Derived.Test.YtbimjlmclegaeaaGreatProg
import Derived.Handy
import Derived.Lib.Hide
import Derived.OneCell
import Derived.Laws.CopyOwn
import Derived.Lib.Bytes
import Derived.WalkSpells
import Derived.WalkLawsBesides
import Derived.StillTailTactics
import Derived.Deep.RegionHeld3
import Derived.Deep.DeepCutAuto
import Derived.Deep.CutBlock
import Derived.Deep.AppendLies
import Derived.Deep.WholeRow
import Derived.Lib.AppendZeros
import Derived.Shelf.SlIterI.Nil
import Derived.Shelf.SortM.Plain
import Derived.Shelf.SortM.SortNone
import Derived.Great.Walk
import Derived.Shelf.SlSortCmp.WholeK
import Derived.RangeFuncNested
import Derived.Laws.EntriesVeiled
import Derived.Test.YtbimjlmclegaeaaGreatRows
import Derived.Lib.SmallJoins
import Derived.Deep.SlicePairs
import Derived.Lib.BufferWrite
namespace Go.Proofs.YtbimjlmclegaeaaGreat
set_option linter.all false
set_option maxRecDepth 1000000
set_option maxHeartbeats 8000000
open Go.RowKit Go.Proofs.Tryz
open Go renaming World->QA,World->M,heap_alloc_new->QB,Value->QC,Value->H,cell_of_row->QS,bodyPost_ret->QT,results->RP,Ending->RV,info_parts->SB,TypeId->SQ,Addr->SR,run_underlying->SS,MapEntry->TC,madeCells->TN,maxLen->UE,callsIn_wide->UR,callFunc->VF,ownsRow_setCell_other->XS,splice->YF
open Nat renaming le_trans->QD,le_refl->QE,zero_le->QO,zero_add->RE,lt_of_lt_of_le->RL,not_lt_zero->RQ,mod_eq_of_lt->SA,mod_lt->SC,mul_le_mul->TG,mul_one->TX,add_assoc->UP,le_succ->US,mul_comm->VB,add_zero->VK,add_sub_cancel->VS,min_eq_left->WM,div_add_mod->WN,xor_assoc->XM,xor_lt_two_pow->XT,mod_eq_sub_mod->XU,mod_one->YE,add_comm->YY,min_le_left->ZF
open Go.IntKind renaming i64->QG,u64->VP
open List renaming getElem_cons_zero->QH,getElem_cons_succ->QI,getElem_toArray->QK,getElem?_eq_getElem->QQ,getElem?_eq_some_iff->QR,length_append->QU,mem_of_getElem?->QV,getElem?_append_right->RA,length_map->RB,getElem?_append_left->RD,getElem?_eq_none->RF,getElem?_map->RI,mem_map->RK,mem_cons_self->RZ,length_cons->SE,getElem?_range->SF,mem_cons_of_mem->SG,map_append->SH,mem_singleton->SM,append_assoc->SV,getElem?_take->SX,ext_getElem?->TJ,map_cons->TO,range->TQ,eq_nil_of_length_eq_zero->TS,mem_iff_getElem?->TV,mem_range->TY,append_nil->TZ,cons_append->UC,mem_cons->UH,range_succ->UL,nil_append->UN,getElem_map->UQ,map_congr_left->UX,flatMap_append->UY,length_take->VD,length_filter_le->VI,length->VU,getElem?_toArray->VX,size_toArray->WA,all_eq_true->WD,any_eq_true->XD,replicate->XQ,map_nil->XR,findIdx?_eq_none_iff->XW,pairwise_map->XZ,take_of_length_le->YG,getElem_mem->YI,modify_zero_cons->YP,modify_succ_cons->YQ,length_replicate->YS,mem_iff_getElem->YZ,getElem?_modify->ZL
open Go.World renaming block_lt_of_cell?->QN,cell?_of_block->QP,size_setCell->RT,news_of_block->RW,ownsRow_nil->SD,putObj_heap_same->SO,size_alloc->SP,putObj_heap_other->TE,putObj_size->WR,cell?_alloc_lt->YW,ownsRow_made->ZP
open Go.RowKit.Below renaming heap_alloc->QW,heap_setCell->RO,refl->SU
open Go.RowKit renaming Hid->QX,Below->SK,wrap64->WW
open Option renaming map_some->QY,getD_some->TD,isSome_iff_exists->UJ,map_none->VE,map_map->YN
open Go.Lib renaming hid->QZ
open _root_.Array renaming getElem?_eq_some_iff->RC,getElem?_eq_getElem->RU,toList_modify->VM
open Go.Result renaming andThen_ok->RG,ok->YT
open Go.Proofs renaming enters_of->RH
open Go.Value renaming slice->RR,int->SJ,ownBlock->WS
open Go.Act renaming put->RS,eval->VO
open Go.Sem renaming run_bind->RY,run_pure->VA,run->ZQ
open Option.some renaming injEq->SI
open Bool renaming false_eq_true->SL,and_eq_true->VN
open Go.IntWalk renaming i64_in->SN
open Go.Instr renaming makeSlice->SY,mapUpdate->SZ,lookup->UZ,checkKey->VC,keyThatStays->WJ,findNow->XB,findKey->XE,sameBits->XN
open Int renaming natCast_mul->TK,tmod_eq_emod_of_nonneg->UI,tdiv_eq_ediv_of_nonneg->VH,emod_lt_of_pos->VT,emod_nonneg->WQ,ediv_nonneg->ZG,ediv_lt_of_lt_mul->ZN
open Go.Fence renaming wide->TT
open Go.Proofs.Tryz renaming underlying5->UA,underlying41->UO,prog->VR,underlying3->XF,underlying82->YC,underlying338->YU
open List.cons renaming injEq->UD
open BitVec renaming ofInt->UK,ofInt_natCast->WX,toNat_ofNat->XK
open Go.Region renaming wanted->VJ
open UInt8 renaming ofNat->WB
open Go.DataW renaming insert->XJ
open Go.WideElems renaming rg->YJ
open Go.Shelf renaming Ren->ZC
variable {w W z:World}{n m k i j r C:Nat}{c:Int}{v x y:Value}{T:List Nat}{p:Addr}{P:Option Addr}{A:Array Value}{d:Bool}{S Q X:Nat->Prop}{t:TypeId}{L:List Value}{O:Obj}
theorem aa{p:Prop}(h:p:=by omega):p:=h
theorem ai{p:Prop}(h:p:=by decide):p:=h
theorem aE{p:Prop}(h:p:=by kernel_rfl):p:=h
theorem aJ{p:Prop}(h:p:=by simp):p:=h
theorem aS{p:Prop}(h:p:=by simp;omega):p:=h
theorem bs{p:Prop}(h:p:=by go_arith):p:=h
theorem bF{p:Prop}(h:p:=by go_grown):p:=h
theorem dG{p:Prop}(h:p:=by go_size):p:=h
theorem ON{p:Prop}(h:p:=by simp[*,go_sem];done):p:=h
theorem ak{c:Prop}{h:Decidable c}(a:c){α:Sort _}{t e:α}:ite c t e=t:=if_pos a
theorem al{c:Prop}{h:Decidable c}(a:¬c){α:Sort _}{t e:α}:ite c t e=e:=if_neg a
theorem ad{p:Prop}(h:p):Hid p:=h
theorem ah{α:Sort _}(a:α):∃x,a=x:=⟨a,rfl⟩
abbrev ae(n:Int):Value:=.int .i64 n
abbrev aH(n:Int):Value:=.int .u16 n
abbrev eb(n:Int):Value:=.int .u8 n
abbrev bg(n:Int):Value:=.int .u64 n
abbrev ao(a:Array Value)(T:TypeId):Obj:=.cells a T (0,0)
abbrev aO:Value:=.slice none 0 0
abbrev ec:Value:=.bool true
abbrev iL:Value:=.bool false
abbrev aX(w:World)(b:Nat)(o:Obj):Prop:=w.heap[b]?=some o
abbrev aL(e:Ending)(v:Value):Prop:=e=.returned v
abbrev ar(b:Nat):Value:=.pointer (some ⟨b,0,none⟩)
abbrev a'(b n c:Nat):Value:=.slice (some ⟨b,0,none⟩) n c
abbrev ag(b i:Nat):Addr:=⟨b,i,none⟩
abbrev aq(w v:World):Prop:=Below w.heap.size w v
theorem aj{B:Nat}{w:World}:Below B w w:=.refl _ _
abbrev aF:=Calls Tryz.prog
theorem qi(w:World)(X:Obj):∃u,w.alloc X=u/\Below w.heap.size w u/\u.heap[w.heap.size]?=some X:=⟨_,rfl,aj.alloc (Nat.le_refl _) _,heap_alloc_new _ _⟩
theorem eL(w:World)(X:Obj):∃u G,w.alloc X=u/\w.heap.size=G/\Below w.heap.size w u/\u.heap[G]?=some X:=⟨_,_,rfl,rfl,aj.alloc (Nat.le_refl _) _,heap_alloc_new _ _⟩
abbrev aN:=Nat->Nat
variable {f:aN}
abbrev dp:=Nat->Nat->Nat
variable {F:dp}
abbrev cH:=Nat->Nat->Nat->Nat
theorem aB{a b:Prop}(c:a)(d:b):Hid (a/\b):=⟨c,d⟩
theorem aT{a b c:Prop}(d:a)(e:b)(f:c):Hid (a/\b/\c):=⟨d,e,f⟩
theorem aY{a b c d:Prop}(e:a)(f:b)(g:c)(h:d):Hid (a/\b/\c/\d):=⟨e,f,g,h⟩
theorem ca{a b c d e:Prop}(f:a)(g:b)(h:c)(i:d)(x4:e):Hid (a/\b/\c/\d/\e):=⟨f,g,h,i,x4⟩
theorem f'{a b c d e f:Prop}(g:a)(h:b)(i:c)(j:d)(x4:e)(k:f):Hid (a/\b/\c/\d/\e/\f):=⟨g,h,i,j,x4,k⟩
theorem nh{a b c d e f g:Prop}(h:a)(i:b)(j:c)(k:d)(x4:e)(l:f)(m:g):Hid (a/\b/\c/\d/\e/\f/\g):=⟨h,i,j,k,x4,l,m⟩
theorem HQ{a b c d e f g h:Prop}(i:a)(j:b)(k:c)(l:d)(x4:e)(m:f)(n:g)(o:h):Hid (a/\b/\c/\d/\e/\f/\g/\h):=⟨i,j,k,l,x4,m,n,o⟩
theorem KN{a b c d e f g h i:Prop}(j:a)(k:b)(l:c)(m:d)(x4:e)(n:f)(o:g)(p:h)(q:i):Hid (a/\b/\c/\d/\e/\f/\g/\h/\i):=⟨j,k,l,m,x4,n,o,p,q⟩
theorem IG{a b c d e f g h i j:Prop}(k:a)(l:b)(m:c)(n:d)(x4:e)(o:f)(p:g)(q:h)(r:i)(s:j):Hid (a/\b/\c/\d/\e/\f/\g/\h/\i/\j):=⟨k,l,m,n,x4,o,p,q,r,s⟩
theorem MT{a b c d e f g h i j k:Prop}(m:a)(n:b)(o:c)(p:d)(x4:e)(q:f)(r:g)(s:h)(t:i)(u:j)(l:k):Hid (a/\b/\c/\d/\e/\f/\g/\h/\i/\j/\k):=⟨m,n,o,p,x4,q,r,s,t,u,l⟩
theorem MU{a b c d e f g h i j k l:Prop}(o:a)(p:b)(q:c)(r:d)(x4:e)(s:f)(t:g)(u:h)(v:i)(w:j)(m:k)(n:l):Hid (a/\b/\c/\d/\e/\f/\g/\h/\i/\j/\k/\l):=⟨o,p,q,r,x4,s,t,u,v,w,m,n⟩
theorem J{p:Prop}(h:p:=by omega):p:=h
theorem I{p:Prop}(h:p):Hid p:=h
abbrev Y(n:Int):Value:=.int .i64 n
abbrev N(a:Array Value)(T:TypeId):Obj:=.cells a T (0,0)
abbrev R(b i:Nat):Addr:=⟨b,i,none⟩
section
theorem cr{w:M}{b:Nat}{a:Array H}{T:SQ}(h:aX w b (.cells a T (0,0))):(∀o,w.cell? (R b o)=a[o]?)/\(∀o,w.frozen? (R b o)=false)/\b<w.heap.size:=
 ⟨λo=>QS w b o a T (0,0) h,λo=>frozen_of_row w b o a T h,(RC.1 h).1⟩
theorem via{w W a:M}(h:aq w W)(b:aq W a):aq w a:=h.trans (b.mono h.size)
theorem aK{w W:M}(h:aq w W)(o:Obj):aq w (W.alloc o):=h.alloc h.size o
theorem cK{B:Nat}{w W:M}(h:SK B w W)(n:Nat):SK B w (W.drewN n):=h.trans ⟨rfl,rfl,rfl,QE _,λ_ _=>rfl⟩
theorem kp{W a:M}(b:aq W a)(B:Nat)(h:B<W.heap.size):(∀o,a.cell? (R B o)=W.cell? (R B o))/\(∀o,a.frozen? (R B o)=W.frozen? (R B o))/\B<a.heap.size:=
 ⟨λo=>b.cell (p:=R B o) h,λo=>b.frozen (p:=R B o) h,RL h b.size⟩
theorem eZ(w:M)(A B:Obj):((w.alloc A).alloc B).heap[w.heap.size+1]?=some B:=
 (congrArg (λi=>((w.alloc A).alloc B).heap[i]?) (SP _ _).symm).trans (QB _ _)
theorem e_(w:M)(A B:Obj):((w.alloc A).alloc B).heap[w.heap.size]?=some A:=
 (QW (w.alloc A) B _ aJ).trans (QB _ _)
def cw(L:Nat)(f:aN):Array H:=((TQ L).map λk=>SJ .u8 (f k)).toArray
theorem dV(L:Nat)(f:aN)(k:Nat)(h:k<L):(cw L f)[k]?=some (.int .u8 (f k)):=by simp[cw,h]
theorem gy(L:Nat)(f:aN):(cw L f).size=L:=by simp[cw]
theorem kz(L:Nat)(g a:aN)(h:∀x,x<L->g x=a x):cw L g=cw L a:=by unfold cw;congr 1;apply UX;intro x b;rw[h x (by simpa using b)]
theorem tw(L:Nat)(g:aN)(x v:Nat):(cw L g).setIfInBounds x (.int .u8 v)=cw L (λy=>if y=x then v else g y):=by
 apply Array.ext
 .simp [cw]
 .intro i b c;by_cases h:x=i
  .subst h;simp[cw]
  .have a:¬i=x:=λe=>h e.symm;simp[cw,h,a]
def kc(w:M)(v:H)(n:Nat)(f:aN):Prop:=
 ∃a c,v=.slice a n c/\(n=0\/∃b o,a=some (R b o)/\∀k,k<n->w.cell? ⟨b,o+k,none⟩=some (.int .u8 (f k)))
theorem kc.cV{w d:M}{v:H}{n:Nat}{f:aN}(h:kc w v n f)(i:aq w d):kc d v n f:=by
 obtain⟨a,c,j,h⟩:=h;refine⟨a,c,j,?_⟩;rcases h with h|⟨b,o,l,e⟩
 .exact .inl h
 .refine .inr ⟨b,o,l,λk g=>?_⟩;rw[i.cell (p:=⟨b,o+k,none⟩) (QN w _ (e k g))];exact e k g
theorem kc.of{w:M}{b L a:Nat}{f:aN}{T:SQ}(h:aX w b (.cells (cw L f) T (0,0))):kc w (a' b L a) L f:=
 ⟨_,_,rfl,.inr ⟨b,0,rfl,λk c=>by rw[RE,(cr h).1 k,dV _ _ _ c]⟩⟩
structure Out(S:Nat->Prop)(w w1:M):Prop where
 os:w1.os=w.os
 tape:w1.tape=w.tape
 output:w1.output=w.output
 size:w.heap.size<=w1.heap.size
 block:∀k,k<w.heap.size->¬S k->w1.heap[k]? =w.heap[k]?
theorem Out.refl(S:Nat->Prop)(w:M):Out S w w:=⟨rfl,rfl,rfl,QE _,λ_ _ _=>rfl⟩
theorem Out.mono{S T:Nat->Prop}{a b:M}(h:Out S a b)(d:∀k,k<a.heap.size->S k->T k):Out T a b:=
 ⟨h.os,h.tape,h.output,h.size,λk c e=>h.block k c λf=>e (d k c f)⟩
theorem Out.trans{S T:Nat->Prop}{a b c:M}(h:Out S a b)(k:Out T b c)(f:∀k,k<a.heap.size->T k->S k):Out S a c:=
 ⟨k.os.trans h.os,k.tape.trans h.tape,k.output.trans h.output,QD h.size k.size,λi d e=>(k.block i (RL d h.size) λg=>e (f i d g)).trans (h.block i d e)⟩
theorem Out.tr{S:Nat->Prop}{a b c:M}(h:Out S a b)(k:Out S b c):Out S a c:=h.trans k λ_ _ h=>h
theorem Out.af{S:Nat->Prop}{w a:M}(h:aq w a):Out S w a:=⟨h.os,h.tape,h.output,h.size,λk b _=>h.block k b⟩
theorem Out.then{S:Nat->Prop}{a b c:M}(h:Out S a b)(k:aq b c):Out S a c:=h.tr (Out.af k)
theorem Out.below{S:Nat->Prop}{B:Nat}{w a:M}(h:Out S w a)(b:∀k,k<w.heap.size->S k->B<=k)(d:B<=w.heap.size):SK B w a:=
 ⟨h.os,h.tape,h.output,h.size,λk e=>h.block k J λc=>by have:=b k J c;omega⟩
theorem Out.alloc{S:Nat->Prop}{a w:M}(h:Out S a w)(o:Obj):Out S a (w.alloc o):=
 h.tr ⟨rfl,rfl,rfl,aJ,λk b _=>QW _ _ _ b⟩
theorem Out.drewN{S:Nat->Prop}{a w:M}(h:Out S a w)(n:Nat):Out S a (w.drewN n):=h.tr ⟨rfl,rfl,rfl,QE _,λ_ _ _=>rfl⟩
theorem Out.drew{S:Nat->Prop}{a w:M}(h:Out S a w):Out S a w.drew:=h.tr ⟨rfl,rfl,rfl,QE _,λ_ _ _=>rfl⟩
theorem Out.setCell{S:Nat->Prop}{a w:M}(h:Out S a w){p:SR}(d:p.block<a.heap.size->S p.block)(u:H):Out S a (w.setCell p u):=
 ⟨h.os,h.tape,h.output,by simp only[RT];exact h.size,λk b c=>(RO _ _ _ _ λe=>by subst e;exact c (d b)).trans (h.block k b c)⟩
theorem Out.grown{S:Nat->Prop}{a w f:M}{b:Option Nat}(h:Out S a w)(c:w.grownBy f b)(i:∀k,b=some k->k<a.heap.size->S k):Out S a f:=
 ⟨c.os.trans h.os,c.tape.trans h.tape,c.output.trans h.output,QD h.size c.size,λk d g=>(c.block k (RL d h.size) λe=>g (i k e.symm d)).trans (h.block k d g)⟩
theorem Out.heap{S:Nat->Prop}{w a:M}(h:Out S w a){b:Nat}{o:Obj}(c:aX w b o)(d:¬S b):a.heap[b]?=some o:=
 (h.block b (RC.1 c).1 d).trans c
theorem Out.own{S:Nat->Prop}{w d:M}(h:Out S w d){a:Nat}{e:SQ}{size:Nat}{v:H}{n:Nat}{xs:List H}(f:w.ownsRow a e size v n xs)(i:∀k,v.ownBlock=some k->¬S k):d.ownsRow a e size v n xs:=by
 refine⟨f.1,?_⟩;rcases f.2 with j|⟨g,b,c,rfl,l,m,r⟩
 .exact .inl j
 .exact .inr ⟨g,b,c,rfl,l,h.heap m (i g rfl),r⟩
theorem aP{w b:M}(h:aq w b){a:Nat}{e:SQ}{size:Nat}{v:H}{n:Nat}{xs:List H}(c:w.ownsRow a e size v n xs):b.ownsRow a e size v n xs:=
 (Out.af (S:=λ_=>False) h).own c λ_ _ h=>h
theorem Fw{w:M}{a:Nat}{e:SQ}{g n b:Nat}{xs:List H}(h:w.ownsRow a e 1 (a' g n b) n xs)(k:Nat)(u:H):(w.setCell (R g k) u).ownsRow a e 1 (a' g n b) n (xs.set k u):=by
 refine⟨by rw[List.length_set];exact h.1,?_⟩;rcases h.2 with⟨c,_⟩|⟨q,f,d,c,i,j,l,m,o,p⟩
 .cases c
 .cases c;refine .inr ⟨g,b,_,rfl,i,heap_setCell_same w g k d e u j,l,m,by simpa using o,?_⟩;rw[<-p];simp[List.take_set]
theorem ow{w:M}{a:Nat}{e:SQ}{g n c:Nat}{xs:List H}(h:w.ownsRow a e 1 (a' g n c) n xs){k:Nat}{u:H}(f:xs[k]?=some u):w.cell? (R g k)=some u/\w.frozen? (R g k)=false:=by
 rcases h.2 with⟨d,_⟩|⟨m,i,b,d,o,j,p,q,r,l⟩
 .cases d
 .cases d;refine⟨?_,frozen_of_row w g k b e j⟩;rw[QS w g k b e (0,0) j,<-f,<-l,SX,ak]
  .simp
  .have:=(QR.1 f).1;rw[h.1]at this;exact this
def nO(s:Nat)(W:M)(v:H)(n m:Nat)(b:H)(c:M):Prop:=
 (∃g a,v= a' g n a/\b= a' g (n+m) a/\W.grownBy c (some g))\/((∃a,b= a' s (n+m) a)/\W.grownBy c none)
theorem nO.cV{s:Nat}{W f:M}{h a:H}{N q:Nat}(l:nO s W h N q a f){b:Nat}{e:SQ}{i m:Nat}{y:H}{xs:List H}(j:W.ownsRow b e i y m xs)(c:∀k,y.ownBlock=some k->h.ownBlock≠some k):f.ownsRow b e i y m xs:=by
 rcases l with⟨g,cap,rfl,rfl,d⟩|⟨⟨cap,rfl⟩,d⟩
 .exact j.kept d (.inr λe=>c g e rfl)
 .exact j.kept d (by cases y.ownBlock<;>simp)
theorem nO.block{s:Nat}{W d:M}{c a:H}{N q:Nat}(e:nO s W c N q a d){k:Nat}(b:a.ownBlock=some k):c.ownBlock=some k\/k=s:=by
 rcases e with⟨g,cap,rfl,rfl,f⟩|⟨⟨cap,rfl⟩,f⟩
 .exact .inl (by simpa[WS]using b)
 .simp [WS]at b;exact .inr b.symm
theorem nO.out{s:Nat}{a W e:M}{f b:H}{N q:Nat}{S:Nat->Prop}(i:nO s W f N q b e)(h:Out S a W)(j:∀k,f.ownBlock=some k->k<a.heap.size->S k):Out S a e:=by
 rcases i with⟨g,cap,rfl,rfl,c⟩|⟨⟨cap,rfl⟩,c⟩
 .exact h.grown c λk d=>by cases d;exact j _ rfl
 .exact h.grown c λk d=>by cases d
theorem nO.heap{s:Nat}{W d:M}{a b:H}{N q:Nat}(e:nO s W a N q b d){p:Nat}{o:Obj}(h:aX W p o)(c:a.ownBlock≠some p):d.heap[p]?=some o:=
 (e.out (S:=λk=>a.ownBlock=some k) (Out.refl _ _) λ_ h _=>h).heap h c
theorem nO.below{s B:Nat}{a W e:M}{f b:H}{N q:Nat}(j:nO s W f N q b e)(h:SK B a W)(i:B<=W.heap.size)(l:∀k,f.ownBlock=some k->B<=k):SK B a e:=by
 rcases j with⟨g,cap,rfl,rfl,c⟩|⟨⟨cap,rfl⟩,c⟩
 .exact h.grown c i λk d=>by cases d;exact l _ rfl
 .exact h.grown c i λk d=>by cases d
section
variable {P:Program} (w:QA)
theorem iP(l:Nat)(t ty e:SQ)(i:TypeInfo)(z:QC)(size bytes:Nat)(L:P.underlying t=some (.slice e))(O:P.info? e=some i)(S:i.zero=some z)(q:i.size=size)(D:i.bytes=bytes)(T:z.cells.size=size)(U:0<size)(v:QC)(n:Nat)(xs:List QC)(p:w.ownsRow l e size v n xs)(a:SR)(m c:Nat)(b:List QC)(E:b.length=m*size)(d:∀j u,b[j]?=some u->w.cell? (a.add j)=some u)(Z:∀u∈b,u.oneCell'=true)(H:0<m)(F:n+m<=UE)(f:(n+m)*bytes<=140737488355328)(x:l<=w.heap.size):
  ∃B C,(Builtin.append_ #[t,t] ty #[v,.slice (some a) m c]).run P w=.ok B C/\C.ownsRow l e size B (n+m) (xs++b)/\
   ((∃g h,v= a' g n h/\B= a' g (n+m) h/\w.grownBy C (some g))\/((∃h,B= a' w.heap.size (n+m) h)/\w.grownBy C none)):=by
 obtain⟨B,C,y,N,M,-⟩:=run_append_own (P:=P) w l t ty e i z size bytes L O S q D T U v n xs p a m c b E d Z F f x;refine⟨B,C,y,N,?_⟩;subst q;subst D;have Q:n+m<=9223372036854775807:=by simp only[UE]at F;omega
 have r:∀o,w.grownBy (w.drew.alloc o) none:=λo=>⟨rfl,rfl,rfl,aJ,λk R _=>QW w.drew o k R⟩;rcases p.2 with⟨rfl,rfl⟩|⟨g,h,G,rfl,I,V,Y,J,W,X⟩
 .have:=run_append_nil (P:=P) w t ty e i z L O S a m c b E d H aa (by have a0:=f;simp only[RE]at a0;omega);rw[this]at y;cases y;exact .inr ⟨⟨_,by rw[RE]⟩,r _⟩
 .by_cases s:n+m<=h
  .have K:n*i.size+b.length<=G.size:=by rw[E,W,<-Nat.add_mul];exact Nat.mul_le_mul_right _ s
   have:=run_append_room (P:=P) w t ty e i L O g n h G V a m c b E d Z s K;rw[this]at y;cases y;exact .inl ⟨g,h,rfl,rfl,M⟩
  .have A:∀j u,xs[j]?=some u->w.cell? (((ag g 0):SR).add j)=some u:=p.cells (g:=g) rfl;have:=run_append_grow (P:=P) w t ty e i z L O S (ag g 0) n h xs p.1 A a m c b E d aa aa (growslice_fits aa f);rw[this]at y;cases y;exact .inr ⟨⟨_,rfl⟩,r _⟩
theorem aU{q:Array Oper}{g:List Oper}{o:Oper}{a:Act}{Q:Exit->Act->QA->Prop}(B:o.guard=none)(s x:Operand)(t:SQ)(L:o.op=.call {callee:=.builtin .append,args:= #[s,x],argTypes:= #[t,t]})(d:Nat)(e:SQ)(i:TypeInfo)(z:QC)(size bytes:Nat)(O:P.underlying t=some (.slice e))(S:P.info? e=some i)(T:i.zero=some z)(k:i.size=size)(C:i.bytes=bytes)(D:z.cells.size=size)(E:0<size)(v:QC)(n:Nat)(xs:List QC)(U:a.eval s=v)(r:w.ownsRow d e size v n xs)(F:SR)(m c:Nat)(b:List QC)(V:a.eval x=.slice (some F) m c)(W:b.length=m*size)(l:∀j u,b[j]?=some u->w.cell? (F.add j)=some u)(X:∀u∈b,u.oneCell'=true)(Z:0<m)(G:n+m<=UE)(f:(n+m)*bytes<=140737488355328)(p:d<=w.heap.size)(h:∀y A,A.ownsRow d e size y (n+m) (xs++b)->nO w.heap.size w v n m y A->wpList P q Q g (a.put o.dst y) A):wpList P q Q (o::g) a w:=
 wpList_plain B λK H=>by obtain⟨y,A,N,M,R⟩:=iP (P:=P) w d t o.type e i z size bytes O S T k C D E v n xs r F m c b W l X Z G f p;unfold Oper.wp execOp;simp only[L,resolve,invoke,builtin,RY,VA,RG,List.map_toArray,TO,XR,U,V,N];exact H _ _ (h y A M R)
end
theorem eP{w:M}{c:Nat}{e:SQ}{v:H}{n:Nat}{xs:List H}(h:w.ownsRow c e 1 v n xs):∃a b,v=.slice a n b/\n<=b/\(n=0\/∃g,a=some (R g 0)):=by
 rcases h.2 with⟨rfl,rfl⟩|⟨g,b,d,rfl,_,_,f,_⟩
 .exact ⟨none,0,rfl,QE _,.inl rfl⟩
 .exact ⟨_,_,rfl,f,.inr ⟨g,rfl⟩⟩
def az(L:Nat)(f:aN):List H:=(TQ L).map λk=>SJ .u8 (f k)
theorem aI(L:Nat)(f:aN):(az L f).length=L:=by simp[az]
theorem ba(L:Nat)(f:aN)(k:Nat)(h:k<L):(az L f)[k]?=some (.int .u8 (f k)):=by simp[az,h]
theorem dr(L:Nat)(f:aN):∀u∈az L f,u.oneCell'=true:=by intro u a;simp only[az,RK]at a;obtain⟨q,_,rfl⟩:=a;rfl
theorem ed{L:Nat}{f g:aN}(h:∀k,k<L->f k=g k):az L f=az L g:=by unfold az;apply UX;intro x a;rw[h x (by simpa using a)]
theorem iQ(b o q:Nat):((R b o):SR).add q=⟨b,o+q,none⟩:=by unfold Addr.add;split<;>simp_all
def tx(X:Nat->Prop)(w:M)(v:H)(n:Nat)(f:aN):Prop:=
 ∃a c,v=.slice a n c/\(n=0\/∃b o,a=some (R b o)/\¬X b/\∀k,k<n->w.cell? ⟨b,o+k,none⟩=some (.int .u8 (f k)))
theorem Out.cell{S:Nat->Prop}{w a:M}(h:Out S w a){p:SR}{v:H}(b:w.cell? p=some v)(c:¬S p.block):a.cell? p=some v:=by rw[QP (h.block p.block (QN w _ b) c)];exact b
theorem tx.out{X S:Nat->Prop}{w w1:M}{v:H}{n:Nat}{f:aN}(h:tx X w v n f)(i:Out S w w1)(j:∀k,k<w.heap.size->S k->X k):tx X w1 v n f:=by
 obtain⟨a,c,l,h⟩:=h;refine⟨a,c,l,?_⟩;rcases h with h|⟨b,o,m,d,e⟩
 .exact .inl h
 .exact .inr ⟨b,o,m,d,λk g=>i.cell (e k g) λp=>d (j _ (QN w _ (e k g)) p)⟩
theorem tx.mono{X Y:Nat->Prop}{w:M}{v:H}{n:Nat}{f:aN}(h:tx X w v n f)(e:∀k,k<w.heap.size->Y k->X k):tx Y w v n f:=by
 obtain⟨a,c,g,h⟩:=h;refine⟨a,c,g,?_⟩;by_cases i:n=0
 .exact .inl i
 rcases h with h|⟨b,o,j,l,d⟩
 .exact .inl h
 .exact .inr ⟨b,o,j,λm=>l (e _ (QN w _ (d 0 J)) m),d⟩
theorem tx.wj{X:Nat->Prop}{w:M}{v:H}{n:Nat}{f:aN}(h:tx X w v n f):kc w v n f:=by
 obtain⟨a,c,d,h⟩:=h;refine⟨a,c,d,?_⟩;rcases h with h|⟨b,o,e,i,g⟩
 .exact .inl h
 .exact .inr ⟨b,o,e,g⟩
theorem tz{w:M}{a:Nat}{e:SQ}{g n b f:Nat}{xs:List H}(h:w.ownsRow a e f (a' g n b) n xs)(k:Nat)(u:H):(w.setCell (R g k) u).ownsRow a e f (a' g n b) n (xs.set k u):=by
 refine⟨by rw[List.length_set];exact h.1,?_⟩;rcases h.2 with⟨c,_⟩|⟨r,i,d,c,j,l,m,o,p,q⟩
 .cases c
 .cases c;refine .inr ⟨g,b,_,rfl,j,heap_setCell_same w g k d e u l,m,o,by simpa using p,?_⟩;rw[<-q];simp[List.take_set]
theorem bC{w:M}{a:Nat}{e:SQ}{g n c l:Nat}{xs:List H}(h:w.ownsRow a e l (a' g n c) n xs){k:Nat}{u:H}(f:xs[k]?=some u):w.cell? (R g k)=some u/\w.frozen? (R g k)=false:=by
 rcases h.2 with⟨d,_⟩|⟨o,i,b,d,p,j,q,r,s,m⟩
 .cases d
 .cases d;refine⟨?_,frozen_of_row w g k b e j⟩;rw[QS w g k b e (0,0) j,<-f,<-m,SX,ak]
  .simp
  .have:=(QR.1 f).1;rw[h.1]at this;exact this
theorem au{w:M}{b:Nat}{e:SQ}{d:Nat}{v:H}{n:Nat}{xs:List H}(h:w.ownsRow b e d v n xs):∃a c,v=.slice a n c/\(n=0\/∃g,a=some (R g 0)):=by
 rcases h.2 with⟨rfl,rfl⟩|⟨g,c,f,rfl,_⟩
 .exact ⟨none,0,rfl,.inl rfl⟩
 .exact ⟨_,_,rfl,.inr ⟨g,rfl⟩⟩
theorem cq{w:M}{b f:Nat}{e:SQ}{i:Nat}{v:H}{n:Nat}{xs:List H}(h:w.ownsRow b e i v n xs)(j:f<=b):w.ownsRow f e i v n xs:=by
 obtain⟨k,a⟩:=h;refine⟨k,?_⟩;rcases a with a|⟨g,c,d,l,m,r⟩
 .exact .inl a
 .exact .inr ⟨g,c,d,l,QD j m,r⟩
theorem Out.setRow{S:Nat->Prop}{a w:M}(h:Out S a w){g:Nat}(f:g<a.heap.size->S g)(b:Array H):Out S a (w.setRow g b):=
 ⟨h.os,h.tape,h.output,by simp only[World.setRow,Array.size_modify];exact h.size,λk c d=>(setRow_other w g k b λe=>by subst e;exact d (f c)).trans (h.block k c d)⟩
theorem fh{α:Type}(L b:List α)(a k:Nat)(h:a+b.length<=L.length):(YF L a b)[k]?=if a<=k/\k<a+b.length then b[k-a]? else L[k]?:=by
 unfold YF;rw[List.getElem?_append,VD,WM J];by_cases c:k<a
 .rw [ak c,al J,SX,ak c]
 .rw [al c,List.getElem?_append];by_cases d:k-a<b.length
  .rw [ak d,ak J]
  .rw [al d,al J,List.getElem?_drop];congr 1;omega
theorem iR{α:Type}(L b:List α)(a n:Nat)(h:a+b.length<=n)(d:n<=L.length):(YF L a b).take n=YF (L.take n) a b:=by
 apply TJ;intro k;have e:(L.take n).length=n:=by rw[VD];omega
 rw[SX,fh _ _ _ _ J,fh _ _ _ _ J];by_cases c:k<n
 .simp [c]
 .rw [al c,al J,SX,al c]
section
variable {P:Program} (w:QA)
theorem ke(q u ty a:SQ)(k g n o c f l:Nat)(xs:List H)(h:w.ownsRow k a 1 (a' g n o) n xs)(r:SR)(i m:Nat)(e:List H)(A:P.underlying q=some (.slice a))(B:(P.info? a).map (·.size)=some 1)(C:e.length=Nat.min i f)(x:c+e.length<=n)(p:∀j v,e[j]?=some v->w.cell? (r.add j)=some v)(D:∀v∈e,v.oneCell'=true):
  ∃s,(Builtin.copy_ #[q,u] ty #[.slice (some (R g c)) f l,.slice (some r) i m]).run P w=.ok (goInt e.length) s/\
   s.ownsRow k a 1 (a' g n o) n (YF xs c e)/\Out (λb=>b=g) w s:=by
 rcases h.2 with⟨t,_⟩|⟨T,y,d,t,E,z,F,G,K,L⟩
 .cases t
 cases t;refine⟨_,run_copy_row P w q u ty a g c f l r i m d a e A B z C p J D,?_,Out.setRow (S:=λb=>b=g) (Out.refl _ _) (g:=g) (λ_=>rfl) _⟩;have O:c+e.length<=d.toList.length:=aS;have Q:d.toList.take c++e++d.toList.drop (c+e.length)=YF d.toList c e:=by rw[SV];rfl
 rw[Q];refine⟨by rw[length_splice _ _ _ (by have:=h.1;omega)];exact h.1,.inr ⟨g,o,_,rfl,E,setRow_heap w g d _ a _ z,F,G,?_,?_⟩⟩
 .show (YF d.toList c e).toArray.size=_;rw[WA,length_splice _ _ _ O];simpa using K
 .show (YF d.toList c e).take _=_;rw[iR _ _ _ _ J aS,L]
theorem ee{t:Array Oper}{l:List Oper}{o:Oper}{a:Act}{Q:Exit->Act->M->Prop}(A:o.guard=none)(d s:Operand)(B D:SQ)(E:o.op=.call {callee:=.builtin .copy,args:= #[d,s],argTypes:= #[B,D]})(c:SQ)(e g n q k f m:Nat)(xs:List H)(u:w.ownsRow e c 1 (a' g n q) n xs)(C:SR)(i p:Nat)(r:List H)(F:P.underlying B=some (.slice c))(G:(P.info? c).map (·.size)=some 1)(L:a.eval d=.slice (some (R g k)) f m)(O:a.eval s=.slice (some C) i p)(S:r.length=Nat.min i f)(x:k+r.length<=n)(y:∀j v,r[j]?=some v->w.cell? (C.add j)=some v)(T:∀v∈r,v.oneCell'=true)(h:∀z,z.ownsRow e c 1 (a' g n q) n (YF xs k r)->Out (λb=>b=g) w z->wpList P t Q l (a.put o.dst (goInt r.length)) z):wpList P t Q (o::l) a w:=
 wpList_plain A λK U=>by obtain⟨z,V,W,X⟩:=ke (P:=P) w B D o.type c e g n q k f m xs u C i p r F G S x y T;unfold Oper.wp execOp;simp only[E,resolve,invoke,builtin,RY,VA,RG,List.map_toArray,TO,XR,L,O,V];exact U _ _ (h z W X)
theorem gD{r:Array Oper}{o:Oper}{a:Act}{K:Act->M->Prop}{Q:Exit->Act->M->Prop}{E:Prop}(z:o.guard=none)(d s:Operand)(A C:SQ)(D:o.op=.call {callee:=.builtin .copy,args:= #[d,s],argTypes:= #[A,C]})(c:SQ)(e g n p k f l:Nat)(xs:List H)(t:w.ownsRow e c 1 (a' g n p) n xs)(B:SR)(i m:Nat)(q:List H)(F:P.underlying A=some (.slice c))(G:(P.info? c).map (·.size)=some 1)(L:a.eval d=.slice (some (R g k)) f l)(O:a.eval s=.slice (some B) i m)(S:q.length=Nat.min i f)(u:k+q.length<=n)(x:∀j v,q[j]?=some v->w.cell? (B.add j)=some v)(T:∀v∈q,v.oneCell'=true)(h:∀y,y.ownsRow e c 1 (a' g n p) n (YF xs k q)->Out (λb=>b=g) w y->K (a.put o.dst (goInt q.length)) y):
  if VJ o (yielded r a.tmps)=true then Oper.wp P o a w K Q else E:=by
 have U:VJ o (yielded r a.tmps)=true:=by simp[VJ,z]
 rw[ak U];obtain⟨y,V,W,X⟩:=ke (P:=P) w A C o.type c e g n p k f l xs t B i m q F G S u x T;unfold Oper.wp execOp;simp only[D,resolve,invoke,builtin,RY,VA,RG,List.map_toArray,TO,XR,L,O,V];exact h y W X
end
section
variable {P:Program} (w:QA)
end
section
variable {P:Program} (w:QA)
theorem df{p:Array Oper}{o:Oper}{a:Act}{K:Act->QA->Prop}{Q:Exit->Act->QA->Prop}{E:Prop}(A:o.guard=none)(s x:Operand)(t:SQ)(L:o.op=.call {callee:=.builtin .append,args:= #[s,x],argTypes:= #[t,t]})(d:Nat)(e:SQ)(i:TypeInfo)(z:QC)(size bytes:Nat)(O:P.underlying t=some (.slice e))(S:P.info? e=some i)(T:i.zero=some z)(g:i.size=size)(B:i.bytes=bytes)(C:z.cells.size=size)(D:0<size)(v:QC)(n:Nat)(xs:List QC)(U:a.eval s=v)(q:w.ownsRow d e size v n xs)(F:SR)(m c:Nat)(b:List QC)(V:a.eval x=.slice (some F) m c)(W:b.length=m*size)(k:∀j u,b[j]?=some u->w.cell? (F.add j)=some u)(X:∀u∈b,u.oneCell'=true)(Z:0<m)(G:n+m<=UE)(f:(n+m)*bytes<=140737488355328)(l:d<=w.heap.size)(h:∀r y,y.ownsRow d e size r (n+m) (xs++b)->nO w.heap.size w v n m r y->K (a.put o.dst r) y):
  if VJ o (yielded p a.tmps)=true then Oper.wp P o a w K Q else E:=by
 have H:VJ o (yielded p a.tmps)=true:=by simp[VJ,A]
 rw[ak H];obtain⟨r,y,N,M,R⟩:=iP (P:=P) w d t o.type e i z size bytes O S T g B C D v n xs q F m c b W k X Z G f l;unfold Oper.wp execOp;simp only[L,resolve,invoke,builtin,RY,VA,RG,List.map_toArray,TO,XR,U,V,N];exact h r y M R
end
end
def isAgg:H->Bool
 | .agg _=>true
 |_=>false
def ty:Obj->Nat
 | .cells _ e _=>e
 | .map es _=>if es.toList.any (λe=>isAgg e.key)then 1000002 else 1000000
 |_=>1000001
theorem ia(a:Array TC)(c:Nat):ty (.map a c)≠5:=by simp only[ty];split<;>decide
class Lo where
 lo:Nat
structure Fr[Lo](T:List Nat)(S:Nat->Prop)(w w1:M):Prop where
 os:w1.os=w.os
 tape:w1.tape=w.tape
 output:w1.output=w.output
 size:w.heap.size<=w1.heap.size
 block:∀k o,w.heap[k]? =some o->(T.contains (ty o)=false\/k<Lo.lo)->¬S k->w1.heap[k]? =some o
def aG(_:Nat):Prop:=False
theorem Z_(h:aX w n O):n<w.heap.size:=(RC.1 h).1
theorem Fr.refl[Lo](T:List Nat)(S:Nat->Prop)(w:M):Fr T S w w:=⟨rfl,rfl,rfl,QE _,λ_ _ h _ _=>h⟩
theorem Fr.mono[Lo]{T a:List Nat}(h:Fr T S w W)(c:∀t,a.contains t=false->T.contains t=false)(d:∀k,k<w.heap.size->S k->Q k):Fr a Q w W:=
 ⟨h.os,h.tape,h.output,h.size,λk o b f g=>h.block k o b (f.imp (c _) id) λe=>g (d k (Z_ b) e)⟩
theorem IH{T a:List Nat}(h:T.all (λt=>a.contains t)=true):∀t,a.contains t=false->T.contains t=false:=by
 intro t b;cases c:T.contains t with
 |false=>rfl
 |true=>have:=WD.1 h t (List.contains_iff_mem.1 c);rw[b]at this;cases this
theorem Fr.wide[Lo](a:List Nat)(h:Fr T S w W)(b:T.all (λt=>a.contains t)=true):Fr a S w W:=h.mono (IH b) λ_ _ h=>h
theorem Fr.any[Lo](h:Fr T aG w W):Fr T S w W:=h.mono (λ_ h=>h) λ_ _ h=>h.elim
theorem Fr.trans[Lo](h:Fr T S w W)(k:Fr T Q W z)(d:∀k,k<w.heap.size->Q k->S k):Fr T S w z:=
 ⟨k.os.trans h.os,k.tape.trans h.tape,k.output.trans h.output,QD h.size k.size,λi o a b c=>k.block i o (h.block i o a b c) b λe=>c (d i (Z_ a) e)⟩
theorem Fr.tr[Lo](h:Fr T S w W)(k:Fr T S W z):Fr T S w z:=h.trans k λ_ _ h=>h
theorem Fr.heap[Lo](h:Fr T S w W)(a:aX w n O)(b:T.contains (ty O)=false)(c:¬S n):W.heap[n]?=some O:=h.block n O a (.inl b) c
theorem Fr.hp[Lo](h:Fr T aG w W)(a:aX w n O)(b:T.contains (ty O)=false):W.heap[n]?=some O:=h.block n O a (.inl b) id
theorem Fr.fS[Lo](h:Fr T aG w W)(d:Lo.lo<=w.heap.size)(b:p.block<Lo.lo)(c:w.cell? p=some v):W.cell? p=some v:=by obtain⟨o,a⟩:∃o,aX w p.block o:=⟨_,RU J⟩;rw[QP ((h.block _ o a (.inr b) id).trans a.symm)];exact c
theorem Fr.lt[Lo](h:Fr T S w W){b:Nat}(a:b<w.heap.size):b<W.heap.size:=RL a h.size
theorem Fr.out[Lo]{S S':Nat->Prop}(h:Fr T S w W)(k:Out S' W z)(c:∀k,k<w.heap.size->S' k->S k):Fr T S w z:=
 ⟨k.os.trans h.os,k.tape.trans h.tape,k.output.trans h.output,QD h.size k.size,λi o a d b=>k.heap (h.block i o a d b) λe=>b (c i (Z_ a) e)⟩
theorem Fr.wk[Lo](h:Out S w W):Fr T S w W:=(Fr.refl T S w).out h λ_ _ h=>h
theorem Fr.af[Lo](h:aq w W):Fr T S w W:=(Fr.refl T S w).out (Out.af (S:=λ_=>False) h) λ_ _ h=>h.elim
theorem Fr.then[Lo](h:Fr T S w W)(k:aq W z):Fr T S w z:=h.out (Out.af (S:=λ_=>False) k) λ_ _ h=>h.elim
theorem Fr.low[Lo](h:Fr T S w W)(k:SK n W z)(b:w.heap.size<=n):Fr T S w z:=
 ⟨k.os.trans h.os,k.tape.trans h.tape,k.output.trans h.output,QD h.size k.size,λi o a c d=>(k.block i (RL (Z_ a) b)).trans (h.block i o a c d)⟩
theorem Fr.alloc[Lo](h:Fr T S W w)(o:Obj):Fr T S W (w.alloc o):=h.then (aK aj o)
theorem Fr.drewN[Lo](h:Fr T S W w)(n:Nat):Fr T S W (w.drewN n):=h.out ((Out.refl (λ_=>False) _).drewN n) λ_ _ h=>h.elim
theorem Fr.drew[Lo](h:Fr T S W w):Fr T S W w.drew:=h.out ((Out.refl (λ_=>False) _).drew) λ_ _ h=>h.elim
theorem Fr.set[Lo](h:Fr T S W w)(d:w.heap[p.block]?=some O)(f:T.contains (ty O)=true)(g:Lo.lo<=p.block)(u:H):Fr T S W (w.setCell p u):=
 ⟨h.os,h.tape,h.output,by rw[RT];exact h.size,λi j k a l=>by
  have b:=h.block i j k a l;refine(RO _ _ _ _ λe=>?_).trans b;subst e;rw[d]at b;cases b;rcases a with a|c
  .rw [f]at a;cases a
  .exact absurd g (Nat.not_le_of_lt c)⟩
theorem Fr.new[Lo](h:Fr T S W w)(a:W.heap.size<=p.block)(u:H):Fr T S W (w.setCell p u):=
 h.out ((Out.refl (λk=>k=p.block) w).setCell (λ_=>rfl) u) λk b e=>absurd e J
theorem Fr.grown[Lo]{a:Option Nat}(h:Fr T S W w)(b:w.grownBy z a)(c:∀k,a=some k->k<W.heap.size->S k):Fr T S W z:=
 h.out (S':=λk=>a=some k) ((Out.refl _ _).grown b λ_ e _=>e) λk d e=>c k e d
theorem Fr.own[Lo](h:Fr T S w W)(c:w.ownsRow m t i v n L)(d:T.contains t=false)(e:∀k,v.ownBlock=some k->¬S k):W.ownsRow m t i v n L:=by
 refine⟨c.1,?_⟩;rcases c.2 with f|⟨g,a,b,rfl,j,l,r⟩
 .exact .inl f
 .exact .inr ⟨g,a,b,rfl,j,h.heap l d (e g rfl),r⟩
def cA(w:M)(v:H)(n:Nat)(f:aN):Prop:=
 ∃a c,v=.slice a n c/\(n=0\/∃b o d e,a=some (R b o)/\w.heap[b]?=some (.cells d 5 e)/\∀k,k<n->d[o+k]?=some (.int .u8 (f k)))
theorem cA.wj(h:cA w v n f):kc w v n f:=by
 obtain⟨a,c,d,h⟩:=h;refine⟨a,c,d,?_⟩;rcases h with h|⟨b,o,e,g,i,j,h⟩
 .exact .inl h
 .exact .inr ⟨b,o,i,λk l=>(QS w b (o+k) e 5 g j).trans (h k l)⟩
theorem cA.fr[Lo](h:cA w v n f)(d:Fr T aG w W)(e:T.contains 5=false):cA W v n f:=by
 obtain⟨a,c,g,h⟩:=h;refine⟨a,c,g,?_⟩;rcases h with h|⟨b,o,i,j,k,l,h⟩
 .exact .inl h
 .exact .inr ⟨b,o,i,j,k,d.hp l e,h⟩
theorem cA.out{w w1:M}(h:cA w v n f)(e:Out S w w1)(g:∀k,k<m->¬S k)(i:∀b o,v=.slice (some (R b o)) n (match v with| .slice _ _ c=>c|_=>0)->b<m):cA w1 v n f:=by
 obtain⟨a,d,rfl,h⟩:=h;refine⟨a,d,rfl,?_⟩;rcases h with h|⟨b,o,j,l,rfl,p,h⟩
 .exact .inl h
 .exact .inr ⟨b,o,j,l,rfl,e.heap p (g _ (i b o rfl)),h⟩
theorem cA.below(h:cA w v n f)(a:aq w W):cA W v n f:=by
 letI:Lo:=⟨0⟩
 exact h.fr (T:= []) (Fr.af a) rfl
theorem cA.congr{f g:aN}(h:cA w v n f)(e:∀k,k<n->f k=g k):cA w v n g:=by
 obtain⟨a,c,rfl,h⟩:=h;refine⟨a,c,rfl,?_⟩;rcases h with h|⟨b,o,i,j,rfl,l,h⟩
 .exact .inl h
 .exact .inr ⟨b,o,i,j,rfl,l,λk d=>by rw[h k d,e k d]⟩
theorem gj(h:w.ownsRow m 5 1 v n (az n f)):cA w v n f:=by
 rcases h.2 with⟨rfl,rfl⟩|⟨g,c,a,rfl,i,d,j,o,p,e⟩
 .exact ⟨none,0,rfl,.inl rfl⟩
 .refine ⟨_,_,rfl,.inr ⟨g,0,a,_,rfl,d,λk b=>?_⟩⟩;have:=congrArg (λl=>l[k]?) e;simp only[SX,TX,ba n f k b,ak b]at this;rw[RE];simpa using this
abbrev G(m c s:Int):H:=.agg #[Y m,Y c,Y s]
abbrev Sh(m c s d:Int):H:=.agg #[Y m,Y c,Y s,Y d]
theorem HR(a:aq W w):(∀b o,b<W.heap.size->w.cell? (R b o)=W.cell? (R b o))/\(∀b o,b<W.heap.size->w.frozen? (R b o)=W.frozen? (R b o)):=
 ⟨λb o h=>a.cell (p:=R b o) h,λb o h=>a.frozen (p:=R b o) h⟩
theorem ws(m:Int)(h:3<=m/\m<=16):WW (m-1)=m-1:=IntWalk.wrap64_in _ ⟨J,J⟩
theorem tA(m c s:Int)(w:M)(h:3<=m/\m<=16/\1<=c/\c<=16/\1<=s/\s<=256):
  aF 26 #[G m c s] w λe a=>aL e (aH 0)/\aq w a:=by
 obtain⟨b,d,f,g,i,j⟩:=h;go_enter func26,ntmps26;go_wp2;go_ret;exact⟨rfl,aj.alloc (QE _) _⟩
theorem II(m c s k:Int)(w:M)(b:∀w,aF 26 #[G m c s] w λe a=>aL e (.int .u16 k)/\aq w a):
  aF 46 #[G m c s] w λe a=>aL e (.tuple #[Sh m c s (WW (m-1)),.int .u16 k])/\aq w a:=by
 have H:=I b;go_enter func46,ntmps46;go_wp2;go_region_held3(λa=>a.cell? (R w.heap.size 0)=some (Y m)/\a.cell? (R w.heap.size 1)=some (Y c)/\a.cell? (R w.heap.size 2)=some (Y s)) (first|go_keep|(simp[b,go_sem];done))
  (first|(go_at_call 26;refine(H _).mono ?_;rintro e g ⟨rfl,d⟩;obtain⟨b,h⟩:=HR d))
 rename_i g d _;go_wp2;obtain⟨b,h⟩:=HR d;refine QT (v:=.tuple #[Sh m c s (WW (m-1)),.int .u16 k]) (by simp[RP,results46,go_sem,b,IntWalk.i64_left]) rfl ⟨rfl,?_⟩;have f:=((((SU w.heap.size w).alloc (QE _) (N #[Y m,Y c,Y s] 39)).alloc aJ (N #[Y 0,Y 0,Y 0,Y 0] 95)).drew).trans (d.mono (by simp[go_sem];omega));exact(((f.setCell (p:=⟨w.heap.size+1,0,none⟩) aJ _).setCell aJ _).setCell aJ _).setCell aJ _
theorem tB(m c s:Int)(w:M)(h:3<=m/\m<=16/\1<=c/\c<=16/\1<=s/\s<=256):
  aF 46 #[G m c s] w λe a=>aL e (.tuple #[Sh m c s (m-1),aH 0])/\aq w a:=by
 have:=II m c s 0 w (λw=>tA m c s w h);rw[ws m J]at this;exact this
theorem bce(a:aq W w):(∀b o,(W.cell? (R b o)).isSome=true->w.cell? (R b o)=W.cell? (R b o))/\(∀b o,(W.cell? (R b o)).isSome=true->w.frozen? (R b o)=W.frozen? (R b o)):=by
 refine⟨λb o h=>?_,λb o h=>?_⟩
 all_goals obtain⟨v,c⟩:=UJ.1 h
 all_goals have:=QN W _ c
 .exact a.cell (p:=R b o) this
 .exact a.frozen (p:=R b o) this
structure ZX(m c s:Int):Prop where
 m3:3<=m
 m16:m<=16
 c1:1<=c
 tC:c<=16
 s1:1<=s
 iS:s<=256
theorem ZX.iff(m c s:Int):ZX m c s↔(3<=m/\m<=16/\1<=c/\c<=16/\1<=s/\s<=256):=⟨λh=>⟨h.1,h.2,h.3,h.4,h.5,h.6⟩,λ⟨a,b,c,d,e,f⟩=>⟨a,b,c,d,e,f⟩⟩
theorem mj{a b A B:Int}(d:0<=a)(e:a<=A)(c:0<=b)(f:b<=B):0<=a*b/\a*b<=A*B:=
 ⟨Int.mul_nonneg d c,Int.mul_le_mul e f c J⟩
theorem ZX.rows{m c s:Int}(h:ZX m c s):0<=s*c/\s*c<=4096:=by have:=mj (a:=s) (b:=c) (A:=256) (B:=16) (by have:=h.s1;omega) h.iS (by have:=h.c1;omega) h.tC;omega
theorem ZX.blocks{m c s:Int}(h:ZX m c s):0<=s*c*(m-1)/\s*c*(m-1)<=61440:=by have:=mj (a:=s*c) (b:=m-1) (A:=4096) (B:=15) h.rows.1 h.rows.2 (by have:=h.m3;omega) (by have:=h.m16;omega);omega
theorem iT(m c s d:Int)(w:M)(h:0<=s*c)(b:s*c<=4096):
  aF 47 #[Sh m c s d] w λe a=>aL e (Y (s*c))/\aq w a:=by
 go_enter func47,ntmps47;go_wp2;go_ret;exact⟨rfl,aj.alloc (QE _) _⟩
def par(m n:Int):Int:=m-1-n%m
def mem(m n i:Int):Int:=(par m n+1+i)%m
theorem IJ(n:Int)(h:3<=c):0<=par c n/\par c n<c:=by unfold par;have:=WQ n (show c≠0 by omega);have:=VT n (show 0<c by omega);omega
theorem kA(m c s d n:Int)(w:M)(h:0<=n)(f:3<=m)(a:m<=16):
  aF 248 #[Sh m c s d,Y n] w λe b=>aL e (Y (par m n))/\aq w b:=by
 have g:=WQ n (show m≠0 by omega);have i:=VT n (show 0<m by omega);go_enter func248,ntmps248;go_wp2;go_quiet(fail);go_wp2;go_ret;exact⟨rfl,(aj.alloc (QE _) _).trans ⟨rfl,rfl,rfl,QE _,λ_ _=>rfl⟩⟩
theorem Fx{k:IntKind}{a b:Int}(h:a=b):Ending.returned (.int k a)=.returned (.int k b):=by rw[h]
theorem kB(m c s d n i:Int)(w:M)(h:0<=n)(g:3<=m)(f:m<=16)(t:0<=i)(j:i<m):
  aF 195 #[Sh m c s d,Y n,Y i] w λe b=>aL e (Y (mem m n i))/\aq w b:=by
 have k:=IJ n g;obtain⟨l,o⟩:=k;have p:QG.wrap (par m n+1)=par m n+1:=SN _ J;have u:QG.wrap (par m n+1+i)=par m n+1+i:=SN _ J;have q:0<=par m n+1+i:=J;have v:¬m=0:=J;go_enter func195,ntmps195;go_wp2;go_region_held3(λb=>b.cell? (R w.heap.size 0)=some (Y m)/\b.cell? (R w.heap.size 1)=some (Y c)/\b.cell? (R w.heap.size 2)=some (Y s)/\b.cell? (R w.heap.size 3)=some (Y d)) ((simp[*,go_sem];done))
  (first|(go_at_call 248;refine(kA _ _ _ _ _ _ h g f).mono ?_;rintro e p ⟨rfl,r⟩;obtain⟨x,y⟩:=bce r))
 all_goals go_wp2
 go_ret;exact⟨Fx (a:=(par m n+1+i).tmod m) (UI q),via (aK aj _).drew (by assumption)⟩
theorem ht(m c s:Int)(w:M)(h:ZX m c s):
  aF 27 #[G m c s] w λe f=>aL e (Y (s*c))/\aq w f:=by
 have b:=h.rows;have g:=I ((ZX.iff m c s).1 h);go_enter func27,ntmps27;go_wp2_with(first|(go_at_call 46;refine(tB _ _ _ _ g).mono ?_;rintro e i ⟨rfl,d⟩;obtain⟨j,k⟩:=bce d)|(go_at_call 47;refine(iT _ _ _ _ _ b.1 b.2).mono ?_;rintro e l ⟨rfl,a⟩));go_ret;exact⟨rfl,via (aK (via (aK aj _) d) _) a⟩
theorem wm(m c s:Int)(w:M)(h:ZX m c s):
  aF 164 #[G m c s] w λe a=>aL e (Y (s*c*(m-1)))/\aq w a:=by
 obtain⟨b,d⟩:=h.blocks;have f:=h.m3;have g:=h.m16;have i:=I h;have k:QG.wrap (m-1)=m-1:=SN _ J;have l:QG.wrap (s*c*(m-1))=s*c*(m-1):=SN _ J;go_enter func164,ntmps164;go_wp2;go_region_held3(λa=>a.cell? (R w.heap.size 0)=some (Y m)/\a.cell? (R w.heap.size 1)=some (Y c)/\a.cell? (R w.heap.size 2)=some (Y s)) ((simp[*,go_sem];done))
  (first|(go_at_call 27;refine(ht _ _ _ _ i).mono ?_;rintro e n ⟨rfl,j⟩;obtain⟨o,p⟩:=bce j))
 all_goals go_wp2
 go_ret;exact⟨rfl,via (aK aj _).drew (by assumption)⟩
theorem wo(m c s r:Int)(w:M)(h:ZX m c s)(a:0<=r)(q:r<s*c):
  aF 355 #[G m c s,Y r] w λe b=>aL e (.tuple #[Y (par m (r/c)),aH 0])/\aq w b:=by
 obtain⟨g,i⟩:=h.rows;have j:=h.m3;have k:=h.m16;have t:=h.c1;have l:0<=r/c:=ZG a J;have o:r/c<=r:=Int.ediv_le_self _ a;have B:r.tdiv c=r/c:=VH a;have u:QG.wrap (r/c)=r/c:=SN _ J;have C:¬c=0:=J;have v:=I ((ZX.iff m c s).1 h);go_enter func355,ntmps355;go_wp2_with(first|(go_at_call 46;refine(tB _ _ _ _ v).mono ?_;rintro e f ⟨rfl,p⟩;obtain⟨D,E⟩:=bce p)|(go_at_call 47;refine(iT _ _ _ _ _ g i).mono ?_;rintro e F ⟨rfl,d⟩;obtain⟨x,y⟩:=bce d));go_region_held3(λb=>b.cell? (R f.heap.size 0)=some (Y m)/\b.cell? (R f.heap.size 1)=some (Y c)/\b.cell? (R f.heap.size 2)=some (Y s)/\b.cell? (R f.heap.size 3)=some (Y (m-1))) ((simp[*,go_sem];done))
  (first|(go_at_call 248;refine(kA _ _ _ _ _ _ l j k).mono ?_;rintro e K ⟨rfl,n⟩;obtain⟨z,A⟩:=bce n))
 go_wp2;go_ret2;exact⟨rfl,via (via (aK (via (aK aj _) p) _) d).drew (by assumption)⟩
def Pl(a b c d:Int):H:=.agg #[Y a,Y b,Y c,Y d]
theorem IK(m c s b:Int)(w:QA)(h:ZX m c s)(q:0<=b)(I:b<s*c*(m-1)):
  Calls VR 165 #[G m c s,.int .i64 b] w λe d=>e=.returned (.tuple #[Pl (b/((m-1)*c)) (b/((m-1)*c)*c+b%((m-1)*c)%c) (mem m (b/((m-1)*c)) (b%((m-1)*c)/c)) (par m (b/((m-1)*c))),.int .u16 0])/\SK w.heap.size w d:=by
 obtain⟨r,t⟩:=h.rows;obtain⟨Y,J⟩:=h.blocks;have j:=h.m3;have k:=h.m16;have a4:=h.c1;have a5:=h.tC;have a6:=h.s1;have a7:=h.iS;have a8:=QZ ((ZX.iff m c s).1 h);obtain⟨u,x⟩:=mj (a:=m-1) (b:=c) (A:=15) (B:=16) (by omega) (by omega) (by omega) (by omega);have y:1<=(m-1)*c:=Int.mul_pos (by omega) (by omega);obtain⟨E,l⟩:∃E,E=(m-1)*c:=⟨_,rfl⟩;rw[<-l]at u x y|-;have f:0<=b/E:=ZG q (by omega);have a0:b/E<s:=by apply ZN (by omega);rw[l,Int.mul_comm (m-1) c,<-Int.mul_assoc];exact I
 have i:0<=b%E:=WQ _ (by omega);have z:b%E<E:=VT _ (by omega);have a9:0<=b%E%c:=WQ _ (by omega);have b0:b%E%c<c:=VT _ (by omega);have C:0<=b%E/c:=ZG i (by omega);have b1:b%E/c<m-1:=by apply ZN (by omega);rw[<-l];exact z
 obtain⟨b2,b3⟩:=mj (a:=b/E) (b:=c) (A:=256) (B:=16) f (by omega) (by omega) (by omega);have d0:decide (b<0)=false:=by simpa using q
 have d1:decide (s*c*(m-1)<=b)=false:=by simpa using I
 have b4:(m-1)*c=E:=l.symm;have w0:QG.wrap E=E:=SN _ (by omega);have w3:QG.wrap (s*c*(m-1))=s*c*(m-1):=SN _ (by omega);have q1:b.tdiv E=b/E:=VH q;have q2:b.tmod E=b%E:=UI q;have q3:QG.wrap (b/E)=b/E:=SN _ (by omega);have q4:(b%E).tmod c=b%E%c:=UI i;have q5:(b%E).tdiv c=b%E/c:=VH i;have q6:QG.wrap (b%E/c)=b%E/c:=SN _ (by omega);have q7:QG.wrap (b/E*c)=b/E*c:=SN _ (by omega);have q8:QG.wrap (b/E*c+b%E%c)=b/E*c+b%E%c:=SN _ (by omega);have E0:¬E=0:=by omega
 have c0:¬c=0:=by omega
 clear l;go_enter Tryz.func165,Tryz.ntmps165;go_wp2_with(first|(go_at_call 46;refine(tB _ _ _ _ a8.out).mono ?_;rintro e g ⟨rfl,b5⟩;obtain⟨a1,a2,a3⟩:=kp b5 (w.heap.size+1) (by go_size)));go_region_held3(λd=>d.cell? ⟨g.heap.size,0,none⟩=some (.int .i64 m)/\d.cell? ⟨g.heap.size,1,none⟩=some (.int .i64 c)/\d.cell? ⟨g.heap.size,2,none⟩=some (.int .i64 s)/\d.cell? ⟨g.heap.size,3,none⟩=some (.int .i64 (m-1))) ((simp[*,go_sem];done))
  (first|(go_at_call 47;refine(iT _ _ _ _ _ r t).mono ?_;rintro e w2 ⟨rfl,n⟩;obtain⟨D,F,K⟩:=kp n (g.heap.size) (by go_size);obtain⟨L,O,P⟩:=kp n (w.heap.size+1) (by go_size)))
 go_wp2;go_quiet(fail);go_wp2;go_region_held3(λd=>d.cell? ⟨g.heap.size,0,none⟩=some (.int .i64 m)/\d.cell? ⟨g.heap.size,1,none⟩=some (.int .i64 c)/\d.cell? ⟨g.heap.size,2,none⟩=some (.int .i64 s)/\d.cell? ⟨g.heap.size,3,none⟩=some (.int .i64 (m-1))) ((simp[*,go_sem];done))
  (first|(go_at_call 195;refine(kB _ _ _ _ _ _ _ f j k C (by omega)).mono ?_;rintro e w3 ⟨rfl,o⟩;obtain⟨Q,S,T⟩:=kp o (g.heap.size) (by go_size);obtain⟨U,V,W⟩:=kp o (w.heap.size+1) (by go_size))|(go_at_call 248;refine(kA _ _ _ _ _ _ f j k).mono ?_;rintro e w4 ⟨rfl,p⟩;obtain⟨X,Z,H⟩:=kp p (g.heap.size) (by go_size);obtain⟨N,M,R⟩:=kp p (w.heap.size+1) (by go_size)))
 go_wp2;refine QT (v:=.tuple #[Pl (b/E) (b/E*c+b%E%c) (mem m (b/E) (b%E/c)) (par m (b/E)),.int .u16 0]) (by simp[RP,Tryz.results165,go_sem,Pl, *]) rfl ⟨rfl,?_⟩
 (repeat'(first|(with_reducible exact SU _ _)|(with_reducible refine Below.setCell ?_ (by go_size) _)|(with_reducible refine aK ?_ _)|(with_reducible refine Below.drew ?_)|(with_reducible refine cK ?_ _)|(with_reducible refine via ?_ (by with_reducible assumption))))
def tn(m c a r:Int):Int:=(a-mem m (r/c) 0+m)%m
theorem BV(n i:Int)(h:3<=c):0<=mem c n i/\mem c n i<c:=
 ⟨WQ _ J,VT _ J⟩
theorem yp(m c s a r:Int)(w:QA)(h:ZX m c s)(A:0<=a)(B:a<m)(i:0<=r)(y:r<s*c)(C:tn m c a r=m-1):
  aF 131 #[G m c s,Y a,Y r] w λe b=>aL e (.tuple #[Y 0,.bool true,aH 0])/\aq w b:=by
 obtain⟨j,k⟩:=h.rows;have f:=h.m3;have l:=h.m16;have D:=h.c1;have E:=h.tC;have F:=h.s1;have K:=h.iS;have L:=I ((ZX.iff m c s).1 h);have g:0<=r/c:=ZG i J;have z:r/c<s:=ZN J y;obtain⟨O,P⟩:=BV (r/c) 0 f;have d0:decide (a<0)=false:=by simpa using A
 have d1:decide (m<=a)=false:=by simpa using B
 have d2:decide (r<0)=false:=by simpa using i
 have d3:decide (s*c<=r)=false:=by simpa using y
 have S:r.tdiv c=r/c:=VH i;have T:QG.wrap (r/c)=r/c:=SN _ J;have U:QG.wrap (a-mem m (r/c) 0)=a-mem m (r/c) 0:=SN _ J;have V:QG.wrap (a-mem m (r/c) 0+m)=a-mem m (r/c) 0+m:=SN _ J;have W:(a-mem m (r/c) 0+m).tmod m=tn m c a r:=UI J;have X:¬c=0:=J;have Z:¬m=0:=J;have Q:(tn m c a r==m-1)=true:=by simpa using C
 go_enter func131,ntmps131;go_wp2_with(first|(go_at_call 46;refine(tB _ _ _ _ L).mono ?_;rintro e d ⟨rfl,H⟩)|(go_at_call 47;refine(iT _ _ _ _ _ j k).mono ?_;rintro e N ⟨rfl,n⟩;obtain⟨o,p,q⟩:=kp n (d.heap.size) dG));go_region_held3(λb=>b.cell? (R d.heap.size 0)=some (Y m)/\b.cell? (R d.heap.size 1)=some (Y c)/\b.cell? (R d.heap.size 2)=some (Y s)/\b.cell? (R d.heap.size 3)=some (Y (m-1))) ((simp[*,go_sem];done))
  (first|(go_at_call 195;refine(kB _ _ _ _ _ _ _ g f l J J).mono ?_;rintro e M ⟨rfl,t⟩;obtain⟨u,v,x⟩:=kp t (d.heap.size) dG))
 go_wp2
 go_returns
 refine⟨rfl,?_⟩
 (repeat'(first|(with_reducible exact aj)|(with_reducible refine Below.setCell ?_ dG _)|(with_reducible refine aK ?_ _)|(with_reducible refine Below.drew ?_)|(with_reducible refine cK ?_ _)|(with_reducible refine via ?_ (by with_reducible assumption))))
theorem yq(m c s a r:Int)(w:QA)(h:ZX m c s)(D:0<=a)(E:a<m)(j:0<=r)(z:r<s*c)(F:¬tn m c a r=m-1):
  aF 131 #[G m c s,ae a,ae r] w λe f=>aL e (.tuple #[ae ((r/c*(m-1)+tn m c a r)*c+r%c),.bool false,aH 0])/\aq w f:=by
 obtain⟨k,l⟩:=h.rows;have i:=h.m3;have n:=h.m16;have K:=h.c1;have L:=h.tC;have O:=h.s1;have P:=h.iS;have Q:=ad ((ZX.iff m c s).1 h);have d:0<=r/c:=ZG j aa;have C:r/c<s:=ZN aa z;obtain⟨S,T⟩:=BV (r/c) 0 i;have U:0<=tn m c a r:=WQ _ aa;have V:tn m c a r<m:=VT _ aa;have W:0<=r%c:=WQ _ aa;have X:r%c<c:=VT _ aa;have d0:decide (a<0)=false:=by simpa using D
 have d1:decide (m<=a)=false:=by simpa using E
 have d2:decide (r<0)=false:=by simpa using j
 have d3:decide (s*c<=r)=false:=by simpa using z
 have H:r.tdiv c=r/c:=VH j;have N:r.tmod c=r%c:=UI j;have M:QG.wrap (r/c)=r/c:=SN _ aa;have R:QG.wrap (a-mem m (r/c) 0)=a-mem m (r/c) 0:=SN _ aa;have I:QG.wrap (a-mem m (r/c) 0+m)=a-mem m (r/c) 0+m:=SN _ aa;have Y:(a-mem m (r/c) 0+m).tmod m=tn m c a r:=UI aa;have J:¬c=0:=aa;have m0:¬m=0:=aa;have Z:(tn m c a r==m-1)=false:=by simpa using F
 obtain⟨x1,x2⟩:=mj (a:=r/c) (b:=m-1) (A:=256) (B:=15) d aa aa aa;obtain⟨x3,x4⟩:=mj (a:=r/c*(m-1)+tn m c a r) (b:=c) (A:=3860) (B:=16) aa aa aa aa;have y1:QG.wrap (r/c*(m-1))=r/c*(m-1):=SN _ aa;have y2:QG.wrap (r/c*(m-1)+tn m c a r)=r/c*(m-1)+tn m c a r:=SN _ aa;have y3:QG.wrap ((r/c*(m-1)+tn m c a r)*c)=(r/c*(m-1)+tn m c a r)*c:=SN _ aa;have y4:QG.wrap ((r/c*(m-1)+tn m c a r)*c+r%c)=(r/c*(m-1)+tn m c a r)*c+r%c:=SN _ aa;go_enter func131,ntmps131;go_wp2_with(first|(go_at_call 46;refine(tB _ _ _ _ Q).mono ?_;rintro e g ⟨rfl,a0⟩)|(go_at_call 47;refine(iT _ _ _ _ _ k l).mono ?_;rintro e w2 ⟨rfl,o⟩;obtain⟨p,q,t⟩:=kp o (g.heap.size) dG));go_region_held3(λf=>f.cell? (ag g.heap.size 0)=some (ae m)/\f.cell? (ag g.heap.size 1)=some (ae c)/\f.cell? (ag g.heap.size 2)=some (ae s)/\f.cell? (ag g.heap.size 3)=some (ae (m-1))) ((simp[*,go_sem];done))
  (first|(go_at_call 195;refine(kB _ _ _ _ _ _ _ d i n aa aa).mono ?_;rintro e w3 ⟨rfl,u⟩;obtain⟨v,x,y⟩:=kp u (g.heap.size) dG))
 go_wp2;go_quiet(fail);go_wp2
 go_returns
 refine⟨rfl,?_⟩
 (repeat'(first|(with_reducible exact aj)|(with_reducible refine Below.setCell ?_ dG _)|(with_reducible refine aK ?_ _)|(with_reducible refine Below.drew ?_)|(with_reducible refine cK ?_ _)|(with_reducible refine via ?_ (by with_reducible assumption))))
structure aA where
 M:Nat
 c:Nat
 s:Nat
variable {g:aA}
structure aA.ok(g:aA):Prop where
 m3:3<=g.M
 m16:g.M<=16
 c1:1<=g.c
 tC:g.c<=16
 s1:1<=g.s
 iS:g.s<=256
def aA.R(g:aA):Nat:=g.s*g.c
def aA.E(g:aA):Nat:=(g.M-1)*g.c
def aA.B(g:aA):Nat:=g.s*g.E
def aA.row(g:aA)(b:Nat):Nat:=b/g.E*g.c+b%g.E%g.c
def aA.par(g:aA)(r:Nat):Nat:=g.M-1-(r/g.c)%g.M
def aA.mem(g:aA)(b:Nat):Nat:=(g.M-1-(b/g.E)%g.M+1+b%g.E/g.c)%g.M
abbrev aA.V(g:aA):H:=.agg #[Y g.M,Y g.c,Y g.s]
theorem aA.gm(h:g.ok):ZX (g.M:Nat) (g.c:Nat) (g.s:Nat):=by obtain⟨a,b,c,d,e,f⟩:=h;constructor<;>omega
theorem aA.iJ(h:g.ok):g.R<=4096:=by unfold aA.R;exact TG h.iS h.tC
theorem aA.KO(h:g.ok):0<g.E:=Nat.mul_pos (by have:=h.m3;omega) h.c1
theorem aA.nZ(h:g.ok)(b:Nat):g.row b/g.c=b/g.E:=by unfold aA.row;rw[YY,Nat.add_mul_div_right _ _ h.c1,Nat.div_eq_of_lt (SC _ h.c1),RE]
theorem aA.yr(h:g.ok)(b:Nat):g.row b%g.c=b%g.E%g.c:=by unfold aA.row;rw[YY,Nat.add_mul_mod_self_right,SA (SC _ h.c1)]
theorem aA.iU(h:g.ok)(a:n<g.B):g.row n<g.R:=by have b:n/g.E<g.s:=Nat.div_lt_of_lt_mul (by rw[VB];exact a);have d:n%g.E%g.c<g.c:=SC _ h.c1;have c:(n/g.E+1)*g.c<=g.s*g.c:=Nat.mul_le_mul_right _ b;rw[Nat.add_mul,Nat.one_mul]at c;unfold aA.row aA.R;omega
theorem aA.kC(h:g.ok)(b:Nat):g.mem b<g.M:=SC _ (by have:=h.m3;omega)
theorem aA.iV(h:g.ok)(r:Nat):g.par r<g.M:=by unfold aA.par;have:=h.m3;omega
theorem aA.wq(h:g.ok)(b:Nat):b%g.E/g.c<g.M-1:=
 Nat.div_lt_of_lt_mul (by rw[VB];exact SC _ (aA.KO h))
theorem aA.BW(h:g.ok)(b:Nat):g.mem b≠g.par (g.row b):=by
 have c:=aA.wq h b;have f:=h.m3;unfold aA.mem aA.par;rw[aA.nZ h b];have d:b/g.E%g.M<g.M:=SC _ J;generalize b/g.E%g.M=S at d|-;generalize b%g.E/g.c=i at c|-;intro e;by_cases a:g.M-1-S+1+i<g.M
 .rw [SA a]at e;omega
 .rw [XU J,SA J]at e;omega
theorem aA.inj(h:g.ok)(d:g.row n=g.row m)(a:g.mem n=g.mem m):n=m:=by
 have r:=h.m3;have b:n/g.E=m/g.E:=by rw[<-aA.nZ h n,<-aA.nZ h m,d]
 have k:n%g.E%g.c=m%g.E%g.c:=by rw[<-aA.yr h n,<-aA.yr h m,d]
 have l:=aA.wq h n;have c:=aA.wq h m;have o:n%g.E/g.c=m%g.E/g.c:=by
  unfold aA.mem at a;rw[b]at a;have b:m/g.E%g.M<g.M:=SC _ J;generalize m/g.E%g.M=S at b a;generalize n%g.E/g.c=i at l a|-;generalize m%g.E/g.c=j at c a|-;by_cases e:g.M-1-S+1+i<g.M<;>by_cases f:g.M-1-S+1+j<g.M
  .rw [SA e,SA f]at a;omega
  .rw [SA e,XU J,SA J]at a;omega
  .rw [SA f,XU J,SA J]at a;omega
  .rw [XU J,SA J,XU J,SA J]at a;omega
 have p:=WN n g.E;have s:=WN m g.E;have q:=WN (n%g.E) g.c;have t:=WN (m%g.E) g.c;rw[b]at p;rw[o,k]at q;omega
theorem ox(g:aA)(h:g.ok)(n:Nat):par (g.M:Nat) (n:Nat)=((g.M-1-n%g.M:Nat):Int):=by unfold par;have:=SC n (show 0<g.M by have:=h.m3;omega);have:=h.m3;omega
theorem ys(h:g.ok)(l:n<g.B)(w:QA):
  aF 165 #[g.V,Y n] w λe b=>aL e (.tuple #[.agg #[Y (n/g.E:Nat),Y (g.row n:Nat),Y (g.mem n:Nat),Y (g.par (g.row n):Nat)],aH 0])/\aq w b:=by
 have m:=h.m3;have c:(((g.M:Nat):Int)-1)*(g.c:Nat)=((g.E:Nat):Int):=by unfold aA.E;rw[TK,Int.ofNat_sub J];rfl
 have d:((g.s:Nat):Int)*(g.c:Nat)*(((g.M:Nat):Int)-1)=((g.B:Nat):Int):=by unfold aA.B;rw[TK,<-c,Int.mul_assoc,Int.mul_comm ((g.c:Nat):Int)]
 refine(IK (g.M:Nat) (g.c:Nat) (g.s:Nat) (n:Nat) w (aA.gm h) J (by rw[d];omega)).mono ?_;rintro e b ⟨rfl,a⟩;refine⟨?_,a⟩;rw[c];have f:((n:Nat):Int)/((g.E:Nat):Int)=((n/g.E:Nat):Int):=rfl;have i:((n:Nat):Int)%((g.E:Nat):Int)=((n%g.E:Nat):Int):=rfl;rw[f,i];have j:par (g.M:Nat) ((n/g.E:Nat):Int)=((g.par (g.row n):Nat):Int):=by rw[ox g h];unfold aA.par;rw[aA.nZ h]
 have k:mem (g.M:Nat) ((n/g.E:Nat):Int) (((n%g.E:Nat):Int)/(g.c:Nat))=((g.mem n:Nat):Int):=by unfold mem;rw[ox g h];rfl
 rw[j,k];rfl
def xs(p:Nat->Bool)(f:aN):Nat->Nat
 |0=>0
 |n+1=>xs p f n^^^(if p n then f n else 0)
theorem dL{p q:Nat->Bool}{f g:aN}:∀{n:Nat},(∀m,m<n->p m=q m/\(p m=true->f m=g m))->xs p f n=xs q g n
 |0,_=>rfl
 |n+1,h=>by
  obtain⟨a,b⟩:=h n J;simp only[xs];rw[dL λm d=>h m J,<-a];cases c:p n with
  |false=>rfl
  |true=>simp only[if_true];rw[b c]
theorem x4(a b c d:Nat):(a^^^b)^^^(c^^^d)=(a^^^c)^^^(b^^^d):=by rw[XM,<-XM b,Nat.xor_comm b c,XM c,<-XM]
theorem qF{p q:Nat->Bool}{f:aN}:∀{n:Nat},(∀m,m<n->(p m&&q m)=false)->xs (λm=>p m||q m) f n=xs p f n^^^xs q f n
 |0,_=>by simp[xs]
 |n+1,h=>by
  have a:=h n J;simp only[xs];rw[qF λm c=>h m J,x4];congr 1;by_cases b:p n=true
  .rw [b]at a;simp only[Bool.true_and]at a;simp[b,a]
  .simp [b]
theorem rT{p:Nat->Bool}{f:aN}:∀{n:Nat},(∀m,m<n->p m=true->f m=0)->xs p f n=0
 |0,_=>rfl
 |n+1,h=>by
  simp only[xs];rw[rT λm b=>h m J];cases a:p n with
  |false=>simp
  |true=>simp[h n J a]
theorem rU{p:Nat->Bool}{f:aN}{a:Nat}:∀{n:Nat},a<n->(∀m,m<n->p m=decide (m=a))->xs p f n=f a
 |0,h,_=>J
 |n+1,h,b=>by
  simp only[xs];rw[b n J];by_cases e:n=a
  .subst e;rw[show xs p f n=0 from rT λm d c=>by rw[b m J]at c;simp at c;omega];simp
  .rw [rU (a:=a) J λm d=>b m J];simp[e]
theorem BX{p:Nat->Bool}{f:aN}:∀{n:Nat},(∀m,m<n->p m=true->f m<256)->xs p f n<256
 |0,_=>by simp[xs]
 |n+1,h=>by
  simp only[xs];refine XT (n:=8) (BX λm b=>h m J) ?_;cases a:p n with
  |false=>simp
  |true=>simpa using h n J a
def ZZ(n:Nat)(p:Nat->Bool):List Nat:=(TQ n).filter p
theorem dP(n:Nat)(p:Nat->Bool):ZZ (n+1) p=ZZ n p++(if p n then[n]else[]):=by unfold ZZ;rw[UL,List.filter_append];cases a:p n<;>simp[a]
theorem br{p:Nat->Bool}:m∈ZZ n p↔m<n/\p m=true:=by unfold ZZ;simp
theorem oy(p:Nat->Bool)(f:aN)(a:Nat):∀n,(ZZ n p).foldl (λx m=>x^^^f m) a=a^^^xs p f n
 |0=>by simp[ZZ,xs]
 |n+1=>by rw[dP,List.foldl_append,oy];simp only[xs];cases p n<;>simp[XM]
theorem wu(n:Nat)(p:Nat->Bool):(ZZ n p).Nodup:=List.Pairwise.filter _ List.nodup_range
theorem iW(n:Nat)(p:Nat->Bool):(ZZ n p).Pairwise (· <·):=List.Pairwise.filter _ List.pairwise_lt_range
theorem fy(n:Nat)(p:Nat->Bool):(ZZ n p).length<=n:=by unfold ZZ;exact QD (VI _ _) aJ
structure bq where
 n:Nat
 aM:Nat->Nat
 da:Nat->Nat->Nat
variable {K:bq}
structure bq.ok(g:aA)(B:bq):Prop where
 aM:∀i,i<B.n->B.aM i<g.B
 da:∀i,i<B.n->∀k,k<128->B.da i k<256
def cO(g:aA)(B:bq):Nat->Nat->Nat->Option Nat
 |0,_,_=>none
 |n+1,m,r=>if g.mem (B.aM n)=m/\g.row (B.aM n)=r then some n else cO g B n m r
def aZ(g:aA)(B:bq):Nat->Nat->Bool
 |0,_=>false
 |n+1,r=>g.row (B.aM n)==r||aZ g B n r
theorem dH{g:aA}{B:bq}:∀{n m r i:Nat},cO g B n m r=some i->i<n/\g.mem (B.aM i)=m/\g.row (B.aM i)=r
 |0,_,_,_,h=>by cases h
 |n+1,m,r,i,h=>by
  unfold cO at h;split at h
  .cases h;rename_i c;exact⟨J,c⟩
  .obtain ⟨a,b⟩:=dH h;exact⟨J,b⟩
theorem oz{g:aA}{B:bq}:∀{n m r:Nat},cO g B n m r=none->∀i,i<n->¬(g.mem (B.aM i)=m/\g.row (B.aM i)=r)
 |0,_,_,_,_,h=>J
 |n+1,m,r,h,i,b=>by
  unfold cO at h;split at h
  .cases h
  .rename_i a;by_cases e:i=n
   .rw [e];exact a
   .exact oz h i J
theorem dt{g:aA}{B:bq}:∀{n r:Nat},aZ g B n r=true↔∃i,i<n/\g.row (B.aM i)=r
 |0,r=>by simp[aZ]
 |n+1,r=>by
  unfold aZ;rw[Bool.or_eq_true,dt,beq_iff_eq];constructor
  .rintro (h|⟨i,a,h⟩)
   .exact ⟨n,J,h⟩
   .exact ⟨i,J,h⟩
  .rintro ⟨i,a,h⟩;by_cases e:i=n
   .rw [e]at h;exact .inl h
   .exact .inr ⟨i,J,h⟩
def bq.gd(g:aA)(B:bq)(m r:Nat):Bool:=(cO g B B.n m r).isSome
def bq.iM(g:aA)(B:bq)(m r:Nat):Nat->Nat:=match cO g B B.n m r with|some i=>B.da i|none=>λ_=>0
def bq.eM(g:aA)(B:bq):List Nat:=ZZ g.R (aZ g B B.n)
def bq.nP(g:aA)(B:bq)(r:Nat):List Nat:=ZZ g.M λm=>B.gd g m r
theorem bq.iX(h:g.ok):K.gd g (g.par r) r=false:=by
 unfold bq.gd;cases a:cO g K K.n (g.par r) r with
 |none=>rfl
 |some i=>obtain⟨_,b,c⟩:=dH a;have:=aA.BW h (K.aM i);rw[b,c]at this;exact absurd rfl this
theorem bq.BY(h:K.gd g m r=true):aZ g K K.n r=true:=by
 unfold bq.gd at h;cases a:cO g K K.n m r with
 |none=>rw[a]at h;cases h
 |some i=>obtain⟨b,d,c⟩:=dH a;exact dt.2 ⟨i,b,c⟩
theorem bq.KP(h:i<K.n):K.gd g (g.mem (K.aM i)) (g.row (K.aM i))=true:=by
 unfold bq.gd;cases a:cO g K K.n (g.mem (K.aM i)) (g.row (K.aM i))with
 |none=>exact absurd ⟨rfl,rfl⟩ (oz a i h)
 |some i=>rfl
theorem bq.BZ(a:K.ok g)(b:k<128):K.iM g m r k<256:=by
 unfold bq.iM;cases c:cO g K K.n m r with
 |none=>simp
 |some i=>exact a.da i (dH c).1 k b
def bq.base(g:aA)(B:bq)(V:cH)(m r:Nat):Nat->Nat:=if B.gd g m r then B.iM g m r else V m r
def bq.fQ(g:aA)(B:bq)(V:cH)(m r:Nat):Nat->Nat:=
 if m=g.par r/\aZ g B B.n r=true thenλk=>xs (λa=>decide (a≠g.par r)) (λa=>B.base g V a r k) g.M else B.base g V m r
structure tD(g:aA)(V:cH):Prop where
 lt:∀m r k,m<g.M->r<g.R->k<128->V m r k<256
 even:∀r k,r<g.R->k<128->xs (fun _=>true) (fun m=>V m r k) g.M=0
theorem tE(h:g.ok)(r:Nat)(f:aN):xs (λ_=>true) f g.M=xs (λm=>decide (m≠g.par r)) f g.M^^^f (g.par r):=by have:=qF (p:=λm=>decide (m≠g.par r)) (q:=λm=>decide (m=g.par r)) (f:=f) (n:=g.M) (λm _=>by by_cases e:m=g.par r<;>simp[e]);rw[<-rU (f:=f) (aA.iV h r) (λm _=>rfl),<-this];exact dL λm _=>⟨by by_cases e:m=g.par r<;>simp[e],λ_=>rfl⟩
theorem tD.par(h:g.ok){V:cH}(hV:tD g V)(c:r<g.R)(d:k<128):V (g.par r) r k=xs (λm=>decide (m≠g.par r)) (λm=>V m r k) g.M:=by
 have:=hV.even r k c d;rw[tE h r]at this;have e:∀a b:Nat,a^^^b=0->b=a:=λa b h=>by
  have:(a^^^b)^^^b=0^^^b:=by rw[h]
  rw[XM,Nat.xor_self,Nat.xor_zero,Nat.zero_xor]at this;exact this.symm
 exact e _ _ this
theorem bq.yt(b:K.ok g){V:cH}(hV:tD g V)(c:m<g.M)(d:r<g.R)(a:k<128):K.base g V m r k<256:=by
 unfold bq.base;split
 .exact bq.BZ b a
 .exact hV.lt m r k c d a
theorem bq.rV(h:g.ok)(j:K.ok g){V:cH}(hV:tD g V):tD g (K.fQ g V):=by
 constructor
 .intro m r k b c d;unfold bq.fQ;split
  .exact BX λa f _=>bq.yt j hV f c d
  .exact bq.yt j hV b c d
 .intro r k c d;by_cases i:aZ g K K.n r=true
  .rw [tE h r];have l:K.fQ g V (g.par r) r k=xs (λa=>decide (a≠g.par r)) (λa=>K.base g V a r k) g.M:=by unfold bq.fQ;rw[ak ⟨rfl,i⟩]
   rw[l];rw[show xs (λm=>decide (m≠g.par r)) (λm=>K.fQ g V m r k) g.M=xs (λa=>decide (a≠g.par r)) (λa=>K.base g V a r k) g.M from dL λm _=>⟨rfl,λb=>by unfold bq.fQ;rw[al λe=>by simp at b;exact b e.1]⟩];exact Nat.xor_self _
  .rw [<-hV.even r k c d];refine dL λm _=>⟨rfl,λ_=>?_⟩;unfold bq.fQ;rw[al λe=>i e.2];unfold bq.base;rw[al λe=>i (bq.BY e)]
theorem bq.oA(h:g.ok){V:cH}(b:aZ g K K.n r=true):
  xs (λm=>decide (m≠g.par r)&& !K.gd g m r) (λm=>V m r k) g.M^^^xs (λm=>K.gd g m r) (λm=>K.iM g m r k) g.M=K.fQ g V (g.par r) r k:=by
 unfold bq.fQ;rw[ak ⟨rfl,b⟩];rw[show xs (λm=>decide (m≠g.par r)&& !K.gd g m r) (λm=>V m r k) g.M=xs (λm=>decide (m≠g.par r)&& !K.gd g m r) (λm=>K.base g V m r k) g.M from dL λm _=>⟨rfl,λa=>by unfold bq.base;rw[al];intro e;rw[e]at a;simp at a⟩];rw[show xs (λm=>K.gd g m r) (λm=>K.iM g m r k) g.M=xs (λm=>K.gd g m r) (λm=>K.base g V m r k) g.M from dL λm _=>⟨rfl,λa=>by unfold bq.base;rw[ak a]⟩];rw[<-qF λm _=>by cases K.gd g m r<;>simp];refine dL λm _=>⟨?_,λ_=>rfl⟩;by_cases e:m=g.par r
 .subst e;rw[bq.iX h];simp
 .cases K.gd g m r<;>simp[e]
theorem bq.Fy(h:g.ok){V:cH}(hV:tD g V)(b:aZ g K K.n r=true)(a:r<g.R)(c:k<128):
  xs (λm=>decide (m=g.par r)||K.gd g m r) (λm=>V m r k) g.M^^^xs (λm=>K.gd g m r) (λm=>K.iM g m r k) g.M=K.fQ g V (g.par r) r k:=by
 rw[<-bq.oA h (V:=V) b];congr 1;rw[qF λm _=>by
  by_cases e:m=g.par r
  .subst e;rw[bq.iX h];simp
  .simp [e]]
 rw[rU (f:=λm=>V m r k) (aA.iV h r) λm _=>rfl];show V (g.par r) r k^^^_=_;rw[hV.par h a c];rw[show xs (λm=>decide (m≠g.par r)) (λm=>V m r k) g.M=xs (λm=>decide (m≠g.par r)&& !K.gd g m r) (λm=>V m r k) g.M^^^xs (λm=>K.gd g m r) (λm=>V m r k) g.M from by
  rw[<-qF λm _=>by cases K.gd g m r<;>simp];refine dL λm _=>⟨?_,λ_=>rfl⟩;by_cases e:m=g.par r
  .subst e;rw[bq.iX h];simp
  .cases K.gd g m r<;>simp[e]]
 rw[XM,Nat.xor_self,Nat.xor_zero]
section
def hv(a:Int)(e:TC):Bool:=match e.key with| .int .i64 b=>a==b|_=>false
def dM(a:Int):List TC->Nat->Option (Nat × H)
 | [],_=>none
 |e::b,i=>if hv a e then some (i,e.val)else dM a b (i+1)
def jC(b:List TC):Prop:=∀e∈b,∃a,e.key= Y a
theorem B_{b:Array TC}{c:Nat}(h:jC b.toList):ty (.map b c)=1000000:=by simp only[ty];rw[al];rw[XD];rintro⟨e,f,d⟩;obtain⟨a,g⟩:=h e f;rw[g]at d;cases d
theorem tF{a b:Int}{e:TC}(h:e.key= Y b):hv a e=(a==b):=by simp[hv,h]
theorem ni(a:Int):∀(c:List TC) (i:Nat),jC c->XB (.int .i64) (Y a) c i=some (dM a c i)
 | [],i,_=>rfl
 |e::c,i,h=>by obtain⟨b,d⟩:=h e RZ;have f:=ni a c (i+1) λg j=>h g (SG _ j);simp only[XB,dM,d,Instr.sameNow,if_true,tF d];cases k:(a==b)<;>simp[f]
theorem gV(a:Int):∀(b:List TC) (i:Nat),dM a b i=(dM a b 0).map λp=>(p.1+i,p.2)
 | [],_=>rfl
 |e::b,i=>by
  simp only[dM];split
  .simp
  .rw [gV a b (i+1),gV a b (0+1),YN];congr 1;funext p;simp;omega
theorem tG(a:Int):∀(b:List TC) (i:Nat) (v:H),dM a b 0=some (i,v)->∃e,b[i]?=some e/\hv a e=true/\e.val=v
 | [],_,_,h=>by cases h
 |e::b,i,v,h=>by
  simp only[dM]at h;split at h
  .rename_i d;cases h;exact⟨e,rfl,d,rfl⟩
  .rw [gV]at h;cases c:dM a b 0 with
   |none=>rw[c]at h;cases h
   |some p=>obtain⟨j,u⟩:=p;rw[c]at h;simp at h;obtain⟨rfl,rfl⟩:=h;obtain⟨f,g,k,l⟩:=tG a b j u c;exact⟨f,by simpa using g,k,l⟩
def IM(w:M)(d:Nat)(f:Int->Option H):Prop:=
 ∃c b,w.heap[d]?=some (.map c b)/\jC c.toList/\∀a,(dM a c.toList 0).map (·.2)=f a
theorem IM.out{S:Nat->Prop}{w w1:M}{a:Nat}{f:Int->Option H}(h:IM w a f)(b:Out S w w1)(d:¬S a):IM w1 a f:=by obtain⟨e,c,g,i,j⟩:=h;exact⟨e,c,b.heap g d,i,j⟩
theorem IM.lt{w:M}{a:Nat}{f:Int->Option H}(h:IM w a f):a<w.heap.size:=by obtain⟨d,c,b,e,g⟩:=h;exact Z_ b
theorem IM.made(w:M):IM (w.alloc (.map #[] 0)) w.heap.size λ_=>none:=⟨#[],0,QB _ _,λ_ h=>by simp at h,λ_=>rfl⟩
theorem IM.congr{w:M}{b:Nat}{f g:Int->Option H}(h:IM w b f)(e:∀a,f a=g a):IM w b g:=by obtain⟨d,c,i,j,k⟩:=h;exact⟨d,c,i,j,λa=>(k a).trans (e a)⟩
section
variable {P:Program}
theorem hz(b:Bool)(k:SQ)(a:Int)(w:M)(c:P.underlying k=some (.int .i64)):(VC b 10000 k (Y a)).run P w=.ok () w:=by unfold VC;simp[SS c]
theorem iB(k:SQ)(a:Int)(b:List TC)(w:M)(c:P.underlying k=some (.int .i64))(h:jC b):(XE k (Y a) b).run P w=.ok (dM a b 0) w:=by unfold XE;simp[SS c,ni a b 0 h]
theorem b_{w:M}{r:Nat}{b:Array TC}{a:Nat}(c:aX w r (.map b a)):(getObj r).run P w=.ok (.map b a) w:=by simp[getObj,ZQ,c]
theorem cf{w:M}{r:Nat}{b:Array TC}{a:Nat}(o:Obj)(c:aX w r (.map b a)):(setObj r o).run P w=.ok () (w.putObj r o):=by simp[setObj,ZQ,c,World.putObj]
theorem fz{w:M}{d:Nat}{f:Int->Option H}(h:IM w d f)(t k e:SQ)(z:H)(c:Bool)(j:P.underlying t=some (.map k e))(g:P.underlying k=some (.int .i64))(l:(zeroValue e).run P w=.ok z w)(a:Int):
  (UZ t (.map (some d)) (Y a) c).run P w=.ok (if c then .tuple #[(f a).getD z,.bool (f a).isSome]else(f a).getD z) w:=by
 obtain⟨m,r,n,o,q⟩:=h;have b:=q a;unfold UZ;simp only[RY,SS j,RG,VA,hz _ _ _ _ g,iB _ _ _ _ g o,b_ n];cases i:dM a m.toList 0 with
 |none=>rw[i]at b;simp only[VE]at b;rw[<-b];simp[l]
 |some p=>rw[i]at b;simp only[QY]at b;rw[<-b];simp
theorem Out.wy{S:Nat->Prop}{a w:M}(h:Out S a w){l:Nat}(d:l<a.heap.size->S l)(o:Obj):Out S a (w.putObj l o):=
 ⟨h.os,h.tape,h.output,by rw[WR];exact h.size,λk b c=>(TE (λe=>by subst e;exact c (d b))).trans (h.block k b c)⟩
theorem oB(a:Int)(v:H)(x:TC):∀(c:List TC) (i:Nat),(∀b,hv b x=(b==a))->x.val=v->dM a c i=none->∀b,(dM b (c++ [x]) i).map (·.2)=if b=a then some v else(dM b c i).map (·.2)
 | [],i,g,h,_,b=>by
  simp only[UN,dM,g b];by_cases e:b=a
  .simp [e,h]
  .simp [e]
 |y::c,i,g,h,f,b=>by
  simp only[UC,dM]at f|-;split at f
  .cases f
  .rename_i j;have k:=oB a v x c (i+1) g h f b;by_cases d:hv b y=true
   .rw [ak d,ak d,al];intro e;subst e;exact j d
   .rw [al d,al d,k]
theorem qG(a:Int)(v:H):∀(c:List TC) (i j:Nat) (u:H),dM a c i=some (i+j,u)->∀b,(dM b (c.modify j λe=>{e with key:= Y a,val:=v}) i).map (·.2)=if b=a then some v else(dM b c i).map (·.2)
 | [],_,_,_,h,_=>by cases h
 |y::c,i,j,u,h,b=>by
  simp only[dM]at h;split at h
  .rename_i d;simp at h;obtain⟨rfl,rfl⟩:=h;have g:hv b y=(b==a):=by unfold hv at d|-;cases l:y.key<;>simp[l]at d|-;rename_i m q;cases m<;>simp at d|-;rw[d]
   simp only[YP,dM,g];by_cases e:b=a
   .subst e;simp[hv]
   .have:hv b {y with key:= Y a,val:=v}=false:=by simp[hv,e]
    simp[e,this]
  .rename_i d;cases j with
   |zero=>
    have:=gV a c (i+1);rw[h]at this;cases k:dM a c 0 with
    |none=>rw[k]at this;cases this
    |some p=>rw[k]at this;simp at this;omega
   |succ j=>
    have n:=qG a v c (i+1) j u (by rw[h];congr 2;omega) b;simp only[YQ,dM];by_cases f:hv b y=true
    .rw [ak f,ak f,al];intro e;subst e;exact d f
    .rw [al f,al f,n]
theorem kf{w:M}{m:Nat}{f:Int->Option H}(h:IM w m f)(t k e:SQ)(U:P.underlying t=some (.map k e))(O:P.underlying k=some (.int .i64))(a:Int)(v:H):
  ∃D,(SZ t (.map (some m)) (Y a) v).run P w=.ok () D/\IM D m (λb=>if b=a then some v else f b)/\(∃o,ty o=1000000/\D=w.putObj m o):=by
 obtain⟨g,s,A,B,Q⟩:=h;have q:=Z_ A;unfold SZ;simp only[RY,SS U,RG,hz _ _ _ _ O,iB _ _ _ _ O B,b_ A];cases E:dM a g.toList 0 with
 |none=>
  have d:jC (g.push {key:= Y a,val:=v,born:=s}).toList:=by
   intro x C;simp at C;rcases C with C|rfl
   .exact B x (by simpa using C)
   .exact ⟨a,rfl⟩
  refine⟨w.putObj m (.map (g.push {key:= Y a,val:=v,born:=s}) (s+1)),cf _ A,⟨_,_,SO q,d,λb=>?_⟩,_,B_ d,rfl⟩
  .rw [Array.toList_push,oB a v _ _ _ (λb=>by simp[hv]) rfl E b,Q b]
 |some p=>
  obtain⟨i,u⟩:=p;obtain⟨x,r,l,V⟩:=tG a _ i u E;have F:g[i]?=some x:=by simpa using r
  have G:x.key= Y a:=by obtain⟨c,S⟩:=B x (QV r);rw[tF S]at l;rw[S];simp at l;rw[l]
  have K:(WJ (((g[i]?).map (·.key)).getD (Y a)) (Y a)).run P w=.ok (Y a) w:=by rw[F];simp[G,WJ,XN]
  simp only[RY,K,RG];have d:jC (g.modify i λe=>{e with key:= Y a,val:=v}).toList:=by
   intro y T;rw[VM,TV]at T;obtain⟨j,n⟩:=T;rw[ZL]at n;cases L:g.toList[j]? with
   |none=>rw[L]at n;simp at n
   |some z=>
    rw[L]at n;simp at n;subst n;split
    .exact ⟨a,rfl⟩
    .exact B z (QV L)
  refine⟨w.putObj m (.map (g.modify i λe=>{e with key:= Y a,val:=v}) s),cf _ A,⟨_,_,SO q,d,λb=>?_⟩,_,B_ d,rfl⟩
  .rw [VM,qG a v _ 0 i u (by rw[E,RE]) b,Q b]
theorem ib{w:M}{a:Nat}{f:Int->Option H}(h:IM w a f)(t b k e:SQ)(i:P.underlying t=some (.map k e)):
  ∃c,(Builtin.clear_ #[t] b #[.map (some a)]).run P w=.ok (.tuple #[]) c/\IM c a (λ_=>none)/\(∃o,ty o=1000000/\c=w.putObj a o):=by
 obtain⟨l,j,d,m,n⟩:=h;have g:=Z_ d;refine⟨w.putObj a (.map #[] j),?_,⟨_,_,SO g,λ_ h=>by simp at h,λ_=>rfl⟩,_,rfl,rfl⟩;unfold Builtin.clear_;simp[SS i,b_ d,cf _ d]
end
end
section
open Go.Maps
def R0(_:H):Option (DataW Unit × List MemPlace):=some (.lit (.bool true),[])
def nQ(f:Nat->Option H)(a:Int):Option H:=if 0<=a then f a.toNat else none
structure KM(w:M)(ms n:Nat)(f:Nat->Option H):Prop where
 im:IM w ms (nQ f)
 own:∃D:DataW Unit,w.ownsMap prog 3 R0 ms n D/\Tidy D/\∀a:Int,has D (.int .i64 a)=(nQ f a).isSome
theorem KM.lt{f:Nat->Option H}(h:KM w m n f):m<w.heap.size:=h.im.lt
theorem KM.out{w w1:M}{f:Nat->Option H}(h:KM w m n f)(a:Out S w w1)(b:¬S m):KM w1 m n f:=by obtain⟨D,⟨c,d,e,g⟩,i⟩:=h.own;exact⟨h.im.out a b,D,⟨c,d,a.heap e b,g⟩,i⟩
theorem KM.below{f:Nat->Option H}(h:KM w m n f)(a:aq w W):KM W m n f:=h.out (Out.af (S:=λ_=>False) a) id
theorem KM.congr{f g:Nat->Option H}(h:KM w m n f)(e:∀a,f a=g a):KM w m n g:=by have:f=g:=funext e;rw[<-this];exact h
theorem KM.mono{f:Nat->Option H}(h:KM w m n f)(a:n<=k):KM w m k f:=by obtain⟨D,b,c⟩:=h.own;exact⟨h.im,D,b.mono a,c⟩
theorem KM.made(w:M):KM (w.alloc (.map #[] 0)) w.heap.size 0 λ_=>none:=by
 refine⟨(IM.made w).congr λa=>?_,.map [],World.ownsMap_made w _ _ _,tidy_empty,λa=>?_⟩
 .unfold nQ;split<;>rfl
 .unfold nQ;split<;>rfl
theorem IL(h:n<=1000000):(Lit.int .i64 (n:Nat)).wf=true:=by simp only[Lit.wf,VN,decide_eq_true_eq];have a:QG.min<=(0:Int):=ai;have b:(1000000:Int)<=QG.max:=ai;have c:(0:Int)<=(n:Nat):=Int.natCast_nonneg n;have d:((n:Nat):Int)<=1000000:=J;exact⟨Int.le_trans a c,Int.le_trans d b⟩
theorem du{f:Nat->Option H}(h:KM w m n f)(t e:SQ)(z:H)(c:Bool)(b:prog.underlying t=some (.map 3 e))(d:(zeroValue e).run prog w=.ok z w)(a:Nat):
  (UZ t (.map (some m)) (Y a) c).run prog w=.ok (if c then .tuple #[(f a).getD z,.bool (f a).isSome]else(f a).getD z) w:=by
 have:=fz h.im t 3 e z c b XF d (a:Nat);have e:nQ f (a:Nat)=f a:=by simp[nQ]
 rw[e]at this;exact this
theorem tH(f:Nat->Option H)(a:Nat)(v:H)(b:Int):(if b=(a:Nat)then some v else nQ f b)=nQ (λc=>if c=a then some v else f c) b:=by
 unfold nQ;by_cases h:0<=b
 .rw [ak h,ak h];by_cases e:b=(a:Nat)
  .subst e;simp
  .rw [al e];show f b.toNat=if b.toNat=a then some v else f b.toNat
   rw[al];omega
 .rw [al h,al h,al];omega
theorem hc{f:Nat->Option H}(h:KM w m n f)(B:n<=1000000)(t e:SQ)(g:prog.underlying t=some (.map 3 e))(q:i<=1000000)(v:H):
  ∃c,(SZ t (.map (some m)) (.int .i64 (i:Nat)) v).run prog w=.ok () c/\KM c m (n+1) (λb=>if b=i then some v else f b)/\Out (λk=>k=m) w c:=by
 obtain⟨D,r,j,s⟩:=h.own;obtain⟨u,l,x,o,_,C⟩:=kf h.im t 3 e g XF (i:Nat) v;obtain⟨E,p,y,a⟩:=r.update (int_keyed XF) g (by simp[UE];omega) (keyOf_int_mk XF (IL q)) (val:=v) (d:=.lit (.bool true)) (ps:= []) rfl;rw[l]at p;cases p;refine⟨u,l,⟨x.congr λb=>tH f i v b,_,y,j.put (k:=.int .i64 (i:Nat)) (by trivial) _,λb=>?_⟩,⟨a.os,a.tape,a.output,a.size,λk z A=>a.block k z λe=>A (by cases e;rfl)⟩⟩;by_cases e:b=(i:Nat)
 .subst e;rw[has_put_same (k:=.int .i64 (i:Nat)) j.isMap (by trivial)];simp[nQ]
 .rw [has_put_other (λh=>e (by cases h;rfl)),s b,<-tH f i v b,al e]
theorem KM.keys{f:Nat->Option H}(h:KM w m n f)(u:∀a,k<=a->f a=none):∃D:DataW Unit,w.ownsMap prog 3 R0 m n D/\((ZZ k λa=>(f a).isSome).map λa=>((a:Nat):Int)).Perm (intKeys D):=by
 obtain⟨D,s,⟨G,rfl,j⟩,v⟩:=h.own;refine⟨_,s,perm_intKeys j ?_ ?_ λx=>?_⟩
 .intro p j;obtain⟨d,K,L,A,O,B⟩:=s;have g:p∈(d.toList.map (YJ prog 3 R0)).foldr XJ []:=by cases B;exact j
  have:∀(l:List (Lit × DataW Unit)),p∈l.foldr XJ []->p∈l:=λl=>by
   induction l with
   |nil=>exact id
   |cons x r o=>
    intro C;have i:∀(y:Lit × DataW Unit) (r:List (Lit × DataW Unit)),p∈XJ y r->p=y\/p∈r:=λy r=>by
     induction r with
     |nil=>intro h;simpa[XJ]using h
     |cons z r o=>
      intro h;unfold XJ at h;split at h
      .simpa using h
      .rcases UH.1 h with h|h
       .exact .inr (by rw[h];exact RZ)
       .exact (o h).imp id (SG _)
    rcases i _ _ C with h|h
    .rw [h];exact RZ
    .exact SG _ (o h)
  obtain⟨x,c,rfl⟩:=RK.1 (this _ g);obtain⟨y,t⟩:=A.reads x c;have E:=Go.WideElems.rd_key t;obtain⟨a,_,q,_⟩:=Maps.keyOf_i64 XF E;refine⟨a,?_⟩;unfold YJ;rw[t];exact q
 .exact XZ.2 ((wu _ _).imp λ{a b} h e=>h J)
 .rw [v x,RK];constructor
  .rintro ⟨a,q,rfl⟩;simp only[nQ,Int.natCast_nonneg,if_true,Int.toNat_natCast];exact(br.1 q).2
  .intro c;unfold nQ at c;split at c
   .rename_i P;refine⟨x.toNat,br.2 ⟨?_,c⟩,J⟩;by_cases F:x.toNat<k
    .exact F
    .rw [u _ J]at c;cases c
   .cases c
end
section
open Go.Maps Go.Sort Go.Shelf
def qH:ZC:=⟨fun|7=>252|10=>297|n=>n,fun|23=>338|26=>3|3=>339|28=>341|0=>0|27=>243|33=>109|4=>4|n=>n,fun|n=>n⟩
theorem HS:SlLaysZI.n7 prog qH:={
 mixed:=aE
 f7:=⟨Tryz.f252.name,ai,func252.trans (congrArg some aE)⟩
 f10:=⟨Tryz.f297.name,ai,func297.trans (congrArg some aE)⟩
 t0:=underlying0
 a0:=isAgg0
 z0:=sizeOf0
 v0:=zeroValue0
 t4:=underlying4
 a4:=isAgg4
 z4:=sizeOf4
 v4:=zeroValue4
 t23:=YU
 a23:=isAgg338
 z23:=sizeOf338
 v23:=zeroValue338
 t26:=XF
 a26:=isAgg3
 z26:=sizeOf3
 v26:=zeroValue3
 t27:=underlying243
 a27:=isAgg243
 z27:=sizeOf243
 v27:=zeroValue243
 t28:=underlying341
 a28:=isAgg341
 z28:=sizeOf341
 v28:=zeroValue341
 t33:=underlying109
 a33:=isAgg109
 z33:=sizeOf109
 v33:=zeroValue109}
def qI:ZC:=⟨fun|7=>253|10=>298|n=>n,fun|23=>339|26=>3|3=>206|28=>341|0=>0|27=>243|33=>109|4=>4|n=>n,fun|n=>n⟩
theorem HT:SlLaysZI.n7 prog qI:={
 mixed:=aE
 f7:=⟨Tryz.f253.name,ai,func253.trans (congrArg some aE)⟩
 f10:=⟨Tryz.f298.name,ai,func298.trans (congrArg some aE)⟩
 t0:=underlying0
 a0:=isAgg0
 z0:=sizeOf0
 v0:=zeroValue0
 t4:=underlying4
 a4:=isAgg4
 z4:=sizeOf4
 v4:=zeroValue4
 t23:=underlying339
 a23:=isAgg339
 z23:=sizeOf339
 v23:=zeroValue339
 t26:=XF
 a26:=isAgg3
 z26:=sizeOf3
 v26:=zeroValue3
 t27:=underlying243
 a27:=isAgg243
 z27:=sizeOf243
 v27:=zeroValue243
 t28:=underlying341
 a28:=isAgg341
 z28:=sizeOf341
 v28:=zeroValue341
 t33:=underlying109
 a33:=isAgg109
 z33:=sizeOf109
 v33:=zeroValue109}
def nj:ZC:=⟨fun|6=>251|8=>295|9=>296|11=>323|13=>325|12=>324|23=>353|24=>354|14=>344|15=>345|16=>346|17=>347|18=>348|19=>349|20=>350|21=>351|22=>352|25=>370|26=>371|27=>372|28=>373|29=>374|30=>375|31=>385|n=>n,fun|26=>3|28=>341|24=>82|0=>0|3=>3|37=>157|48=>224|50=>87|4=>4|40=>445|39=>444|45=>386|5=>5|9=>9|51=>460|55=>214|57=>469|58=>470|33=>109|n=>n,fun|n=>n⟩
theorem yu:SlLaysZI.n6 prog nj:={
 mixed:=aE
 f6:=⟨Tryz.f251.name,ai,func251.trans (congrArg some aE)⟩
 f8:=⟨Tryz.f295.name,ai,func295.trans (congrArg some aE)⟩
 f11:=⟨Tryz.f323.name,ai,func323.trans (congrArg some aE)⟩
 t0:=underlying0
 a0:=isAgg0
 z0:=sizeOf0
 v0:=zeroValue0
 t24:=YC
 a24:=isAgg82
 z24:=sizeOf82
 v24:=zeroValue82
 t26:=XF
 a26:=isAgg3
 z26:=sizeOf3
 v26:=zeroValue3
 t28:=underlying341
 a28:=isAgg341
 z28:=sizeOf341
 v28:=zeroValue341
 i26:=by kernel_rfl}
def zM:ZC:=⟨fun|5=>296|8=>325|7=>324|19=>353|20=>354|10=>344|11=>345|12=>346|13=>347|14=>348|15=>349|16=>350|17=>351|18=>352|30=>370|31=>371|32=>372|33=>373|34=>374|35=>375|40=>385|n=>n,fun|23=>82|25=>3|3=>3|32=>157|22=>82|0=>0|44=>224|46=>87|4=>4|36=>445|35=>444|41=>386|5=>5|9=>9|53=>460|57=>214|63=>469|64=>470|n=>n,fun|n=>n⟩
theorem HU:SlLaysM.n5 prog zM:={
 mixed:=aE
 f5:=⟨Tryz.f296.name,ai,func296.trans (congrArg some aE)⟩
 f7:=⟨Tryz.f324.name,ai,func324.trans (congrArg some aE)⟩
 f8:=func325.trans (congrArg some aE)
 f10:=⟨Tryz.f344.name,ai,func344.trans (congrArg some aE)⟩
 f11:=⟨Tryz.f345.name,ai,func345.trans (congrArg some aE)⟩
 f12:=⟨Tryz.f346.name,ai,func346.trans (congrArg some aE)⟩
 f13:=⟨Tryz.f347.name,ai,func347.trans (congrArg some aE)⟩
 f14:=⟨Tryz.f348.name,ai,func348.trans (congrArg some aE)⟩
 f15:=⟨Tryz.f349.name,ai,func349.trans (congrArg some aE)⟩
 f16:=⟨Tryz.f350.name,ai,func350.trans (congrArg some aE)⟩
 f17:=⟨Tryz.f351.name,ai,func351.trans (congrArg some aE)⟩
 f18:=⟨Tryz.f352.name,ai,func352.trans (congrArg some aE)⟩
 f19:=func353.trans (congrArg some aE)
 f20:=func354.trans (congrArg some aE)
 f30:=⟨Tryz.f370.name,ai,func370.trans (congrArg some aE)⟩
 f31:=func371.trans (congrArg some aE)
 f32:=func372.trans (congrArg some aE)
 f33:=⟨Tryz.f373.name,ai,func373.trans (congrArg some aE)⟩
 f34:=⟨Tryz.f374.name,ai,func374.trans (congrArg some aE)⟩
 f35:=⟨Tryz.f375.name,ai,func375.trans (congrArg some aE)⟩
 f40:=⟨Tryz.f385.name,ai,func385.trans (congrArg some aE)⟩
 t0:=underlying0
 a0:=isAgg0
 z0:=sizeOf0
 v0:=zeroValue0
 t3:=XF
 a3:=isAgg3
 z3:=sizeOf3
 v3:=zeroValue3
 t4:=underlying4
 a4:=isAgg4
 z4:=sizeOf4
 v4:=zeroValue4
 t5:=UA
 a5:=isAgg5
 z5:=sizeOf5
 v5:=zeroValue5
 t9:=underlying9
 a9:=isAgg9
 z9:=sizeOf9
 v9:=zeroValue9
 t22:=YC
 a22:=isAgg82
 z22:=sizeOf82
 v22:=zeroValue82
 t23:=YC
 a23:=isAgg82
 z23:=sizeOf82
 v23:=zeroValue82
 t25:=XF
 a25:=isAgg3
 z25:=sizeOf3
 v25:=zeroValue3
 t32:=underlying157
 a32:=isAgg157
 z32:=sizeOf157
 v32:=zeroValue157
 t35:=underlying444
 a35:=isAgg444
 z35:=sizeOf444
 v35:=zeroValue444
 t36:=underlying445
 a36:=isAgg445
 z36:=sizeOf445
 v36:=zeroValue445
 t41:=underlying386
 a41:=isAgg386
 z41:=sizeOf386
 v41:=zeroValue386
 t44:=underlying224
 a44:=isAgg224
 z44:=sizeOf224
 v44:=zeroValue224
 t46:=underlying87
 a46:=isAgg87
 z46:=sizeOf87
 v46:=zeroValue87
 t53:=underlying460
 a53:=isAgg460
 z53:=sizeOf460
 v53:=zeroValue460
 t57:=underlying214
 a57:=isAgg214
 z57:=sizeOf214
 v57:=zeroValue214
 t63:=underlying469
 a63:=isAgg469
 z63:=sizeOf469
 v63:=zeroValue469
 t64:=underlying470
 a64:=isAgg470
 z64:=sizeOf470
 v64:=zeroValue470}
theorem B'(m:Nat):AnyZI.SortsIn prog nj TT m:=
 ⟨λc d a f W g b e=>UR.2 (AnyM.slices_Sort_int HU c d a f W g b e),
  λp a W=>UR.2 (AnyM.slices_Sort_int_none HU p a W)⟩
def iC(l:List Nat)(w:M)(e:RV)(b:M):Prop:=
 ∃v,aL e v/\b.ownsRow w.heap.size 3 1 v l.length (l.map λa=>SJ .i64 (a:Nat))/\aq w b
theorem zN(a:Option Nat)(W:M):aF 252 #[.map a] W λe b=>aL e (.func (.func 297) #[] #[ar W.heap.size])/\b=W.alloc (N #[.map a] 338):=
 (UR (n:=5)).1 (AnyZI.keys_in HS TT 5 trivial rfl a W)
theorem zO(a:Option Nat)(W:M):aF 253 #[.map a] W λe b=>aL e (.func (.func 298) #[] #[ar W.heap.size])/\b=W.alloc (N #[.map a] 339):=
 (UR (n:=5)).1 (AnyZI.keys_in HT TT 5 trivial rfl a W)
theorem nk{f:List Int}{D:DataW Unit}{p:Nat->Bool}(d:f.Perm (intKeys D))(e:((ZZ n p).map λa=>((a:Nat):Int)).Perm (intKeys D)):f.mergeSort (λx y=>decide (x<=y))=(ZZ n p).map λa=>((a:Nat):Int):=by
 have h:=d.trans e.symm;have i:∀a b c:Int,decide (a<=b)=true->decide (b<=c)=true->decide (a<=c)=true:=λa b c d e=>by simp only[decide_eq_true_eq]at*;exact Int.le_trans d e
 have g:∀a b:Int,(decide (a<=b)||decide (b<=a))=true:=λa b=>by simp only[Bool.or_eq_true,decide_eq_true_eq];exact Int.le_total a b
 refine List.Perm.eq_of_pairwise (le:=λa b=>decide (a<=b)=true) (λa b _ _ d e=>?_) (List.pairwise_mergeSort i g f) ?_ ((List.mergeSort_perm f _).trans h)
 .simp only[decide_eq_true_eq]at d e;exact Int.le_antisymm d e
 .refine XZ.2 ((iW n p).imp λ{a b} h=>?_);simp only[decide_eq_true_eq];omega
theorem tI(g b n L:Nat)(f:Nat->Option H)(w:M)(j:aX w g (N #[.map (some b)] 338))(h:KM w b n f)(x:n<=1000000)(p:∀a,L<=a->f a=none):
  aF 251 #[.func (.func 297) #[] #[ar g]] w (iC (ZZ L λa=>(f a).isSome) w):=by
 refine(UR (n:=5)).1 ?_;obtain⟨D,k,l⟩:=h.keys p;have q:Maps.size D<=n:=by obtain⟨r,y,_,_,s,rfl⟩:=k;show((r.toList.map (YJ prog 3 R0)).foldr XJ []).length<=n;rw[length_sorted];simpa using s
 have d:SeqGives TT 2 prog 297 #[ar g] encZ (λi=>i.Perm (intKeys D)) (Maps.size D) w:=
  AnyZI.keys_gives (ρ:=qH) {HS with} TT _ trivial rfl J g b n D w (Z_ j) ((cr j).1 0) k
 have m:=AnyZI.sorted_in yu TT 5 trivial trivial trivial trivial rfl J (B' _) (RH func296 aE rfl) 297 #[ar g] trivial (RH func297 aE rfl) _ _ (by simp[UE];omega) J _ d;change CallsIn _ _ prog 251 _ _ _ at m;refine m.mono ?_;rintro e z ⟨v,i,rfl,o,c,-,t⟩;have u:i.length=(ZZ L λa=>(f a).isSome).length:=by have:=(o.trans l.symm).length_eq;rw[this,RB]
 rw[nk o l,List.map_map,u]at c;exact⟨v,rfl,c,t⟩
theorem tJ(g b n L:Nat)(f:Nat->Option H)(w:M)(j:aX w g (N #[.map (some b)] 339))(h:KM w b n f)(x:n<=1000000)(p:∀a,L<=a->f a=none):
  aF 251 #[.func (.func 298) #[] #[ar g]] w (iC (ZZ L λa=>(f a).isSome) w):=by
 refine(UR (n:=5)).1 ?_;obtain⟨D,k,l⟩:=h.keys p;have q:Maps.size D<=n:=by obtain⟨r,y,_,_,s,rfl⟩:=k;show((r.toList.map (YJ prog 3 R0)).foldr XJ []).length<=n;rw[length_sorted];simpa using s
 have d:SeqGives TT 2 prog 298 #[ar g] encZ (λi=>i.Perm (intKeys D)) (Maps.size D) w:=
  AnyZI.keys_gives (ρ:=qI) {HT with} TT _ trivial rfl J g b n D w (Z_ j) ((cr j).1 0) k
 have m:=AnyZI.sorted_in yu TT 5 trivial trivial trivial trivial rfl J (B' _) (RH func296 aE rfl) 298 #[ar g] trivial (RH func298 aE rfl) _ _ (by simp[UE];omega) J _ d;change CallsIn _ _ prog 251 _ _ _ at m;refine m.mono ?_;rintro e z ⟨v,i,rfl,o,c,-,t⟩;have u:i.length=(ZZ L λa=>(f a).isSome).length:=by have:=(o.trans l.symm).length_eq;rw[this,RB]
 rw[nk o l,List.map_map,u]at c;exact⟨v,rfl,c,t⟩
end
theorem ZW(n:Nat)(h:n<4294967296):(UK 32 (n:Int)).toNat=n:=by rw[WX,XK];exact SA J
theorem n_(a b:Nat)(c:a<4294967296)(d:b<4294967296):bits .xor .u32 (a:Int) (b:Int)=((a^^^b:Nat):Int):=by have e:a^^^b<2^32:=XT J J;show IntKind.u32.wrap ((UK 32 (a:Int)^^^UK 32 (b:Int)).toNat:Int)=_;rw[BitVec.toNat_xor,ZW a c,ZW b d,IntKind.wrap_u32];omega
theorem rW(a b:Nat)(c:a<4294967296)(d:b<4294967296):bits .and .u32 (a:Int) (b:Int)=((a&&&b:Nat):Int):=by have e:a&&&b<2^32:=Nat.and_lt_two_pow _ J;show IntKind.u32.wrap ((UK 32 (a:Int)&&&UK 32 (b:Int)).toNat:Int)=_;rw[BitVec.toNat_and,ZW a c,ZW b d,IntKind.wrap_u32];omega
def IN(n:Nat):Nat:=(n/2)^^^(2197175160*(n&&&1)%4294967296)
def nl(n:Nat):Nat->Nat
 |0=>n
 |k+1=>IN (nl n k)
def zP(i:Nat):Nat:=nl i 4
def wz(n:Nat):Nat:=(n/16)^^^zP (n&&&15)
def iD(n:Nat)(f:aN):Nat->Nat
 |0=>n
 |k+1=>wz (wz (iD n f k^^^f k))
def oC(n:Nat):Nat:=4294967295^^^n
def dN(s L:Nat)(f:aN):Nat:=oC (iD (oC s) f L)
theorem KQ(a:m<4294967296)(b:k<4294967296):m^^^k<4294967296:=XT (n:=32) J J
theorem Fz(n:Nat)(h:n<4294967296):IN n<4294967296:=KQ J (SC _ J)
theorem tK(n k:Nat)(h:n<4294967296):nl n k<4294967296:=by
 induction k with
 |zero=>exact h
 |succ k a=>exact Fz _ a
theorem tL(n:Nat):n&&&15<16:=Nat.lt_succ_of_le Nat.and_le_right
theorem yv(n:Nat):zP (n&&&15)<4294967296:=tK _ _ (by have:=tL n;omega)
theorem rX(n:Nat)(h:n<4294967296):wz n<4294967296:=KQ J (yv n)
theorem oD(n:Nat)(f:aN)(L:Nat)(h:n<4294967296)(a:∀k,k<L->f k<256):iD n f L<4294967296:=by
 induction L with
 |zero=>exact h
 |succ k b=>exact rX _ (rX _ (KQ (b λj c=>a j J) (by have:=a k J;omega)))
theorem rY(n:Nat)(h:n<4294967296):oC n<4294967296:=KQ J h
theorem gW(s L:Nat)(f:aN)(h:s<4294967296)(a:∀k,k<L->f k<256):dN s L f<4294967296:=rY _ (oD _ f L (rY _ h) a)
theorem IP(n:Nat)(h:n<4294967296):bits .xor .u32 ((n:Int)/2) (2197175160*bits .and .u32 (n:Int) 1%4294967296)=((IN n:Nat):Int):=by have a:bits .and .u32 (n:Int) 1=((n&&&1:Nat):Int):=rW n 1 h J;rw[a];exact n_ (n/2) (2197175160*(n&&&1)%4294967296) J (SC _ J)
def bu(n:Nat)(f:Nat->H):Array H:=((TQ n).map f).toArray
theorem zQ(n:Nat)(f:Nat->H):(bu n f).size=n:=by simp[bu]
theorem cg(n:Nat)(f:Nat->H)(k:Nat)(h:k<n):(bu n f)[k]?=some (f k):=by simp[bu,h]
theorem k'{f g:Nat->H}(h:∀k,k<n->f k=g k):bu n f=bu n g:=by unfold bu;congr 1;exact UX λx a=>h x (by simpa using a)
theorem eQ(n:Nat)(f:Nat->H)(i:Nat)(v:H):(bu n f).setIfInBounds i v=bu n λk=>if k=i then v else f k:=by
 apply Array.ext
 .simp [bu]
 .intro k b c;by_cases h:i=k
  .subst h;simp[bu]
  .have a:¬k=i:=λe=>h e.symm;simp[bu,h,a]
def qj(k i:Nat):H:=.int .u32 (if i<k then zP i else 0)
theorem Ca(k:Nat):(bu 16 (qj k)).setIfInBounds k (.int .u32 (nl k 4:Nat))=bu 16 (qj (k+1)):=by
 rw[eQ];refine k' λi _=>?_;unfold qj zP;by_cases h:i=k
 .subst h;simp
 .rw [al h];by_cases a:i<k
  .rw [ak a,ak J]
  .rw [al a,al J]
def kD:Array H:=bu 16 (qj 16)
theorem rZ:(prog.info? 369).map (·.size)=some 16:=aE
theorem tM{f:Nat->H}(h:∀i,i<n->(f i).oneCell'=true):∀v∈(bu n f).toList,v.oneCell'=true:=by intro x a;simp only[bu,RK,TY]at a;obtain⟨i,b,rfl⟩:=a;exact h i b
theorem Pp(h:SK n w W)(b:n<=m)(a:Array H):SK n w (W.setRow m a):=
 h.trans ⟨rfl,rfl,rfl,aJ,λk c=>setRow_other W m k a J⟩
theorem Cb(w:M):aF 291 #[] w λe s=>aL e (.agg kD)/\SK w.heap.size w s:=by
 go_enter func291,ntmps291;go_wp2;obtain⟨W,c⟩:=ah (w.alloc (N #[.int .u32 0,.int .u32 0,.int .u32 0,.int .u32 0,.int .u32 0,.int .u32 0,.int .u32 0,.int .u32 0,.int .u32 0,.int .u32 0,.int .u32 0,.int .u32 0,.int .u32 0,.int .u32 0,.int .u32 0,.int .u32 0] 369));have m:QX (aX W w.heap.size (N (bu 16 (qj 0)) 369)/\SK w.heap.size w W):=by rw[<-c];exact⟨QB w _,aK aj _⟩
 rw[c];clear c;obtain⟨g,b⟩:=ah w.heap.size;have t:=I b;rw[b];rw[b]at m;clear b;go_loopw [3] (λd wr=>∃k:Nat,k<=16/\d= Y k/\QX (aX wr g (N (bu 16 (qj k)) 369)/\SK g w wr)) (λd _=>16-(intOf d).toNat)
 case atStart=>exact⟨0,J,rfl,m⟩
 case round=>
  obtain⟨k,C,rfl,a⟩:=hrel;by_cases f:k<16
  .have u:(k:Int)%4294967296=k:=J;go_wp2;go_loop [2,8] (λv h=>∃j:Nat,j<=4/\h= Y j/\v=.int .u32 (nl k j:Nat)) (λ_ h=>4-(intOf h).toNat)
   case atStart=>exact⟨0,J,rfl,rfl⟩
   case round=>
    obtain⟨j,D,rfl,rfl⟩:=hrel;by_cases x:j<4
    .have o:=I (IP (nl k j) (tK _ _ J));obtain⟨n,i⟩:=ah (nl k j);have y:=I i;rw[i]at o|-;clear i;go_wp2;rw[o.out];go_round
     case rel=>exact⟨j+1,J,by go_num,by rw[<-y.out];rfl⟩
     case measure=>simp[intOf];omega
    .obtain rfl:j=4:=J;obtain⟨q,E,c3⟩:=cr a.1;have c4:wr.cell? (R g k)=some (qj k k):=by rw[q];exact cg _ _ _ f
     have F:(0:Int)<=k:=J;clear q;go_wp2;go_roundw
     case rel=>refine⟨k+1,J,by go_num,?_,a.2.setCell (p:=R g k) (QE _) _⟩;have r:=heap_setCell_same wr g k _ _ (.int .u32 (nl k 4:Nat)) a.1;rw[Ca]at r;exact r
     case measure=>simp[intOf];omega
  .obtain rfl:k=16:=J;have l:=a.1;have z:(storeCells (R g 0) kD.toList).run prog wr=.ok () (wr.setRow g kD):=by have:=run_storeCells_from (P:=prog) g 369 kD.toList 0 kD wr l aJ (tM λ_ _=>rfl);simpa using this
   go_wp2_with(refine wpList_load_row rfl 369 _ rfl g rfl 369 kD (0,0) _ l underlying369 rfl (by rw[rZ];rfl) ?_);have A:=setRow_heap wr g _ kD _ _ l;have B:SK g w (wr.setRow g kD):=Pp a.2 (QE _) _;exact QT (results_cell_row rfl _ _ g 369 kD (0,0) _ rfl A underlying369 rfl (by rw[rZ];rfl)) rfl ⟨rfl,t▸B⟩
theorem Cc(n:Nat)(h:n<4294967296):bits .xor .u32 IntKind.u32.max (n:Int)=((oC n:Nat):Int):=n_ 4294967295 n J h
theorem Cd(n:Nat)(h:n<4294967296):bits .xor .u32 ((n:Int)/16) ((zP (n&&&15):Nat):Int)=((wz n:Nat):Int):=n_ (n/16) _ J (yv n)
theorem tO(s L:Nat)(v:QC)(f:aN)(w:QA)(F:s<4294967296)(h:kc w v L f)(Z:∀k,k<L->f k<256)(a3:L<=140737488355328):
  aF 247 #[.int .u32 s,v] w λe H=>aL e (.int .u32 (dN s L f:Nat))/\aq w H:=by
 obtain⟨a,N,rfl,h⟩:=h;have M:=ad h;have y:=ad Z;go_enter func247,ntmps247;go_wp2_with fail;refine(Cb w).mono ?_;rintro e c ⟨rfl,R⟩;have q:=ad R;have I:(storeCells (ag c.heap.size 0) kD.toList 0).run prog (c.alloc (ao #[.int .u32 0,.int .u32 0,.int .u32 0,.int .u32 0,.int .u32 0,.int .u32 0,.int .u32 0,.int .u32 0,.int .u32 0,.int .u32 0,.int .u32 0,.int .u32 0,.int .u32 0,.int .u32 0,.int .u32 0,.int .u32 0] 369))=.ok () (c.alloc (ao kD 369)):=
  run_storeCells_new c 369 _ kD (by rw[rZ];rfl) rfl (by rw[Array.all_eq_true_iff_forall_mem];intro x z;exact tM (n:=16) (f:=qj 16) (λ_ _=>rfl) x (by rw[Array.mem_toList_iff];exact z))
 go_wp2;obtain⟨W,G⟩:=ah (c.alloc (ao kD 369));have t:QX (aX W c.heap.size (ao kD 369)/\aq w W/\∀k,k<L->∃b o,a=some (ag b o)/\W.cell? ⟨b,o+k,none⟩=some (.int .u8 (f k))):=by
  rw[<-G];refine⟨QB c _,aK q _,λk A=>?_⟩;rcases M.out with K|⟨b,o,e,O⟩
  .omega
  .exact ⟨b,o,e,by rw[(aK q.out _).cell (p:=⟨b,o+k,none⟩) (QN w _ (O k A))];exact O k A⟩
 rw[G];obtain⟨g,Y⟩:=ah c.heap.size;rw[Y]at t|-;have P:QX (∀i,i<16->W.cell? (ag g i)=some (.int .u32 (zP i:Nat))):=λi Q=>by rw[(cr t.1).1,show kD=bu 16 (qj 16)from rfl,cg _ _ _ Q];unfold qj;rw[ak Q]
 rw[Cc s F];have S:=rY s F;go_loop [6,14] (λJ l=>∃k:Nat,k<=L/\l= ae k/\J=.int .u32 (iD (oC s) f k:Nat)) (λ_ l=>L-(intOf l).toNat)
 case atStart=>exact⟨0,QO _,rfl,rfl⟩
 case round=>
  obtain⟨k,A,rfl,rfl⟩:=hrel;by_cases r:k<L
  .obtain ⟨b,o,rfl,c1⟩:=t.2.2 k r;have z:=y.out k r;have T:=oD (oC s) f k S λj a4=>y.out j aa;have u:QX (iD (oC s) f (k+1)=wz (wz (iD (oC s) f k^^^f k))):=rfl;have B:=n_ (iD (oC s) f k) (f k) T aa;have e_:=KQ T (show f k<4294967296 by omega);have eZ:=rX _ e_;obtain⟨n0,K⟩:=ah (iD (oC s) f k);rw[K]at u B e_ eZ|-;obtain⟨d,h1⟩:=ah (n0^^^f k);rw[h1]at u B e_ eZ;obtain⟨x,C⟩:=ah (f k);rw[C]at c1 B z;have U:=rW d 15 e_ aa;have c2:=P.out (d&&&15) (tL d);have V:=Cd d e_;obtain⟨m,h2⟩:=ah (wz d);rw[h2]at u V eZ;have X:=rW m 15 eZ aa;have c3:=P.out (m&&&15) (tL m);have e5:=Cd m eZ;have j1:=tL d;have j2:=tL m;obtain⟨q1,D⟩:=ah (d&&&15);obtain⟨q2,E⟩:=ah (m&&&15);rw[D]at U c2 V j1;rw[E]at X c3 e5 j2;have a0:bits .and .u32 (d:Int) 15=(q1:Int):=U;have a1:bits .and .u32 (m:Int) 15=(q2:Int):=X;have i1:(0:Int)<=k:=aa;have i2:(k:Int)<L:=aa;go_wp2;go_round
   case rel=>exact⟨k+1,aa,by go_num,by rw[u.out]⟩
   case measure=>simp[intOf];omega
  .obtain rfl:k=L:=aa;have a2:=ad (Cc (iD (oC s) f k) (oD _ f k S y));go_wp2;go_ret;exact⟨by rw[a2.out];rfl,t.2.1⟩
theorem jD(L:Nat)(v:H)(f:aN)(w:M)(h:kc w v L f)(a:∀k,k<L->f k<256)(b:L<=140737488355328):
  aF 160 #[v] w λe c=>aL e (.int .u32 (dN 0 L f:Nat))/\aq w c:=by
 have d:=I (tO 0 L v f w J h a b);go_enter func160,ntmps160;go_wp2_with fail;refine d.mono ?_;rintro e j ⟨rfl,g⟩;have i:=I g;go_wp2;go_ret;exact⟨rfl,i⟩
def FA(w:M)(d s m:Nat):Prop:=w.heap[d]?=some (N #[.int .u32 (s:Int),Y (m:Int)] 436)
theorem FB(w:M):aF 308 #[] w λe a=>aL e (ar w.heap.size)/\FA a w.heap.size 0 0/\aq w a:=by go_enter func308,ntmps308;go_wp2;go_ret;exact⟨rfl,QB _ _,aK aj _⟩
theorem yw(w:M)(d s m:Nat)(h:FA w d s m):aF 311 #[ar d] w λe a=>aL e (.int .u32 s)/\w=a:=by obtain⟨b,f1,c⟩:=cr h;go_enter func311,ntmps311;go_wp2;go_ret;exact⟨rfl,rfl⟩
theorem r_(w:M)(d s m L:Nat)(v:H)(f:aN)(h:FA w d s m)(q:s<4294967296)(l:kc w v L f)(r:∀k,k<L->f k<256)(A:L<=1000000)(B:m<=1000000000):
  aF 313 #[ar d,v] w λe n=>aL e (Y (m+L:Nat))/\FA n d (dN s L f) (m+L)/\Out (λk=>k=d) w n:=by
 obtain⟨a,t,rfl,-⟩:=id l;have u:=I h;have x:=I (λ(W:M) (i:aq w W)=>tO s L _ f W q (kc.cV l i) r J);obtain⟨y,f1,o⟩:=cr h;have C:QG.wrap ((m:Int)+L)=((m+L:Nat):Int):=bs;go_enter func313,ntmps313;go_wp2
 go_region_with (first|(go_at_call 247;refine(x _ bF).mono ?_;rintro e g ⟨rfl,b⟩;obtain⟨D,f3,z3⟩:=kp b d dG))
 all_goals(
  have c:aq w g:=⟨b.os,b.tape,b.output,b.size,b.block⟩;have i:=(c.block d o).trans u;have j:QX (((g.setCell (R d 0) (.int .u32 (dN s L f:Nat))).setCell (R d 1) (Y ((m:Int)+L))).heap[d]?=some (N #[.int .u32 (dN s L f:Nat),Y ((m:Int)+L)] 436)/\Out (λk=>k=d) w ((g.setCell (R d 0) (.int .u32 (dN s L f:Nat))).setCell (R d 1) (Y ((m:Int)+L)))):=
   ⟨heap_setCell_same _ d 1 _ 436 _ (heap_setCell_same _ d 0 _ 436 _ i),((Out.af (S:=λk=>k=d) c).setCell (p:=R d 0) (λ_=>rfl) _).setCell (p:=R d 1) (λ_=>rfl) _⟩
  obtain⟨W,z⟩:=ah ((g.setCell (R d 0) (.int .u32 (dN s L f:Nat))).setCell (R d 1) (Y ((m:Int)+L)));rw[z]at j|-;obtain⟨y,f1,o⟩:=cr j.1;go_wp2;go_ret;exact⟨aJ,j⟩)
structure hB(Z:Nat->Prop)(w w':M)(Z':Nat->Prop):Prop where
 out:Out Z w w'
 new:∀k,Z' k->Z k\/w.heap.size<=k
theorem hB.trans(h:hB S w W Q)(k:hB Q W z X):hB S w z X:=
 ⟨h.out.trans k.out λi a e=>(h.new i e).elim id λe=>absurd a J,λi e=>(k.new i e).elim (h.new i) λe=>.inr (by have:=h.out.size;omega)⟩
theorem hB.same(h:aq w W):hB S w W S:=⟨Out.af h,λ_ h=>.inl h⟩
theorem hB.then(h:hB S w W Q)(k:aq W z):hB S w z Q:=h.trans (hB.same k)
theorem hB.pre(h:aq w W)(k:hB S W z Q):hB S w z Q:=(hB.same h).trans k
theorem hB.refl(Z:Nat->Prop)(w:M):hB Z w w Z:=hB.same aj
def cat(N:Nat)(f g:aN)(k:Nat):Nat:=if k<N then f k else g (k-N)
def leB(v j:Nat):Nat:=v/256^j%256
theorem kg:(prog.info? 5).map (λi=>(i.zero,i.size,i.bytes))=some (some (.int .u8 0),1,1):=aE
def Pk(Z:Nat->Prop)(w:M)(p size N:Nat)(f:aN):Prop:=
 ∃a,w.heap[p]?=some (ao #[Y size,a,aH 0] 309)/\w.ownsRow 0 5 1 a N (az N f)/\a.ownBlock≠some p/\Z=λk=>k=p\/a.ownBlock=some k
theorem Pk.out{w w1:M}{p size N:Nat}(h:Pk Q w p size N f)(a:Out S w w1)(b:∀k,k<w.heap.size->S k->¬Q k):Pk Q w1 p size N f:=by obtain⟨i,c,d,j,rfl⟩:=h;exact⟨i,a.heap c (λe=>b p (RC.1 c).1 e (.inl rfl)),a.own d (λk g e=>b k (d.lt k g).2 e (.inr g)),j,rfl⟩
theorem Pk.cV(h:Pk Q w n m k f)(a:aq w W):Pk Q W n m k f:=h.out (S:=λ_=>False) (Out.af a) λ_ _ h=>h.elim
theorem tP(N:Nat)(f g:aN)(j:Nat):az (N+j) (cat N f g)++ [.int .u8 (g j:Nat)] =az (N+(j+1)) (cat N f g):=by
 have e:[SJ .u8 (g j:Nat)] = [j+N].map λk=>SJ .u8 (cat N f g k):=by simp only[TO,XR,cat];rw[al J,VS]
 rw[e];unfold az;rw[<-UP,UL,SH,YY j N]
theorem jE(N L:Nat)(f g:aN):az N f++az L g=az (N+L) (cat N f g):=by
 induction L with
 |zero=>rw[VK];simp only[az,List.range_zero,XR,TZ];exact UX λk a=>by unfold cat;rw[ak (TY.1 a)]
 |succ j b=>rw[<-tP,<-b,SV];congr 1;simp[az,UL]
theorem Pk.put(g:aX w n (N #[Y m,v,aH 0] 309))(h:v.ownBlock≠some n)(a:aq w W)(l:z.ownsRow 0 5 1 x j (az j f))(c:nO C W v i r x z)(q:w.heap.size<=C):
  Pk (λk=>k=n\/x.ownBlock=some k) (z.setCell (R n 1) x) n m j f/\hB (λk=>k=n\/v.ownBlock=some k) w (z.setCell (R n 1) x) (λk=>k=n\/x.ownBlock=some k):=by
 have o:=(RC.1 g).1;have d:=c.heap ((a.block n o).trans g) h;have b:x.ownBlock≠some n:=λe=>(c.block e).elim h λe=>J;refine⟨⟨x,heap_setCell_same z n 1 _ 309 x d,XS l b _,b,rfl⟩,(c.out (Out.af a) λk hk _=>.inr hk).setCell (p:=R n 1) (λ_=>.inl rfl) x,λk hk=>?_⟩;rcases hk with hk|hk
 .exact .inl (.inl hk)
 .exact (c.block hk).elim (λe=>.inl (.inr e)) λe=>.inr J
def oE(Z:Nat->Prop)(w:M)(p size N:Nat)(f:aN)(e:RV)(a:M):Prop:=
 aL e (.tuple #[])/\∃b,Pk b a p size N f/\hB Z w a b
theorem oF(Z:Nat->Prop)(w:M)(p size N n:Nat)(f:aN)(h:Pk Z w p size N f)(d:size<=4096)(g:N+n<=size):
  aF 244 #[ar p,Y n] w λe a=>aL e ec/\aq w a:=by
 obtain⟨i,b,c,-,-⟩:=h;obtain⟨j,k,rfl,-⟩:=au c;obtain⟨l,f1,m⟩:=cr b;have o:QG.wrap ((size:Int)-N)=((size-N:Nat):Int):=bs;have q:¬((size-N:Nat):Int)<(n:Int):=J;go_enter func244,ntmps244;go_wp2;go_quiet(fail);go_wp2;go_ret;exact⟨rfl,cK aj _⟩
theorem ic(Z:Nat->Prop)(w:QA)(p size N v L:Nat)(f:aN)(h:Pk Z w p size N f)(G:size<=4096)(K:N+L<=size):
  aF 246 #[ar p,.int .u64 v,ae L] w (oE Z w p size (N+L) (cat N f (leB v))):=by
 have O:=ad h;have P:=ad (oF Z w p size N L f h G K);obtain⟨Q,S,o,q,r⟩:=SB kg;go_enter func246,ntmps246;go_wp2_with fail;refine P.mono ?_;rintro e w1 ⟨rfl,T⟩;have y:=ad T;go_wp2_with fail;go_loopw [1,11] (λU k wr=>∃(j:Nat) (n:Nat->Prop),j<=L/\k= ae j/\U=.int .u64 (v/256^j:Nat)/\QX (Pk n wr p size (N+j) (cat N f (leB v))/\hB Z w wr n)) (λ_ k _=>L-(intOf k).toNat)
 case atStart=>
  have l:=O.cV y;have e:az (N+0) (cat N f (leB v))=az N f:=by rw[<-jE];simp[az]
  exact⟨0,Z,QO _,rfl,aJ,by obtain⟨z,a,b,c,d⟩:=l;exact⟨z,a,by rw[e];exact b,c,d⟩,hB.same y⟩
 case round=>
  obtain⟨j,n,a5,rfl,rfl,s⟩:=hrel;by_cases V:j<L
  .obtain ⟨z,A,B,W,X⟩:=s.1;obtain⟨H,M,rfl,-⟩:=au B;obtain⟨R,f1,C⟩:=cr A;have D:=ad A;have I:=ad B;have E:=ad W;have Y:=ad X;have J:N+(j+1)<=4096:=aa;have F:QX (v/256^j/256=v/256^(j+1)):=by show _=_;rw[Nat.pow_succ,Nat.div_div_eq_div_mul]
   have m:QX (((v/256^j:Nat):Int)%256=((leB v j:Nat):Int)):=by show _=_;unfold leB;omega
   obtain⟨x,a0⟩:=ah (v/256^j);rw[a0]at F m|-;go_wp2_with(first|(at_builtin;refine aU _ rfl _ _ 41 rfl 0 5 Q (.int .u8 0) 1 1 UO S o q r rfl ai (.slice H (N+j) M) (N+j) (az (N+j) (cat N f (leB v))) rfl (I.alloc _) (ag wr.heap.size 0) 1 1 [.int .u8 ((x:Int)%256)] rfl rfl (RW (cs:= #[.int .u8 ((x:Int)%256)]) (t:=5) (fr:=(0,0)) (QB wr _)) (by intro u a1;rw[SM.1 a1];rfl) aa (by unfold UE;omega) aa (QO _) ?_));intro a6 a7 g i;rw[m.out,tP]at g;obtain⟨a8,a2,rfl,-⟩:=au g;have a3:=ad (Pk.put D E (aK aj _) g i (US _));have a4:=i.heap ((QW _ _ _ C).trans D) E;obtain⟨R,f1,C⟩:=cr a4;go_wp2;go_roundw
   case rel=>have l:=a3.out;rw[<-Y.out]at l;exact⟨j+1,_,aa,by go_num,by rw[<-F.out];rfl,l.1,s.2.trans l.2⟩
   case measure=>simp[intOf];omega
  .obtain rfl:j=L:=aa;go_wp2;go_end0;exact⟨rfl,n,s⟩
theorem fA(Z:Nat->Prop)(w:M)(p size N v:Nat)(f:aN)(h:Pk Z w p size N f)(a:size<=4096)(b:N+4<=size)(i:v<4294967296):
  aF 159 #[ar p,.int .u32 v] w (oE Z w p size (N+4) (cat N f (leB v))):=by
 have c:=I (ic Z w p size N v 4 f h a b);go_enter func159,ntmps159;go_wp2_with fail;refine c.mono ?_;rintro e j ⟨rfl,d⟩;have g:=I d;go_wp2;go_end0;exact⟨rfl,g⟩
theorem sc(Z:Nat->Prop)(w:M)(p size N v:Nat)(f:aN)(h:Pk Z w p size N f)(a:size<=4096)(b:N+8<=size):
  aF 219 #[ar p,.int .u64 v] w (oE Z w p size (N+8) (cat N f (leB v))):=by
 have c:=I (ic Z w p size N v 8 f h a b);go_enter func219,ntmps219;go_wp2_with fail;refine c.mono ?_;rintro e i ⟨rfl,d⟩;have g:=I d;go_wp2;go_end0;exact⟨rfl,g⟩
theorem FC(a b:Nat)(c:a<18446744073709551616)(d:b<18446744073709551616):bits .and .u64 (a:Int) (b:Int)=((a&&&b:Nat):Int):=by
 have f:a&&&b<2^64:=Nat.and_lt_two_pow _ J;have e:∀n:Nat,n<18446744073709551616->(UK 64 (n:Int)).toNat=n:=λn h=>by rw[WX,XK];exact SA J
 show VP.wrap ((UK 64 (a:Int)&&&UK 64 (b:Int)).toNat:Int)=_;rw[BitVec.toNat_and,e a c,e b d,IntKind.wrap_u64];omega
theorem wB(n:Nat)(h:n<4294967296):bits .and .u64 (n:Int) 4294967295=n:=by have:=FC n 4294967295 J J;rw[show n&&&4294967295=n from(Nat.and_two_pow_sub_one_eq_mod n 32).trans (SA h)]at this;exact this
theorem mul_one(n:Nat)(w:M)(h:n<4294967296):aF 87 #[.int .u64 1,.int .u64 n] w λe a=>aL e (.tuple #[.int .u64 0,.int .u64 n])/\w=a:=by have b:=wB n h;have c:bits .and .u64 1 4294967295=1:=wB 1 J;have d:bits .and .u64 0 4294967295=0:=wB 0 J;have f:(n:Int)/4294967296=0:=J;go_enter func87,ntmps87;go_wp2;go_ret2;exact⟨rfl,rfl⟩
def bQ(n:Nat)(f:Nat->H):List H:=(TQ n).map f
theorem bG(n:Nat)(f:Nat->H):(bQ n f).length=n:=by simp[bQ]
theorem cc(n:Nat)(f:Nat->H)(k:Nat)(h:k<n):(bQ n f)[k]?=some (f k):=by simp[bQ,h]
theorem oG{f g:Nat->H}(h:∀k,k<n->f k=g k):bQ n f=bQ n g:=UX λx a=>h x (by simpa using a)
theorem oH{f:Nat->H}(h:∀i,i<n->(f i).oneCell'=true):∀v∈bQ n f,v.oneCell'=true:=by intro x a;simp only[bQ,RK,TY]at a;obtain⟨i,b,rfl⟩:=a;exact h i b
theorem iY{K:IntKind}(N:Nat):TN (SJ K 0).cells N=bu N λ_=>.int K 0:=by simp[TN,bu,Value.cells];apply Array.ext<;>simp[YE]
theorem iZ{g L B:Nat}{f:Nat->H}(h:aX w g (.cells (bu L f) t (0,0)))(a:B<=g)(b:L<=UE):w.ownsRow B t 1 (a' g L L) L (bQ L f):=by refine⟨by rw[bG,TX],.inr ⟨g,L,_,rfl,a,h,QE _,b,by rw[zQ,TX],?_⟩⟩;rw[TX,YG (by simp[bu])];simp[bu,bQ]
theorem ie(n m q:Nat)(x y:H)(h:m+q<=n):YF (bQ n λk=>if k<m then x else y) m (bQ q λ_=>x)=bQ n λk=>if k<m+q then x else y:=by
 apply TJ;intro k;rw[fh _ _ _ _ (by rw[bG,bG];omega),bG];by_cases b:k<n
 .rw [cc _ _ _ b,cc _ _ _ b];by_cases a:m<=k/\k<m+q
  .rw [ak a,cc _ _ _ J,ak a.2]
  .rw [al a];by_cases c:k<m
   .rw [ak c,ak J]
   .rw [al c,al J]
 .have e:∀f:Nat->H,(bQ n f)[k]?=none:=λf=>RF (by rw[bG];omega);rw[al J,e,e]
theorem kE(n:Nat)(x y:H)(h:1<=n):YF (bQ n λ_=>y) 0 [x] =bQ n λk=>if k<1 then x else y:=by have:=ie n 0 1 x y J;rw[RE]at this;rw[<-this];congr 1
theorem a_(h:SK n w W):SK n w W.drew:=h.trans ⟨rfl,rfl,rfl,QE _,λ_ _=>rfl⟩
def MV(E n:Nat)(v:H)(w:M)(e:RV)(a:M):Prop:=
 ∃g c,aL e (a' g n c)/\a.ownsRow w.heap.size E 1 (a' g n c) n (bQ n λ_=>v)/\aq w a
theorem IQ:(prog.info? 5).map (λi=>(i.zero,i.size,i.bytes))=some (some (.int .u8 0),1,1):=aE
theorem se:(prog.info? 5).map (·.size)=some 1:=aE
theorem zR(n b:Nat)(c:Int)(w:QA)(h0:0<n)(a2:n<=4096)(o:w.cell? (ag b 0)=some (.int .u8 c)):
  aF 245 #[a' b 1 1,ae n] w (MV 5 n (.int .u8 c) w):=by
 obtain⟨U,V,x,y,z⟩:=SB IQ;have A:∀w,(SY 41 (ae (n:Int)) (ae (n:Int))).run prog w=.ok (a' w.heap.size n n) (w.alloc (ao (bu n λ_=>.int .u8 0) 5)):=λw=>by have:=run_make (P:=prog) w 41 5 U (.int .u8 0) UO V x .i64 .i64 n n aa aa (by rw[z];omega) aa;rw[this,y,TX,iY];simp
 have e2:(n:Int)%18446744073709551616=n:=aa;have e3:¬(9223372036854775807:Int)<n:=aa;have e4:¬(n:Int)<0:=aa;have W:=ad (λw=>mul_one n w aa);have C:=QN w _ o;go_enter func245,ntmps245;go_wp2_with fail;refine(W _).mono ?_;rintro e r ⟨rfl,rfl⟩;have s:=ad (iZ (w:=w.alloc (ao (bu n λ_=>.int .u8 0) 5)) (B:=w.heap.size) (QB w _) (QE _) (by unfold UE;omega));have G:(w.alloc (ao (bu n λ_=>.int .u8 0) 5)).cell? (ag b 0)=some (.int .u8 c):=by rw[(aK aj _).cell (p:=ag b 0) C];exact o
 go_wp2_with(refine ee _ rfl (.tmp 31) (.tmp 32) 41 41 rfl 5 w.heap.size w.heap.size n n 0 n n (bQ n λ_=>.int .u8 0) s (ag b 0) 1 1 [.int .u8 c] UO se rfl rfl (by show 1=Nat.min 1 n;exact(WM aa).symm) aS (λj v d=>by cases j with|zero=>simp at d;subst d;rw[iQ];exact G|succ j=>simp at d) (by simp[Value.oneCell']) ?_);intro K t a;have L:QX (K.ownsRow w.heap.size 5 1 (a' w.heap.size n n) n (bQ n λk=>if k<1 then .int .u8 c else .int .u8 0)/\SK w.heap.size w K):=by refine⟨?_,((Out.af (S:=λk=>k=w.heap.size) (aK (SU w.heap.size w) _)).tr a).below (λk _ e=>aa) (QE _)⟩;rw[kE _ _ _ aa]at t;exact t
 obtain⟨g,D⟩:=ah w.heap.size;have O:=ad D;rw[D]at L|-;clear s G D A;go_wp2;go_loopw [8] (λE wr=>∃m:Nat,1<=m/\m<=n/\E= ae m/\QX (wr.ownsRow g 5 1 (a' g n n) n (bQ n λk=>if k<m then .int .u8 c else .int .u8 0)/\SK g w wr)) (λE _=>n-(intOf E).toNat)
 case atStart=>exact⟨1,aa,aa,rfl,L⟩
 case round=>
  obtain⟨m,X,Z,rfl,f⟩:=hrel;by_cases H:m<n
  .obtain ⟨q,h⟩:=ah (Nat.min m (n-m));have N:1<=q:=by subst h;exact Nat.le_min.2 ⟨aa,aa⟩
   have M:q<=m:=by subst h;exact ZF _ _
   have R:q<=n-m:=by subst h;exact Nat.min_le_right _ _
   have I:=ad h;have Y:QX (YF (bQ n λk=>if k<m then SJ .u8 c else .int .u8 0) m (bQ q λ_=>.int .u8 c)=bQ n λk=>if k<m+q then .int .u8 c else .int .u8 0):=ie n m q _ _ aa;have J:QX (∀r,SK wr.heap.size wr r->∀j u,(bQ q λ_=>SJ .u8 c)[j]?=some u->r.cell? (((ag g 0):SR).add j)=some u):=λr o j u d=>by
    by_cases F:j<q
    .rw [cc _ _ _ F]at d;rw[iQ,RE];have i:=(bC f.1 (k:=j) (u:=.int .u8 c) (by rw[cc _ _ _ aa,ak aa])).1;rw[o.cell (p:=ag g j) (QN wr _ i),i,d]
    .rw [RF (by rw[bG];omega)]at d;cases d
   have a0:QG.wrap ((m:Int)+q)=((m+q:Nat):Int):=bs;have j1:¬n=m:=aa;have i1:(0:Int)<=m:=aa;have i2:(m:Int)<=n:=aa;clear h;go_wp2
   go_region_law (refine gD _ rfl (.tmp 41) (.tmp 44) 41 41 rfl 5 g g n n m (n-m) (n-m) (bQ n λk=>if k<m then .int .u8 c else .int .u8 0) (aP (w:=wr) bF f.1) (ag g 0) m n (bQ q λ_=>.int .u8 c) UO se (by simp[VO,RS, *]) (by simp[VO,RS, *]) (by rw[bG];exact I.symm) (by rw[bG];omega) (J _ bF) (oH λ_ _=>rfl) ?_;intro Q t a;rw[bG];have s:=ad t;have l:=ad a)
   all_goals(try simp only[QK,QH,QI])
   all_goals go_frame
   all_goals go_roundw
   all_goals(
    have T:QX (Q.ownsRow g 5 1 (a' g n n) n (bQ n λk=>if k<m+q then .int .u8 c else .int .u8 0)/\SK g w Q):=by refine⟨by rw[<-Y.out];exact s,f.2.trans (((Out.af (S:=λk=>k=g) (a_ (SU wr.heap.size wr))).tr l).below (λk _ e=>aa) ?_)⟩;have:=(f.1.lt g rfl).2;omega)
   all_goals first
    |exact⟨m+q,aa,aa,by go_num,T⟩
    |((repeat apply Exists.intro);exact⟨⟨m+q,aa,aa,by go_num,T⟩,rfl⟩)
    |(simp[intOf];omega)
  .obtain rfl:m=n:=aa;go_wp2;go_ret;refine⟨_,_,rfl,?_,(O▸f.2:SK w.heap.size w wr)⟩;have i:=f.1;rw[oG (g:=λ_=>.int .u8 c) λk a1=>ak a1]at i;exact O▸i
theorem wC:(prog.info? 3).map (λi=>(i.zero,i.size,i.bytes))=some (some (Y 0),1,8):=aE
theorem Ce:(prog.info? 3).map (·.size)=some 1:=aE
theorem oI:(prog.info? 122).map (λi=>(i.zero,i.size,i.bytes))=some (some (.int .u8 0),1,1):=aE
theorem tQ:(prog.info? 122).map (·.size)=some 1:=aE
def Pq(size:Nat)(w:M)(e:RV)(a:M):Prop:=∃p Z,aL e (.tuple #[ar p,aH 0])/\Pk Z a p size 0 (λ_=>0)/\(∀k,Z k->w.heap.size<=k)/\aq w a
theorem wD(size:Nat)(w:M)(h:size<=4096):aF 154 #[Y size] w (Pq size w):=by
 have a:¬(size:Int)<0:=J;have b:¬(4096:Int)<size:=J;go_enter func154,ntmps154;go_wp2;go_ret2;refine⟨w.heap.size,_,rfl,⟨aO,QB _ _,SD _ _ _ _,(by simp[WS]),rfl⟩,?_,aK aj _⟩;rintro k (rfl|hk)
 .exact QE _
 .cases hk
theorem sh(Z:Nat->Prop)(w:QA)(p size N L:Nat)(v:QC)(f g:Nat->Nat)(h:Pk Z w p size N f)(P:kc w v L g)(Q:0<L)(S:size<=4096)(T:N+L<=size):
  Calls VR 214 #[.pointer (some ⟨p,0,none⟩),v] w (oE Z w p size (N+L) (cat N f g)):=by
 have U:=QZ h;have z:=QZ (oF Z w p size N L f h S T);obtain⟨a,m,rfl,A⟩:=P;obtain⟨b,o,rfl,k⟩:=A.resolve_left (by omega);have B:=QZ k;obtain⟨V,W,n,q,r⟩:=SB kg;clear h A k;go_enter Tryz.func214,Tryz.ntmps214;go_wp2_with fail;refine z.out.mono ?_;rintro e X ⟨rfl,C⟩;have s:=QZ C;clear C z;obtain⟨a2,t,x,D,E⟩:=U.out.cV s.out;obtain⟨H,M,rfl,-⟩:=au x;obtain⟨F,f1,R⟩:=cr t;have G:=QZ t;have I:=QZ x;have K:=QZ D;have Y:=QZ E;have J:QX (∀j u,(az L g)[j]?=some u->X.cell? ((⟨b,o,none⟩:SR).add j)=some u):=λj u l=>by
  by_cases i:j<L
  .rw [ba _ _ _ i]at l;rw[iQ,s.out.cell (p:=⟨b,o+j,none⟩) (QN w _ (B.out j i)),B.out j i,l]
  .rw [RF (by rw[aI];omega)]at l;cases l
 clear t x D E;go_wp2_with(first|(at_builtin;refine aU _ rfl _ _ 41 rfl 0 5 V (.int .u8 0) 1 1 Tryz.underlying41 W n q r rfl (by decide) (.slice H N M) N (az N f) rfl I.out ⟨b,o,none⟩ L m (az L g) rfl (by rw[aI,TX]) J.out (dr _ _) Q (by unfold UE;omega) (by omega) (QO _) ?_));intro a3 a4 c d;rw[jE]at c;obtain⟨a5,a0,rfl,-⟩:=au c;have a1:=QZ (Pk.put G.out K.out (SU _ _) c d (QE _));have O:=d.heap G.out K.out;clear c d F f1;obtain⟨F,f1,R⟩:=cr O;clear O;go_wp2;go_end0;have y:=a1.out;rw[<-Y.out]at y;exact⟨rfl,_,y.1,hB.pre s.out y.2⟩
theorem Cf(Z:Nat->Prop)(w:QA)(p size N L c:Nat)(f:aN)(h:Pk Z w p size N f)(v:0<L)(D:size<=4096)(E:N+L<=size):
  aF 156 #[ar p,ae L,.int .u8 c] w (oE Z w p size (N+L) (cat N f λ_=>c)):=by
 have F:=ad h;have G:=ad (oF Z w p size N L f h D E);obtain⟨K,O,l,m,n⟩:=SB kg;go_enter func156,ntmps156;go_wp2_with fail;refine G.mono ?_;rintro e d ⟨rfl,P⟩;have x:=ad P;obtain⟨a0,y,z,Q,S⟩:=F.cV x;obtain⟨T,U,rfl,-⟩:=au z;obtain⟨k1,f1,V⟩:=cr y;have A:=ad y;have X:=ad z;have B:=ad Q;have H:=ad S;go_wp2_with fail;have o:L<=4096:=aa;have i:p<d.heap.size:=V;have q:QX (∀W:QA,W.heap=(d.alloc (ao #[.int .u8 (c:Int)] 5)).heap->W.cell? (ag d.heap.size 0)=some (.int .u8 c)):=λW e=>
  (QP (congrArg (λh=>h[d.heap.size]?) e)).trans ((cr (QB d (ao #[.int .u8 (c:Int)] 5))).1 0)
 go_region_law (first|(refine df _ rfl (.tmp 17) (.tmp 21) 41 rfl 0 5 K (.int .u8 0) 1 1 UO O l m n rfl ai (.slice T N U) N (az N f) (by simp[VO]) (aP (w:=d) a X) (ag C 0) L M (az L λ_=>c) (by simp[VO]) (by rw[aI,TX]) (λj u R=>r.cells (g:=C) rfl j u R) (dr _ _) v (by unfold UE;omega) aa (QO _) ?_;intro a1 a2 b k;obtain⟨I,Y,rfl,-⟩:=au b;obtain⟨a3,a4,a5⟩:=cr (k.heap ((a.block p i).trans A) B))|(go_simp;go_at_call 245;refine(zR L d.heap.size c _ v o (q _ (by rfl))).mono ?_;rintro e J ⟨C,M,rfl,r,s⟩;have a:aq d J:=(show aq d _ by go_grown).trans (s.mono aJ);obtain⟨a6,a7,a8⟩:=kp a p i))
 all_goals(
  go_end0;rw[jE]at b;have t:=Pk.put A B a b k a.size;rw[<-H.out]at t;exact⟨rfl,_,t.1,hB.pre x t.2⟩)
def si(n:Nat)(f:aN)(w:M)(e:RV)(a:M):Prop:=
 ∃g c,aL e (.tuple #[a' g n c,aH 0])/\a.ownsRow w.heap.size 5 1 (a' g n c) n (az n f)/\aq w a
theorem jF(Z:Nat->Prop)(w:M)(p size N:Nat)(f:aN)(h:Pk Z w p size N f)(q:0<N)(D:size<=4096)(E:N<=size):
  aF 158 #[ar p] w (si size (cat N f λ_=>0) w):=by
 obtain⟨r,s,c,d,i⟩:=SB kg;have t:∀w,(SY 41 (Y (size:Int)) (Y (size:Int))).run prog w=.ok (a' w.heap.size size size) (w.alloc (ao (bu size λ_=>.int .u8 0) 5)):=λw=>by have:=run_make (P:=prog) w 41 5 r (.int .u8 0) UO s c .i64 .i64 size size J J (by rw[i];omega) J;rw[this,d,TX,iY];simp
 obtain⟨F,a,l,G,-⟩:=h;obtain⟨K,v,rfl,x⟩:=au l;obtain⟨g,rfl⟩:=x.resolve_left J;obtain⟨L,f1,O⟩:=cr a;have y:=I (iZ (w:=w.alloc (ao (bu size λ_=>.int .u8 0) 5)) (B:=w.heap.size) (QB w _) (QE _) (by unfold UE;omega));have z:=I (aP (aK aj (ao (bu size λ_=>.int .u8 0) 5)) l);go_enter func158,ntmps158;go_wp2_with(refine ee _ rfl (.tmp 19) (.tmp 23) 41 41 rfl 5 w.heap.size w.heap.size size size 0 size size (bQ size λ_=>.int .u8 0) y (R g 0) N v (az N f) UO se rfl rfl (by rw[aI];exact(WM J).symm) (by rw[aI];omega) (λj u A=>z.cells (g:=g) rfl j u A) (dr _ _) ?_);intro m n b;have C:QX (m.ownsRow w.heap.size 5 1 (a' w.heap.size size size) size (az size (cat N f λ_=>0))/\aq w m):=by
  refine⟨?_,((Out.af (S:=λk=>k=w.heap.size) (aK (SU w.heap.size w) _)).tr b).below (λk _ e=>J) (QE _)⟩;have e:YF (bQ size λ_=>SJ .u8 0) 0 (az N f)=az size (cat N f λ_=>0):=by
   apply TJ;intro k;rw[fh _ _ _ _ (by rw[aI,bG];omega),aI];by_cases o:k<size
   .rw [ba _ _ _ o,cc _ _ _ o];unfold cat;by_cases a:k<N
    .rw [ak J,Nat.sub_zero,ba _ _ _ a,ak a]
    .rw [al J,al a];rfl
   .rw [al J,RF (by rw[bG];omega),RF (by rw[aI];omega)]
  rw[e]at n;exact n
 go_wp2;go_ret2;exact⟨_,_,rfl,C⟩
theorem wE(Z:Nat->Prop)(w:M)(p size N v:Nat)(f:aN)(h:Pk Z w p size N f)(a:size<=4096)(b:N+1<=size)(i:v<256):
  aF 225 #[ar p,.int .u8 v] w (oE Z w p size (N+1) (cat N f (leB v))):=by
 have c:=I (ic Z w p size N v 1 f h a b);go_enter func225,ntmps225;go_wp2_with fail;refine c.mono ?_;rintro e j ⟨rfl,d⟩;have g:=I d;go_wp2;go_end0;exact⟨rfl,g⟩
theorem yx(Z:Nat->Prop)(w:M)(p size N v:Nat)(f:aN)(h:Pk Z w p size N f)(a:size<=4096)(b:N+2<=size)(i:v<65536):
  aF 234 #[ar p,.int .u16 v] w (oE Z w p size (N+2) (cat N f (leB v))):=by
 have c:=I (ic Z w p size N v 2 f h a b);go_enter func234,ntmps234;go_wp2_with fail;refine c.mono ?_;rintro e j ⟨rfl,d⟩;have g:=I d;go_wp2;go_end0;exact⟨rfl,g⟩
theorem IS(Z:Nat->Prop)(w:M)(p size N:Nat)(f:aN)(h:Pk Z w p size N f):aF 157 #[ar p] w λe a=>aL e (Y N)/\w=a:=by obtain⟨d,b,c,-,-⟩:=h;obtain⟨g,i,rfl,-⟩:=au c;obtain⟨j,f1,k⟩:=cr b;go_enter func157,ntmps157;go_wp2;go_ret;exact⟨rfl,rfl⟩
def zB:Nat->Nat:=λ_=>0
def i_(k:Nat):Nat:=if k=0 then 83 else if k=1 then 80 else if k=2 then 74 else 76
def Kv(a b c:Nat):Nat->Nat:=cat 16 (cat 8 (cat 4 (cat 0 zB i_) (leB a)) (leB b)) (leB c)
def gX(a b c M:Nat)(g:aN):Nat->Nat:=cat (24+M) (cat 24 (Kv a b c) g) zB
def i'(a b c M:Nat)(g:aN):Nat->Nat:=cat 128 (cat 124 (cat 0 zB (gX a b c M g)) (leB (dN 0 124 (gX a b c M g)))) zB
theorem cI(v j:Nat):leB v j<256:=SC _ J
theorem cW{f g:aN}(a:∀k,f k<256)(b:∀k,g k<256)(k:Nat):cat n f g k<256:=by
 unfold cat;split
 .exact a k
 .exact b _
theorem lh(a:∀k,f k<256)(k:Nat):gX n m i j f k<256:=
 cW (cW (cW (cW (cW (cW (λ_=>by show 0<256;omega) λk=>by unfold i_;(repeat' split)<;>omega) (cI _)) (cI _)) (cI _)) a) (λ_=>by show 0<256;omega) k
theorem oJ(h:w.ownsRow m 5 1 (a' i n j) n (az n f)):kc w (a' i n j) n f:=
 ⟨_,_,rfl,.inr ⟨i,0,rfl,λk a=>by rw[RE];exact(bC h (ba _ _ _ a)).1⟩⟩
theorem fi(h:aq w W)(a:∀k,S k->w.heap.size<=k)(b:hB S W z Q):aq w z/\∀k,Q k->w.heap.size<=k:=
 ⟨h.trans (b.out.below (λk _ e=>a k e) h.size),λk e=>(b.new k e).elim (a k) λe=>QD h.size e⟩
theorem ja(a i j M G:Nat)(a3:Array QC)(b4:∀m w,(VF G m).run prog w=.ok (.enter G m) w)(g:aN)(w:QA)(s:a<256)(b5:M<=100)(a8:∀k,g k<256)(o:∀W Z p f,aq w W->(∀k,Z k->w.heap.size<=k)->Pk Z W p 124 24 f->aF G (#[ar p] ++a3) W (oE Z W p 124 (24+M) (cat 24 f g))):
  aF 207 #[.int .u8 a,.int .u64 i,.int .u64 j,.func (.func G) #[] a3] w (si 128 (i' a i j M g) w):=by
 have a9:=ad o;have a4:=ad a8;have b6:=λ(w:QA) (C:Array QC) (n c:Nat)=>Lib.run_convert_bytes_const (P:=prog) w 41 5 C n c UO UA;go_enter func207,ntmps207;go_wp2_with fail;refine(wD 124 w aa).mono ?_;rintro e t ⟨p,Z1,rfl,b,L,h⟩;have O:=ad (b.cV (aK aj (.cells #[.int .u8 83,.int .u8 80,.int .u8 74,.int .u8 76] 5 (4,5))));have Q:QX (kc (t.alloc (.cells #[.int .u8 83,.int .u8 80,.int .u8 74,.int .u8 76] 5 (4,5))) (a' t.heap.size 4 4) 4 i_):=⟨_,_,rfl,.inr ⟨t.heap.size,0,rfl,λk s=>by rw[QS _ _ _ _ _ _ (QB t _)];match k,s with|0,_=>rfl|1,_=>rfl|2,_=>rfl|3,_=>rfl⟩⟩;have u:QX (aq w (t.alloc (.cells #[.int .u8 83,.int .u8 80,.int .u8 74,.int .u8 76] 5 (4,5)))/\∀k,Z1 k->w.heap.size<=k):=⟨aK h _,L⟩;go_wp2_with fail;refine(sh Z1 _ p 124 0 4 _ zB i_ O Q aa aa aa).mono ?_;rintro e w2 ⟨rfl,Z2,b,d⟩;have S:=ad b;have v:=ad (fi u.1 u.2 d);go_wp2_with fail;refine(fA Z2 w2 p 124 4 a _ S aa aa aa).mono ?_;rintro e w3 ⟨rfl,Z3,b,d⟩;have T:=ad b;have x:=ad (fi v.1 v.2 d);go_wp2_with fail;refine(sc Z3 w3 p 124 8 i _ T aa aa).mono ?_;rintro e w4 ⟨rfl,Z4,b,d⟩;have U:=ad b;have y:=ad (fi x.1 x.2 d);go_wp2_with fail;refine(sc Z4 w4 p 124 16 j _ U aa aa).mono ?_;rintro e w5 ⟨rfl,Z5,b,d⟩;have V:=ad b;have l:=ad (fi y.1 y.2 d);go_wp2_with fail;refine(a9 w5 Z5 p _ l.1 l.2 V).mono ?_;rintro e w6 ⟨rfl,Z6,b,d⟩;have X:=ad b;have z:=ad (fi l.1 l.2 d);go_wp2_with fail;refine(jF Z6 w6 p 124 (24+M) _ X aa aa aa).mono ?_;rintro e K ⟨H,c7,rfl,N,h⟩;have A:QX (K.ownsRow w6.heap.size 5 1 (a' H 124 c7) 124 (az 124 (gX a i j M g))):=N;have b0:=(A.lt H rfl).2;have B:=ad (z.1.trans (h.mono z.1.size));go_wp2_with fail;refine(wD 128 K aa).mono ?_;rintro e w8 ⟨q,Z8,rfl,b,L,h⟩;have R:=ad b;have D:=ad (aP h A);have r:QX (aq K w8/\∀k,Z8 k->K.heap.size<=k):=⟨h,L⟩;go_wp2_with fail;refine(sh Z8 w8 q 128 0 124 _ zB (gX a i j M g) R (oJ D) aa aa aa).mono ?_;rintro e w9 ⟨rfl,Z9,b,d⟩;have I:=ad b;have E:=ad (fi r.1 r.2 d);have Y:=ad (d.out.own D λk s e=>by have h1:=r.2 k e;have e2:H=k:=(by cases s;rfl);omega);go_wp2_with fail;refine(jD 124 _ (gX a i j M g) w9 (oJ Y) (λk _=>lh a4 k) aa).mono ?_;rintro e b1 ⟨rfl,h⟩;have J:=ad (I.cV h);have a0:=ad (via E.1 h);have a1:=gW 0 124 (gX a i j M g) aa λk _=>lh a4 k;go_wp2_with fail;refine(fA Z9 b1 q 128 124 (dN 0 124 (gX a i j M g)) _ J aa aa a1).mono ?_;rintro e a5 ⟨rfl,b2,b,d⟩;have a2:=ad b;have F:=ad (fi a0 (λk s=>E.2 k s) d);go_wp2_with fail;refine(jF b2 a5 q 128 128 _ a2 aa aa aa).mono ?_;rintro e wc ⟨a6,a7,rfl,N,h⟩;have b3:QX (wc.ownsRow w.heap.size 5 1 (a' a6 128 a7) 128 (az 128 (i' a i j M g))/\aq w wc):=by have h1:=B.size;have h2:=F.1.size;have h3:aq w a5:=B.trans (F.1.mono h1);exact⟨cq N aa,h3.trans (h.mono h3.size)⟩
 go_wp2;go_ret2;exact⟨a6,a7,rfl,b3⟩
theorem gz(N M:Nat)(f g h:aN):cat (N+M) (cat N f g) h=cat N f (cat M g h):=by
 funext k;unfold cat;by_cases a:k<N
 .rw [ak J,ak a,ak a]
 .by_cases b:k<N+M
  .rw [ak b,al a,al a,ak J]
  .rw [al b,al a,al J,Nat.sub_add_eq]
def ml(d a e b:Nat)(c:Bool)(f:Nat):Nat->Nat:=
 λk=>cat 20 (cat 16 (cat 12 (cat 8 (cat 4 (leB d) (leB a)) (leB e)) (leB b)) (leB (if c then 1 else 0))) (leB f) k
def cM(b a:Nat):Prop:=b<=4611686018427387904/\1<=a/\a<=4611686018427387904
def aV(a b tail:Nat):Nat->Nat:=i' 3 a b 4 (leB tail)
def ef(b c a d:Nat):Nat->Nat:=i' 2 b c 8 (cat 4 (leB a) (leB d))
def jb(d e f a g b:Nat)(c:Bool)(h:Nat):Nat->Nat:=i' 1 d e 24 (ml f a g b c h)
theorem lj(d a e b:Nat)(c:Bool)(f k:Nat):ml d a e b c f k<256:=
 cW (cW (cW (cW (cW (cI _) (cI _)) (cI _)) (cI _)) (cI _)) (cI _) k
theorem ig(b a:Nat)(w:M)(h:cM b a):aF 205 #[.int .u64 b,.int .u64 a] w λe c=>aL e ec/\w=c:=by obtain⟨d,f,g⟩:=h;have i:(b:Int)<=4611686018427387904:=J;have j:(1:Int)<=a:=J;have k:(a:Int)<=4611686018427387904:=J;go_enter func205,ntmps205;go_wp2;go_ret;exact⟨rfl,rfl⟩
theorem mm(n a b:Int)(w:M)(d:a<=n)(f:n<=b):aF 206 #[Y n,Y a,Y b] w λe c=>aL e ec/\w=c:=by go_enter func206,ntmps206;go_wp2;go_ret;exact⟨rfl,rfl⟩
theorem mn(a b tail:Nat)(w:M)(j:cM a b)(r:tail<=2047):aF 149 #[.agg #[.int .u64 a,.int .u64 b,Y tail]] w (si 128 (aV a b tail) w):=by have g:QX (aq w (w.alloc (N #[.int .u64 a,.int .u64 b,Y tail] 156))):=aK aj _;have k:=I (ja 3 a b 4 208 #[ar w.heap.size] (λ_ _=>rfl) (leB tail) (w.alloc (N #[.int .u64 a,.int .u64 b,Y tail] 156)) J J (cI _) (λW Z p f d s l=>by obtain⟨t,f1,u⟩:=cr ((d.block w.heap.size aJ).trans (QB w _));have m:=I (fA Z W p 124 24 tail f l J J J);go_enter func208,ntmps208;go_wp2_with fail;refine m.mono ?_;rintro e h ⟨rfl,d⟩;have g:=I d;go_wp2;go_end0;exact⟨rfl,g⟩));go_enter func149,ntmps149;go_wp2_with fail;refine(ig a b _ j).mono ?_;rintro e n ⟨rfl,rfl⟩;go_wp2_with fail;refine(mm tail 0 2047 _ J J).mono ?_;rintro e n ⟨rfl,rfl⟩;go_wp2_with fail;refine k.mono ?_;rintro e h ⟨i,c,rfl,o,d⟩;have q:QX (h.ownsRow w.heap.size 5 1 (a' i 128 c) 128 (az 128 (aV a b tail))/\aq w h):=⟨cq o aJ,g.trans (d.mono aJ)⟩;go_wp2;go_ret2;exact⟨i,c,rfl,q⟩
theorem oK(d g a b:Nat)(w:M)(t:cM d g)(L:1<=a)(O:a<=1023)(u:b<4294967296):aF 336 #[.agg #[.int .u64 d,.int .u64 g,Y a,.int .u32 b]] w (si 128 (ef d g a b) w):=by have v:QX (aq w (w.alloc (N #[.int .u64 d,.int .u64 g,Y a,.int .u32 b] 397))):=aK aj _;have x:=I (ja 2 d g 8 369 #[ar w.heap.size] (λ_ _=>rfl) (cat 4 (leB a) (leB b)) (w.alloc (N #[.int .u64 d,.int .u64 g,Y a,.int .u32 b] 397)) J J (cW (cI _) (cI _)) (λW Z p f k y h=>by have q:=(k.block w.heap.size aJ).trans (QB w _);have z:=I q;have A:=I (show¬Z w.heap.size fromλe=>by have:=y _ e;simp at this;omega);obtain⟨B,f1,C⟩:=cr q;have l:=I (fA Z W p 124 24 a f h J J J);go_enter func369,ntmps369;go_wp2_with fail;refine l.mono ?_;rintro e j ⟨rfl,D,h,m⟩;have n:=I h;have i:=I m;obtain⟨B,f1,C⟩:=cr (i.out.out.heap z A);have l:=I (fA D j p 124 28 b _ n J J u);go_wp2_with fail;refine l.mono ?_;rintro e r ⟨rfl,o,h,m⟩;have E:QX (Pk o r p 124 (24+8) (cat 24 f (cat 4 (leB a) (leB b)))/\hB Z W r o):=⟨by rw[<-gz];exact h,i.trans m⟩;go_wp2;go_end0;exact⟨rfl,o,E⟩));go_enter func336,ntmps336;go_wp2_with fail;refine(ig d g _ t).mono ?_;rintro e F ⟨rfl,rfl⟩;go_wp2_with fail;refine(mm a 1 1023 _ J J).mono ?_;rintro e F ⟨rfl,rfl⟩;go_wp2_with fail;refine x.mono ?_;rintro e j ⟨s,c,rfl,G,k⟩;have K:QX (j.ownsRow w.heap.size 5 1 (a' s 128 c) 128 (az 128 (ef d g a b))/\aq w j):=⟨cq G aJ,v.trans (k.mono aJ)⟩;go_wp2;go_ret2;exact⟨s,c,rfl,K⟩
def hV(c a d b j:Nat):Nat:=if j=0 then c else if j=1 then a else if j=2 then d else b
def hF(f:aN)(c a d b:Nat):Nat->Nat->Nat
 |0=>f
 |j+1=>cat (24+4*j) (hF f c a d b j) (leB (hV c a d b j))
theorem OO(f:aN)(d a e b:Nat)(c:Bool)(g:Nat):cat 44 (cat 40 (hF f d a e b 4) (leB (if c then 1 else 0))) (leB g)=cat 24 f (ml d a e b c g):=by show cat (24+20) (cat (24+16) (cat (24+12) (cat (24+8) (cat (24+4) (cat 24 f (leB d)) (leB a)) (leB e)) (leB b)) (leB (if c then 1 else 0))) (leB g)=_;rw[gz,gz,gz,gz,gz];rfl
def OP(Z:Nat->Prop)(W:M)(p:Nat)(F:aN)(N:Nat)(a:M):Prop:=∃b,Pk b a p 124 N F/\hB Z W a b
theorem tR(l m d a g b i:Nat)(h:Bool)(w:QA)(a5:cM l m)(h1:1<=a)(h2:a<=1023)(h3:d<a)(h4:g<=15)(h5:b<=4095)(a6:i<4294967296):aF 335 #[.agg #[.int .u64 l,.int .u64 m,ae d,ae a,ae g,ae b,.bool h,.int .u32 i]] w (si 128 (jb l m d a g b h i) w):=by
 have a7:QX (aq w (w.alloc (ao #[.int .u64 l,.int .u64 m,ae d,ae a,ae g,ae b,.bool h,.int .u32 i] 390))):=aK aj _;have a8:=ad (ja 1 l m 24 368 #[ar w.heap.size] (λ_ _=>rfl) (ml d a g b h i) (w.alloc (ao #[.int .u64 l,.int .u64 m,ae d,ae a,ae g,ae b,.bool h,.int .u32 i] 390)) aa aa (lj _ _ _ _ _ _) (λW Z p f O a9 n=>by
  have H:=(O.block w.heap.size aJ).trans (QB w _);have N:=ad H;have M:=ad (show¬Z w.heap.size fromλe=>by have:=a9 _ e;simp at this;omega);obtain⟨R,f1,I⟩:=cr H;have t:=ad n;go_enter func368,ntmps368;go_wp2;obtain⟨D,u⟩:=ah (W.alloc (ao #[ae d,ae a,ae g,ae b] 3));have o:QX (aq W D/\aX D W.heap.size (ao #[ae d,ae a,ae g,ae b] 3)):=by rw[<-u];exact⟨aK aj _,QB _ _⟩
  rw[u];obtain⟨Y,v⟩:=ah W.heap.size;have y:=ad v;rw[v];have P:QX (¬Z Y):=λe=>by
   obtain⟨b5,a1,a2,a3,rfl⟩:=t.out;have:=y.out;rcases e with e|e
   .have:=(RC.1 a1).1;omega
   .have:=(a2.lt _ e).2;omega
  go_loopw [16] (λq wr=>∃j:Nat,j<=4/\q= ae j/\QX (OP Z D p (hF f d a g b j) (24+4*j) wr)) (λq _=>4-(intOf q).toNat)
  case atStart=>exact⟨0,aa,rfl,Z,t.cV o.1,hB.refl _ _⟩
  case round=>
   obtain⟨j,b6,rfl,b0⟩:=hrel;obtain⟨E,z,r⟩:=b0.out;by_cases Q:j<4
   .have s:wr.cell? (ag Y j)=some (ae (hV d a g b j:Nat)):=by
     have b1:=r.out.heap (y▸o.2) (P);rw[(cr b1).1]
     match j,Q with
     |0,_=>rfl
     |1,_=>rfl
     |2,_=>rfl
     |3,_=>rfl
    have J:hV d a g b j<4294967296:=by unfold hV;(repeat' split)<;>omega
    have F:=ad (fA E wr p 124 (24+4*j) (hV d a g b j) _ z aa aa J);have k:=ad r;obtain⟨x,a0⟩:=ah (hV d a g b j);have b2:=ad a0;rw[a0]at s J F;have i1:(0:Int)<=j:=aa;have i2:(j:Int)<4:=aa;go_wp2_with fail;refine F.mono ?_;rintro e G ⟨rfl,K,n,A⟩;have S:QX (OP Z D p (hF f d a g b (j+1)) (24+4*(j+1)) G):=⟨K,by show Pk K G p 124 (24+4*j+4) (cat (24+4*j) _ (leB (hV d a g b j)));rw[b2.out];exact n,k.trans A⟩;go_wp2;go_roundw
    case rel=>exact⟨j+1,aa,by go_num,S⟩
    case measure=>simp[intOf];omega
   .obtain rfl:j=4:=aa;have B:QX (Pk E wr p 124 40 (hF f d a g b 4)):=z;have k:=ad (hB.pre o.1 r);obtain⟨R,f1,I⟩:=cr (k.out.out.heap N M);have T:=ad (fA E wr p 124 40 0 _ B aa aa aa);have U:=ad (fA E wr p 124 40 1 _ B aa aa aa);cases h
    all_goals(
     go_wp2_with fail
     first|refine T.mono ?_|refine U.mono ?_
     rintro e G ⟨rfl,K,n,A⟩;have V:=ad n;have C:=ad (k.trans A);obtain⟨R,f1,I⟩:=cr (C.out.out.heap N M);have F:=ad (fA K G p 124 44 i _ V aa aa a6);go_wp2_with fail;refine F.mono ?_;rintro e w3 ⟨rfl,X,n,A⟩;have S:QX (Pk X w3 p 124 (24+24) (cat 24 f (ml d a g b _ i))/\hB Z W w3 X):=⟨by first|(rw[<-OO f d a g b true i];exact n)|(rw[<-OO f d a g b false i];exact n),C.trans A⟩;go_wp2;go_end0;exact⟨rfl,X,S⟩)))
 go_enter func335,ntmps335;go_wp2_with fail;refine(ig l m _ a5).mono ?_;rintro e L ⟨rfl,rfl⟩;go_wp2_with fail;refine(mm a 1 1023 _ aa aa).mono ?_;rintro e L ⟨rfl,rfl⟩;go_wp2_with fail;refine(mm d 0 ((a:Int)-1) _ aa aa).mono ?_;rintro e L ⟨rfl,rfl⟩;go_wp2_with fail;refine(mm g 0 15 _ aa aa).mono ?_;rintro e L ⟨rfl,rfl⟩;go_wp2_with fail;refine(mm b 0 4095 _ aa aa).mono ?_;rintro e L ⟨rfl,rfl⟩;go_wp2_with fail;refine a8.mono ?_;rintro e w1 ⟨a4,c,rfl,b3,O⟩;have b4:QX (w1.ownsRow w.heap.size 5 1 (a' a4 128 c) 128 (az 128 (jb l m d a g b h i))/\aq w w1):=⟨cq b3 aJ,a7.trans (O.mono aJ)⟩;go_wp2;go_ret2;exact⟨a4,c,rfl,b4⟩
def Lt(n:Nat)(f:aN):Prop:=∀k,k<n->f k<256
def ll(n m:Nat)(f g:aN):Bool:=decide (n=m/\∀k,k<n->f k=g k)
def kF(n:Nat)(f:aN):ByteArray:=strOfNums ((TQ n).map λk=>(f k:Int))
theorem hD(n:Nat)(f:aN):(kF n f).toList=(TQ n).map λk=>WB (f k):=by unfold kF;rw[Lib.strOfNums_toList];simp[Lib.bytesOf]
theorem yy(n m:Nat)(f g:aN)(i:Lt n f)(j:Lt m g):((kF n f).toList==(kF m g).toList)=ll n m f g:=by
 have b:(kF n f).toList=(kF m g).toList↔(n=m/\∀k,k<n->f k=g k):=by
  constructor
  .intro h;have c:=h;simp only[hD]at c;have d:=congrArg VU c;simp only[RB,List.length_range]at d;refine⟨d,λk a=>?_⟩;have e:=congrArg (λl:List UInt8=>l[k]?) c;simp only[RI,SF a,SF (show k<m by omega),QY,SI]at e;have o:=congrArg UInt8.toNat e;simp only[UInt8.toNat_ofNat']at o;have:=i k a;have:=j k J;omega
  .rintro ⟨rfl,h⟩;rw[hD,hD];apply UX;intro k a;rw[h k (TY.1 a)]
 rw[Bool.eq_iff_iff];simp only[beq_iff_eq,ll,decide_eq_true_eq];exact b
theorem jc(h:kc w v n f):∀c,aq w c->(convert 41 9 v).run prog c=.ok (.string (kF n f)) c:=by
 intro c m;obtain⟨a,d,rfl,h⟩:=h;by_cases q:n=0
 .subst q;cases a with
  |none=>exact run_convert_bytes_nil c 41 5 UO UA _ _ 9 underlying9
  |some p=>have e:=run_convert_bytes_string (P:=prog) c 41 9 5 (some p) 0 d UO UA underlying9;rw[e,run_bytesToString c p 0 d [] (run_loadCells_list (P:=prog) c p [] (λj v r=>by simp at r))];rfl
 .rcases h with h|⟨b,o,rfl,l⟩
  .omega
  .refine run_convert_bytes_arg (P:=prog) c 41 5 UO UA b o n d ((TQ n).map λk=>(f k:Int)) aJ (λi g=>?_) 9 underlying9;rw[m.cell (p:=⟨b,o+i,none⟩) (QN w _ (l i g)),l i g];simp[List.getD,g]
theorem mo(c d:H)(n m:Nat)(f g:aN)(w:M)(h:kc w c n f)(i:kc w d m g)(j:Lt n f)(k:Lt m g):
  aF 264 #[c,d] w λe l=>aL e (.bool (ll n m f g))/\l=w:=by
 have o:=jc h w aj;have p:=jc i w aj;rw[<-yy n m f g j k];obtain⟨q,a⟩:=ah (kF n f);obtain⟨r,b⟩:=ah (kF m g);rw[a]at o|-;rw[b]at p|-;go_enter func264,ntmps264;go_wp2;go_ret;exact⟨rfl,rfl⟩
theorem fD{f g:aN}(h:∀k,k<n->f k=g k):ll n n f g=true:=by simp[ll];exact h
theorem FD{f g:aN}(h:n≠m):ll n m f g=false:=by simp[ll,h]
theorem IT{f g:aN}(k:Nat)(a:k<n)(h:f k≠g k):ll n m f g=false:=by simp only[ll,decide_eq_false_iff_not];rintro⟨_,b⟩;exact h (b k a)
theorem IU(v x:H)(n m:Nat)(f g:aN)(w:M)(p:kc w v n f)(r:kc w x m g)(K:n<=140737488351232):
  aF 18 #[v,x] w λe B=>aL e (.bool (ll n m f g))/\∃q,B=w.drewN q:=by
 obtain⟨a,C,rfl,p⟩:=p;obtain⟨L,y,rfl,r⟩:=r;by_cases l:n=m
 .subst l;have D:=I p;have E:=I r;go_enter func18,ntmps18;go_wp2;go_loopw [5] (λi wr=>∃k q:Nat,k<=n/\i= Y k/\wr=w.drewN q/\QX (∀j,j<k->f j=g j)) (λi _=>n-(intOf i).toNat)
  case atStart=>exact⟨0,0,QO _,rfl,rfl,λ_ h=>absurd h (RQ _)⟩
  case round=>
   obtain⟨k,q,O,rfl,rfl,z⟩:=hrel;by_cases c:k<n
   .rcases D.out with F|⟨b,o,rfl,s⟩
    .omega
    rcases E.out with F|⟨P,Q,rfl,t⟩
    .omega
    have S:=s k c;have T:=t k c;have U:(0:Int)<=(k:Int):=J;have V:(k:Int)<(n:Int):=J;by_cases d:f k=g k
    .have A:((f k:Int) !=(g k:Int))=false:=by simp[d]
     have u:=I d;go_wp2;go_quiet(fail);go_wp2;go_roundw
     case rel=>
      refine⟨k+1,_,J,by go_num,rfl,λj W=>?_⟩;by_cases e:j=k
      .subst e;exact u
      .exact z j J
     case measure=>simp[intOf];omega
    .have A:((f k:Int) !=(g k:Int))=true:=aS;have u:=I d;go_wp2;go_quiet(fail);go_wp2
     go_returns
     exact⟨by rw[IT k c u.out];rfl,_,World.drewN_drewN _ _ _⟩
   .obtain rfl:k=n:=J;go_wp2
    go_returns
    exact⟨by rw[fD z.out];rfl,_,rfl⟩
 .have A:((n:Int) !=(m:Int))=true:=aS;have G:ll n m f g=false:=FD l;rw[G];go_enter func18,ntmps18;go_wp2
  go_returns
  exact⟨rfl,0,rfl⟩
theorem wF(a b:H)(n m:Nat)(f g:aN)(w:M)(d:kc w a n f)(h:kc w b m g)(i:n<=140737488351232):
  aF 18 #[a,b] w λe c=>aL e (.bool (ll n m f g))/\aq w c:=by
 refine(IU a b n m f g w d h i).mono ?_;rintro e c ⟨rfl,q,rfl⟩;exact⟨rfl,cK aj _⟩
def sj(L:Nat)(f:aN)(w:M)(e:RV)(a:M):Prop:=
 ∃v,aL e v/\a.ownsRow w.heap.size 5 1 v L (az L f)/\aq w a
theorem eC(b o L a:Nat)(f:aN)(w:M)(p:∀k,k<L->w.cell? ⟨b,o+k,none⟩=some (.int .u8 (f k)))(x:L<=140737488355328):
  aF 199 #[.slice (some (R b o)) L a] w (sj L f w):=by
 have m:=I p;obtain⟨r,s,h,i,j⟩:=SB kg;have n:=λw=>Lib.run_eql_slice_nil (P:=prog) w 41 5 (some (R b o)) L a 0 0 UO;go_enter func199,ntmps199;go_wp2_with(first|(at_builtin;refine wpList_append_own _ rfl _ _ 41 rfl w.heap.size 5 r (.int .u8 0) 1 1 UO s h i j rfl ai _ 0 [] rfl (ZP w #[] 0 (QE _) ai rfl) (R b o) L a (az L f) rfl (by rw[aI,TX]) ?c1 (dr _ _) ?c3 ?c4 ?c5 ?_))
 case c1=>
  intro q u g;by_cases c:q<L
  .rw [ba _ _ _ c]at g;rw[iQ,YW _ _ _ (QN w _ (m.out q c)),m.out q c];exact g
  .rw [RF (by rw[aI];omega)]at g;cases g
 case c3=>unfold UE;omega
 case c4=>omega
 case c5=>simp
 intro y t d l _;have e:aq w t:=(aK aj _).grown l aJ (λk v=>by simp[WS]at v;omega);go_wp2;go_ret;exact⟨_,rfl,d,e⟩
def hE(f:aN):Bool:=decide (f 0=83/\f 1=80/\f 2=74/\f 3=76)
def eh(f:aN)(k:Nat):Nat:=if hE f=true/\k<4 then 0 else f k
theorem n'(h:Lt n f):Lt n (eh f):=λk a=>by
 unfold eh;split
 .omega
 .exact h k a
theorem wG(f:aN)(h:Lt 4 f):((kF 4 f).toList== [83,80,74,76])=hE f:=by
 rw[hD];have c:=h 0 J;have d:=h 1 J;have g:=h 2 J;have i:=h 3 J;have e:∀a b:Nat,a<256->b<256->(WB a=WB b↔a=b):=λa b j k=>by
  constructor
  .intro h;have:=congrArg UInt8.toNat h;simp only[UInt8.toNat_ofNat']at this;omega
  .rintro rfl;rfl
 rw[Bool.eq_iff_iff];unfold hE;simp only[beq_iff_eq,decide_eq_true_eq];show([WB (f 0),WB (f 1),WB (f 2),WB (f 3)] = [WB 83,WB 80,WB 74,WB 76])↔_;simp only[UD,and_true];rw[e _ _ c J,e _ _ d J,e _ _ g J,e _ _ i J]
def fT(X:Nat->Prop)(w:M)(v:H)(f:aN):Prop:=∃b o a,v=.slice (some (R b o)) 128 a/\128<=a/\¬X b/\(∀k,k<128->w.cell? ⟨b,o+k,none⟩=some (.int .u8 (f k)))/\∃c d,w.heap[b]?=some (.cells c 5 d)
theorem fT.out{w w1:M}(h:fT X w v f)(e:Out S w w1)(g:∀k,k<w.heap.size->S k->X k):fT X w1 v f:=by obtain⟨b,o,a,l,m,c,h,n,p,i⟩:=h;exact⟨b,o,a,l,m,c,λk j=>e.cell (h k j) λd=>c (g _ (QN w _ (h k j)) d),n,p,e.heap i λd=>c (g _ (RC.1 i).1 d)⟩
theorem fT.cV(h:fT X w v f)(a:aq w W):fT X W v f:=h.out (S:=λ_=>False) (Out.af a) λ_ _ e=>e.elim
theorem fT.mono(h:fT X w v f)(c:∀k,k<w.heap.size->S k->X k):fT S w v f:=by obtain⟨b,o,a,d,g,i,h,j⟩:=h;exact⟨b,o,a,d,g,λe=>i (c _ (QN w _ (h 0 J)) e),h,j⟩
theorem fT.wj(h:fT X w v f):kc w v 128 f:=by obtain⟨b,o,a,rfl,c,d,h,-⟩:=h;exact⟨_,_,rfl,.inr ⟨b,o,rfl,h⟩⟩
theorem fT.of(h:w.ownsRow n 5 1 (a' m 128 i) 128 (az 128 f))(a:¬X m):fT X w (a' m 128 i) f:=by
 refine⟨m,0,i,rfl,?_,a,λk b=>by rw[RE];exact(bC h (ba _ _ _ b)).1,?_⟩
 .rcases h.2 with⟨h,_⟩|⟨_,_,_,h,_,_,c,_⟩
  .cases h
  .cases h;exact c
 .rcases h.2 with⟨h,_⟩|⟨_,_,_,h,_,d,_⟩
  .cases h
  .cases h;exact⟨_,_,d⟩
def KR(f:aN)(w:M)(e:RV)(a:M):Prop:=
 ∃g c,aL e (.tuple #[a' g 128 c,.bool (hE f),aH 0])/\a.ownsRow w.heap.size 5 1 (a' g 128 c) 128 (az 128 (eh f))/\aq w a
theorem FE(f:aN)(h:hE f=true):YF (az 128 f) 0 (XQ 4 (.int .u8 0))=az 128 (eh f):=by
 apply TJ;intro k;rw[fh _ _ _ _ (by simp[aI])];by_cases a:k<128
 .rw [ba _ _ _ a,ba _ _ _ a];unfold eh;rw[h,YS];by_cases b:k<4
  .rw [ak J,ak ⟨rfl,b⟩,List.getElem?_replicate,ak J];rfl
  .rw [al J,al J]
 .rw [al (by rw[YS];omega),RF (by rw[aI];omega),RF (by rw[aI];omega)]
theorem qk(w:M)(B g n b m c:Nat)(xs:List H)(h:w.ownsRow B 5 1 (a' g n b) n xs)(y:m<=n)(z:0<m):
  ∃f,(Builtin.clear_ #[41] 0 #[a' g m c]).run prog w=.ok (.tuple #[]) f/\f.ownsRow B 5 1 (a' g n b) n (YF xs 0 (XQ m (.int .u8 0)))/\Out (λk=>k=g) w f:=by
 rcases h.2 with⟨d,_⟩|⟨A,j,a,d,p,l,q,r,s,t⟩
 .cases d
 cases d;have e:=run_storeCells_at (P:=prog) g 0 5 (XQ m (.int .u8 0)) 0 a w l aS (λv d=>by rw[List.eq_of_mem_replicate d];rfl);have u:(Builtin.zeroCells (SJ .u8 0).cells m).toList=XQ m (.int .u8 0):=by
  simp[Builtin.zeroCells,Value.cells];apply List.ext_getElem
  .simp
  .intro i C D;simp[YE]
 have x:0+(XQ m (SJ .u8 0)).length<=a.toList.length:=aS;refine⟨_,?_,?_,Out.setRow (S:=λk=>k=g) (Out.refl _ _) (g:=g) (λ_=>rfl) (YF a.toList 0 (XQ m (.int .u8 0))).toArray⟩
 .obtain ⟨o,rfl⟩:∃o,m=o+1:=⟨m-1,J⟩;simp only[Builtin.clear_,VX,List.getElem?_cons_zero,RY,SS UO,RG,zeroValue5,u];simp only[VK,RE,YS,List.take_zero,UN]at e;rw[e];simp[YF]
 .refine ⟨by rw[length_splice _ _ _ (by have:=h.1;simp;omega)];exact h.1,.inr ⟨g,b,_,rfl,p,setRow_heap w g a _ 5 _ l,q,r,?_,?_⟩⟩
  .rw [WA,length_splice _ _ _ x];simpa using s
  .show (YF a.toList 0 _).take _=_;rw[iR _ _ _ _ aS aS,t]
theorem wH(X:Nat->Prop)(v:H)(f:aN)(w:M)(h:fT X w v f)(G:Lt 128 f):aF 334 #[v] w (KR f w):=by
 obtain⟨b,o,c,rfl,z,-,A,-⟩:=h;have B:=I A;have l:=I (eC b o 128 c f w A J);have C:=I (wG f λk K=>G k J);unfold KR;obtain⟨m,D⟩:=ah (hE f);have d:=I D;rw[D]at C|-;go_enter func334,ntmps334;go_wp2_with fail;refine l.mono ?_;rintro e q ⟨P,rfl,r,E⟩;obtain⟨Q,i,rfl,L,s⟩:=eP r;obtain⟨j,rfl⟩:=s.resolve_left J;have F:=I r;have t:=I E;have u:=jc (w:=q) (v:=.slice (some (R b o)) 4 c) (n:=4) (f:=f) ⟨_,_,rfl,.inr ⟨b,o,rfl,λk K=>by rw[E.cell (p:=⟨b,o+k,none⟩) (QN w _ (B.out k J))];exact B k J⟩⟩ q aj;obtain⟨S,x⟩:=ah (kF 4 f);have y:=C.out;rw[x]at u y;obtain⟨T,O,wg,a⟩:=qk q w.heap.size j 128 i 4 i _ r J J;have g:=aB wg a;cases m
 .go_wp2;go_ret3;have e:az 128 (eh f)=az 128 f:=ed λk _=>by unfold eh;rw[d.out,al aJ]
  exact⟨j,i,rfl,by rw[e];exact F,t⟩
 .go_wp2;go_ret3;exact⟨j,i,rfl,by rw[<-FE f d.out];exact g.1,t.trans (g.2.below (λk _ e=>by have:=(F.lt j rfl).1;omega) t.size)⟩
structure bW where
 N:Nat
 me:Nat->Nat
 row:Nat->Nat
 da:Nat->Nat->Nat
structure bW.ok(P:bW):Prop where
 me:∀i,i<P.N->P.me i<=15
 row:∀i,i<P.N->P.row i<=4095
 da:∀i,i<P.N->Lt 128 (P.da i)
structure wI(X:Nat->Prop)(w:M)(a:Option SR)(P:bW)(dv:Nat->H):Prop where
 l:P.N=0\/∃b o,a=some (R b o)/\¬X b/\∀i,i<P.N->w.cell? ⟨b,o+i*3,none⟩=some (Y (P.me i))/\w.cell? ⟨b,o+i*3+1,none⟩=some (Y (P.row i))/\w.cell? ⟨b,o+i*3+2,none⟩=some (dv i)
 d:∀i,i<P.N->fT X w (dv i) (P.da i)
def nR(X:Nat->Prop)(w:M)(v:H)(P:bW):Prop:=∃a b c,v=.slice a P.N b/\P.N<=b/\wI X w a P c
theorem wI.out{w w1:M}{a:Option SR}{P:bW}{f:Nat->H}(h:wI X w a P f)(c:Out S w w1)(g:∀k,k<w.heap.size->S k->X k):wI X w1 a P f:=by
 refine⟨?_,λi d=>(h.d i d).out c g⟩;rcases h.l with h|⟨b,o,m,j,n⟩
 .exact .inl h
 .refine .inr ⟨b,o,m,j,λi d=>?_⟩;obtain⟨l,p,q⟩:=n i d;have e:¬S b:=λr=>j (g _ (QN w _ l) r);exact⟨c.cell l e,c.cell p e,c.cell q e⟩
theorem wI.mono{a:Option SR}{P:bW}{c:Nat->H}(h:wI X w a P c)(d:∀k,k<w.heap.size->S k->X k):wI S w a P c:=by
 refine⟨?_,λi g=>(h.d i g).mono d⟩;by_cases j:P.N=0
 .exact .inl j
 rcases h.l with h|⟨b,o,l,m,f⟩
 .exact .inl h
 .exact .inr ⟨b,o,l,λe=>m (d _ (QN w _ (f 0 J).1) e),f⟩
theorem nR.out{w w1:M}{P:bW}(h:nR X w v P)(c:Out S w w1)(d:∀k,k<w.heap.size->S k->X k):nR X w1 v P:=by obtain⟨a,b,f,e,g,h⟩:=h;exact⟨a,b,f,e,g,h.out c d⟩
theorem nR.mono{P:bW}(h:nR X w v P)(c:∀k,k<w.heap.size->S k->X k):nR S w v P:=by obtain⟨a,b,d,e,f,h⟩:=h;exact⟨a,b,d,e,f,h.mono c⟩
theorem nR.cV{P:bW}(h:nR X w v P)(a:aq w W):nR X W v P:=h.out (S:=λ_=>False) (Out.af a) λ_ _ e=>e.elim
def fE(a b:Nat)(P:bW):Nat->Nat
 |0=>0
 |i+1=>dN (fE a b P i) 128 (jb a b i P.N (P.me i) (P.row i) (hE (P.da i)) (dN 0 128 (eh (P.da i))))
def bh(a b:Nat)(P:bW)(j:Nat):Nat->Nat:=
 if j=2*P.N then ef a b P.N (fE a b P P.N)else if j%2=0 then jb a b (j/2) P.N (P.me (j/2)) (P.row (j/2)) (hE (P.da (j/2))) (dN 0 128 (eh (P.da (j/2))))else eh (P.da (j/2))
structure jd(B:Nat)(S:Nat->Prop)(w:M)(lv:H)(n:Nat)(sv:Nat->H)(sf:dp):Prop where
 own:w.ownsRow B 41 1 lv n (bQ n sv)
 sec:∀j,j<n->fT (fun k=>k<B\/S k\/lv.ownBlock=some k) w (sv j) (sf j)
theorem jG(a:∀k,f k<256)(k:Nat):i' n m i j f k<256:=
 cW (cW (cW (λ_=>by show 0<256;omega) (lh a)) (cI _)) (λ_=>by show 0<256;omega) k
theorem oL(d e f a g b:Nat)(c:Bool)(h k:Nat):jb d e f a g b c h k<256:=jG (lj _ _ _ _ _ _) k
theorem ln(a b:Nat)(P:bW)(i:Nat):fE a b P i<4294967296:=by
 induction i with
 |zero=>show 0<4294967296;omega
 |succ i c=>exact gW _ _ _ c λk _=>oL _ _ _ _ _ _ _ _ k
theorem oM:(prog.info? 41).map (λi=>(i.zero,i.size,i.bytes))=some (some aO,1,24):=aE
theorem zS(w:M)(N:Nat)(h:N<=2000000):∃a,(SY 42 (Y 0) (Y (N:Int))).run prog w=.ok (a' w.heap.size 0 N) (w.alloc (ao a 41))/\a.size=N:=by obtain⟨e,f,b,c,d⟩:=SB oM;have:=run_make (P:=prog) w 42 41 e aO underlying42 f b .i64 .i64 0 N J J (by rw[d];omega) J;rw[c,Int.toNat_natCast]at this;exact⟨_,this,by simp[TN]⟩
def MW(c d:Nat)(P:bW)(w:M)(e:RV)(a:M):Prop:=
 ∃b f,aL e (.tuple #[b,aH 0])/\jd w.heap.size (λ_=>False) a b (2*P.N+1) f (bh c d P)/\aq w a
def sk{α:Type}(N:Nat)(f g:Nat->α)(k:Nat):α:=if k<N then f k else g (k-N)
theorem Cg(n m:Nat)(f g:Nat->H):bQ n f++bQ m g=bQ (n+m) (sk n f g):=by
 apply TJ;intro k;by_cases a:k<n
 .rw [RD (by rw[bG];exact a),cc _ _ _ a,cc _ _ _ J];unfold sk;rw[ak a]
 .rw [RA (by rw[bG];omega),bG];by_cases b:k<n+m
  .rw [cc _ _ _ J,cc _ _ _ b];unfold sk;rw[al a]
  .rw [RF (by rw[bG];omega),RF (by rw[bG];omega)]
theorem jd.push{lv b:H}{sv f:Nat->H}{g nf F:dp}(h:jd i S w lv n sv g)(l:aq w W)(o:nO r W lv n m b z)(v:w.heap.size<=r)(s:z.ownsRow i 41 1 b (n+m) (bQ n sv++bQ m f))(t:∀j,j<m->fT (λk=>k<i\/S k\/lv.ownBlock=some k\/w.heap.size<=k) w (f j) (nf j))(hF:∀j,j<n+m->F j=sk n g nf j):jd i S z b (n+m) (sk n sv f) F:=by
 have p:Out (λk=>lv.ownBlock=some k) w z:=o.out (Out.af l) λk c _=>c;have q:∀k,b.ownBlock=some k->lv.ownBlock=some k\/w.heap.size<=k:=λk c=>(o.block c).imp id λe=>J;refine⟨by rw[<-Cg];exact s,λj u=>?_⟩;rw[hF j u];unfold sk;by_cases e:j<n
 .rw [ak e,ak e];have h1:fT (λk=>k<i\/S k\/lv.ownBlock=some k\/w.heap.size<=k) w (sv j) (g j):=(h.sec j e).mono λk c d=>by
   rcases d with h1|h1|h1|h1
   .exact .inl h1
   .exact .inr (.inl h1)
   .exact .inr (.inr h1)
   .exact absurd c J
  refine(h1.out p λk _ e=>.inr (.inr (.inl e))).mono λk _ d=>?_;rcases d with a|a|a
  .exact .inl a
  .exact .inr (.inl a)
  .exact (q k a).elim (λe=>.inr (.inr (.inl e))) λe=>.inr (.inr (.inr e))
 .rw [al e,al e];refine((t (j-n) J).out p λk _ e=>.inr (.inr (.inl e))).mono λk _ d=>?_;rcases d with a|a|a
  .exact .inl a
  .exact .inr (.inl a)
  .exact (q k a).elim (λe=>.inr (.inr (.inl e))) λe=>.inr (.inr (.inr e))
theorem mq(a b:Nat)(P:bW)(i:Nat)(h:i<P.N):bh a b P (2*i)=jb a b i P.N (P.me i) (P.row i) (hE (P.da i)) (dN 0 128 (eh (P.da i))):=by unfold bh;rw[al J,ak J,show 2*i/2=i by omega]
theorem Ch(a b:Nat)(P:bW)(i:Nat):bh a b P (2*i+1)=eh (P.da i):=by unfold bh;rw[al J,al J,show(2*i+1)/2=i by omega]
theorem zT(a b:Nat)(P:bW):bh a b P (2*P.N)=ef a b P.N (fE a b P P.N):=ak rfl
theorem bo(h:w.ownsRow m t i v n L)(a:v.ownBlock=some k):k<w.heap.size/\m<=k:=by
 rcases h.2 with⟨rfl,_⟩|⟨g,b,c,rfl,d,e,_⟩
 .cases a
 .cases a;exact⟨(RC.1 e).1,d⟩
theorem jd.out{w w1:M}{a:Nat->H}(h:jd m S w v n a F)(b:Out Q w w1)(c:∀k,Q k->S k/\v.ownBlock≠some k):jd m S w1 v n a F:=
 ⟨b.own h.own λk e d=>(c k d).2 e,λj f=>(h.sec j f).out b λk _ e=>.inr (.inl (c k e).1)⟩
theorem jd.mono{a:Nat->H}(h:jd m S w v n a F)(b:i<=m)(c:∀k,Q k->S k):jd i Q w v n a F:=
 ⟨cq h.own b,λj d=>(h.sec j d).mono λk _ e=>by
  rcases e with e|e|e
  .exact .inl J
  .exact .inr (.inl (c k e))
  .exact .inr (.inr e)⟩
structure IV(w wr:M)(ep sq:Nat)(P:bW)(d:Nat)(lv:H)(i:Nat)(sv:Nat->H):Prop where
 sn:jd w.heap.size (fun k=>k=d) wr lv (2*i) sv (bh ep sq P)
 HV:FA wr d (fE ep sq P i) (128*i)
 dA:aq w wr
 dB:w.heap.size<=d
 ne:lv.ownBlock≠some d
theorem tS(X:Nat->Prop)(f c:Nat)(v:QC)(P:bW)(w:QA)(h:nR X w v P)(k2:P.ok)(i7:1<=P.N)(l1:P.N<=1023)(k3:cM f c):
  aF 302 #[.int .u64 f,.agg #[.int .u64 c,v]] w (MW f c P w):=by
 obtain⟨a,b5,l5,rfl,e5,i8⟩:=h;obtain⟨b,o,rfl,l6,-⟩:=i8.l.resolve_left aa;have k4:=ad i8;have e6:=ad k2;have k5:=ad k3;obtain⟨i9,j0,j1⟩:=k3;have g1:(f:Int)<=4611686018427387904:=aa;have g2:(1:Int)<=c:=aa;have g3:(c:Int)<=4611686018427387904:=aa;obtain⟨N,b6⟩:=ah P.N;have Y:=ad b6;rw[b6]at i7 l1 e5|-;have y:¬(N:Int)<1:=aa;have g5:¬(1023:Int)<N:=aa;clear i8 k2 i9 j0 j1 b6;go_enter func302,ntmps302;go_wp2_with fail;obtain⟨x,b7⟩:=ah (w.alloc (ao #[.int .u64 c,.slice (some (ag b o)) N b5] 204));have q:QX (aq w x/\aX x w.heap.size (ao #[.int .u64 c,.slice (some (ag b o)) N b5] 204)):=by rw[<-b7];exact⟨aK aj _,QB _ _⟩
 rw[b7];obtain⟨J,b8⟩:=ah w.heap.size;have a5:=ad b8;rw[b8];clear b7 b8;go_loopw [7,32] (λs7 b9 wr=>∃k:Nat,k<=N/\b9= ae k/\s7= aH 0/\QX (aq x wr)) (λ_ b9 _=>N-(intOf b9).toNat)
 case atStart=>exact⟨0,QO _,rfl,rfl,aj⟩
 case round=>
  obtain⟨k,R,rfl,rfl,h8⟩:=hrel;by_cases e7:k<N
  .have z:=k4.out.out (S:=λ_=>False) (Out.af (q.1.trans (h8.mono q.1.size))) λ_ _ e=>e.elim;obtain⟨_,_,e0,-,a0⟩:=z.l.resolve_left (by have:=Y.out;omega);cases e0;obtain⟨c1,c2,c3⟩:=a0 k (by have:=Y.out;omega);obtain⟨h9,i0,L,a1,-,-,-⟩:=z.d k (by have:=Y.out;omega);rw[a1]at c3;have m1:(P.me k:Int)<=15:=by have:=e6.me k (by have:=Y.out;omega);omega
   have m2:(P.row k:Int)<=4095:=by have:=e6.row k (by have:=Y.out;omega);omega
   have m3:(0:Int)<=P.me k:=aa;have m4:(0:Int)<=P.row k:=aa;obtain⟨mk,A⟩:=ah (P.me k);obtain⟨a4,O⟩:=ah (P.row k);rw[A]at c1 m1 m3;rw[O]at c2 m2 m4;have i1:(0:Int)<=k:=aa;have i2:(k:Int)<N:=aa;clear z a0 a1 A O;go_wp2;go_roundw
   case rel=>exact⟨k+1,aa,by go_num,rfl,aK h8 _⟩
   case measure=>simp[intOf];omega
  .obtain rfl:k=N:=aa;obtain⟨k1,f1,z1⟩:=cr ((h8.block _ (RC.1 (a5▸q.2)).1).trans (a5▸q.2));obtain⟨c0,b3,e8⟩:=zS wr (2*k+1) aa;have A:(SY 42 (ae 0) (ae (2*(k:Int)+1))).run prog wr=.ok (a' wr.heap.size 0 (2*k+1)) (wr.alloc (ao c0 41)):=b3;have k6:=ad (ZP (base:=wr.heap.size) (e:=41) (size:=1) wr c0 (2*k+1) (QE _) (by unfold UE;omega) (by rw[e8,TX]));go_wp2_with fail;refine(FB _).mono ?_;rintro e w2 ⟨rfl,i3,a2⟩;obtain⟨d,Q⟩:=ah ((wr.alloc (ao c0 41)).heap.size);have e9:wr.heap.size+1=d:=by rw[<-Q,SP]
   rw[Q]at i3;have k7:wr.heap.size+1=d:=e9;have k8:QX (IV x w2 f c P d (a' wr.heap.size 0 (2*k+1)) 0 (λ_=> aO)):=by have h1:=h8.out;refine⟨⟨?_,λj f0=>absurd f0 (RQ _)⟩,i3,(aK h1 _).trans (a2.mono (by simp;have:=h1.size;omega)),by have:=h1.size;omega,λe=>by simp only[WS,SI]at e;omega⟩;exact aP a2 (cq k6 h1.size)
   clear i3 a2 A b3 e8 k6 Q e9 k1;have G:QX (aX x J (ao #[.int .u64 c,.slice (some (ag b o)) k b5] 204)/\J<x.heap.size):=⟨a5▸q.2,(RC.1 (a5▸q.2)).1⟩;obtain⟨k1,f1,z1⟩:=cr ((k8.dA.block J G.2).trans G.1);go_wp2_with fail;clear k1;go_loopw [10,86] (λj2 c4 l2=>∃(i:Nat) (a6:Nat->QC),i<=k/\c4= ae i/\QX (IV x l2 f c P d j2 i a6)) (λ_ c4 _=>k-(intOf c4).toNat)
   case atStart=>exact⟨0,_,QO _,rfl,k8⟩
   case round=>
    obtain⟨i,a6,l7,rfl,g⟩:=hrel;obtain⟨c5,c6,rfl,-⟩:=au g.sn.own;by_cases e7:i<k
    .have K:i<P.N:=by have:=Y.out;omega
     have z:=k4.out.out (S:=λ_=>False) (Out.af (q.1.trans (g.dA.mono q.1.size))) λ_ _ e=>e.elim;obtain⟨_,_,e0,-,a0⟩:=z.l.resolve_left aa;cases e0;obtain⟨c1,c2,c3⟩:=a0 i K;have a7:=ad (z.d i K);obtain⟨h9,i0,L,a1,-,-,-⟩:=z.d i K;rw[a1]at c3 a7;have C:=ad (show P.me i<=15/\P.row i<=4095/\Lt 128 (P.da i)from⟨e6.me i K,e6.row i K,e6.da i K⟩);obtain⟨mk,A⟩:=ah (P.me i);obtain⟨a4,O⟩:=ah (P.row i);obtain⟨d9,c7⟩:=ah (P.da i);have c8:=aT A O c7;rw[A]at c1 C;rw[O]at c2 C;rw[c7]at C a7;have i1:(0:Int)<=i:=aa;have i2:(i:Int)<k:=aa;clear z a0 a1 A O c7;obtain⟨i4,c9⟩:=ah (wr.alloc (ao #[ae mk,ae a4,.slice (some (ag h9 i0)) 128 L] 206));have e4:QX (aq wr i4/\aX i4 wr.heap.size (ao #[ae mk,ae a4,.slice (some (ag h9 i0)) 128 L] 206)):=by rw[<-c9];exact⟨aK aj _,QB _ _⟩
     have f2:=ad c9;have f3:=ad (wH (λ_=>False) _ d9 i4 ((a7.cV e4.1).mono λ_ _ e=>e.elim) C.2.2);clear c9;go_wp2_with fail;rw[f2.out];refine f3.mono ?_;rintro e w2 ⟨g2,T,rfl,k9,a2⟩;have f4:=ad k9;have a8:=ad (e4.1.trans (a2.mono e4.1.size));have f5:QX (aX w2 wr.heap.size (ao #[ae mk,ae a4,.slice (some (ag h9 i0)) 128 L] 206)):=(a2.block _ (RC.1 e4.2).1).trans e4.2;obtain⟨i5,f6⟩:=ah wr.heap.size;rw[f6]at f5|-;clear k9 a2 f6 f3 f2 c1 c2 c3;obtain⟨p1,p2,p3⟩:=cr f5;obtain⟨t1,t2,t3⟩:=cr ((a8.block J (RL G.2 g.dA.size)).trans ((g.dA.block J G.2).trans G.1));have e1:=p1 0;have e2:=p1 1;have e3:=t1 0;simp at e1 e2 e3;have d0:QX (∀W,aq w2 W->aF 160 #[a' g2 128 T] W λe a9=>aL e (.int .u32 (dN 0 128 (eh d9):Nat))/\aq W a9):=λW a2=>jD 128 _ (eh d9) W ((oJ f4).cV a2) (λk R=>n' C.2.2 k R) aa;have a3:=gW 0 128 (eh d9) aa λk R=>n' C.2.2 k R;obtain⟨I,r⟩:=ah (dN 0 128 (eh d9));obtain⟨f7,d1⟩:=ah (hE d9);have U:=aB r d1;rw[r]at d0 a3;rw[d1];have f8:QX (∀W,aq w2 W->aF 335 #[.agg #[.int .u64 f,.int .u64 c,ae i,ae k,ae mk,ae a4,.bool f7,.int .u32 I]] W (si 128 (jb f c i k mk a4 f7 I) W)):=λW _=>tR f c i k mk a4 I f7 W k5 aa aa e7 C.1 C.2.1 a3;clear r d1 p1 t1 a7;go_wp2_with fail;go_region_held3(λa9=>a9.cell? (ag i5 0)=some (ae mk)/\a9.cell? (ag i5 1)=some (ae a4)/\a9.cell? (ag J 0)=some (.int .u64 c)) ((simp[*,go_sem];done)) (first|(go_at_call 160;refine(d0 _ bF).mono ?_;rintro e w3 ⟨rfl,V⟩;have p:aq w2 w3:=⟨V.os,V.tape,V.output,V.size,V.block⟩;obtain⟨x1,x2,x3⟩:=kp p i5 p3;obtain⟨y1,y2,y3⟩:=kp p J t3)|(go_at_call 335;refine(f8 _ (by first|exact p|exact a_ p)).mono ?_;rintro e Z ⟨y,s,rfl,wi,l⟩;have D:aq w2 Z:=p.trans (Below.mono ⟨l.os,l.tape,l.output,l.size,l.block⟩ p.size);obtain⟨x4,x5,x6⟩:=kp D i5 p3;obtain⟨y4,y5,y6⟩:=kp D J t3));have E:QX (aq wr Z):=a8.trans (D.mono a8.size);have H:=ad (cq wi p.size);have b4:=ad (aP D f4);have d2:d<wr.heap.size:=(RC.1 g.HV).1;have j3:QX (FA Z d (fE f c P i) (128*i)):=(E.block d d2).trans g.HV;have j4:=ad (aP E g.sn.own);have f9:=ad (r_ Z d (fE f c P i) (128*i) 128 _ (jb f c i k mk a4 f7 I) j3 (ln _ _ _ _) (oJ H) (λk _=>oL _ _ _ _ _ _ _ _ k) aa aa);clear wi l V p D x1 x4 y1 y4 e1 e2 e3 p3 t3 f8 d0;go_wp2_with fail;refine f9.mono ?_;rintro e w5 ⟨rfl,g0,M⟩;have j5:QX (w5.ownsRow x.heap.size 41 1 (.slice c5 (2*i) c6) (2*i) (bQ (2*i) a6)):=M.own j4 λk e g6=>g.ne (by rw[e,g6]);have b0:QX (Out (λk=>k=d) wr w5):=(Out.af E).tr M;have g7:y<Z.heap.size/\w2.heap.size<=y:=bo H rfl;have j6:g2<Z.heap.size/\i4.heap.size<=g2:=bo b4 rfl;have g8:=a8.size;have g9:=e4.1.size;have d3:=M.size;have j7:QX (∀j,j<2->fT (λk=>k<x.heap.size\/k=d\/(RR c5 (2*i) c6).ownBlock=some k\/w5.heap.size<=k) w5 ([a' y 128 s,a' g2 128 T].getD j aO) (bh f c P (2*i+j))):=λj f0=>by
      have h0:∀k,(RR c5 (2*i) c6).ownBlock=some k->k<wr.heap.size:=λk R=>(bo g.sn.own R).1;have h2:=g.dA.size;obtain rfl|rfl:j=0\/j=1:=aa
      .rw [VK,mq _ _ _ _ K,Y.out,c8.1,c8.2.1,c8.2.2,U.1,U.2];refine fT.of (M.own H λk e g6=>?_) ?_
       .cases e;exact absurd (show y=d from g6) aa
       .rintro (h|h|h|h)
        .omega
        .omega
        .have:=h0 _ h;omega
        .omega
      .rw [Ch _ _ _ _,c8.2.2];refine fT.of (M.own b4 λk e g6=>?_) ?_
       .cases e;exact absurd (show g2=d from g6) aa
       .rintro (h|h|h|h)
        .omega
        .omega
        .have:=h0 _ h;omega
        .omega
     have j8:QX (FA w5 d (fE f c P (i+1)) (128*(i+1))):=by
      have:fE f c P (i+1)=dN (fE f c P i) 128 (jb f c i k mk a4 f7 I):=by show dN _ 128 (jb f c i P.N (P.me i) (P.row i) (hE (P.da i)) (dN 0 128 (eh (P.da i))))=_;rw[Y.out,c8.1,c8.2.1,c8.2.2,U.1,U.2]
      rw[this];exact g0
     clear g0 M f9 g7 j6 g8 g9 d3;obtain⟨d4,d5,d6,d7,d8⟩:=SB oM;go_wp2_with(first|(at_builtin;refine aU _ rfl _ _ 42 rfl x.heap.size 41 d4 aO 1 24 underlying42 d5 d6 d7 d8 rfl ai (.slice c5 (2*i) c6) (2*i) (bQ (2*i) a6) rfl (j5.alloc _) (ag w5.heap.size 0) 2 2 [a' y 128 s,a' g2 128 T] rfl rfl (RW (cs:= #[a' y 128 s,a' g2 128 T]) (t:=41) (fr:=(0,0)) (QB w5 _)) (by intro u i6;simp at i6;rcases i6 with rfl|rfl<;>rfl) aa (by unfold UE;omega) aa (by have:=g.dA.size;have:=b0.size;simp;omega) ?_));intro b1 w6 F n;have b2:QX (jd x.heap.size (λk=>k=d) w6 b1 (2*(i+1)) (sk (2*i) a6 (([a' y 128 s,a' g2 128 T].getD · aO))) (bh f c P)):=by
      refine jd.push (nf:=λj=>bh f c P (2*i+j)) (g.sn.out b0 λk e=>⟨e,λh=>?_⟩) (aK aj _) n (US _) F j7 λj f0=>?_
      .exact g.ne (by rw[h,show k=d from e])
      .show bh f c P j=if j<2*i then bh f c P j else bh f c P (2*i+(j-2*i))
       split
       .rfl
       .rw [show 2*i+(j-2*i)=j by omega]
     have h3:∀k,(RR c5 (2*i) c6).ownBlock=some k->k<wr.heap.size/\x.heap.size<=k:=λk R=>bo g.sn.own R;have h6:QX (IV x w6 f c P d b1 (i+1) (sk (2*i) a6 (([a' y 128 s,a' g2 128 T].getD · aO)))):=by
      have h2:=g.dA.size;have h5:=b0.size;have Q:=g.dB;refine⟨b2,?_,?_,Q,λe=>?_⟩
      .refine n.heap ?_ g.ne;exact(QW _ _ _ aa).trans j8
      .refine n.below (B:=x.heap.size) ((g.dA.trans (b0.below (λk _ e=>?_) h2)).alloc aa _) aS λk R=>(h3 k R).2;rw[show k=d from e];exact Q
      .rcases n.block e with h|h
       .exact g.ne h
       .omega
     clear b2 F n h3;obtain⟨l3,l4,rfl,-⟩:=au h6.sn.own;go_wp2;go_roundw
     case rel=>exact⟨i+1,_,aa,by go_num,h6⟩
     case measure=>simp[intOf];omega
    .obtain rfl:i=k:=aa;have d2:d<wr.heap.size:=(RC.1 g.HV).1;obtain⟨t1,t2,t3⟩:=cr ((g.dA.block J G.2).trans G.1);have e3:=t1 0;simp at e3;have l0:QX (∀W,aq wr W->aF 311 #[ar d] W λe a9=>aL e (.int .u32 (fE f c P i))/\W=a9):=λW a2=>yw W d _ (128*i) ((a2.block d d2).trans g.HV);have a3:=ln f c P i;obtain⟨I,r⟩:=ah (fE f c P i);have U:=ad r;rw[r]at l0 a3;have j9:QX (∀W,aq wr W->aF 336 #[.agg #[.int .u64 f,.int .u64 c,ae i,.int .u32 I]] W (si 128 (ef f c i I) W)):=λW _=>oK f c i I W k5 aa aa a3;clear r t1;go_wp2_with fail;go_region_held3(λa9=>a9.cell? (ag J 0)=some (.int .u64 c)) ((simp[*,go_sem];done)) (first|(go_at_call 311;refine(l0 _ bF).mono ?_;rintro e w3 ⟨rfl,rfl⟩)|(go_at_call 336;refine(j9 _ bF).mono ?_;rintro e Z ⟨y,s,rfl,wi,l⟩;obtain⟨y1,y2,y3⟩:=kp l J (by first|exact t3|go_size)));have E:QX (aq wr Z):=⟨l.os,l.tape,l.output,l.size,l.block⟩;have H:QX (Z.ownsRow wr.heap.size 5 1 (a' y 128 s) 128 (az 128 (ef f c i I))):=⟨wi.1,wi.2⟩;have h7:QX (jd x.heap.size (λk=>k=d) Z (.slice c5 (2*i) c6) (2*i) a6 (bh f c P)):=g.sn.out (Out.af (S:=λ_=>False) E) λ_ e=>e.elim;have g7:y<Z.heap.size/\wr.heap.size<=y:=bo H rfl;clear wi l y1 e3 t3;obtain⟨d4,d5,d6,d7,d8⟩:=SB oM;go_wp2_with(first|(at_builtin;refine aU _ rfl _ _ 42 rfl x.heap.size 41 d4 aO 1 24 underlying42 d5 d6 d7 d8 rfl ai (.slice c5 (2*i) c6) (2*i) (bQ (2*i) a6) rfl (h7.own.alloc _) (ag Z.heap.size 0) 1 1 [a' y 128 s] rfl rfl (RW (cs:= #[a' y 128 s]) (t:=41) (fr:=(0,0)) (QB Z _)) (by intro u i6;rw[SM.1 i6];rfl) aa (by unfold UE;omega) aa (by have:=g.dA.size;have:=E.size;simp;omega) ?_));intro b1 w6 F n;have b2:QX (jd x.heap.size (λk=>k=d) w6 b1 (2*i+1) (sk (2*i) a6 (λ_=>a' y 128 s)) (bh f c P)):=by
      refine jd.push (m:=1) (nf:=λ_=>ef f c i I) h7 (aK aj _) n (US _) F (λj f0=>fT.of H ?_) λj f0=>?_
      .have i3:=(RC.1 g.HV).1;have h2:=g.dA.size;rintro(h|h|h|h)
       .omega
       .exact absurd (show y=d from h) aa
       .have:=(bo g.sn.own h).1;omega
       .omega
      .show bh f c P j=if j<2*i then bh f c P j else ef f c i I
       split
       .rfl
       .obtain rfl:j=2*i:=aa;rw[<-Y.out,zT,Y.out,U.out]
     have k0:QX (aq w w6):=by have h2:=g.dA.size;have h4:=E.size;have h1:=q.1.size;refine q.1.trans ((n.below (B:=x.heap.size) ((g.dA.trans (E.mono h2)).alloc aa _) aS λk R=>(bo g.sn.own R).2).mono h1)
     clear F n;go_wp2;go_ret2;exact⟨_,_,rfl,by rw[Y.out];exact b2.mono q.1.size λ_ e=>e.elim,k0⟩
def dR(w:M)(v:H)(f:aN):Prop:=∃b o a c d,v=.slice (some (R b o)) 128 a/\128<=a/\w.heap[b]?=some (.cells c 5 d)/\∀k,k<128->c[o+k]?=some (.int .u8 (f k))
theorem dR.out{w w1:M}(h:dR w v f)(d:Out S w w1)(g:∀k o,S k->w.heap[k]?=some o->ty o≠5):dR w1 v f:=by obtain⟨b,o,a,i,j,l,m,c,n⟩:=h;exact⟨b,o,a,i,j,l,m,d.heap c λe=>g _ _ e c rfl,n⟩
theorem dR.below(h:dR w v f)(a:aq w W):dR W v f:=h.out (Out.af (S:=λ_=>False) a) λ_ _ h=>h.elim
theorem dR.fr[Lo](h:dR w v f)(c:Fr T aG w W)(d:T.contains 5=false):dR W v f:=by obtain⟨b,o,a,e,g,i,j,k,l⟩:=h;exact⟨b,o,a,e,g,i,j,c.hp k d,l⟩
theorem dR.eI(h:dR w v f):cA w v 128 f:=by obtain⟨b,o,a,c,d,rfl,i,e,g⟩:=h;exact⟨_,_,rfl,.inr ⟨b,o,c,d,rfl,e,g⟩⟩
theorem dR.wj(h:dR w v f):kc w v 128 f:=h.eI.wj
theorem dR.congr{f g:aN}(h:dR w v f)(e:∀k,k<128->f k=g k):dR w v g:=by obtain⟨b,o,a,d,i,j,l,m,n⟩:=h;exact⟨b,o,a,d,i,j,l,m,λk c=>by rw[n k c,e k c]⟩
theorem eR(h:w.ownsRow n 5 1 v 128 (az 128 f)):dR w v f:=by
 rcases h.2 with⟨rfl,d⟩|⟨g,a,b,rfl,m,e,i,o,p,j⟩
 .cases d
 .refine ⟨g,0,a,b,_,rfl,i,e,λk c=>?_⟩;have:=congrArg (λl=>l[k]?) j;simp only[SX,TX,ba 128 f k c,ak c]at this;rw[RE];simpa using this
theorem dR.form(h:dR w v f):∃b o c,v=.slice (some (R b o)) 128 c:=by obtain⟨b,o,a,e,g,d,_⟩:=h;exact⟨b,o,a,d⟩
theorem hG(v:H)(f:aN)(w:M)(h:dR w v f):aF 199 #[v] w (sj 128 f w):=by obtain⟨b,o,a,c,d,rfl,i,e,g⟩:=h;exact eC b o 128 a f w (λk h=>(QS w b (o+k) c 5 d e).trans (g k h)) J
abbrev Pt:=Nat × Nat × (Nat->Nat)
variable {l:List Pt}
def dg(l:List Pt)(a:List H):List H:=(l.zip a).flatMap λx=> [Y x.1.1,Y x.1.2.1,x.2]
theorem oN(h:L.length=l.length)(p:Pt)(u:H):dg (l++ [p]) (L++ [u])=dg l L++ [Y p.1,Y p.2.1,u]:=by unfold dg;rw[List.zip_append h.symm,UY];rfl
theorem so{l c:List Pt}{b a:List H}(h:b.length=l.length):dg (l++c) (b++a)=dg l b++dg c a:=by unfold dg;rw[List.zip_append h.symm,UY]
theorem qJ(h:L.length=l.length):(dg l L).length=l.length*3:=by
 unfold dg;have e:∀z:List (Pt × H),(z.flatMap λx=> [Y x.1.1,Y x.1.2.1,x.2]).length=z.length*3:=by
  intro z;induction z with
  |nil=>rfl
  |cons a z b=>rw[List.flatMap_cons,QU,b];simp;omega
 rw[e,List.length_zip,h,Nat.min_self]
theorem jH:∀{l:List Pt} {us:List H} {i:Nat} {p:Pt} {u:H},l[i]?=some p->us[i]?=some u->(dg l us)[i*3]?=some (Y p.1)/\(dg l us)[i*3+1]?=some (Y p.2.1)/\(dg l us)[i*3+2]?=some u
 | [],_,_,_,_,h,_=>by simp at h
 |_::_,[],_,_,_,_,h=>by simp at h
 |q::l,v::us,0,p,u,h,g=>by simp at h g;subst h;subst g;exact⟨rfl,rfl,rfl⟩
 |q::l,v::us,i+1,p,u,h,g=>by
  have a:=jH (l:=l) (us:=us) (i:=i) (p:=p) (u:=u) (by simpa using h) (by simpa using g);have e:dg (q::l) (v::us)= [Y q.1,Y q.2.1,v] ++dg l us:=rfl;rw[e];refine⟨?_,?_,?_⟩
  .rw [RA aS];simpa[show(i+1)*3-3=i*3 by omega]using a.1
  .rw [RA aS];simpa[show(i+1)*3+1-3=i*3+1 by omega]using a.2.1
  .rw [RA aS];simpa[show(i+1)*3+2-3=i*3+2 by omega]using a.2.2
def e'(w:M)(v:H)(l:List Pt):Prop:=
 ∃a c,v=.slice a l.length c/\l.length<=c/\(l= []\/∃b o d e,a=some (R b o)/\w.heap[b]?=some (.cells d 206 e)/\
  ∀i (p:Pt),l[i]?=some p->d[o+i*3]?=some (Y p.1)/\d[o+i*3+1]?=some (Y p.2.1)/\∃u,d[o+i*3+2]?=some u/\dR w u p.2.2)
theorem e'.out{w w1:M}(h:e' w v l)(d:Out S w w1)(f:∀k o,S k->w.heap[k]?=some o->ty o≠5/\ty o≠206):e' w1 v l:=by obtain⟨a,c,j,m,n⟩:=h;refine⟨a,c,j,m,n.imp id ?_⟩;rintro⟨b,o,q,r,s,g,t⟩;refine⟨b,o,q,r,s,d.heap g λe=>(f _ _ e g).2 rfl,λi p x=>?_⟩;obtain⟨y,z,u,A,B⟩:=t i p x;exact⟨y,z,u,A,B.out d λk o C D=>(f k o C D).1⟩
theorem e'.below(h:e' w v l)(a:aq w W):e' W v l:=h.out (Out.af (S:=λ_=>False) a) λ_ _ h=>h.elim
theorem e'.fr[Lo](h:e' w v l)(f:Fr T aG w W)(g:T.contains 5=false)(j:T.contains 206=false):e' W v l:=by obtain⟨a,c,d,e,k⟩:=h;refine⟨a,c,d,e,k.imp id ?_⟩;rintro⟨b,o,m,n,q,r,s⟩;refine⟨b,o,m,n,q,f.hp r j,λi p t=>?_⟩;obtain⟨d,e,u,x,y⟩:=s i p t;exact⟨d,e,u,x,y.fr f g⟩
theorem e'.nil(w:M):e' w aO []:=⟨none,0,rfl,QE _,.inl rfl⟩
def fa(B:Nat)(w:M)(v:H)(l:List Pt):Prop:=
 ∃us:List H,us.length=l.length/\w.ownsRow B 206 3 v l.length (dg l us)/\∀(i:Nat) (p:Pt) (u:H),l[i]?=some p->us[i]?=some u->dR w u p.2.2
theorem fa.nil(B:Nat)(w:M):fa B w aO []:=⟨[],rfl,SD _ _ _ _,λi p u h=>by simp at h⟩
theorem fa.yz(h:fa n w v l):e' w v l:=by
 obtain⟨e,A,k,m⟩:=h;rcases k.2 with⟨rfl,o⟩|⟨g,b,a,rfl,B,q,r,C,D,s⟩
 .have:=TS o;subst this;exact e'.nil w
 .refine ⟨_,b,rfl,r,.inr ⟨g,0,a,_,rfl,q,λi p c=>?_⟩⟩;have E:=(QR.1 c).1;obtain⟨u,f⟩:∃u,e[i]?=some u:=⟨_,QQ J⟩;obtain⟨t,x,y⟩:=jH c f;have d:∀j,j<l.length*3->a[j]?=(dg l e)[j]?:=λj z=>by rw[<-s,SX,ak z];simp
  rw[RE];exact⟨(d _ J).trans t,(d _ J).trans x,u,(d _ J).trans y,m i p u c f⟩
theorem fa.out{w w1:M}(h:fa n w v l)(a:Out S w w1)(b:∀k,v.ownBlock=some k->¬S k)(c:∀k o,S k->w.heap[k]?=some o->ty o≠5):fa n w1 v l:=by obtain⟨d,e,f,g⟩:=h;exact⟨d,e,a.own f b,λi p u j m=>(g i p u j m).out a c⟩
theorem fa.below{B:Nat}(h:fa B w v l)(a:aq w W):fa B W v l:=h.out (Out.af (S:=λ_=>False) a) (λ_ _=>id) λ_ _ h=>h.elim
theorem fa.fr[Lo](h:fa n w v l)(a:Fr T aG w W)(b:T.contains 5=false)(c:T.contains 206=false):fa n W v l:=by obtain⟨d,e,f,g⟩:=h;exact⟨d,e,a.own f c λ_ _=>id,λi p u j k=>(g i p u j k).fr a b⟩
theorem nO.ty(c:nO i W v n m x w)(d:W.ownsRow j r C v n L):Out (λk=>v.ownBlock=some k) W w/\∀k o,v.ownBlock=some k->W.heap[k]?=some o->ty o=r:=by
 refine⟨c.out (Out.refl _ _) λ_ h _=>h,λk o a b=>?_⟩;rcases d.2 with⟨rfl,_⟩|⟨g,e,f,rfl,_,l,_⟩
 .cases a
 .cases a;rw[l]at b;cases b;rfl
theorem fa.push{B s n m:Nat}{lv a:H}{l b:List Pt}{us us':List H}(e:us.length=l.length)(f:us'.length=b.length)(q:n=l.length)(r:m=b.length)(h:W.ownsRow B 206 3 lv n (dg l us))(t:∀(i:Nat) (p:Pt) (u:H),l[i]?=some p->us[i]?=some u->dR W u p.2.2)(v:∀(i:Nat) (p:Pt) (u:H),b[i]?=some p->us'[i]?=some u->dR W u p.2.2)(x:w.ownsRow B 206 3 a (n+m) (dg l us++dg b us'))(y:nO s W lv n m a w):fa B w a (l++b):=by
 subst q;subst r;obtain⟨g,z⟩:=y.ty h;refine⟨us++us',by simp[e,f],by rw[QU,so e];exact x,λi p u c d=>?_⟩;have j:∀k o,lv.ownBlock=some k->aX W k o->ty o≠5:=λk o A C=>by rw[z k o A C];decide
 by_cases D:i<l.length
 .rw [RD D]at c;rw[RD J]at d;exact(t i p u c d).out g j
 .rw [RA J]at c;rw[RA J,e]at d;exact(v _ p u c d).out g j
def Fs(w:M)(v:H)(L:List (List Pt)):Prop:=
 ∃a c,v=.slice a L.length c/\L.length<=c/\(L= []\/∃b o d e,a=some (R b o)/\w.heap[b]?=some (.cells d 162 e)/\∀(i:Nat) (l:List Pt),L[i]?=some l->∃u,d[o+i]?=some u/\e' w u l)
theorem Fs.fr[Lo]{L:List (List Pt)}(h:Fs w v L)(d:Fr T aG w W)(e:T.contains 5=false)(f:T.contains 206=false)(g:T.contains 162=false):Fs W v L:=by obtain⟨a,c,j,k,h⟩:=h;refine⟨a,c,j,k,h.imp id ?_⟩;rintro⟨b,o,m,n,p,q,r⟩;refine⟨b,o,m,n,p,d.hp q g,λi l s=>?_⟩;obtain⟨u,t,x⟩:=r i l s;exact⟨u,t,x.fr d e f⟩
theorem Fs.below{L:List (List Pt)}(h:Fs w v L)(a:aq w W):Fs W v L:=by
 letI:Lo:=⟨0⟩
 exact h.fr (T:= []) (Fr.af a) rfl rfl rfl
def vX(B:Nat)(w:M)(v:H)(L:List (List Pt)):Prop:=
 ∃us:List H,us.length=L.length/\w.ownsRow B 162 1 v L.length us/\∀(i:Nat) (l:List Pt) (u:H),L[i]?=some l->us[i]?=some u->e' w u l
theorem vX.nil(B:Nat)(w:M):vX B w aO []:=⟨[],rfl,SD _ _ _ _,λi p u h=>by simp at h⟩
theorem vX.below{B:Nat}{L:List (List Pt)}(h:vX B w v L)(a:aq w W):vX B W v L:=by obtain⟨b,c,d,e⟩:=h;exact⟨b,c,aP a d,λi l u f g=>(e i l u f g).below a⟩
theorem vX.Pr{L:List (List Pt)}(h:vX n w v L):Fs w v L:=by
 obtain⟨e,q,f,j⟩:=h;rcases f.2 with⟨rfl,k⟩|⟨g,a,b,rfl,r,m,o,s,t,p⟩
 .have:=TS k;subst this;exact⟨none,0,rfl,QE _,.inl rfl⟩
 .refine ⟨_,a,rfl,o,.inr ⟨g,0,b,_,rfl,m,λi l c=>?_⟩⟩;have x:=(QR.1 c).1;obtain⟨u,d⟩:∃u,e[i]?=some u:=⟨_,QQ J⟩;refine⟨u,?_,j i l u c d⟩;rw[RE,<-d,<-p,SX,ak J];simp
theorem vX.push{B s:Nat}{lv a u:H}{L:List (List Pt)}{us:List H}(d:us.length=L.length)(h:W.ownsRow B 162 1 lv L.length us)(g:∀(i:Nat) (p:List Pt) (u:H),L[i]?=some p->us[i]?=some u->e' W u p)(j:e' W u l)(m:w.ownsRow B 162 1 a (L.length+1) (us++ [u]))(n:nO s W lv L.length 1 a w):vX B w a (L++ [l]):=by
 obtain⟨e,q⟩:=n.ty h;have f:∀k o,lv.ownBlock=some k->aX W k o->ty o≠5/\ty o≠206:=λk o r t=>by rw[q k o r t];decide
 refine⟨us++ [u],by simp[d],by rw[QU];exact m,λi p x b c=>?_⟩;by_cases v:i<L.length
 .rw [RD v]at b;rw[RD J]at c;exact(g i p x b c).out e f
 .rw [RA J]at b;rw[RA J,d]at c;obtain⟨y,A⟩:=QR.1 b;have z:i-L.length=0:=by simp at y;omega
  rw[z]at b c;simp at b c;subst b;subst c;exact j.out e f
def fj(w:M)(v:H)(B:bq):Prop:=
 ∃a c,v=.slice a B.n c/\B.n<=c/\(B.n=0\/∃b o d e,a=some (R b o)/\w.heap[b]?=some (.cells d 61 e)/\∀i,i<B.n->d[o+i*2]?=some (Y (B.aM i:Nat))/\∃u,d[o+i*2+1]?=some u/\dR w u (B.da i))
theorem fj.fr[Lo](h:fj w v K)(e:Fr T aG w W)(f:T.contains 5=false)(g:T.contains 61=false):fj W v K:=by obtain⟨a,c,d,j,h⟩:=h;refine⟨a,c,d,j,h.imp id ?_⟩;rintro⟨b,o,k,l,m,n,p⟩;refine⟨b,o,k,l,m,e.hp n g,λi q=>?_⟩;obtain⟨d,u,r,s⟩:=p i q;exact⟨d,u,r,s.fr e f⟩
theorem fj.below{B:bq}(h:fj w v B)(a:aq w W):fj W v B:=by
 letI:Lo:=⟨0⟩
 exact h.fr (T:= []) (Fr.af a) rfl rfl
def mr(l:List Pt)(p:Pt->Bool):Int:=match l.findIdx? p with|some k=>(k:Nat)|none=> -1
theorem zU{p:Pt->Bool}(h:∀x∈l,p x=false):mr l p= -1:=by unfold mr;rw[XW.2 h]
theorem sp(B:Nat)(S:Array QC)(a4:∀f w,(VF B f).run VR w=.ok (.enter B f) w)(l:List Pt)(g:Pt->Bool)(v:QC)(w:QA)(Z:e' w v l)(H:l.length<=1000000)(N:∀W,SK w.heap.size w W->∀p,p∈l->∀u,dR W u p.2.2->Calls VR B (#[.agg #[.int .i64 (p.1:Nat),.int .i64 (p.2.1:Nat),u]] ++S) W λe D=>e=.returned (.bool (g p))/\SK W.heap.size W D):
  Calls VR 292 #[v,.func (.func B) #[] S] w λe D=>e=.returned (.int .i64 (mr l g))/\SK w.heap.size w D:=by
 obtain⟨n,C⟩:∃n,l.length=n:=⟨_,rfl⟩;obtain⟨a,M,rfl,z,R⟩:=Z;rw[C]at H z;rw[C];have I:=QZ R;have E:=QZ C;have Y:=QZ N;clear C;go_enter Tryz.func292,Tryz.ntmps292;go_wp2;go_loopw [8] (λi wr=>∃k:Nat,i=.int .i64 k/\k<=n/\QX (SK w.heap.size w wr)/\QX (∀j p,j<k->l[j]?=some p->g p=false)) (λi _=>n-(intOf i).toNat)
 case atStart=>exact⟨0,rfl,QO _,SU _ _,λj p y=>by omega⟩
 case round=>
  obtain⟨k,rfl,a5,h,F⟩:=hrel;by_cases A:k<n
  .obtain ⟨p,m⟩:∃p,l[k]?=some p:=⟨_,QQ (by rw[E.out];exact A)⟩;obtain⟨b,o,G,K,rfl,T,J⟩:=I.out.resolve_left (by intro e;have:=E.out;rw[e]at this;simp at this;omega);obtain⟨L,O,u,h3,U⟩:=J k p m;have q:=(h.out.block b (Z_ T)).trans T;have c1:=(QS wr b (o+k*3) G 206 K q).trans L;have c2:=(QS wr b (o+k*3+1) G 206 K q).trans O;have c3:=(QS wr b (o+k*3+2) G 206 K q).trans h3;have c:=QZ (Y.out wr h.out p (QV m) u (U.below h.out));obtain⟨a6,a7,a8,rfl⟩:=U.form;have V:=QZ m;obtain⟨a0,a1,a2⟩:=p;clear m;cases d:g (a0,a1,a2)with
   |true=>
    rw[d]at c;have r:=QZ d;go_wp2_with fail;refine c.out.mono ?_;rintro e X ⟨rfl,s⟩;have P:QX (mr l g=(k:Nat)):=by
     show _=_;unfold mr;have:l.findIdx? g=some k:=by rw[List.findIdx?_eq_some_iff_getElem];obtain⟨L,O⟩:=QR.1 V.out;refine⟨L,by rw[O];exact r.out,λj y=>?_⟩;rw[F.out j _ y (QQ (by omega))];decide
     rw[this]
    have t:=QZ (h.out.trans (s.mono h.out.size));go_wp2;go_ret;exact⟨by rw[P.out];rfl,t.out⟩
   |false=>
    rw[d]at c;have r:=QZ d;go_wp2_with fail;refine c.out.mono ?_;rintro e X ⟨rfl,s⟩;have t:QX (SK w.heap.size w X):=h.out.trans (s.mono h.out.size);have Q:QX (∀j p,j<k+1->l[j]?=some p->g p=false):=λj p y m=>by
     by_cases e:j=k
     .subst e;rw[V.out]at m;cases m;exact r.out
     .exact F.out j p (by omega) m
    go_wp2;exact⟨⟨k+1,by go_num,A,t,Q⟩,by simp[intOf];omega⟩
  .obtain rfl:k=n:=by omega
   have P:QX (mr l g= -1):=zU λx a3=>by obtain⟨j,y,rfl⟩:=YZ.1 a3;exact F.out j _ (by rw[<-E.out];exact y) (QQ y)
   go_wp2;go_ret;exact⟨by rw[P.out];rfl,h.out⟩
theorem lq(d:Nat)(g:Array H)(q:∀c w,(VF d c).run prog w=.ok (.enter d c) w)(l:List Pt)(b:Pt->Bool)(v:H)(w:M)(i:e' w v l)(r:l.length<=1000000)(s:∀W,aq w W->∀p,p∈l->∀u,dR W u p.2.2->aF d (#[.agg #[Y p.1,Y p.2.1,u]] ++g) W λe h=>aL e (.bool (b p))/\aq W h):
  aF 357 #[v,.func (.func d) #[] g] w λe h=>aL e (.bool (l.any b))/\aq w h:=by
 have j:=I (sp d g q l b v w i r s);have m:QX (decide (mr l b>=0)=l.any b):=by
  show _=_;unfold mr;cases n:l.findIdx? b with
  |none=>
   have:=XW.1 n;have e:l.any b=false:=by rw[List.any_eq_false];intro x f;rw[this x f];decide
   rw[e];decide
  |some k=>obtain⟨t,z,_⟩:=List.findIdx?_eq_some_iff_getElem.1 n;have e:l.any b=true:=XD.2 ⟨_,YI t,z⟩;rw[e];simp
 obtain⟨x,f⟩:=ah (mr l b);obtain⟨y,o⟩:=ah (l.any b);rw[f,o]at m;rw[f]at j;rw[o];obtain⟨a,A,rfl,-⟩:=i;go_enter func357,ntmps357;go_wp2_with(go_at_call 292;refine j.mono ?_;rintro e D ⟨rfl,B⟩;have C:=I B);go_ret;exact⟨by rw[<-m.out];rfl,C⟩
theorem sr(a b:Nat):((a:Int)==(b:Int))=decide (a=b):=by
 by_cases h:a=b
 .simp [h]
 .rw [decide_eq_false h];exact beq_false_of_ne J
theorem Ci(p:Pt)(u:H)(W:M)(h:dR W u p.2.2):aF 356 (#[.agg #[Y p.1,Y p.2.1,u]] ++ #[]) W λe a=>aL e iL/\aq W a:=by obtain⟨b,o,c,rfl⟩:=h.form;obtain⟨d,f,g⟩:=p;go_enter func356,ntmps356;go_wp2;go_ret;exact⟨rfl,aK aj _⟩
theorem IW(p:Pt)(u:H)(g m:Nat)(W:M)(h:dR W u p.2.2)(a:aX W g (N #[Y m] 3)):aF 376 (#[.agg #[Y p.1,Y p.2.1,u]] ++ #[ar g]) W λe d=>aL e (.bool (decide (p.1=m)))/\aq W d:=by obtain⟨b,o,c,rfl⟩:=h.form;obtain⟨i,j,l⟩:=p;obtain⟨k,f,z⟩:=cr a;go_enter func376,ntmps376;go_wp2;go_ret;exact⟨by simp[sr],aK aj _⟩
theorem Cj(p:Pt)(u:H)(i j m r:Nat)(W:M)(h:dR W u p.2.2)(l:aX W i (N #[Y m] 3))(n:aX W j (N #[Y r] 3)):
  aF 293 (#[.agg #[Y p.1,Y p.2.1,u]] ++ #[ar i,ar j]) W λe q=>aL e (.bool (decide (p.1=m/\p.2.1=r)))/\aq W q:=by
 obtain⟨b,o,c,rfl⟩:=h.form;obtain⟨a,s,t⟩:=p;obtain⟨k,f,z⟩:=cr l;obtain⟨v,f2,w⟩:=cr n;by_cases d:a=m
 .have d1:((a:Int)==(m:Int))=true:=by simp[d]
  have g:=I d;go_enter func293,ntmps293;go_wp2;go_ret;exact⟨by simp[g.out,sr],aK aj _⟩
 .have d1:((a:Int)==(m:Int))=false:=aS;have g:=I d;go_enter func293,ntmps293;go_wp2;go_ret;exact⟨by simp[g.out,sr],aK aj _⟩
structure Dk where
 n:Nat
 gn:Nat->Nat->Nat
 cn:Nat
 cat:Nat->Nat
 bV:Nat->Nat->Nat
 failed:Bool
variable {D:Dk}
def dS(cat:aN):Nat->Nat->Option Nat
 |0,_=>none
 |n+1,a=>if cat n=a then some n else dS cat n a
def Dk.view(d:Dk)(a:Nat):Nat->Nat:=match dS d.cat d.cn a with|some k=>d.bV k|none=>d.gn a
def iE(cat:aN)(n:Nat)(a:Int):Option H:=if 0<=a then(dS cat n a.toNat).map λk=>.int .i64 (k:Nat)else none
theorem hI{cat:aN}:∀{n a k:Nat},dS cat n a=some k->k<n/\cat k=a
 |0,_,_,h=>by cases h
 |n+1,a,k,h=>by
  unfold dS at h;split at h
  .cases h;exact⟨J,by assumption⟩
  .have:=hI h;exact⟨J,this.2⟩
theorem mu(cat:aN)(n a:Nat):iE cat n (a:Int)=(dS cat n a).map λk=>.int .i64 (k:Nat):=by simp[iE]
def ew(n:Nat)(a:dp):Array H:=((TQ (128*n)).map λj=>SJ .u8 (a (j/128) (j%128):Nat)).toArray
def fm(n:Nat)(cat:aN)(a:dp):List H:=(TQ (129*n)).map λj=>if j%129=0 then Y (cat (j/129):Nat)else SJ .u8 (a (j/129) (j%129-1):Nat)
theorem zV(n:Nat)(a:dp):(ew n a).size=128*n:=by simp[ew]
theorem ih(n:Nat)(cat:aN)(a:dp):(fm n cat a).length=n*129:=by simp[fm];omega
theorem Cl(n:Nat)(a:dp)(b:m<n)(c:k<128):(ew n a)[128*m+k]?=some (.int .u8 (a m k:Nat)):=by have h:128*m+k<128*n:=J;simp only[ew,VX,RI,SF h,QY];rw[show(128*m+k)/128=m by omega,show(128*m+k)%128=k by omega]
theorem zW(n:Nat)(cat:aN)(a:dp)(b:i<n):(fm n cat a)[129*i]?=some (Y (cat i:Nat)):=by have h:129*i<129*n:=J;simp only[fm,RI,SF h,QY];rw[ak J,show 129*i/129=i by omega]
theorem wJ(n:Nat)(cat:aN)(a:dp)(b:i<n)(c:k<128):(fm n cat a)[129*i+1+k]?=some (.int .u8 (a i k:Nat)):=by have h:129*i+1+k<129*n:=J;simp only[fm,RI,SF h,QY];rw[al J,show(129*i+1+k)/129=i by omega,show(129*i+1+k)%129-1=k by omega]
theorem tT(n:Nat)(cat:aN)(b:dp)(a:Nat)(f:aN):fm n cat b++(Y a::az 128 f)=fm (n+1) (λi=>if i=n then a else cat i) (λi=>if i=n then f else b i):=by
 apply TJ;intro j;by_cases c:j<129*n
 .rw [RD (by rw[ih];omega)];simp only[fm,RI,SF c,SF (show j<129*(n+1)by omega),QY];rw[al (show¬j/129=n by omega),al (show¬j/129=n by omega)]
 .rw [RA (by rw[ih];omega),ih];by_cases d:j<129*(n+1)
  .simp only[fm,RI,SF d,QY];rw[show j/129=n by omega];simp only[if_true];by_cases e:j=n*129
   .subst e;rw[Nat.sub_self,ak J];rfl
   .rw [al J,show j-n*129=(j%129-1)+1 by omega,List.getElem?_cons_succ,ba _ _ _ J]
  .rw [RF (by simp[aI];omega),RF (by rw[ih];omega)]
structure DA where
 gl:Nat
 lc:Nat
 cv:H
 ms:Nat
structure cB(w:M)(K:Nat)(A:DA)(d:Dk):Prop where
 aM:w.heap[K]? =some (N #[a' A.gl d.n A.lc,A.cv,.map (some A.ms),.bool d.failed] 142)
 gn:w.heap[A.gl]? =some (N (ew d.n d.gn) 217)
 cache:w.ownsRow 0 219 129 A.cv d.cn (fm d.cn d.cat d.bV)
 seen:IM w A.ms (iE d.cat d.cn)
 pos:0<d.n
 top:d.n<=8192
 cap:d.cn<=1000000000000
 Kw:∀i,i<d.cn->d.cat i<d.n
def DZ(K:Nat)(A:DA)(b:Nat):Prop:=b=K\/b=A.gl\/b=A.ms\/A.cv.ownBlock=some b
theorem cB.out{w w1:M}{A:DA}(h:cB w n A D)(a:Out S w w1)(c:∀b,DZ n A b->¬S b):cB w1 n A D:=
 ⟨a.heap h.aM (c _ (.inl rfl)),a.heap h.gn (c _ (.inr (.inl rfl))),a.own h.cache λk d=>c k (.inr (.inr (.inr d))),h.seen.out a (c _ (.inr (.inr (.inl rfl)))),h.pos,h.top,h.cap,h.Kw⟩
theorem cB.below{A:DA}(h:cB w n A D)(a:aq w W):cB W n A D:=
 h.out (Out.af (S:=λ_=>False) a) λ_ _ h=>h
def MX(t:Nat):Bool:=t==142||t==217||t==219||t==1000000
theorem cB.ty{A:DA}(h:cB w n A D)(a:DZ n A m):∃o,w.heap[m]?=some o/\MX (ty o)=true:=by
 rcases a with rfl|rfl|rfl|a
 .exact ⟨_,h.aM,rfl⟩
 .exact ⟨_,h.gn,rfl⟩
 .obtain ⟨k,c,b,d,_⟩:=h.seen;exact⟨_,b,by rw[B_ d];rfl⟩
 .rcases h.cache.2 with⟨e,_⟩|⟨g,f,i,e,_,j,_⟩
  .rw [e]at a;cases a
  .rw [e]at a;cases a;exact⟨_,j,rfl⟩
theorem cB.lt{A:DA}(h:cB w n A D){b:Nat}(a:DZ n A b):b<w.heap.size:=by obtain⟨o,c,_⟩:=h.ty a;exact Z_ c
theorem cB.ne{A:DA}(h:cB w n A D):n≠A.gl/\n≠A.ms/\A.gl≠A.ms/\∀b,A.cv.ownBlock=some b->b≠n/\b≠A.gl/\b≠A.ms:=by
 obtain⟨k,c,a,_⟩:=h.seen;refine⟨λe=>?_,λe=>?_,λe=>?_,λb d=>?_⟩
 .have:=h.aM;rw[e,h.gn]at this;simp at this
 .have:=h.aM;rw[e,a]at this;simp at this
 .have:=h.gn;rw[e,a]at this;simp at this
 .rcases h.cache.2 with⟨e,_⟩|⟨g,i,j,e,_,f,_⟩
  .rw [e]at d;cases d
  .rw [e]at d;cases d;refine⟨λe=>?_,λe=>?_,λe=>?_⟩
   .have:=h.aM;rw[<-e,f]at this;simp at this
   .have:=h.gn;rw[<-e,f]at this;simp at this
   .rw [<-e,f]at a;simp at a
theorem Cn(K:Nat)(A:DA)(d:Dk)(a:Nat)(w:M)(h:cB w K A d)(c:d.failed=false)(f:a<d.n):aF 146 #[ar K,Y a] w λe g=>aL e (aH 0)/\w=g:=by obtain⟨b,f1,k⟩:=cr h.aM;have i:=h.top;rw[c]at b;obtain⟨n,j⟩:=ah d.n;rw[j]at b f i;have d1:decide ((a:Int)<0)=false:=aJ;have d2:decide ((n:Int)<=a)=false:=aS;go_enter func146,ntmps146;go_wp2;go_ret;exact⟨rfl,rfl⟩
theorem oO(K:Nat)(A:DA)(d:Dk)(a:Int)(w:M)(h:cB w K A d)(b:d.failed=true):aF 146 #[ar K,Y a] w λe c=>aL e (aH 2)/\w=c:=by obtain⟨f,f1,g⟩:=cr h.aM;rw[b]at f;go_enter func146,ntmps146;go_wp2;go_ret;exact⟨rfl,rfl⟩
theorem wK(K:Nat)(A:DA)(d:Dk)(w:M)(h:cB w K A d):aF 77 #[ar K] w λe a=>aL e (.bool d.failed)/\w=a:=by obtain⟨b,f1,c⟩:=cr h.aM;go_enter func77,ntmps77;go_wp2;go_ret;exact⟨rfl,rfl⟩
theorem wL(K:Nat)(A:DA)(d:Dk)(w:M)(h:cB w K A d):aF 78 #[ar K] w λe a=>aL e (Y d.n)/\w=a:=by obtain⟨b,f1,c⟩:=cr h.aM;go_enter func78,ntmps78;go_wp2;go_ret;exact⟨rfl,rfl⟩
theorem Co:prog.underlying 217=some (.array 128 5):=aE
theorem wM:(prog.info? 217).map (·.size)=some 128:=aE
theorem MY:(prog.info? 217).map (λi=>(i.zero,i.size,i.bytes))=some (some (.agg (cw 128 λ_=>0)),128,128):=aE
theorem wN:prog.underlying 139=some (.map 3 3):=aE
theorem u3:prog.underlying 3=some (.int .i64):=aE
theorem z3(w:M):(zeroValue 3).run prog w=.ok (Y 0) w:=(zero_of_info (v:= Y 0) (n:=1) aE).1 w
theorem tU(L:Nat)(f:aN):(cw L f).all (·.oneCell')=true:=by rw[Array.all_eq_true_iff_forall_mem];intro x a;simp only[cw,List.mem_toArray,RK]at a;obtain⟨k,_,rfl⟩:=a;rfl
theorem KS:zeroCells217.size=128:=aE
theorem HW(W:M)(f:aN):ZQ prog (storeCells (R W.heap.size 0) (az 128 f)) (W.alloc (N zeroCells217 217))=.ok () (W.alloc (N (cw 128 f) 217)):=
 run_storeCells_new (P:=prog) W 217 zeroCells217 (cw 128 f) (by rw[gy];exact wM) (by rw[gy];exact KS) (tU _ _)
theorem IX(W:M)(f g:aN):ZQ prog (storeCells (R W.heap.size 0) (az 128 f)) (W.alloc (N (cw 128 g) 217))=.ok () (W.alloc (N (cw 128 f) 217)):=
 run_storeCells_new (P:=prog) W 217 (cw 128 g) (cw 128 f) (by rw[gy];exact wM) (by rw[gy,gy]) (tU _ _)
theorem cB.cell{A:DA}(h:cB w n A D)(c:m<D.n):w.rangeAt A.gl (m*128) (az 128 (D.gn m)):=λj v a=>by
 have b:j<128:=by have:=(QR.1 a).1;rwa[aI]at this
 rw[ba _ _ _ b]at a;rw[QS w A.gl _ _ 217 (0,0) h.gn,VB,Cl _ _ c b];exact a
theorem cB.yA{A:DA}(h:cB w n A D)(f:i<D.cn):∃g b,A.cv= a' g D.cn b/\w.rangeAt g (129*i+1) (az 128 (D.bV i))/\w.rangeAt g (129*i) (Y (D.cat i:Nat)::az 128 (D.bV i)):=by
 obtain⟨a,b,e,l⟩:=au h.cache;rcases l with m|⟨g,rfl⟩
 .omega
 have k:w.rangeAt g (129*i+1) (az 128 (D.bV i)):=λj v c=>by
  have d:j<128:=by have:=(QR.1 c).1;rwa[aI]at this
  rw[ba _ _ _ d]at c;exact(bC (e▸h.cache) ((wJ _ _ _ f d).trans c)).1
 refine⟨g,b,e,k,λj v c=>?_⟩;cases j with
 |zero=>exact(bC (e▸h.cache) ((zW _ _ _ f).trans c)).1
 |succ j=>have:=k j v (by simpa using c);rw[show 129*i+(j+1)=129*i+1+j by omega];exact this
def wO:H->Prop
 | .slice _ n c=>n<=c
 |_=>True
theorem lr(h:w.ownsRow m t 1 v n L):wO v:=by obtain⟨a,c,rfl,h,-⟩:=eP h;exact h
def Ps(f:aN)(w:M)(e:RV)(a:M):Prop:=∃v,aL e (.tuple #[v,aH 0])/\cA a v 128 f/\aq w a/\wO v
theorem zX(K:Nat)(A:DA)(d:Dk)(a:Int)(w:M)(h:cB w K A d)(c:d.failed=true):aF 260 #[ar K,Y a] w λe b=>aL e (.tuple #[aO,aH 2])/\w=b:=by have f:=I (oO K A d a w h c);go_enter func260,ntmps260;go_wp2_with(first|(go_at_call 146;refine f.mono ?_;rintro e b ⟨rfl,rfl⟩));go_ret2;exact⟨rfl,rfl⟩
theorem KT(K:Nat)(A:DA)(d:Dk)(a:Nat)(w:QA)(h:cB w K A d)(Q:d.failed=false)(s:a<d.n):Calls VR 260 #[.pointer (some ⟨K,0,none⟩),.int .i64 a] w (Ps (d.view a) w):=by
 have S:=QZ (Cn K A d a w h Q s);have t:=QZ h;have m:=fz h.seen 139 3 3 (.int .i64 0) true wN u3 (z3 w) a;rw[mu]at m;obtain⟨u,f1,I⟩:=cr h.aM;have Z:=h.top;have T:=h.cell s;obtain⟨n,U⟩:∃n,d.n=n:=⟨_,rfl⟩;rw[U]at u s Z;clear h Q U;go_enter Tryz.func260,Tryz.ntmps260;have V:∀f,(VR.info? 217).map (·.size)=some (az 128 f).length:=λf=>by rw[aI];exact wM
 have x:=QZ V;clear V;have p:SK w.heap.size w (w.alloc (.cells (cw 128 (d.view a)) 217)):=aK (SU _ _) _;have y:=eC w.heap.size 0 128 128 (d.view a) (w.alloc (.cells (cw 128 (d.view a)) 217)) (λk r=>by rw[RE,(cr (QB w (.cells (cw 128 (d.view a)) 217))).1 k,dV _ _ _ r]) (by omega);have i:=QZ y;have j:=QZ p;clear p;cases c:dS d.cat d.cn a with
 |none=>
  have q:d.view a=d.gn a:=by unfold Dk.view;rw[c]
  rw[c]at m;have z:=QZ T;have B:=HW w (d.gn a);rw[q]at i j|-;simp only[VE,Option.getD_none,Option.isSome_none,if_true]at m;have C:∀o,(UZ 139 (Value.map (some A.ms)) (SJ QG ↑a) true).run VR (w.alloc o)=.ok (Value.tuple #[SJ QG 0,Value.bool false]) (w.alloc o):=λo=>by have h:=fz (P:=VR) (t.out.below (aK (SU _ _) o)).seen 139 3 3 (.int .i64 0) true wN u3 (z3 _) a;rw[mu,c]at h;exact h
  clear q;go_wp2_with(first|(go_at_call 146;refine S.out.mono ?_;rintro e D ⟨rfl,rfl⟩)|(go_at_call 199;refine i.out.mono ?_;rintro e D ⟨v,rfl,b,E⟩;obtain⟨H,M,rfl,-⟩:=au b)|(with_reducible refine wpList_load_mid rfl 217 (.tmp 21) rfl A.gl (a*128) rfl (az 128 (d.gn a)) _ z.out Co rfl (x.out _) ?_));go_ret2;exact⟨_,rfl,gj b,via j.out E,lr b⟩
 |some k=>
  have q:d.view a=d.bV k:=by unfold Dk.view;rw[c]
  obtain⟨r,-⟩:=hI c;obtain⟨g,R,F,G,-⟩:=t.out.yA r;have l:(w.alloc (.cells (cw 128 (d.gn a)) 217)).rangeAt g (k*129+1) (az 128 (d.bV k)):=by rw[VB];exact World.rangeAt_alloc G _
  rw[c]at m;have z:=QZ T;have L:=QZ l;have B:=HW w (d.gn a);have W:=IX w (d.bV k) (d.gn a);rw[F]at u;rw[q]at i j|-;simp only[QY,TD,Option.isSome_some,if_true]at m;have C:∀o,(UZ 139 (Value.map (some A.ms)) (SJ QG ↑a) true).run VR (w.alloc o)=.ok (Value.tuple #[SJ QG (k:Nat),Value.bool true]) (w.alloc o):=λo=>by have h:=fz (P:=VR) (t.out.below (aK (SU _ _) o)).seen 139 3 3 (.int .i64 0) true wN u3 (z3 _) a;rw[mu,c]at h;exact h
  have O:((k:Nat):Int)<(d.cn:Int):=by omega
  clear q l;obtain⟨N,X⟩:∃N,d.cn=N:=⟨_,rfl⟩;rw[X]at u r O;clear X;go_wp2_with(first|(go_at_call 146;refine S.out.mono ?_;rintro e D ⟨rfl,rfl⟩)|(go_at_call 199;refine i.out.mono ?_;rintro e D ⟨v,rfl,b,E⟩;obtain⟨H,M,rfl,-⟩:=au b)|(with_reducible refine wpList_load_mid rfl 217 (.tmp 21) rfl A.gl (a*128) rfl (az 128 (d.gn a)) _ z.out Co rfl (x.out _) ?_)|(with_reducible refine wpList_load_mid rfl 217 (.tmp 39) rfl g (k*129+1) rfl (az 128 (d.bV k)) _ L.out Co rfl (x.out _) ?_));go_ret2;exact⟨_,rfl,gj b,via j.out E,lr b⟩
def Cq(x:H):Sem Next:=do pure (.value (<-Instr.loadAt 217 x))
def Cr(x y:H):Sem Next:=do
 Instr.storeAt 217 x y
 pure .skip
def yB(x y:H):Sem Next:=do pure (.value (<-Instr.build 219 #[(0,x),(1,y)]))
def yC(x:H):Sem Next:=do pure (.value (<-Instr.buildSlice 140 1 #[(0,x)]))
def Cs(x:H):Sem Next:=do pure (.value (<-Instr.loadAt 219 x))
def Ct(x y:H):Sem Next:=do
 Instr.storeAt 219 x y
 pure .skip
theorem tV(ρ:Operand->H)(d:Option Tmp)(x:Operand)(t:SQ)(p:String)(a:Array Edge)(g:Option (Tmp × Bool)):execOp ρ ⟨d,.load 217 x,t,p,a,g⟩=Cq (ρ x):=rfl
theorem tW(ρ:Operand->H)(d:Option Tmp)(x y:Operand)(t:SQ)(p:String)(a:Array Edge)(g:Option (Tmp × Bool)):execOp ρ ⟨d,.store 217 x y,t,p,a,g⟩=Cr (ρ x) (ρ y):=rfl
theorem tX(ρ:Operand->H)(d:Option Tmp)(x y:Operand)(t:SQ)(p:String)(a:Array Edge)(g:Option (Tmp × Bool)):execOp ρ ⟨d,.build 219 #[(0,x),(1,y)],t,p,a,g⟩=yB (ρ x) (ρ y):=by simp[execOp,yB]
theorem tY(ρ:Operand->H)(d:Option Tmp)(x:Operand)(t:SQ)(p:String)(a:Array Edge)(g:Option (Tmp × Bool)):execOp ρ ⟨d,.buildSlice 140 1 #[(0,x)],t,p,a,g⟩=yC (ρ x):=by simp[execOp,yC]
theorem tZ(ρ:Operand->H)(d:Option Tmp)(x:Operand)(t:SQ)(p:String)(a:Array Edge)(g:Option (Tmp × Bool)):execOp ρ ⟨d,.load 219 x,t,p,a,g⟩=Cs (ρ x):=rfl
theorem t_(ρ:Operand->H)(d:Option Tmp)(x y:Operand)(t:SQ)(p:String)(a:Array Edge)(g:Option (Tmp × Bool)):execOp ρ ⟨d,.store 219 x y,t,p,a,g⟩=Ct (ρ x) (ρ y):=rfl
theorem KU:(prog.underlying 219).map (·.isRow)=some true:=aE
theorem KV:(prog.info? 219).map (·.size)=some 129:=aE
theorem MZ:(prog.info? 219).map (λi=>(i.zero,i.size,i.bytes))=some (some (.agg (Y 0::az 128 λ_=>0).toArray),129,136):=aE
theorem mv(w:M)(b o:Nat)(f:aN)(h:w.rangeAt b o (az 128 f)):ZQ prog (Cq (.pointer (some (R b o)))) w=.ok (.value (.agg (az 128 f).toArray)) w:=by simp only[Cq,RY,run_loadAt_mid (P:=prog) w b o 217 (az 128 f) _ h Co rfl (by rw[aI];exact wM),RG,VA]
theorem Cu(a:Int)(f:aN):prog.built 219 [(0,Y a),(1,.agg (az 128 f).toArray)] =some (Y a::az 128 f).toArray:=aE
theorem zY(a:Int)(f:aN):prog.builtSlice 219 1 [(0,.agg (Y a::az 128 f).toArray)] =some (Y a::az 128 f).toArray:=aE
theorem zZ(w:M)(a:Int)(f:aN):ZQ prog (yB (Y a) (.agg (az 128 f).toArray)) w=.ok (.value (.agg (Y a::az 128 f).toArray)) w:=by simp only[yB,RY,run_build (P:=prog) w 219 #[(0,Y a),(1,.agg (az 128 f).toArray)] _ (Cu a f),RG,VA]
theorem z_(w:M)(a:Int)(f:aN):ZQ prog (yC (.agg (Y a::az 128 f).toArray)) w=.ok (.value (a' w.heap.size 1 1)) (w.alloc (N (Y a::az 128 f).toArray 219)):=by
 have b:=zY a f;unfold Program.builtSlice at b;cases c:prog.info? 219 with
 |none=>simp[c]at b
 |some d=>
  simp only[c]at b;cases g:d.zero with
  |none=>simp[g]at b
  |some z=>
   simp only[g]at b;by_cases e:1*d.size>2^24\/1*d.size=0
   .rw [ak e]at b;cases b
   .rw [al e]at b;simp only[yC,RY,run_buildSlice (P:=prog) w 140 219 1 #[(0,.agg (Y a::az 128 f).toArray)] _ d z underlying140 c g (λh=>e (Or.inl h)) (λh=>e (Or.inr h)) b,RG,VA]
section
attribute [local go_sem ↓] tV tW tX tY tZ t_
def Dk.wr(d:Dk)(a:Nat)(f:aN):Dk:={d with cn:=d.cn+1,cat:=λi=>if i=d.cn then a else d.cat i,bV:=λi=>if i=d.cn then f else d.bV i}
theorem z'(K:Nat)(A:DA)(d:Dk)(a:Int)(v:H)(w:M)(h:cB w K A d)(c:d.failed=true):aF 82 #[ar K,Y a,v] w λe b=>aL e (aH 2)/\w=b:=by have f:=I (oO K A d a w h c);go_enter func82,ntmps82;go_wp2_with(first|(go_at_call 146;refine f.mono ?_;rintro e b ⟨rfl,rfl⟩));go_ret;exact⟨rfl,rfl⟩
def kG(K:Nat)(A:DA)(d:Dk)(w a:M):Prop:=
 ∃c,cB a K c d/\Out (DZ K A) w a/\∀b,DZ K c b->DZ K A b\/w.heap.size<=b
theorem IY(b o c:Nat)(W:M):ZQ prog (Instr.arrayAt 217 (.slice (some (R b o)) 128 c)) W=.ok (.pointer (some (R b o))) W:=by simp[Instr.arrayAt,SS Co]
theorem je{cat b:aN}:∀{n a:Nat},(∀i,i<n->cat i=b i)->dS cat n a=dS b n a
 |0,_,_=>rfl
 |n+1,a,h=>by unfold dS;rw[h n J,je λi c=>h i J]
theorem FF(d:Dk)(a:Nat)(f:aN)(b:Int):(if b=(a:Int)then some (Y d.cn)else iE d.cat d.cn b)=iE (d.wr a f).cat (d.wr a f).cn b:=by
 unfold iE;simp only[Dk.wr,dS,if_true];have e:dS (λi=>if i=d.cn then a else d.cat i) d.cn b.toNat=dS d.cat d.cn b.toNat:=je λi h=>al J;rw[e];by_cases g:b=(a:Int)
 .subst g;rw[ak rfl,ak J,ak aJ];rfl
 .rw [al g];by_cases c:0<=b
  .rw [ak c,ak c,al J]
  .rw [al c,al c]
theorem cB.wrote{w t w2 c:M}{A:DA}(h:cB w n A D)(K:D.cn<1000000000000)(y:m<D.n)(z:Out (λk=>k=A.ms) w t)(B:IM t A.ms λb=>if b=(m:Int)then some (Y D.cn)else iE D.cat D.cn b)(o:aq t w2)(d:c.ownsRow 0 219 129 v (D.cn+1) (fm D.cn D.cat D.bV++Y m::az 128 f))(s:nO w2.heap.size w2 A.cv D.cn 1 v c):kG n A (D.wr m f) w (c.setCell (R n 1) v):=by
 have a:=h.ne;have L:n<w.heap.size:=h.lt (.inl rfl);have g:Out (λk=>k=A.ms) w w2:=z.then o;have j:Out (λk=>k=A.ms\/A.cv.ownBlock=some k) w c:=s.out (g.mono λk _ e=>.inl e) λk q _=>.inr q;have C:Out (DZ n A) w (c.setCell (R n 1) v):=(j.mono λk _ e=>e.elim (λe=>.inr (.inr (.inl e))) λe=>.inr (.inr (.inr e))).setCell (p:=R n 1) (λ_=>.inl rfl) _;have u:=j.heap h.aM λe=>e.elim a.2.1 λe=>(a.2.2.2 n e).1 rfl;have x:IM c A.ms λb=>if b=(m:Int)then some (Y D.cn)else iE D.cat D.cn b:=
  (B.out (Out.af (S:=λ_=>False) o) id).out (s.out (S:=λk=>A.cv.ownBlock=some k) (Out.refl _ _) λk q _=>q) λe=>(a.2.2.2 _ e).2.2 rfl
 have E:∀k,v.ownBlock=some k->k≠n:=λk q e=>by
  subst e;rcases s.block q with r|r
  .exact (a.2.2.2 _ r).1 rfl
  .have:=g.size;omega
 refine⟨⟨A.gl,A.lc,v,A.ms⟩,⟨?_,?_,?_,?_,h.pos,h.top,?_,?_⟩,C,?_⟩
 .have:=heap_setCell_same c n 1 _ 142 v u;exact this
 .exact (RO _ _ _ _ λe=>a.1 e.symm).trans (j.heap h.gn λe=>e.elim a.2.2.1 λe=>(a.2.2.2 _ e).2.1 rfl)
 .show World.ownsRow _ 0 219 129 v (D.cn+1) _;rw[tT]at d;exact XS d (λe=>E _ e rfl) _
 .refine (x.out (S:=λk=>k=n) ((Out.refl (λk=>k=n) c).setCell (p:=R n 1) (λ_=>rfl) _) λe=>a.2.1 e.symm).congr λb=>FF D m f b
 .show D.cn+1<=_;omega
 .intro i F;have G:i<D.cn+1:=F;show(if i=D.cn then m else D.cat i)<D.n;split
  .exact y
  .exact h.Kw i J
 .rintro b (l|l|l|l)
  .exact .inl (.inl l)
  .exact .inl (.inr (.inl l))
  .exact .inl (.inr (.inr (.inl l)))
  .rcases s.block l with r|r
   .exact .inl (.inr (.inr (.inr r)))
   .exact .inr (by have:=g.size;omega)
theorem KX(K:Nat)(A:DA)(d:Dk)(a:Nat)(v:QC)(f:aN)(w:QA)(h:cB w K A d)(a1:d.failed=false)(I:a<d.n)(a2:kc w v 128 f)(a3:d.cn<1000000000000):aF 82 #[ar K,ae a,v] w λe B=>aL e (aH 0)/\kG K A (d.wr a f) w B:=by
 have a4:=ad (Cn K A d a w h a1 I);have s:=ad h;obtain⟨Y,J,g,-⟩:=au h.cache;obtain⟨N,a0⟩:=ah d.cn;obtain⟨w1,hu,C,Fq⟩:=kf (P:=prog) (h.seen.out (w1:=w.drew) (S:=λ_=>False) (Out.refl _ _).drew id) 139 3 3 wN u3 a (ae N);obtain⟨k1,f1,z1⟩:=cr h.aM;obtain⟨a5,a6,rfl,D⟩:=a2;obtain⟨b,o,rfl,n⟩:∃b o,a5=some (ag b o)/\∀k,k<128->w.cell? ⟨b,o+k,none⟩=some (.int .u8 (f k)):=by
  rcases D with h|h
  .omega
  .exact h
 have a7:N<=1000000000000:=aa;rw[g,a0]at k1;have p:=ad a0;have E:=ad g;have F:Out (λk=>k=A.ms) w w1:=by obtain⟨b8,_,rfl⟩:=Fq;exact Out.wy (S:=λk=>k=A.ms) (Out.refl _ _).drew (λ_=>rfl) _
 have m:=ad F;have G:=ad C;go_enter func82,ntmps82;go_wp2_with(first|(go_at_call 146;refine a4.mono ?_;rintro e B ⟨rfl,rfl⟩));go_region;have L:b≠A.ms:=λe=>by obtain⟨b9,c,a8,_⟩:=s.seen;have:=n 0 aa;rw[e]at this;simp[World.cell?,a8]at this
 have O:w1.rangeAt b o (az 128 f):=λj x Q=>by
  have y:j<128:=by have:=(QR.1 Q).1;rwa[aI]at this
  rw[ba _ _ _ y]at Q;rw[QP (m.block b (QN w _ (n 0 aa)) L),n j y];exact Q
 have q:=s.ne;have r:=m.heap s.aM (λe=>q.2.1 e);rw[g,p.out]at r;have z:=m.own s.cache (λk a9 e=>(q.2.2.2 k a9).2.2 e);rw[g,p.out]at z;obtain⟨i1,T,U,V,X⟩:=SB MZ;have c0:(prog.info? 217).map (·.size)=some (az 128 f).length:=by rw[aI];exact wM
 have Z:=ad O;have H:=ad z;have M:=ad r;have R:QX ((RR Y N J).ownBlock≠some K):=λe=>(q.2.2.2 K (by rw[g,p.out];exact e)).1 rfl;obtain⟨k1,f1,z1⟩:=cr r;have b0:=IY b o a6;go_wp2_with fail;have b1:=mv w1.drew b o f ((World.rangeAt_drew _ _ _ _).2 Z);have b2:=λW=>zZ W a f;have b3:=λW=>z_ W a f
 go_region_law (first|(refine df _ rfl (.tmp 31) (.tmp 37) 140 rfl 0 219 i1 (.agg (ae 0::az 128 λ_=>0).toArray) 129 136 underlying140 T U V X (by simp[Value.cells,aI]) ai (.slice Y N J) N (fm N d.cat d.bV) (by simp[VO]) (H.alloc _) (ag w1.heap.size 0) 1 1 (ae a::az 128 f) (by simp[VO]) (by simp[aI]) (RW (cs:=(ae a::az 128 f).toArray) (t:=219) (fr:=(0,0)) (QB w1.drew _)) (by intro u hu;rcases UH.1 hu with rfl|hu;rfl;exact dr _ _ u hu) aa (by unfold UE;omega) aa (QO _) ?_;intro c1 B i l;obtain⟨b4,b5,rfl,-⟩:=au i;obtain⟨c2,c3,c4⟩:=cr (l.heap ((QW _ _ _ z1).trans M) R)))
 all_goals(
  have b6:=ad i;have b7:=ad l;clear i l)
 all_goals go_wp2
 all_goals go_ret
 all_goals(
  refine⟨rfl,s.wrote a3 I m (by have:=G.out;rw[<-p.out]at this;exact this) (w2:=w1.alloc (ao (ae a::az 128 f).toArray 219)|>.drew) (a_ (aK aj _)) (by rw[p.out];exact b6) (by rw[p.out,E.out,p.out];exact b7)⟩)
end
section
attribute [local go_sem ↓] tV tW tX tY tZ t_
def bJ(d:dp)(cat:aN)(b:dp)(c:Nat->Bool):Nat->Nat->Nat->Nat
 |0=>d
 |n+1=>if c n thenλa=>if a=cat n then b n else bJ d cat b c n a else bJ d cat b c n
def Dk.settled(d:Dk)(a:Nat->Bool):Dk:={d with gn:=bJ d.gn d.cat d.bV a d.cn,cn:=0}
theorem Dk.lu(d:Dk)(a:Nat):(d.settled λ_=>true).view a=d.view a:=by
 show bJ d.gn d.cat d.bV (λ_=>true) d.cn a=d.view a;unfold Dk.view;induction d.cn with
 |zero=>rfl
 |succ n b=>
  simp only[bJ,dS,if_true];by_cases h:d.cat n=a
  .rw [ak h,ak h.symm]
  .rw [al h,al λe=>h e.symm,b]
theorem Cv(n:Nat)(b:dp)(c:Nat)(f:aN)(h:c<n):((ew n b).toList.take (c*128)++az 128 f++(ew n b).toList.drop (c*128+(az 128 f).length)).toArray=ew n (λa=>if a=c then f else b a):=by
 rw[aI];apply Array.ext';apply TJ;intro j;simp only[SV];by_cases d:j<c*128
 .rw [RD (by simp[ew];omega),SX,ak d];simp only[ew,RI,SF (show j<128*n by omega),QY];rw[al J]
 .rw [RA (by simp[ew];omega)];have e:((ew n b).toList.take (c*128)).length=c*128:=by simp[ew];omega
  rw[e];by_cases i:j<c*128+128
  .rw [RD (by rw[aI];omega),ba _ _ _ J];simp only[ew,RI,SF (show j<128*n by omega),QY];rw[ak J,show j%128=j-c*128 by omega]
  .rw [RA (by rw[aI];omega),aI,List.getElem?_drop,show c*128+128+(j-c*128-128)=j by omega];by_cases g:j<128*n
   .simp only[ew,RI,SF g,QY];rw[al J]
   .rw [RF (by simp[ew];omega),RF (by simp[ew];omega)]
theorem oP(w:M)(b n c:Nat)(d:dp)(f:aN)(h:aX w b (N (ew n d) 217))(k:c<n):
  ZQ prog (Cr (.pointer (some ⟨b,c*128,none⟩)) (.agg (az 128 f).toArray)) w=.ok .skip (w.setRow b (ew n λa=>if a=c then f else d a)):=by
 have j:=run_storeCells_at prog b (c*128) 217 (az 128 f) 0 (ew n d) w h (by rw[aI,zV];omega) (dr _ _);rw[VK,Cv n d c f k]at j;cases e:prog.info? 217 with
 |none=>have:=wM;rw[e]at this;cases this
 |some i=>
  have l:i.size=128:=by have:=wM;rw[e]at this;simpa using this
  have g:(storeVar 217 ⟨b,c*128,none⟩ (.agg (az 128 f).toArray)).run prog w=.ok () (w.setRow b (ew n λa=>if a=c then f else d a)):=by simp[storeVar,sizeOf,typeInfo,e,Value.cells,l,aI,j]
  simp only[Cr,Instr.storeAt,Instr.sureAddr,RY,VA,RG,g]
theorem mw(w:M)(b o:Nat)(a:Int)(f:aN)(h:w.rangeAt b o (Y a::az 128 f)):ZQ prog (Cs (.pointer (some (R b o)))) w=.ok (.value (.agg (Y a::az 128 f).toArray)) w:=by
 cases c:prog.underlying 219 with
 |none=>have:=KU;rw[c]at this;cases this
 |some d=>
  have e:d.isRow=true:=by have:=KU;rw[c]at this;simpa using this
  simp only[Cs,RY,run_loadAt_mid (P:=prog) w b o 219 (Y a::az 128 f) d h c e (by rw[SE,aI];exact KV),RG,VA]
theorem KY(a:Int)(f:aN):(Y a::az 128 f).toArray.size=129:=by simp[aI]
theorem KZ:zeroCells219.size=129:=aE
theorem mx(W:M)(a:Int)(f:aN):ZQ prog (Ct (ar W.heap.size) (.agg (Y a::az 128 f).toArray)) (W.alloc (N zeroCells219 219))=.ok .skip (W.alloc (N (Y a::az 128 f).toArray 219)):=by
 have b:(Y a::az 128 f).toArray.all (·.oneCell')=true:=all_oneCell_toArray λu hu=>by
  rcases UH.1 hu with rfl|hu
  .rfl
  .exact dr _ _ u hu
 have:=run_storeAt_new (P:=prog) W 219 zeroCells219 (Y a::az 128 f).toArray (by rw[WA,SE,aI];exact KV) (by rw[KY];exact KZ) b;simp only[Ct,RY,this,RG,VA]
structure ql(S:Nat->Prop)(n:Nat)(gl:Nat)(gn:dp)(w wr:M):Prop where
 row:wr.heap[gl]? =some (N (ew n gn) 217)
 out:Out (fun k=>k=gl) w wr
theorem Aa(i:Int)(w:M):aF 162 #[Y i] w λe a=>aL e ec/\w=a:=by go_enter func162,ntmps162;go_wp2;go_ret;exact⟨rfl,rfl⟩
theorem wP(i:Int)(w:M):aF 180 #[Y i] w λe a=>aL e iL/\w=a:=by go_enter func180,ntmps180;go_wp2;go_ret;exact⟨rfl,rfl⟩
theorem t'(K:Nat)(A:DA)(d:Dk)(w:QA)(h:cB w K A d):aF 161 #[ar K,.func (.func 162) #[] #[]] w λe b0=>aL e (.tuple #[])/\kG K A (d.settled (λ_=>true)) w b0:=by
 have q:=ad h;have U:=h.ne;obtain⟨b4,b5,m,-⟩:=au h.cache;obtain⟨N,V⟩:=ah d.cn;have y:=h.cap;rw[V]at y;have T:=ad V;have r:=ad m;obtain⟨k1,f1,z1⟩:=cr h.aM;rw[m,V]at k1;have f:=ad U;have H0:QX (ql (λ_=>False) d.n A.gl (bJ d.gn d.cat d.bV (λ_=>true) 0) w w):=⟨h.gn,Out.refl _ _⟩;go_enter func161,ntmps161;go_wp2;go_loopw [11] (λi wr=>∃k:Nat,i= ae k/\k<=N/\QX (ql (λ_=>False) d.n A.gl (bJ d.gn d.cat d.bV (λ_=>true) k) w wr)) (λi _=>N-(intOf i).toNat)
 case atStart=>exact⟨0,rfl,QO _,H0⟩
 case round=>
  obtain⟨k,rfl,c2,n⟩:=hrel;by_cases z:k<N
  .have B:k<d.cn:=by rw[T.out];exact z
   obtain⟨g,X,m,-,Z⟩:=q.yA B;have D:=q.Kw k B;have E:g≠A.gl:=λe=>(f.2.2.2 g (by rw[m];rfl)).2.1 e;have F:=r.out;rw[m]at F;obtain⟨rfl,rfl⟩:some (ag g 0)=b4/\X=b5:=by simpa using F
   have H:wr.rangeAt g (k*129) (ae (d.cat k:Nat)::az 128 (d.bV k)):=λj v M=>by have:=Z j v M;rw[VB,<-this];exact QP (n.out.out.block g (QN w _ this) E)
   have R:=mw wr g (k*129) _ _ H;have I:=λW=>mx W (d.cat k:Nat) (d.bV k);have l:=n.out.out.heap q.aM (λe=>f.1 e);rw[r.out,T.out]at l;obtain⟨k2,f2,Y⟩:=cr l;have b6:(k:Int)<(N:Int):=aa;have J:(0:Int)<=(d.cat k:Int):=aa;have a0:(d.cat k:Int)<(d.n:Int):=aa;obtain⟨C,b1⟩:=ah (d.cat k);have b7:=ad b1;rw[b1]at R I D J a0;go_wp2_with fail;refine(Aa _ _).mono ?_;rintro e b0 ⟨rfl,rfl⟩;have a1:=QB wr (ao (ae C::az 128 (d.bV k)).toArray 219);have c:=(QW wr (ao (ae C::az 128 (d.bV k)).toArray 219) A.gl (Z_ n.row)).trans n.row;have s:=n.out.out.alloc (ao (ae C::az 128 (d.bV k)).toArray 219);have t:=(QW wr (ao (ae C::az 128 (d.bV k)).toArray 219) K Y).trans l;have b8:wr.heap.size≠A.gl:=by have:=Z_ n.row;omega
   revert a1 c s t;generalize wr.alloc (ao (ae C::az 128 (d.bV k)).toArray 219)=x;intro a1 c s t;obtain⟨x1,x2,x3⟩:=cr a1;obtain⟨k2,f2,Y⟩:=cr t;have a2:x.drew.rangeAt wr.heap.size 1 (az 128 (d.bV k)):=λj v M=>by show x.cell? ⟨wr.heap.size,1+j,none⟩=_;rw[x1 (1+j),<-M,YY];simp
   have b2:=mv x.drew wr.heap.size 1 (d.bV k) a2;have b3:=oP x.drew A.gl d.n C (bJ d.gn d.cat d.bV (λ_=>true) k) (d.bV k) c D;have a3:=ad c;have a4:=ad s;go_wp2_with fail;go_region;have a5:QX (ql (λ_=>False) d.n A.gl (bJ d.gn d.cat d.bV (λ_=>true) (k+1)) w (x.drew.setRow A.gl (ew d.n λa=>if a=C then d.bV k else bJ d.gn d.cat d.bV (λ_=>true) k a))):=by refine⟨?_,Out.setRow (S:=λb=>b=A.gl) a4.drew (λ_=>rfl) _⟩;have:=setRow_heap x.drew A.gl _ (ew d.n λa=>if a=C then d.bV k else bJ d.gn d.cat d.bV (λ_=>true) k a) 217 (0,0) a3;rw[this];simp only[bJ,b7.out,if_true]
   go_wp2;go_roundw
   case rel=>exact⟨k+1,by go_num,z,a5⟩
   case measure=>simp[intOf];omega
  .obtain rfl:k=N:=aa;have G:Out (λb=>b=A.gl) w wr:=n.out.out;have l:=G.heap q.aM (λe=>f.1 e);rw[r.out,T.out]at l;obtain⟨k2,f2,Y⟩:=cr l;have a6:=heap_setCell_same wr K 1 _ 142 aO l;have L:Out (λb=>b=A.gl\/b=K) w (wr.setCell (ag K 1) aO):=(G.mono λ_ _ e=>.inl e).setCell (p:=ag K 1) (λ_=>.inr rfl) _;obtain⟨w2,b9,a7,a8,_,rfl⟩:=ib (P:=prog) (q.seen.out L λe=>e.elim (λe=>f.2.2.1 e.symm) λe=>f.2.1 e.symm) 139 0 3 3 wN;have O:=(RO wr (ag K 1) aO A.gl λe=>f.1 e.symm).trans n.row;have Q:kG K A (d.settled (λ_=>true)) w ((wr.setCell (ag K 1) aO).putObj A.ms a8):=by
    have a9:Out (DZ K A) w ((wr.setCell (ag K 1) aO).putObj A.ms a8):=(L.mono λ_ _ e=>e.elim (λe=>.inr (.inl e)) λe=>.inl e).wy (λ_=>.inr (.inr (.inl rfl))) _;refine⟨⟨A.gl,A.lc,aO,A.ms⟩,⟨?_,?_,SD _ _ _ _,a7.congr λb=>?_,q.pos,q.top,QO _,λi c0=>absurd c0 (RQ _)⟩,a9,?_⟩
    .exact (TE f.2.1).trans a6
    .have:=(TE (w:=wr.setCell (ag K 1) aO) (o:=a8) f.2.2.1).trans O;rw[<-T.out]at this;exact this
    .simp [iE,Dk.settled,dS]
    .rintro b (u|u|u|u)
     .exact .inl (.inl u)
     .exact .inl (.inr (.inl u))
     .exact .inl (.inr (.inr (.inl u)))
     .cases u
   have c1:=ad Q;go_wp2;go_end0;exact⟨rfl,c1⟩
theorem ss(K:Nat)(A:DA)(d:Dk)(w:QA)(h:cB w K A d):aF 161 #[ar K,.func (.func 180) #[] #[]] w λe a4=>aL e (.tuple #[])/\kG K A (d.settled (λ_=>false)) w a4:=by
 have n:=ad h;have O:=h.ne;obtain⟨a6,a7,l,-⟩:=au h.cache;obtain⟨N,Q⟩:=ah d.cn;have u:=h.cap;rw[Q]at u;have L:=ad Q;have q:=ad l;obtain⟨k1,f1,z1⟩:=cr h.aM;rw[l,Q]at k1;have b4:A.gl<w.heap.size:=h.lt (.inr (.inl rfl));have a:=ad O;have H0:QX (ql (λ_=>False) d.n A.gl (bJ d.gn d.cat d.bV (λ_=>false) 0) w w):=⟨h.gn,Out.refl _ _⟩;go_enter func161,ntmps161;go_wp2;go_loopw [11] (λi wr=>∃k:Nat,i= ae k/\k<=N/\QX (ql (λ_=>False) d.n A.gl (bJ d.gn d.cat d.bV (λ_=>false) k) w wr)) (λi _=>N-(intOf i).toNat)
 case atStart=>exact⟨0,rfl,QO _,H0⟩
 case round=>
  obtain⟨k,rfl,b5,m⟩:=hrel;by_cases x:k<N
  .have y:k<d.cn:=by rw[L.out];exact x
   obtain⟨g,S,l,-,T⟩:=n.yA y;have U:=n.Kw k y;have z:g≠A.gl:=λe=>(a.2.2.2 g (by rw[l];rfl)).2.1 e;have B:=q.out;rw[l]at B;obtain⟨rfl,rfl⟩:some (ag g 0)=a6/\S=a7:=by simpa using B
   have V:wr.rangeAt g (k*129) (ae (d.cat k:Nat)::az 128 (d.bV k)):=λj v a8=>by have:=T j v a8;rw[VB,<-this];exact QP (m.out.out.block g (QN w _ this) z)
   have X:=mw wr g (k*129) _ _ V;have Z:=λW=>mx W (d.cat k:Nat) (d.bV k);have c:=m.out.out.heap n.aM (λe=>a.1 e);rw[q.out,L.out]at c;obtain⟨k2,f2,H⟩:=cr c;have a9:(k:Int)<(N:Int):=aa;have M:(0:Int)<=(d.cat k:Int):=aa;have R:(d.cat k:Int)<(d.n:Int):=aa;obtain⟨C,a5⟩:=ah (d.cat k);have b6:=ad a5;rw[a5]at X Z U M R;go_wp2_with fail;refine(wP _ _).mono ?_;rintro e a4 ⟨rfl,rfl⟩;have I:=QB wr (ao (ae C::az 128 (d.bV k)).toArray 219);have f:=(QW wr (ao (ae C::az 128 (d.bV k)).toArray 219) A.gl (Z_ m.row)).trans m.row;have r:=m.out.out.alloc (ao (ae C::az 128 (d.bV k)).toArray 219);have s:=(QW wr (ao (ae C::az 128 (d.bV k)).toArray 219) K H).trans c;have b0:wr.heap.size≠A.gl:=by have:=Z_ m.row;omega
   revert I f r s;generalize wr.alloc (ao (ae C::az 128 (d.bV k)).toArray 219)=W2;intro I f r s;obtain⟨x1,x2,x3⟩:=cr I;obtain⟨k2,f2,H⟩:=cr s;have Y:=ad r;have J:QX (ql (λ_=>False) d.n A.gl (bJ d.gn d.cat d.bV (λ_=>false) (k+1)) w W2):=by refine⟨?_,Y⟩;rw[f];simp only[bJ,SL,if_false]
   go_wp2;go_roundw
   case rel=>exact⟨k+1,by go_num,x,J⟩
   case measure=>simp[intOf];omega
  .obtain rfl:k=N:=aa;have D:Out (λb=>b=A.gl) w wr:=m.out.out;have c:=D.heap n.aM (λe=>a.1 e);rw[q.out,L.out]at c;obtain⟨k2,f2,H⟩:=cr c;have a0:=heap_setCell_same wr K 1 _ 142 aO c;have E:Out (λb=>b=A.gl\/b=K) w (wr.setCell (ag K 1) aO):=(D.mono λ_ _ e=>.inl e).setCell (p:=ag K 1) (λ_=>.inr rfl) _;obtain⟨w2,b1,a1,a2,_,rfl⟩:=ib (P:=prog) (n.seen.out E λe=>e.elim (λe=>a.2.2.1 e.symm) λe=>a.2.1 e.symm) 139 0 3 3 wN;have F:=(RO wr (ag K 1) aO A.gl λe=>a.1 e.symm).trans m.row;have G:kG K A (d.settled (λ_=>false)) w ((wr.setCell (ag K 1) aO).putObj A.ms a2):=by
    have a3:Out (DZ K A) w ((wr.setCell (ag K 1) aO).putObj A.ms a2):=(E.mono λ_ _ e=>e.elim (λe=>.inr (.inl e)) λe=>.inl e).wy (λ_=>.inr (.inr (.inl rfl))) _;refine⟨⟨A.gl,A.lc,aO,A.ms⟩,⟨?_,?_,SD _ _ _ _,a1.congr λb=>?_,n.pos,n.top,QO _,λi b2=>absurd b2 (RQ _)⟩,a3,?_⟩
    .exact (TE a.2.1).trans a0
    .have:=(TE (w:=wr.setCell (ag K 1) aO) (o:=a2) a.2.2.1).trans F;rw[<-L.out]at this;exact this
    .simp [iE,Dk.settled,dS]
    .rintro b (t|t|t|t)
     .exact .inl (.inl t)
     .exact .inl (.inr (.inl t))
     .exact .inl (.inr (.inr (.inl t)))
     .cases t
   have b3:=ad G;go_wp2;go_end0;exact⟨rfl,b3⟩
theorem ua(K:Nat)(A:DA)(d:Dk)(B:Nat)(kp:Nat->Bool)(w:QA)(h:cB w K A d)(b2:∀(i:Nat) W,i<d.cn->Out (λk=>k=A.gl) w W->aF 184 #[ae i,ar B] W λe w2=>aL e (.bool (kp i))/\W=w2):aF 161 #[ar K,.func (.func 184) #[] #[ar B]] w λe b3=>aL e (.tuple #[])/\kG K A (d.settled kp) w b3:=by
 have s:=ad h;have M:=h.ne;obtain⟨b7,b8,m,-⟩:=au h.cache;obtain⟨N,R⟩:=ah d.cn;have F:=h.cap;rw[R]at F;have G:=ad R;have t:=ad m;obtain⟨k1,f1,z1⟩:=cr h.aM;rw[m,R]at k1;have f:=ad M;have H0:QX (ql (λ_=>False) d.n A.gl (bJ d.gn d.cat d.bV kp 0) w w):=⟨h.gn,Out.refl _ _⟩;have b9:=ad b2;go_enter func161,ntmps161;go_wp2;go_loopw [11] (λi wr=>∃k:Nat,i= ae k/\k<=N/\QX (ql (λ_=>False) d.n A.gl (bJ d.gn d.cat d.bV kp k) w wr)) (λi _=>N-(intOf i).toNat)
 case atStart=>exact⟨0,rfl,QO _,H0⟩
 case round=>
  obtain⟨k,rfl,b2,n⟩:=hrel;by_cases q:k<N
  .have L:k<d.cn:=by rw[G.out];exact q
   obtain⟨g,I,m,-,Y⟩:=s.yA L;have O:=s.Kw k L;have Q:g≠A.gl:=λe=>(f.2.2.2 g (by rw[m];rfl)).2.1 e;have T:=t.out;rw[m]at T;obtain⟨rfl,rfl⟩:some (ag g 0)=b7/\I=b8:=by simpa using T
   have J:wr.rangeAt g (k*129) (ae (d.cat k:Nat)::az 128 (d.bV k)):=λj v a0=>by have:=Y j v a0;rw[VB,<-this];exact QP (n.out.out.block g (QN w _ this) Q)
   have a1:=mw wr g (k*129) _ _ J;have a2:=λW=>mx W (d.cat k:Nat) (d.bV k);have l:=n.out.out.heap s.aM (λe=>f.1 e);rw[t.out,G.out]at l;obtain⟨k2,f2,z2⟩:=cr l;have c0:(k:Int)<(N:Int):=aa;have a3:(0:Int)<=(d.cat k:Int):=aa;have a4:(d.cat k:Int)<(d.n:Int):=aa;obtain⟨C,b4⟩:=ah (d.cat k);have c1:=ad b4;rw[b4]at a1 a2 O a3 a4;go_wp2_with fail;refine(b9 k _ (by rw[G.out];exact q) (n.out.out.alloc _)).mono ?_;rintro e b3 ⟨rfl,rfl⟩;have a5:=QB wr (ao (ae C::az 128 (d.bV k)).toArray 219);have c:=(QW wr (ao (ae C::az 128 (d.bV k)).toArray 219) A.gl (Z_ n.row)).trans n.row;have r:=n.out.out.alloc (ao (ae C::az 128 (d.bV k)).toArray 219);have u:=(QW wr (ao (ae C::az 128 (d.bV k)).toArray 219) K z2).trans l;have c2:wr.heap.size≠A.gl:=by have:=Z_ n.row;omega
   revert a5 c r u;generalize wr.alloc (ao (ae C::az 128 (d.bV k)).toArray 219)=x;intro a5 c r u;obtain⟨x1,x2,x3⟩:=cr a5;obtain⟨k2,f2,z2⟩:=cr u;cases U:kp k
   .have y:=ad U;have z:=ad r;have D:QX (ql (λ_=>False) d.n A.gl (bJ d.gn d.cat d.bV kp (k+1)) w x):=by refine⟨?_,z⟩;rw[c];simp only[bJ,y.out,SL,if_false]
    go_wp2;go_roundw
    case rel=>exact⟨k+1,by go_num,q,D⟩
    case measure=>simp[intOf];omega
   .have y:=ad U;have a6:x.drew.rangeAt wr.heap.size 1 (az 128 (d.bV k)):=λj v a0=>by show x.cell? ⟨wr.heap.size,1+j,none⟩=_;rw[x1 (1+j),<-a0,YY];simp
    have b5:=mv x.drew wr.heap.size 1 (d.bV k) a6;have b6:=oP x.drew A.gl d.n C (bJ d.gn d.cat d.bV kp k) (d.bV k) c O;have a7:=ad c;have z:=ad r;go_wp2_with fail;go_region;have D:QX (ql (λ_=>False) d.n A.gl (bJ d.gn d.cat d.bV kp (k+1)) w (x.drew.setRow A.gl (ew d.n λa=>if a=C then d.bV k else bJ d.gn d.cat d.bV kp k a))):=by refine⟨?_,Out.setRow (S:=λb=>b=A.gl) z.drew (λ_=>rfl) _⟩;have:=setRow_heap x.drew A.gl _ (ew d.n λa=>if a=C then d.bV k else bJ d.gn d.cat d.bV kp k a) 217 (0,0) a7;rw[this];simp only[bJ,c1.out,y.out,if_true]
    go_wp2;go_roundw
    case rel=>exact⟨k+1,by go_num,q,D⟩
    case measure=>simp[intOf];omega
  .obtain rfl:k=N:=aa;have V:Out (λb=>b=A.gl) w wr:=n.out.out;have l:=V.heap s.aM (λe=>f.1 e);rw[t.out,G.out]at l;obtain⟨k2,f2,z2⟩:=cr l;have a8:=heap_setCell_same wr K 1 _ 142 aO l;have X:Out (λb=>b=A.gl\/b=K) w (wr.setCell (ag K 1) aO):=(V.mono λ_ _ e=>.inl e).setCell (p:=ag K 1) (λ_=>.inr rfl) _;obtain⟨w2,c3,a9,b0,_,rfl⟩:=ib (P:=prog) (s.seen.out X λe=>e.elim (λe=>f.2.2.1 e.symm) λe=>f.2.1 e.symm) 139 0 3 3 wN;have Z:=(RO wr (ag K 1) aO A.gl λe=>f.1 e.symm).trans n.row;have H:kG K A (d.settled kp) w ((wr.setCell (ag K 1) aO).putObj A.ms b0):=by
    have b1:Out (DZ K A) w ((wr.setCell (ag K 1) aO).putObj A.ms b0):=(X.mono λ_ _ e=>e.elim (λe=>.inr (.inl e)) λe=>.inl e).wy (λ_=>.inr (.inr (.inl rfl))) _;refine⟨⟨A.gl,A.lc,aO,A.ms⟩,⟨?_,?_,SD _ _ _ _,a9.congr λb=>?_,s.pos,s.top,QO _,λi c4=>absurd c4 (RQ _)⟩,b1,?_⟩
    .exact (TE f.2.1).trans a8
    .have:=(TE (w:=wr.setCell (ag K 1) aO) (o:=b0) f.2.2.1).trans Z;rw[<-G.out]at this;exact this
    .simp [iE,Dk.settled,dS]
    .rintro b (E|E|E|E)
     .exact .inl (.inl E)
     .exact .inl (.inr (.inl E))
     .exact .inl (.inr (.inr (.inl E)))
     .cases E
   have c5:=ad H;go_wp2;go_end0;exact⟨rfl,c5⟩
theorem su(K:Nat)(A:DA)(d:Dk)(w:M)(h:cB w K A d)(a:d.failed=true):aF 91 #[ar K] w λe b=>aL e (aH 2)/\w=b:=by obtain⟨c,f1,f⟩:=cr h.aM;rw[a]at c;go_enter func91,ntmps91;go_wp2;go_ret;exact⟨rfl,rfl⟩
theorem Cw(K:Nat)(A:DA)(d:Dk)(w:M)(h:cB w K A d)(b:d.failed=false):aF 91 #[ar K] w λe a=>aL e (aH 0)/\kG K A (d.settled λ_=>true) w a:=by have c:=I (t' K A d w h);obtain⟨f,f1,j⟩:=cr h.aM;rw[b]at f;go_enter func91,ntmps91;go_wp2_with(first|(go_at_call 161;refine c.mono ?_;rintro e a ⟨rfl,g⟩;have i:=I g));go_ret;exact⟨rfl,i⟩
def Dk.dead(d:Dk):Dk:={(d.settled λ_=>false)with failed:=true}
theorem uc(K:Nat)(A:DA)(d:Dk)(w:M)(h:cB w K A d):aF 116 #[ar K] w λe i=>aL e (.tuple #[])/\kG K A d.dead w i:=by
 obtain⟨v,f1,x⟩:=cr h.aM;have c:cB (w.setCell (R K 3) ec) K A {d with failed:=true}:=by have a:=h.ne;have f:Out (λk=>k=K) w (w.setCell (R K 3) ec):=(Out.refl (λk=>k=K) w).setCell (p:=R K 3) (λ_=>rfl) _;exact⟨heap_setCell_same w K 3 _ 142 ec h.aM,f.heap h.gn (λe=>a.1 e.symm),f.own h.cache (λk j e=>(a.2.2.2 k j).1 e),h.seen.out f (λe=>a.2.1 e.symm),h.pos,h.top,h.cap,h.Kw⟩
 have l:=I (ss K A {d with failed:=true} _ c);have m:QX (Out (DZ K A) w (w.setCell (R K 3) ec)):=(Out.refl (DZ K A) w).setCell (p:=R K 3) (λ_=>.inl rfl) _;have g:(w.setCell (R K 3) ec).heap.size=w.heap.size:=RT _ _ _;have n:=I g;go_enter func116,ntmps116;go_wp2_with(first|(go_at_call 161;refine l.mono ?_;rintro e i ⟨rfl,o⟩;have q:=I o));go_end0;obtain⟨r,c,s,t⟩:=q.out;exact⟨rfl,r,c,m.tr s,λb u=>by rw[<-n.out];exact t b u⟩
def gE(n:Nat)(f:Nat->Bool)(i:Nat):Bool:=decide (i<n)&&f i
theorem Ab(i B n c:Nat)(a:Option SR)(f:Nat->Bool)(T:SQ)(w:M)(h:aX w B (.cells #[.slice a n c] T (0,0)))(g:n=0\/∃b o,a=some (R b o)/\∀k,k<n->w.cell? ⟨b,o+k,none⟩=some (.bool (f k))):
  aF 184 #[Y i,ar B] w λe j=>aL e (.bool (gE n f i))/\w=j:=by
 obtain⟨q,f1,r⟩:=cr h;by_cases d:i<n
 .obtain ⟨b,o,rfl,l⟩:∃b o,a=some (R b o)/\∀k,k<n->w.cell? ⟨b,o+k,none⟩=some (.bool (f k)):=by
   rcases g with h|h
   .omega
   .exact h
  have m:=l i d;have e:gE n f i=f i:=by simp[gE,d]
  have p:(i:Int)<(n:Int):=J;rw[e];go_enter func184,ntmps184;go_wp2;go_ret;exact⟨rfl,rfl⟩
 .have e:gE n f i=false:=by simp[gE,d]
  have s:decide ((i:Int)<(n:Int))=false:=aS;rw[e];go_enter func184,ntmps184;go_wp2;go_ret;exact⟨rfl,rfl⟩
theorem my(K:Nat)(A:DA)(d:Dk)(a:Option SR)(n c:Nat)(f:Nat->Bool)(w:M)(h:cB w K A d)(x:n=0\/∃b o,a=some (R b o)/\b<w.heap.size/\b≠A.gl/\∀k,k<n->w.cell? ⟨b,o+k,none⟩=some (.bool (f k))):
  aF 126 #[ar K,.slice a n c] w λe s=>aL e (.tuple #[])/\kG K A (d.settled (gE n f)) w s:=by
 have l:aq w (w.alloc (N #[.slice a n c] 56)):=aK aj _;have y:=QB w (N #[.slice a n c] 56);have m:=h.below l;have G:=h.lt (b:=A.gl) (.inr (.inl rfl));have z:=I (ua K A d w.heap.size (gE n f) _ m λi W L t=>by refine Ab i w.heap.size n c a f 56 W (t.heap y J) (x.imp id ?_);rintro⟨b,o,rfl,g,p,B⟩;refine⟨b,o,rfl,λk q=>?_⟩;obtain⟨u,j⟩:∃u,w.heap[b]?=some u:=⟨_,RU g⟩;have r:=t.heap ((QW w _ b g).trans j) p;rw[QP (r.trans j.symm)];exact B k q);have v:=I l;go_enter func126,ntmps126;go_wp2_with(first|(go_at_call 161;refine z.mono ?_;rintro e s ⟨rfl,C⟩;have D:=I C));go_end0;obtain⟨E,m,r,F⟩:=D.out;exact⟨rfl,E,m,(Out.af v).tr r,λb l=>(F b l).imp id λe=>by have:=v.size;omega⟩
end
def Dk.fresh(n:Nat):Dk:=⟨n,λ_ _=>0,0,λ_=>0,λ_ _=>0,false⟩
theorem FG(n:Nat):TN (cw 128 λ_=>0) (n*128)=ew n λ_ _=>0:=by
 apply Array.ext
 .simp [TN,ew];omega
 .intro i b c;have a:i%128<128:=SC _ J;simp only[TN,ew,Array.getElem_map,Array.getElem_range,QK,UQ,gy];have:=dV 128 (λ_=>0) (i%128) a;rw[Array.getElem!_eq_getD,Array.getD_eq_getD_getElem?,this];rfl
theorem Cy(w:M)(n:Nat)(h:n<=8192):(SY 138 (Y (n:Int)) (Y (n:Int))).run prog w=.ok (a' w.heap.size n n) (w.alloc (N (ew n λ_ _=>0) 217)):=by obtain⟨d,e,a,b,c⟩:=SB MY;have:=run_make (P:=prog) w 138 217 d (.agg (cw 128 λ_=>0)) underlying138 e a .i64 .i64 n n J J (by rw[c];omega) J;rw[this,b];show YT _ (w.alloc (N (TN (cw 128 λ_=>0) (n*128)) 217))=_;rw[FG];rfl
theorem eJ(t:SQ)(w:M):(Instr.makeMap t none).run prog w=.ok (.map (some w.heap.size)) (w.alloc (.map #[] 0)):=rfl
def M_(n:Nat)(w:M)(e:RV)(a:M):Prop:=∃K A,aL e (.tuple #[ar K,aH 0])/\cB a K A (Dk.fresh n)/\(∀b,DZ K A b->w.heap.size<=b)/\aq w a
theorem FH(n:Nat)(w:M)(c:1<=n)(h:n<=8192):aF 48 #[Y n] w (M_ n w):=by
 have g:=λw=>Cy w n h;have d:=λw=>eJ 139 w;have d1:decide ((n:Int)<1)=false:=aS;have d2:decide (8192<(n:Int))=false:=aS;go_enter func48,ntmps48;go_wp2;go_ret2;refine⟨w.heap.size+1+1,⟨w.heap.size,n,aO,w.heap.size+1⟩,rfl,⟨?_,?_,SD _ _ _ _,?_,c,h,QO _,λi e=>absurd e (RQ _)⟩,?_,aK (aK (aK aj _) _) _⟩
 .have:=QB ((w.alloc (N (ew n λ_ _=>0) 217)).alloc (.map #[] 0)) (N #[a' w.heap.size n n,aO,.map (some (w.heap.size+1)),.bool false] 142);rwa[SP,SP]at this
 .exact (QW _ _ _ aS).trans (e_ _ _ _)
 .have a:=IM.made (w.alloc (N (ew n λ_ _=>0) 217));rw[SP]at a;refine(a.out (Out.af (S:=λ_=>False) (aK aj _)) id).congr λb=>?_;simp[iE,Dk.fresh,dS]
 .rintro b (rfl|rfl|rfl|f)
  .omega
  .exact QE _
  .exact US _
  .cases f
structure Dv where
 d:Dk
 hf:Bool
 left:Nat
variable {U:Dv}
def Dv.use(v:Dv):Dv:=if v.hf then(if v.left=0 then{v with d:=v.d.dead,hf:=false}else{v with left:=v.left-1})else v
structure cS(w:M)(D K:Nat)(A:DA)(v:Dv):Prop where
 aM:w.heap[D]? =some (N #[ar K,.bool v.hf,Y v.left] 106)
 tq:cB w K A v.d
 low:v.left<=1000000
def VZ(D K:Nat)(A:DA)(b:Nat):Prop:=b=D\/DZ K A b
theorem cS.out{w w1:M}{A:DA}(h:cS w n m A U)(a:Out S w w1)(c:∀b,VZ n m A b->¬S b):cS w1 n m A U:=
 ⟨a.heap h.aM (c _ (.inl rfl)),h.tq.out a λb d=>c b (.inr d),h.low⟩
theorem cS.below{A:DA}(h:cS w n m A U)(a:aq w W):cS W n m A U:=
 h.out (Out.af (S:=λ_=>False) a) λ_ _ h=>h
def ME(t:Nat):Bool:=t==106||MX t
theorem cS.ty{A:DA}(h:cS w n m A U)(a:VZ n m A k):∃o,w.heap[k]?=some o/\ME (ty o)=true:=by
 rcases a with rfl|a
 .exact ⟨_,h.aM,rfl⟩
 .obtain ⟨o,b,c⟩:=h.tq.ty a;exact⟨o,b,by simp[ME,c]⟩
theorem cS.lt{A:DA}(h:cS w n m A U){b:Nat}(a:VZ n m A b):b<w.heap.size:=by obtain⟨o,c,_⟩:=h.ty a;exact Z_ c
theorem cS.ne{A:DA}(h:cS w n m A U)(b:DZ m A k):k≠n:=by rintro rfl;obtain⟨o,a,c⟩:=h.tq.ty b;rw[h.aM]at a;cases a;cases c
def jX(D K:Nat)(A:DA)(v:Dv)(w a:M):Prop:=∃c,cS a D K c v/\Out (VZ D K A) w a/\∀b,VZ D K c b->VZ D K A b\/w.heap.size<=b
theorem jX.refl{A:DA}(h:cS w n m A U):jX n m A U w w:=⟨A,h,Out.refl _ _,λ_ h=>.inl h⟩
theorem cS.Ac{A:DA}{d:Dk}(h:cS w n m A U)(f:kG m A d w W):jX n m A {U with d:=d} w W:=by
 obtain⟨g,i,c,j⟩:=f;refine⟨g,⟨c.heap h.aM λe=>h.ne e rfl,i,h.low⟩,c.mono λ_ _ e=>.inr e,λb a=>?_⟩;rcases a with a|a
 .exact .inl (.inl a)
 .exact (j b a).imp .inr id
theorem jX.trans{A a:DA}(b:Out (VZ n m A) w W)(c:∀k,VZ n m a k->VZ n m A k\/w.heap.size<=k)(e:jX n m a U W z):jX n m A U w z:=by
 obtain⟨f,h,i,j⟩:=e;refine⟨f,h,b.trans i λk d l=>(c k l).resolve_right J,λk d=>?_⟩;rcases j k d with g|g
 .exact c k g
 .exact .inr (by have:=b.size;omega)
theorem jI(D K:Nat)(A:DA)(v:Dv)(w:QA)(h:cS w D K A v):aF 145 #[ar D] w λe f=>aL e (.tuple #[])/\jX D K A v.use w f:=by
 obtain⟨g,f1,C⟩:=cr h.aM;have r:=h.low;cases i:v.hf with
 |false=>
  have e:v.use=v:=by simp[Dv.use,i]
  rw[i]at g;rw[e];have l:=I h;go_enter func145,ntmps145;go_wp2;go_end0;exact⟨rfl,jX.refl l⟩
 |true=>
  rw[i]at g;by_cases m:v.left=0
  .have e:v.use={v with d:=v.d.dead,hf:=false}:=by simp[Dv.use,i,m]
   rw[m]at g;rw[e];have s:=I (uc K A v.d w h.tq);have l:=I h;go_enter func145,ntmps145;go_wp2_with fail;refine s.mono ?_;rintro e f ⟨rfl,t⟩;obtain⟨u,j,x,y⟩:=l.Ac t;have c:=heap_setCell_same f D 1 _ 106 iL j.aM;obtain⟨E,f2,F⟩:=cr j.aM;have a:jX D K A {v with d:=v.d.dead,hf:=false} w (f.setCell (R D 1) iL):=by refine⟨u,⟨c,j.tq.out (S:=λk=>k=D) ((Out.refl (λk=>k=D) f).setCell (p:=R D 1) (λ_=>rfl) _) λb c e=>j.ne c e,j.low⟩,x.setCell (p:=R D 1) (λ_=>.inl rfl) _,y⟩
   have n:=I a;go_wp2;go_end0;exact⟨rfl,n⟩
  .have e:v.use={v with left:=v.left-1}:=by simp[Dv.use,i,m]
   rw[e];obtain⟨L,q⟩:∃L,v.left=L+1:=⟨v.left-1,J⟩;have c:=heap_setCell_same w D 2 _ 106 (Y L) h.aM;have a:jX D K A {v with left:=v.left-1} w (w.setCell (R D 2) (Y L)):=by
    refine⟨A,⟨?_,h.tq.out (S:=λk=>k=D) ((Out.refl (λk=>k=D) w).setCell (p:=R D 2) (λ_=>rfl) _) λb c e=>h.ne c e,?_⟩,(Out.refl (VZ D K A) w).setCell (p:=R D 2) (λ_=>.inl rfl) _,λb c=>.inl c⟩
    .show _=some (Obj.cells #[ar K,.bool v.hf,Y (v.left-1:Nat)] 106 (0,0));rw[q];exact c
    .show v.left-1<=_;omega
   have n:=I a;rw[q]at g r;have o:((L+1:Nat):Int)≠0:=J;have z:QG.wrap (((L+1:Nat):Int)-1)=(L:Nat):=bs;obtain⟨M,B⟩:=ah (L+1);rw[B]at g o z;go_enter func145,ntmps145;go_wp2;go_end0;exact⟨rfl,n⟩
theorem cA.form(h:cA w v n f):∃a c,v=.slice a n c:=by obtain⟨a,c,h,_⟩:=h;exact⟨a,c,h⟩
theorem cA.set(h:cA w v n f)(a:aX w p.block O)(b:ty O≠5)(u:H):cA (w.setCell p u) v n f:=by
 letI:Lo:=⟨0⟩
 exact h.fr (T:= [ty O]) ((Fr.refl _ aG w).set a aJ (QO _) u) (by simp[Ne.symm b])
def Na(f:aN)(b:Nat)(w:M)(e:RV)(a:M):Prop:=∃v,aL e (aH 0)/\a.heap[b]?=some (N #[v] 41)/\cA a v 128 f/\Out (λk=>k=b) w a/\wO v
theorem FI(D K l a:Nat)(A:DA)(v:Dv)(b:Nat)(w:M)(h:cS w D K A v)(s:v.d.failed=false)(t:b<v.d.n)(x:aX w l (N #[Y b] 3))(m:aX w a (N #[aO] 41)):
  aF 259 #[ar D,ar l,ar a] w (Na (v.d.view b) a w):=by
 obtain⟨C,f1,E⟩:=cr h.aM;obtain⟨F,f2,G⟩:=cr x;obtain⟨L,f3,z3⟩:=cr m;have y:=I (KT K A v.d b w.drew (h.tq.out (S:=λ_=>False) (Out.refl _ _).drew λ_ _ h=>h) s t);have z:=I m;go_enter func259,ntmps259;go_wp2_with fail
 go_region_law (first|(go_simp;go_at_call 260;refine y.mono ?_;rintro e d ⟨u,rfl,c,f,g⟩;obtain⟨n,o,rfl⟩:=c.form;have i:=I g;obtain⟨O,f4,P⟩:=kp f a dG))
 all_goals(
  have j:=I c;have q:=I f;clear c f)
 all_goals go_wp2
 all_goals go_ret
 all_goals(
  have r:=(q.block a z3).trans z;have B:Out (λk=>k=a) d (d.setCell (R a 0) (.slice n 128 o)):=(Out.refl (λk=>k=a) d).setCell (p:=R a 0) (λ_=>rfl) _;exact⟨_,rfl,heap_setCell_same d a 0 _ 41 (.slice n 128 o) r,j.set (p:=R a 0) r ai _,(Out.af (S:=λk=>k=a) ((a_ (SU w.heap.size w)).trans q)).tr B,i⟩)
theorem ud(D K c a:Nat)(A:DA)(v:Dv)(b:Nat)(w:M)(h:cS w D K A v)(g:v.d.failed=true)(i:aX w c (N #[Y b] 3))(d:aX w a (N #[aO] 41)):
  aF 259 #[ar D,ar c,ar a] w λe f=>aL e (aH 2)/\f.heap[a]?=some (N #[aO] 41)/\Out (λk=>k=a) w f:=by
 obtain⟨m,f1,n⟩:=cr h.aM;obtain⟨o,f2,q⟩:=cr i;obtain⟨r,f3,z3⟩:=cr d;have j:=I (zX K A v.d b w.drew (h.tq.out (S:=λ_=>False) (Out.refl _ _).drew λ_ _ h=>h) g);have l:=I d;go_enter func259,ntmps259;go_wp2_with fail
 go_region_law (first|(go_simp;go_at_call 260;refine j.mono ?_;rintro e s ⟨rfl,rfl⟩))
 all_goals go_wp2
 all_goals go_ret
 all_goals(
  exact⟨rfl,heap_setCell_same w.drew a 0 _ 41 aO l,(Out.refl (λk=>k=a) w).drew.setCell (p:=R a 0) (λ_=>rfl) _⟩)
theorem FJ(D K b c:Nat)(A:DA)(v:Dv)(a:Nat)(u:H)(f:aN)(w:M)(h:cS w D K A v)(j:v.d.failed=false)(k:a<v.d.n)(l:v.d.cn<1000000000000)(g:kc w u 128 f)(m:aX w b (N #[Y a] 3))(n:aX w c (N #[u] 41)):
  aF 81 #[ar D,ar b,ar c] w λe o=>aL e (aH 0)/\jX D K A {v with d:=v.d.wr a f} w o:=by
 obtain⟨B,f1,C⟩:=cr h.aM;obtain⟨E,f2,F⟩:=cr m;obtain⟨G,f3,z3⟩:=cr n;have i:cS w.drew D K A v:=h.out (S:=λ_=>False) (Out.refl _ _).drew λ_ _ h=>h;have p:=I (KX K A v.d a u f w.drew i.tq j k g l);have q:=I i;obtain⟨L,O,rfl,-⟩:=g;go_enter func81,ntmps81;go_wp2_with fail
 go_region_law (first|(go_simp;go_at_call 82;refine p.mono ?_;rintro e P ⟨rfl,r⟩;have s:=I r))
 all_goals go_wp2
 all_goals go_ret
 all_goals(
  obtain⟨t,x,y,z⟩:=q.Ac s;exact⟨rfl,t,x,(Out.refl _ w).drew.tr y,z⟩)
theorem ue(D K b c:Nat)(A:DA)(v:Dv)(a:Nat)(d:Option SR)(f g:Nat)(w:M)(h:cS w D K A v)(i:v.d.failed=true)(j:aX w b (N #[Y a] 3))(k:aX w c (N #[.slice d f g] 41)):
  aF 81 #[ar D,ar b,ar c] w λe l=>aL e (aH 2)/\∃q,l=w.drewN q:=by
 obtain⟨o,f1,p⟩:=cr h.aM;obtain⟨r,f2,s⟩:=cr j;obtain⟨t,f3,z3⟩:=cr k;have m:cS w.drew D K A v:=h.out (S:=λ_=>False) (Out.refl _ _).drew λ_ _ h=>h;have n:=I (z' K A v.d a (.slice d f g) w.drew m.tq i);go_enter func81,ntmps81;go_wp2_with fail
 go_region_law (first|(go_simp;go_at_call 82;refine n.mono ?_;rintro e u ⟨rfl,rfl⟩))
 all_goals go_wp2
 all_goals go_ret
 all_goals(exact⟨rfl,1,rfl⟩)
theorem FK(D K:Nat)(A:DA)(v:Dv)(w:M)(h:cS w D K A v)(a:v.d.failed=false):
  aF 90 #[ar D] w λe b=>aL e (aH 0)/\jX D K A {v with d:=v.d.settled λ_=>true} w b:=by
 obtain⟨j,f1,k⟩:=cr h.aM;have c:=I (Cw K A v.d w h.tq a);have f:=I h;go_enter func90,ntmps90;go_wp2_with(first|(go_at_call 91;refine c.mono ?_;rintro e l ⟨rfl,g⟩;have i:=I g));go_ret;exact⟨rfl,f.Ac i⟩
theorem uf(D K:Nat)(A:DA)(v:Dv)(w:M)(h:cS w D K A v)(a:v.d.failed=true):
  aF 90 #[ar D] w λe b=>aL e (aH 2)/\w=b:=by
 obtain⟨d,f1,f⟩:=cr h.aM;have c:=I (su K A v.d w h.tq a);go_enter func90,ntmps90;go_wp2_with(first|(go_at_call 91;refine c.mono ?_;rintro e g ⟨rfl,rfl⟩));go_ret;exact⟨rfl,rfl⟩
structure By where
 N:Nat
 dv:Nat->Option Dv
 bz:Bool
 aW:Option Nat
variable {b:By}
def By.put(b:By)(k:Nat)(v:Dv):By:={b with dv:=λj=>if j=k then some v else b.dv j}
def eK:Option Nat->Int
 |none=> -1
 |some t=>(t:Nat)
structure wQ where
 D:Nat
 K:Nat
 A:DA
def wQ.Z(s:wQ)(b:Nat):Prop:=VZ s.D s.K s.A b
def qm(b:By)(a:Nat->wQ)(k:Nat):Option SR:=if(b.dv k).isSome then some ⟨(a k).D,0,none⟩else none
def cD(N:Nat)(p q:Nat->Option SR):Array H:=((TQ (3*N)).map λj=>Value.pointer (if j%3=0 then p (j/3)else if j%3=1 then q (j/3)else none)).toArray
theorem jJ(N:Nat)(p q:Nat->Option SR)(a:k<N):(cD N p q)[k*3]?=some (.pointer (p k)):=by have h:k*3<3*N:=J;simp only[cD,VX,RI,SF h,QY];rw[ak J,show k*3/3=k by omega]
theorem Ad(N:Nat)(p q:Nat->Option SR)(a:k<N):(cD N p q)[k*3+1]?=some (.pointer (q k)):=by have h:k*3+1<3*N:=J;simp only[cD,VX,RI,SF h,QY];rw[al J,ak J,show(k*3+1)/3=k by omega]
theorem qK(N:Nat)(p q:Nat->Option SR)(a:k<N):(cD N p q)[k*3+2]?=some (.pointer none):=by have h:k*3+2<3*N:=J;simp only[cD,VX,RI,SF h,QY];rw[al J,al J]
theorem ij(N:Nat){p a q b:Nat->Option SR}(h:∀k,k<N->p k=a k)(g:∀k,k<N->q k=b k):cD N p q=cD N a b:=by unfold cD;congr 1;apply UX;intro j c;have c:=TY.1 c;rw[h (j/3) J,g (j/3) J]
theorem oQ(N:Nat)(p q:Nat->Option SR)(k:Nat)(x:Option SR)(d:k<N):(cD N p q).setIfInBounds (k*3) (.pointer x)=cD N (λj=>if j=k then x else p j) q:=by
 apply Array.ext
 .simp [cD]
 .intro i f b;have c:i<3*N:=by simpa[cD]using b
  rw[Array.getElem_setIfInBounds (by simpa[cD]using c)];simp only[cD,QK,UQ,List.getElem_range];by_cases e:k*3=i
  .subst e;rw[ak rfl,ak J,show k*3/3=k by omega,ak rfl]
  .rw [al e];by_cases a:i%3=0
   .rw [ak a,ak a,al J]
   .rw [al a,al a]
theorem ug(N:Nat)(p q:Nat->Option SR)(k:Nat)(x:Option SR)(f:k<N):(cD N p q).setIfInBounds (k*3+1) (.pointer x)=cD N p (λj=>if j=k then x else q j):=by
 apply Array.ext
 .simp [cD]
 .intro i g c;have d:i<3*N:=by simpa[cD]using c
  rw[Array.getElem_setIfInBounds (by simpa[cD]using d)];simp only[cD,QK,UQ,List.getElem_range];by_cases e:k*3+1=i
  .subst e;rw[ak rfl,al J,ak J,show(k*3+1)/3=k by omega,ak rfl]
  .rw [al e];by_cases a:i%3=0
   .rw [ak a,ak a]
   .rw [al a,al a];by_cases b:i%3=1
    .rw [ak b,ak b,al J]
    .rw [al b,al b]
structure dU[Lo](w:M)(B S cap:Nat)(sa:Nat->wQ)(sd:Nat->Option SR)(r wc f:Int)(b:By):Prop where
 aM:w.heap[B]? =some (ao #[a' S b.N cap,.bool b.bz,Y (eK b.aW),Y r,Y wc,Y f] 100)
 dC:w.heap[S]? =some (ao (cD b.N (qm b sa) sd) 108)
 dev:∀k v,k<b.N->b.dv k=some v->cS w (sa k).D (sa k).K (sa k).A v
 apart:∀k j,k<b.N->j<b.N->k≠j->(b.dv k).isSome=true->(b.dv j).isSome=true->∀x,(sa k).Z x->¬(sa j).Z x
 low:∀t,b.aW=some t->t<=1000000
 top:b.N<=17
 lo:Lo.lo<=B/\Lo.lo<=S
 HX:∀k v,k<b.N->b.dv k=some v->∀x,(sa k).Z x->Lo.lo<=x
def aC[Lo](w:M)(B:Nat)(b:By):Prop:=∃S a c d r wc f,dU w B S a c d r wc f b
def TB:List Nat:= [100,106,108,142,217,219,1000000]
theorem sw(h:ME n=true):TB.contains n=true:=by simp only[ME,MX,Bool.or_eq_true,beq_iff_eq]at h;rcases h with h|((h|h)|h)|h<;>(subst h;rfl)
theorem Fr.K_[Lo](h:Fr T S w W):Out (λk=>(∃o,w.heap[k]?=some o/\T.contains (ty o)=true)\/S k) w W:=
 ⟨h.os,h.tape,h.output,h.size,λk c b=>by
  obtain⟨o,a⟩:∃o,aX w k o:=⟨_,RU c⟩;rw[a];refine h.block k o a (.inl ?_) λe=>b (.inr e);cases d:T.contains (ty o)with
  |false=>rfl
  |true=>exact absurd (.inl ⟨o,a,d⟩) b⟩
theorem Out.Cz[Lo](h:Out S w W)(f:∀k,k<w.heap.size->S k->(∃o,w.heap[k]?=some o/\T.contains (ty o)=true)/\Lo.lo<=k):Fr T aG w W:=
 ⟨h.os,h.tape,h.output,h.size,λk o b a _=>h.heap b λe=>by
  obtain⟨⟨g,c,d⟩,i⟩:=f k (Z_ b) e;rw[b]at c;cases c;rcases a with a|a
  .rw [a]at d;cases d
  .omega⟩
theorem wR(h:TB.all (λn=> !T.contains n)=true)(a:TB.contains n=true):T.contains n=false:=by have:=WD.1 h n (List.contains_iff_mem.1 a);simpa using this
theorem aC.fr[Lo](h:aC w n b)(g:Fr T S w W)(i:TB.all (λt=> !T.contains t)=true)(s:∀k o,S k->w.heap[k]?=some o->TB.contains (ty o)=false):aC W n b:=by
 obtain⟨u,j,x,y,r,wc,f,h⟩:=h;have a:∀k o,w.heap[k]?=some o->TB.contains (ty o)=true->¬S k:=λk o d c e=>by rw[s k o e d]at c;cases c
 refine⟨u,j,x,y,r,wc,f,g.heap h.aM (wR i rfl) (a _ _ h.aM rfl),g.heap h.dC (wR i rfl) (a _ _ h.dC rfl),λk v l m=>?_,h.apart,h.low,h.top,h.lo,h.HX⟩;refine(h.dev k v l m).out g.K_ λb z e=>?_;obtain⟨o,d,c⟩:=(h.dev k v l m).ty z;rcases e with⟨A,p,q⟩|e
 .rw [d]at p;cases p;rw[wR i (sw c)]at q;cases q
 .exact a _ _ d (sw c) e
theorem aC.fn[Lo](h:aC w n b)(a:Fr T aG w W)(c:TB.all (λt=> !T.contains t)=true):aC W n b:=h.fr a c λ_ _ e=>e.elim
theorem aC.below[Lo]{B:Nat}(h:aC w B b)(a:aq w W):aC W B b:=h.fn (T:= []) (Fr.af a) rfl
theorem aC.lt[Lo](h:aC w n b):n<w.heap.size:=by obtain⟨c,a,d,e,r,wc,f,h⟩:=h;exact Z_ h.aM
theorem aC.lo[Lo](h:aC w n b):Lo.lo<=n:=by obtain⟨c,a,d,e,r,wc,f,h⟩:=h;exact h.lo.1
theorem dU.Nb[Lo]{a:Nat->wQ}{c:Nat->Option SR}{r wc f:Int}(h:dU w n m k a c r wc f b):n≠m:=λe=>by have:=h.aM;rw[e,h.dC]at this;simp at this
theorem dU.MF[Lo]{c:Nat->wQ}{g:Nat->Option SR}{r wc f:Int}(h:dU w n m i c g r wc f b)(l:k<b.N)(p:b.dv k=some U)(q:(c k).Z j):j≠n/\j≠m:=by
 obtain⟨o,a,d⟩:=(h.dev k U l p).ty q;refine⟨λe=>?_,λe=>?_⟩
 .rw [e,h.aM]at a;cases a;cases d
 .rw [e,h.dC]at a;cases a;cases d
def lx(S:Nat->Prop)(D K:Nat)(A:DA)(v:Dv)(w a:M):Prop:=∃c,cS a D K c v/\Out (λx=>VZ D K A x\/S x) w a/\∀b,VZ D K c b->VZ D K A b\/w.heap.size<=b
theorem jX.q{A:DA}(h:jX n m A U w W):lx S n m A U w W:=by obtain⟨a,b,c,d⟩:=h;exact⟨a,b,c.mono λ_ _ e=>.inl e,d⟩
theorem dU.wT[Lo]{d:Nat->wQ}{Z:Nat->Option SR}{r wc f:Int}(h:dU w n m C d Z r wc f b){v H:Dv}(G:k<b.N)(y:b.dv k=some v)(R:∀x o,Q x->w.heap[x]?=some o->TB.contains (ty o)=false)(I:lx Q (d k).D (d k).K (d k).A H w W):
  ∃T,dU W n m C T Z r wc f (b.put k H)/\Fr TB Q w W:=by
 obtain⟨Y,J,z,U⟩:=I;have A:∀x o,w.heap[x]?=some o->TB.contains (ty o)=true->¬Q x:=λx o E F e=>by rw[R x o e E]at F;cases F
 have N:∀x,VZ (d k).D (d k).K (d k).A x->x≠n/\x≠m:=λx a=>h.MF G y a;have V:Fr TB Q w W:=⟨z.os,z.tape,z.output,z.size,λx o a K B=>z.heap a λe=>by
  rcases e with e|e
  .rcases K with K|K
   .obtain ⟨a2,E,F⟩:=(h.dev k v G y).ty e;rw[a]at E;cases E;rw[sw F]at K;cases K
   .have:=h.HX k v G y x e;omega
  .exact B e⟩
 refine⟨λj=>if j=k then⟨(d k).D,(d k).K,Y⟩else d j,⟨z.heap h.aM λe=>e.elim (λe=>(N _ e).1 rfl) (A _ _ h.aM rfl),?_,λj u l c=>?_,λi j a0 l q P L x a=>?_,h.low,h.top,h.lo,λj u l c x a=>?_⟩,V⟩
 .have B:=z.heap h.dC λe=>e.elim (λe=>(N _ e).2 rfl) (A _ _ h.dC rfl);rw[B];congr 2;apply ij
  .intro j l;unfold qm By.put;by_cases e:j=k
   .subst e;simp[y]
   .simp [e]
  .intros;rfl
 .by_cases e:j=k
  .subst e;simp only[By.put,if_true,SI]at c|-;subst c;exact J
  .simp only[By.put,al e]at c|-;refine(h.dev j u l c).out z λx a p=>p.elim (λp=>h.apart k j G l (λa1=>e a1.symm) (by rw[y];rfl) (by rw[c];rfl) x p a) λp=>?_;obtain⟨o,E,F⟩:=(h.dev j u l c).ty a;exact A _ _ E (sw F) p
 .have X:∀x,(d j).Z x->(b.dv j).isSome=true->j<b.N->x<w.heap.size:=λx a B l=>by
   obtain⟨u,c⟩:=UJ.1 B;exact(h.dev j u l c).lt a
  have O:∀x,(d i).Z x->(b.dv i).isSome=true->i<b.N->x<w.heap.size:=λx a B l=>by obtain⟨u,c⟩:=UJ.1 B;exact(h.dev i u l c).lt a
  have s:i<b.N:=a0;have t:j<b.N:=l;intro D;by_cases M:i=k
  .subst M;have S:¬j=i:=λe=>q e.symm;simp only[By.put,al S]at L D;simp only[if_true]at a;rcases U x a with g|g
   .exact h.apart i j s t q (by rw[y];rfl) L x g D
   .have:=X x D L t;omega
  .simp only[By.put,al M]at P a;by_cases S:j=k
   .subst S;simp only[if_true]at D;rcases U x D with g|g
    .exact h.apart i j s t q P (by rw[y];rfl) x a g
    .have:=O x a P s;omega
   .simp only[By.put,al S]at L D;exact h.apart i j s t q P L x a D
 .by_cases e:j=k
  .subst e;simp only[if_true,wQ.Z]at a;rcases U x a with g|g
   .exact h.HX j v G y x g
   .have:=Z_ h.aM;have:=h.lo.1;omega
  .simp only[By.put,al e]at c;simp only[al e,wQ.Z]at a;exact h.HX j u l c x a
theorem dU.sx[Lo]{a:Nat->wQ}{d:Nat->Option SR}{r wc f:Int}(h:dU w n m i a d r wc f b){v g:Dv}(j:k<b.N)(l:b.dv k=some v)(o:jX (a k).D (a k).K (a k).A g w W):
  ∃c,dU W n m i c d r wc f (b.put k g)/\Fr TB aG w W:=h.wT j l (λ_ _ e=>e.elim) o.q
theorem dU.mz[Lo]{w w':M}{d:Nat->wQ}{g:Nat->Option SR}{r wc f j a l:Int}{dk:Bool}{tr:Option Nat}(h:dU w n m i d g r wc f b)(c:Out (λk=>k=n) w w')(q:aX w' n (ao #[a' m b.N i,.bool dk,Y (eK tr),Y j,Y a,Y l] 100))(s:∀t,tr=some t->t<=1000000):
  dU w' n m i d g j a l {b with bz:=dk,aW:=tr}/\Fr TB aG w w':=
 ⟨⟨q,c.heap h.dC (λe=>h.Nb e.symm),λk v o p=>(h.dev k v o p).out c λx u e=>(h.MF o p u).1 e,h.apart,s,h.top,h.lo,h.HX⟩,c.Cz λk _ e=>by subst e;exact⟨⟨_,h.aM,rfl⟩,h.lo.1⟩⟩
section
section
variable {w:QA} {B S cap:Nat} {sa:Nat->wQ} {sd:Nat->Option SR} {r wc f:Int} {b:By}
theorem ly[Lo](h:dU w B S cap sa sd r wc f b):aF 49 #[ar B] w λe a=>aL e (Y b.N)/\w=a:=by obtain⟨c,f1,d⟩:=cr h.aM;go_enter func49,ntmps49;go_wp2;go_ret;exact⟨rfl,rfl⟩
theorem oR[Lo](h:dU w B S cap sa sd r wc f b)(k:Nat)(a:k<b.N):aF 140 #[ar B,Y k] w λe c=>aL e (.pointer (some ⟨S,k*3,none⟩))/\w=c:=by obtain⟨d,f1,j⟩:=cr h.aM;have g:=h.top;obtain⟨N,i⟩:=ah b.N;rw[i]at d a g;have d1:decide ((k:Int)<0)=false:=aJ;have d2:decide ((N:Int)<=k)=false:=aS;go_enter func140,ntmps140;go_wp2;go_ret;exact⟨rfl,rfl⟩
theorem yD[Lo](h:dU w B S cap sa sd r wc f b)(k:Nat)(a:k<b.N):aF 76 #[ar B,Y k] w λe c=>aL e (.pointer (qm b sa k))/\w=c:=by
 have d:=I (oR h k a);have g:w.cell? ⟨S,k*3,none⟩=some (.pointer (qm b sa k)):=by rw[(cr h.dC).1,jJ _ _ _ a]
 obtain⟨p,i⟩:=ah (qm b sa k);rw[i]at g|-;go_enter func76,ntmps76;go_wp2_with(first|(go_at_call 140;refine d.mono ?_;rintro e c ⟨rfl,rfl⟩));go_ret;exact⟨rfl,rfl⟩
theorem fF[Lo](h:dU w B S cap sa sd r wc f b)(k:Nat)(c:k<b.N)(v:Dv)(g:b.dv k=some v):aF 115 #[ar B,Y k] w λe a=>aL e (.tuple #[.pointer (some ⟨(sa k).D,0,none⟩),aH 0])/\w=a:=by have i:=I (oR h k c);have d:=yD h k c;rw[show qm b sa k=some ⟨(sa k).D,0,none⟩by simp[qm,g]]at d;have j:=I d;go_enter func115,ntmps115;go_wp2_with(first|(go_at_call 140;refine i.mono ?_;rintro e a ⟨rfl,rfl⟩)|(go_at_call 76;refine j.mono ?_;rintro e a ⟨rfl,rfl⟩));go_ret2;exact⟨rfl,rfl⟩
theorem eD[Lo](h:dU w B S cap sa sd r wc f b)(k:Nat)(c:k<b.N)(g:b.dv k=none):aF 115 #[ar B,Y k] w λe a=>aL e (.tuple #[.pointer none,aH 51])/\w=a:=by have i:=I (oR h k c);have d:=yD h k c;rw[show qm b sa k=none by simp[qm,g]]at d;have j:=I d;go_enter func115,ntmps115;go_wp2_with(first|(go_at_call 140;refine i.mono ?_;rintro e a ⟨rfl,rfl⟩)|(go_at_call 76;refine j.mono ?_;rintro e a ⟨rfl,rfl⟩));go_ret2;exact⟨rfl,rfl⟩
theorem IZ[Lo](h:dU w B S cap sa sd r wc f b)(k:Nat)(a:k<b.N)(v:Dv)(c:b.dv k=some v):aF 50 #[ar B,Y k] w λe d=>aL e (.bool (!v.d.failed))/\∃q,d=w.drewN q:=by have g:=yD h k a;rw[show qm b sa k=some ⟨(sa k).D,0,none⟩by simp[qm,c]]at g;have i:=I g;have j:=I (wK _ _ _ w (h.dev k v a c).tq);obtain⟨l,f1,m⟩:=cr (h.dev k v a c).aM;go_enter func50,ntmps50;go_wp2_with(first|(go_at_call 77;refine j.mono ?_;rintro e d ⟨rfl,rfl⟩)|(go_at_call 76;refine i.mono ?_;rintro e d ⟨rfl,rfl⟩));go_ret;exact⟨rfl,0,rfl⟩
theorem yE[Lo](h:dU w B S cap sa sd r wc f b)(k:Nat)(a:k<b.N)(v:Dv)(c:b.dv k=some v):aF 51 #[ar B,Y k] w λe d=>aL e (Y v.d.n)/\w=d:=by have g:=yD h k a;rw[show qm b sa k=some ⟨(sa k).D,0,none⟩by simp[qm,c]]at g;have i:=I g;have j:=I (wL _ _ _ w (h.dev k v a c).tq);obtain⟨l,f1,m⟩:=cr (h.dev k v a c).aM;go_enter func51,ntmps51;go_wp2_with(first|(go_at_call 78;refine j.mono ?_;rintro e d ⟨rfl,rfl⟩)|(go_at_call 76;refine i.mono ?_;rintro e d ⟨rfl,rfl⟩));go_ret;exact⟨rfl,rfl⟩
end
theorem qL(B o:Nat)(w:M):aF 258 #[.pointer (some (R B o))] w λe a=>aL e (.pointer (some (R B o)))/\w=a:=by go_enter func258,ntmps258;go_wp2;go_ret;exact⟨aJ,rfl⟩
theorem oS(B o:Nat)(w:M):aF 80 #[.pointer (some (R B o))] w λe a=>aL e (.pointer (some ⟨B,o+1,none⟩))/\w=a:=by go_enter func80,ntmps80;go_wp2;go_ret;exact⟨aJ,rfl⟩
theorem nm(B o:Nat)(w:M):aF 89 #[.pointer (some (R B o))] w λe a=>aL e (.pointer (some ⟨B,o+2,none⟩))/\w=a:=by go_enter func89,ntmps89;go_wp2;go_ret;exact⟨aJ,rfl⟩
end
def By.out(b:By):Bool:=b.bz||b.aW==some 0
def By.off(b:By):By:=if b.aW=some 0 then{b with bz:=true,aW:=none}else b
def By.tick(b:By):By:={b with aW:=b.aW.map (· -1)}
def By.op(b:By)(k:Nat)(a:Dv->Dv × Nat):By × Nat:=
 if b.out then(b.off,50)else match b.dv k with|none=>(b.tick,51)|some v=>(b.tick.put k (a v.use).1,(a v.use).2)
def bS(v:Dv):Dv × Nat:=(v,if v.d.failed then 2 else 0)
def aR(a:Nat)(f:aN)(v:Dv):Dv × Nat:=if v.d.failed then(v,2)else({v with d:=v.d.wr a f},0)
def be(v:Dv):Dv × Nat:=if v.d.failed then(v,2)else({v with d:=v.d.settled λ_=>true},0)
def qn[Lo](Q:Nat->Prop)(B:Nat)(b:By)(k:Nat)(a:Dv->Dv × Nat)(X:Dv->M->Prop)(w:M)(e:RV)(c:M):Prop:=
 aL e (.int .u16 ((b.op k a).2:Nat))/\aC c B (b.op k a).1/\Fr TB Q w c/\(∀v,b.out=false->b.dv k=some v->X v.use c)/\(b.out=true\/b.dv k=none->Fr TB aG w c)
theorem lx.after{A b:DA}(c:Out (VZ n m A) w W)(d:∀k,VZ n m b k->VZ n m A k\/w.heap.size<=k)(h:lx Q n m b U W z):lx Q n m A U w z:=by
 obtain⟨i,j,l,o⟩:=h;refine⟨i,j,(c.mono λ_ _ e=>.inl e).trans l λk f a=>a.elim (λa=>.inl ((d k a).resolve_right J)) .inr,λk f=>?_⟩;rcases o k f with g|g
 .exact d k g
 .exact .inr (by have:=c.size;omega)
theorem K'[Lo](Q:Nat->Prop)(B k:Nat)(b:By)(c:Dv->Dv × Nat)(X:Dv->QA->Prop)(a7 a8:Nat)(w:QA)(h:aC w B b)(m:k<b.N)(a9:∀x o,Q x->w.heap[x]?=some o->TB.contains (ty o)=false)(N:∀(D K:Nat) (A:DA) (v:Dv) W,b.dv k=some v->cS W D K A v.use->Fr TB aG w W->aF 259 #[ar D,ar a7,ar a8] W λe w'=>aL e (.int .u16 ((c v.use).2:Nat))/\lx Q D K A (c v.use).1 W w'/\X v.use w'):
  aF 79 #[ar B,ae k,.func (.func 258) #[] #[],.func (.func 259) #[] #[ar a7,ar a8]] w (qn Q B b k c X w):=by
 obtain⟨S,M,b0,b1,r,wc,f,h⟩:=h;have a0:=ad (oR h k m);have H:=ad h;have R:=h.low;obtain⟨C,f1,z1⟩:=cr h.aM;by_cases F:b.aW=some 0
 .have d:b.op k c=(b.off,50):=by simp[By.op,By.out,F]
  have e2:b.off={b with bz:=true,aW:=none}:=by simp[By.off,F]
  have G:b.out=true:=by simp[By.out,F]
  have a2:=heap_setCell_same _ B 2 _ 100 (ae (-1)) (heap_setCell_same w B 1 _ 100 ec h.aM);have j:=h.mz (w':=(w.setCell (ag B 1) ec).setCell (ag B 2) (ae (-1))) (dk:=true) (tr:=none) (((Out.refl (λk=>k=B) w).setCell (p:=ag B 1) (λ_=>rfl) _).setCell (p:=ag B 2) (λ_=>rfl) _) a2 (λt j=>by cases j);have n:QX (qn Q B b k c X w (.returned (aH 50)) ((w.setCell (ag B 1) ec).setCell (ag B 2) (ae (-1)))):=by refine⟨by rw[d];rfl,?_,j.2.any,λv g=>(by rw[G]at g;cases g),λ_=>j.2⟩;rw[d];show aC _ B b.off;rw[e2];exact⟨_,_,_,_,_,_,_,j.1⟩
  rw[F]at C;go_enter func79,ntmps79;go_wp2_with(first|(go_at_call 140;refine a0.mono ?_;rintro e w' ⟨rfl,rfl⟩));go_ret;exact n
 .have t0:((eK b.aW)==0)=false:=by
   cases j:b.aW with
   |none=>rfl
   |some t=>have:t≠0:=λe=>F (by rw[j,e]);simp[eK];omega
  cases a1:b.bz with
  |true=>
   have G:b.out=true:=by simp[By.out,a1]
   have d:b.op k c=(b.off,50):=by simp[By.op,G]
   have e2:b.off=b:=by simp[By.off,F]
   have n:QX (qn Q B b k c X w (.returned (aH 50)) w):=by refine⟨by rw[d];rfl,?_,Fr.refl _ _ _,λv g=>(by rw[G]at g;cases g),λ_=>Fr.refl _ _ _⟩;rw[d];show aC _ B b.off;rw[e2];exact⟨_,_,_,_,_,_,_,h⟩
   rw[a1]at C;obtain⟨T,b2⟩:=ah (eK b.aW);rw[b2]at C t0;go_enter func79,ntmps79;go_wp2_with(first|(go_at_call 140;refine a0.mono ?_;rintro e w' ⟨rfl,rfl⟩));go_ret;exact n
  |false=>
   have G:b.out=false:=by simp[By.out,a1,F]
   rw[a1]at C;cases j:b.aW with
   |none=>
    rw[j]at C;have l:=ad j;have L:=ad G;have a3:=ad a9;have O:=ad N;simp only[eK]at C;go_enter func79,ntmps79;go_wp2_with(first|(go_at_call 140;refine a0.mono ?_;rintro e w' ⟨rfl,rfl⟩)|(go_at_call 258;refine(qL _ _ _).mono ?_;rintro e w' ⟨rfl,rfl⟩));obtain⟨q,s⟩:=ah (w.setCell (ag B 3) (ae (WW (r+1))));rw[s];have a:QX ((dU q B S M b0 b1 (WW (r+1)) wc f b.tick/\Fr TB aG w q)/\q.heap.size=w.heap.size):=by rw[<-s];refine⟨H.mz (dk:=b.bz) (tr:=b.tick.aW) ((Out.refl (λk=>k=B) w).setCell (p:=ag B 3) (λ_=>rfl) _) (by have:=heap_setCell_same w B 3 _ 100 (ae (WW (r+1))) H.aM;simp only[By.tick,l.out,VE]at this|-;exact this) ?_,by simp only[RT]⟩;intro t2 E;have h7:=H.low;simp only[By.tick,l.out,VE]at E;cases E
    cases g:b.dv k with
    |none=>
     have n:QX (qn Q B b k c X w (.returned (aH 51)) q):=by
      have d:b.op k c=(b.tick,51):=by simp[By.op,L.out,g]
      refine⟨by rw[d];rfl,?_,a.out.1.2.any,λv _ h=>(by rw[g]at h;cases h),λ_=>a.out.1.2⟩;rw[d];exact⟨_,_,_,_,_,_,_,a.out.1.1⟩
     refine(eD a.out.1.1 k m g).mono ?_;rintro e w' ⟨rfl,rfl⟩;go_wp2;go_ret;exact n
    |some v=>
     have i:=ad g;refine(fF a.out.1.1 k m v g).mono ?_;rintro e w' ⟨rfl,rfl⟩;go_wp2_with fail;refine(jI _ _ _ v q (a.out.1.1.dev k v m i)).mono ?_;rintro e w3 ⟨rfl,a4⟩;have I:=ad a4;obtain⟨A3,g1,g2,g3⟩:=I.out;have G1:=ad g1;have G2:=ad g2;have G3:=ad g3;go_wp2_with fail;refine(O _ _ A3 v w3 i G1 (a.out.1.2.tr ((a.out.1.1.sx m i I).choose_spec.2))).mono ?_;rintro e w4 ⟨rfl,P,V⟩;have n:QX (qn Q B b k c X w (.returned (.int .u16 ((c v.use).2:Nat))) w4):=by
      have d:b.op k c=(b.tick.put k (c v.use).1,(c v.use).2):=by simp[By.op,L.out,i.out]
      obtain⟨a5,g5,g6⟩:=a.out.1.1.wT (Q:=Q) m i (λx o Z Y=>by have y:=Z_ Y;rw[a.out.2]at y;have J:w.heap[x]?=some w.heap[x]:=RU y;have h9:=a3.out x _ Z J;have z:=a.out.1.2.hp J h9;rw[Y]at z;cases z;exact h9) (lx.after G2 G3 P);refine⟨by rw[d],?_,a.out.1.2.any.tr g6,λb3 _ h=>(by rw[i.out]at h;cases h;exact V),λh=>h.elim (λh=>by rw[L.out]at h;cases h) λh=>by rw[i.out]at h;cases h⟩;rw[d];exact⟨_,_,_,_,_,_,_,g5⟩
     go_wp2;go_ret;exact n
   |some t=>
    obtain⟨u,rfl⟩:∃u,t=u+1:=⟨t-1,by have:t≠0:=λe=>F (by rw[j,e]);omega⟩;rw[j]at C;have b4:QG.wrap (((u+1:Nat):Int)-1)=(u:Nat):=by have:=R _ j;go_arith
    have b5:(0:Int)<((u+1:Nat):Int):=aa;have a6:(((u+1:Nat):Int)==0)=false:=aS;simp only[eK]at C;obtain⟨U,b6⟩:=ah (u+1);rw[b6]at C b4 b5 a6;have l:=ad j;have L:=ad G;have a3:=ad a9;have O:=ad N;go_enter func79,ntmps79;go_wp2_with(first|(go_at_call 140;refine a0.mono ?_;rintro e w' ⟨rfl,rfl⟩)|(go_at_call 258;refine(qL _ _ _).mono ?_;rintro e w' ⟨rfl,rfl⟩));obtain⟨q,s⟩:=ah ((w.setCell (ag B 2) (ae u)).setCell (ag B 3) (ae (WW (r+1))));rw[s];have a:QX ((dU q B S M b0 b1 (WW (r+1)) wc f b.tick/\Fr TB aG w q)/\q.heap.size=w.heap.size):=by rw[<-s];refine⟨H.mz (dk:=b.bz) (tr:=b.tick.aW) (((Out.refl (λk=>k=B) w).setCell (p:=ag B 2) (λ_=>rfl) _).setCell (p:=ag B 3) (λ_=>rfl) _) (by have:=heap_setCell_same _ B 3 _ 100 (ae (WW (r+1))) (heap_setCell_same w B 2 _ 100 (ae u) H.aM);simp only[By.tick,l.out,QY,VS,eK]at this|-;exact this) ?_,by simp only[RT]⟩;intro t2 E;have h7:=H.low;simp only[By.tick,l.out,QY,VS,SI]at E;have:=h7 _ l;omega
    cases g:b.dv k with
    |none=>
     have n:QX (qn Q B b k c X w (.returned (aH 51)) q):=by
      have d:b.op k c=(b.tick,51):=by simp[By.op,L.out,g]
      refine⟨by rw[d];rfl,?_,a.out.1.2.any,λv _ h=>(by rw[g]at h;cases h),λ_=>a.out.1.2⟩;rw[d];exact⟨_,_,_,_,_,_,_,a.out.1.1⟩
     refine(eD a.out.1.1 k m g).mono ?_;rintro e w' ⟨rfl,rfl⟩;go_wp2;go_ret;exact n
    |some v=>
     have i:=ad g;refine(fF a.out.1.1 k m v g).mono ?_;rintro e w' ⟨rfl,rfl⟩;go_wp2_with fail;refine(jI _ _ _ v q (a.out.1.1.dev k v m i)).mono ?_;rintro e w3 ⟨rfl,a4⟩;have I:=ad a4;obtain⟨A3,g1,g2,g3⟩:=I.out;have G1:=ad g1;have G2:=ad g2;have G3:=ad g3;go_wp2_with fail;refine(O _ _ A3 v w3 i G1 (a.out.1.2.tr ((a.out.1.1.sx m i I).choose_spec.2))).mono ?_;rintro e w4 ⟨rfl,P,V⟩;have n:QX (qn Q B b k c X w (.returned (.int .u16 ((c v.use).2:Nat))) w4):=by
      have d:b.op k c=(b.tick.put k (c v.use).1,(c v.use).2):=by simp[By.op,L.out,i.out]
      obtain⟨a5,g5,g6⟩:=a.out.1.1.wT (Q:=Q) m i (λx o Z Y=>by have y:=Z_ Y;rw[a.out.2]at y;have J:w.heap[x]?=some w.heap[x]:=RU y;have h9:=a3.out x _ Z J;have z:=a.out.1.2.hp J h9;rw[Y]at z;cases z;exact h9) (lx.after G2 G3 P);refine⟨by rw[d],?_,a.out.1.2.any.tr g6,λb3 _ h=>(by rw[i.out]at h;cases h;exact V),λh=>h.elim (λh=>by rw[L.out]at h;cases h) λh=>by rw[i.out]at h;cases h⟩;rw[d];exact⟨_,_,_,_,_,_,_,g5⟩
     go_wp2;go_ret;exact n
theorem La[Lo](Q:Nat->Prop)(B k:Nat)(b:By)(c:Dv->Dv × Nat)(X:Dv->QA->Prop)(a7 a8:Nat)(w:QA)(h:aC w B b)(m:k<b.N)(a9:∀x o,Q x->w.heap[x]?=some o->TB.contains (ty o)=false)(N:∀(D K:Nat) (A:DA) (v:Dv) W,b.dv k=some v->cS W D K A v.use->Fr TB aG w W->aF 81 #[ar D,ar a7,ar a8] W λe w'=>aL e (.int .u16 ((c v.use).2:Nat))/\lx Q D K A (c v.use).1 W w'/\X v.use w'):
  aF 79 #[ar B,ae k,.func (.func 80) #[] #[],.func (.func 81) #[] #[ar a7,ar a8]] w (qn Q B b k c X w):=by
 obtain⟨S,M,b0,b1,r,wc,f,h⟩:=h;have a0:=ad (oR h k m);have H:=ad h;have R:=h.low;obtain⟨C,f1,z1⟩:=cr h.aM;by_cases F:b.aW=some 0
 .have d:b.op k c=(b.off,50):=by simp[By.op,By.out,F]
  have e2:b.off={b with bz:=true,aW:=none}:=by simp[By.off,F]
  have G:b.out=true:=by simp[By.out,F]
  have a2:=heap_setCell_same _ B 2 _ 100 (ae (-1)) (heap_setCell_same w B 1 _ 100 ec h.aM);have j:=h.mz (w':=(w.setCell (ag B 1) ec).setCell (ag B 2) (ae (-1))) (dk:=true) (tr:=none) (((Out.refl (λk=>k=B) w).setCell (p:=ag B 1) (λ_=>rfl) _).setCell (p:=ag B 2) (λ_=>rfl) _) a2 (λt j=>by cases j);have n:QX (qn Q B b k c X w (.returned (aH 50)) ((w.setCell (ag B 1) ec).setCell (ag B 2) (ae (-1)))):=by refine⟨by rw[d];rfl,?_,j.2.any,λv g=>(by rw[G]at g;cases g),λ_=>j.2⟩;rw[d];show aC _ B b.off;rw[e2];exact⟨_,_,_,_,_,_,_,j.1⟩
  rw[F]at C;go_enter func79,ntmps79;go_wp2_with(first|(go_at_call 140;refine a0.mono ?_;rintro e w' ⟨rfl,rfl⟩));go_ret;exact n
 .have t0:((eK b.aW)==0)=false:=by
   cases j:b.aW with
   |none=>rfl
   |some t=>have:t≠0:=λe=>F (by rw[j,e]);simp[eK];omega
  cases a1:b.bz with
  |true=>
   have G:b.out=true:=by simp[By.out,a1]
   have d:b.op k c=(b.off,50):=by simp[By.op,G]
   have e2:b.off=b:=by simp[By.off,F]
   have n:QX (qn Q B b k c X w (.returned (aH 50)) w):=by refine⟨by rw[d];rfl,?_,Fr.refl _ _ _,λv g=>(by rw[G]at g;cases g),λ_=>Fr.refl _ _ _⟩;rw[d];show aC _ B b.off;rw[e2];exact⟨_,_,_,_,_,_,_,h⟩
   rw[a1]at C;obtain⟨T,b2⟩:=ah (eK b.aW);rw[b2]at C t0;go_enter func79,ntmps79;go_wp2_with(first|(go_at_call 140;refine a0.mono ?_;rintro e w' ⟨rfl,rfl⟩));go_ret;exact n
  |false=>
   have G:b.out=false:=by simp[By.out,a1,F]
   rw[a1]at C;cases j:b.aW with
   |none=>
    rw[j]at C;have l:=ad j;have L:=ad G;have a3:=ad a9;have O:=ad N;simp only[eK]at C;go_enter func79,ntmps79;go_wp2_with(first|(go_at_call 140;refine a0.mono ?_;rintro e w' ⟨rfl,rfl⟩)|(go_at_call 80;refine(oS _ _ _).mono ?_;rintro e w' ⟨rfl,rfl⟩));obtain⟨q,s⟩:=ah (w.setCell (ag B 4) (ae (WW (wc+1))));rw[s];have a:QX ((dU q B S M b0 b1 r (WW (wc+1)) f b.tick/\Fr TB aG w q)/\q.heap.size=w.heap.size):=by rw[<-s];refine⟨H.mz (dk:=b.bz) (tr:=b.tick.aW) ((Out.refl (λk=>k=B) w).setCell (p:=ag B 4) (λ_=>rfl) _) (by have:=heap_setCell_same w B 4 _ 100 (ae (WW (wc+1))) H.aM;simp only[By.tick,l.out,VE]at this|-;exact this) ?_,by simp only[RT]⟩;intro t2 E;have h7:=H.low;simp only[By.tick,l.out,VE]at E;cases E
    cases g:b.dv k with
    |none=>
     have n:QX (qn Q B b k c X w (.returned (aH 51)) q):=by
      have d:b.op k c=(b.tick,51):=by simp[By.op,L.out,g]
      refine⟨by rw[d];rfl,?_,a.out.1.2.any,λv _ h=>(by rw[g]at h;cases h),λ_=>a.out.1.2⟩;rw[d];exact⟨_,_,_,_,_,_,_,a.out.1.1⟩
     refine(eD a.out.1.1 k m g).mono ?_;rintro e w' ⟨rfl,rfl⟩;go_wp2;go_ret;exact n
    |some v=>
     have i:=ad g;refine(fF a.out.1.1 k m v g).mono ?_;rintro e w' ⟨rfl,rfl⟩;go_wp2_with fail;refine(jI _ _ _ v q (a.out.1.1.dev k v m i)).mono ?_;rintro e w3 ⟨rfl,a4⟩;have I:=ad a4;obtain⟨A3,g1,g2,g3⟩:=I.out;have G1:=ad g1;have G2:=ad g2;have G3:=ad g3;go_wp2_with fail;refine(O _ _ A3 v w3 i G1 (a.out.1.2.tr ((a.out.1.1.sx m i I).choose_spec.2))).mono ?_;rintro e w4 ⟨rfl,P,V⟩;have n:QX (qn Q B b k c X w (.returned (.int .u16 ((c v.use).2:Nat))) w4):=by
      have d:b.op k c=(b.tick.put k (c v.use).1,(c v.use).2):=by simp[By.op,L.out,i.out]
      obtain⟨a5,g5,g6⟩:=a.out.1.1.wT (Q:=Q) m i (λx o Z Y=>by have y:=Z_ Y;rw[a.out.2]at y;have J:w.heap[x]?=some w.heap[x]:=RU y;have h9:=a3.out x _ Z J;have z:=a.out.1.2.hp J h9;rw[Y]at z;cases z;exact h9) (lx.after G2 G3 P);refine⟨by rw[d],?_,a.out.1.2.any.tr g6,λb3 _ h=>(by rw[i.out]at h;cases h;exact V),λh=>h.elim (λh=>by rw[L.out]at h;cases h) λh=>by rw[i.out]at h;cases h⟩;rw[d];exact⟨_,_,_,_,_,_,_,g5⟩
     go_wp2;go_ret;exact n
   |some t=>
    obtain⟨u,rfl⟩:∃u,t=u+1:=⟨t-1,by have:t≠0:=λe=>F (by rw[j,e]);omega⟩;rw[j]at C;have b4:QG.wrap (((u+1:Nat):Int)-1)=(u:Nat):=by have:=R _ j;go_arith
    have b5:(0:Int)<((u+1:Nat):Int):=aa;have a6:(((u+1:Nat):Int)==0)=false:=aS;simp only[eK]at C;obtain⟨U,b6⟩:=ah (u+1);rw[b6]at C b4 b5 a6;have l:=ad j;have L:=ad G;have a3:=ad a9;have O:=ad N;go_enter func79,ntmps79;go_wp2_with(first|(go_at_call 140;refine a0.mono ?_;rintro e w' ⟨rfl,rfl⟩)|(go_at_call 80;refine(oS _ _ _).mono ?_;rintro e w' ⟨rfl,rfl⟩));obtain⟨q,s⟩:=ah ((w.setCell (ag B 2) (ae u)).setCell (ag B 4) (ae (WW (wc+1))));rw[s];have a:QX ((dU q B S M b0 b1 r (WW (wc+1)) f b.tick/\Fr TB aG w q)/\q.heap.size=w.heap.size):=by rw[<-s];refine⟨H.mz (dk:=b.bz) (tr:=b.tick.aW) (((Out.refl (λk=>k=B) w).setCell (p:=ag B 2) (λ_=>rfl) _).setCell (p:=ag B 4) (λ_=>rfl) _) (by have:=heap_setCell_same _ B 4 _ 100 (ae (WW (wc+1))) (heap_setCell_same w B 2 _ 100 (ae u) H.aM);simp only[By.tick,l.out,QY,VS,eK]at this|-;exact this) ?_,by simp only[RT]⟩;intro t2 E;have h7:=H.low;simp only[By.tick,l.out,QY,VS,SI]at E;have:=h7 _ l;omega
    cases g:b.dv k with
    |none=>
     have n:QX (qn Q B b k c X w (.returned (aH 51)) q):=by
      have d:b.op k c=(b.tick,51):=by simp[By.op,L.out,g]
      refine⟨by rw[d];rfl,?_,a.out.1.2.any,λv _ h=>(by rw[g]at h;cases h),λ_=>a.out.1.2⟩;rw[d];exact⟨_,_,_,_,_,_,_,a.out.1.1⟩
     refine(eD a.out.1.1 k m g).mono ?_;rintro e w' ⟨rfl,rfl⟩;go_wp2;go_ret;exact n
    |some v=>
     have i:=ad g;refine(fF a.out.1.1 k m v g).mono ?_;rintro e w' ⟨rfl,rfl⟩;go_wp2_with fail;refine(jI _ _ _ v q (a.out.1.1.dev k v m i)).mono ?_;rintro e w3 ⟨rfl,a4⟩;have I:=ad a4;obtain⟨A3,g1,g2,g3⟩:=I.out;have G1:=ad g1;have G2:=ad g2;have G3:=ad g3;go_wp2_with fail;refine(O _ _ A3 v w3 i G1 (a.out.1.2.tr ((a.out.1.1.sx m i I).choose_spec.2))).mono ?_;rintro e w4 ⟨rfl,P,V⟩;have n:QX (qn Q B b k c X w (.returned (.int .u16 ((c v.use).2:Nat))) w4):=by
      have d:b.op k c=(b.tick.put k (c v.use).1,(c v.use).2):=by simp[By.op,L.out,i.out]
      obtain⟨a5,g5,g6⟩:=a.out.1.1.wT (Q:=Q) m i (λx o Z Y=>by have y:=Z_ Y;rw[a.out.2]at y;have J:w.heap[x]?=some w.heap[x]:=RU y;have h9:=a3.out x _ Z J;have z:=a.out.1.2.hp J h9;rw[Y]at z;cases z;exact h9) (lx.after G2 G3 P);refine⟨by rw[d],?_,a.out.1.2.any.tr g6,λb3 _ h=>(by rw[i.out]at h;cases h;exact V),λh=>h.elim (λh=>by rw[L.out]at h;cases h) λh=>by rw[i.out]at h;cases h⟩;rw[d];exact⟨_,_,_,_,_,_,_,g5⟩
     go_wp2;go_ret;exact n
theorem Lb[Lo](Q:Nat->Prop)(B k:Nat)(b:By)(c:Dv->Dv × Nat)(X:Dv->QA->Prop)(w:QA)(h:aC w B b)(m:k<b.N)(a7:∀x o,Q x->w.heap[x]?=some o->TB.contains (ty o)=false)(N:∀(D K:Nat) (A:DA) (v:Dv) W,b.dv k=some v->cS W D K A v.use->Fr TB aG w W->aF 90 #[ar D] W λe w'=>aL e (.int .u16 ((c v.use).2:Nat))/\lx Q D K A (c v.use).1 W w'/\X v.use w'):
  aF 79 #[ar B,ae k,.func (.func 89) #[] #[],.func (.func 90) #[] #[]] w (qn Q B b k c X w):=by
 obtain⟨S,M,a8,a9,r,wc,f,h⟩:=h;have a0:=ad (oR h k m);have H:=ad h;have R:=h.low;obtain⟨C,f1,z1⟩:=cr h.aM;by_cases F:b.aW=some 0
 .have d:b.op k c=(b.off,50):=by simp[By.op,By.out,F]
  have e2:b.off={b with bz:=true,aW:=none}:=by simp[By.off,F]
  have G:b.out=true:=by simp[By.out,F]
  have a2:=heap_setCell_same _ B 2 _ 100 (ae (-1)) (heap_setCell_same w B 1 _ 100 ec h.aM);have j:=h.mz (w':=(w.setCell (ag B 1) ec).setCell (ag B 2) (ae (-1))) (dk:=true) (tr:=none) (((Out.refl (λk=>k=B) w).setCell (p:=ag B 1) (λ_=>rfl) _).setCell (p:=ag B 2) (λ_=>rfl) _) a2 (λt j=>by cases j);have n:QX (qn Q B b k c X w (.returned (aH 50)) ((w.setCell (ag B 1) ec).setCell (ag B 2) (ae (-1)))):=by refine⟨by rw[d];rfl,?_,j.2.any,λv g=>(by rw[G]at g;cases g),λ_=>j.2⟩;rw[d];show aC _ B b.off;rw[e2];exact⟨_,_,_,_,_,_,_,j.1⟩
  rw[F]at C;go_enter func79,ntmps79;go_wp2_with(first|(go_at_call 140;refine a0.mono ?_;rintro e w' ⟨rfl,rfl⟩));go_ret;exact n
 .have t0:((eK b.aW)==0)=false:=by
   cases j:b.aW with
   |none=>rfl
   |some t=>have:t≠0:=λe=>F (by rw[j,e]);simp[eK];omega
  cases a1:b.bz with
  |true=>
   have G:b.out=true:=by simp[By.out,a1]
   have d:b.op k c=(b.off,50):=by simp[By.op,G]
   have e2:b.off=b:=by simp[By.off,F]
   have n:QX (qn Q B b k c X w (.returned (aH 50)) w):=by refine⟨by rw[d];rfl,?_,Fr.refl _ _ _,λv g=>(by rw[G]at g;cases g),λ_=>Fr.refl _ _ _⟩;rw[d];show aC _ B b.off;rw[e2];exact⟨_,_,_,_,_,_,_,h⟩
   rw[a1]at C;obtain⟨T,b0⟩:=ah (eK b.aW);rw[b0]at C t0;go_enter func79,ntmps79;go_wp2_with(first|(go_at_call 140;refine a0.mono ?_;rintro e w' ⟨rfl,rfl⟩));go_ret;exact n
  |false=>
   have G:b.out=false:=by simp[By.out,a1,F]
   rw[a1]at C;cases j:b.aW with
   |none=>
    rw[j]at C;have l:=ad j;have L:=ad G;have a3:=ad a7;have O:=ad N;simp only[eK]at C;go_enter func79,ntmps79;go_wp2_with(first|(go_at_call 140;refine a0.mono ?_;rintro e w' ⟨rfl,rfl⟩)|(go_at_call 89;refine(nm _ _ _).mono ?_;rintro e w' ⟨rfl,rfl⟩));obtain⟨q,s⟩:=ah (w.setCell (ag B 5) (ae (WW (f+1))));rw[s];have a:QX ((dU q B S M a8 a9 r wc (WW (f+1)) b.tick/\Fr TB aG w q)/\q.heap.size=w.heap.size):=by rw[<-s];refine⟨H.mz (dk:=b.bz) (tr:=b.tick.aW) ((Out.refl (λk=>k=B) w).setCell (p:=ag B 5) (λ_=>rfl) _) (by have:=heap_setCell_same w B 5 _ 100 (ae (WW (f+1))) H.aM;simp only[By.tick,l.out,VE]at this|-;exact this) ?_,by simp only[RT]⟩;intro t2 E;have h7:=H.low;simp only[By.tick,l.out,VE]at E;cases E
    cases g:b.dv k with
    |none=>
     have n:QX (qn Q B b k c X w (.returned (aH 51)) q):=by
      have d:b.op k c=(b.tick,51):=by simp[By.op,L.out,g]
      refine⟨by rw[d];rfl,?_,a.out.1.2.any,λv _ h=>(by rw[g]at h;cases h),λ_=>a.out.1.2⟩;rw[d];exact⟨_,_,_,_,_,_,_,a.out.1.1⟩
     refine(eD a.out.1.1 k m g).mono ?_;rintro e w' ⟨rfl,rfl⟩;go_wp2;go_ret;exact n
    |some v=>
     have i:=ad g;refine(fF a.out.1.1 k m v g).mono ?_;rintro e w' ⟨rfl,rfl⟩;go_wp2_with fail;refine(jI _ _ _ v q (a.out.1.1.dev k v m i)).mono ?_;rintro e w3 ⟨rfl,a4⟩;have I:=ad a4;obtain⟨A3,g1,g2,g3⟩:=I.out;have G1:=ad g1;have G2:=ad g2;have G3:=ad g3;go_wp2_with fail;refine(O _ _ A3 v w3 i G1 (a.out.1.2.tr ((a.out.1.1.sx m i I).choose_spec.2))).mono ?_;rintro e w4 ⟨rfl,P,V⟩;have n:QX (qn Q B b k c X w (.returned (.int .u16 ((c v.use).2:Nat))) w4):=by
      have d:b.op k c=(b.tick.put k (c v.use).1,(c v.use).2):=by simp[By.op,L.out,i.out]
      obtain⟨a5,g5,g6⟩:=a.out.1.1.wT (Q:=Q) m i (λx o Z Y=>by have y:=Z_ Y;rw[a.out.2]at y;have J:w.heap[x]?=some w.heap[x]:=RU y;have h9:=a3.out x _ Z J;have z:=a.out.1.2.hp J h9;rw[Y]at z;cases z;exact h9) (lx.after G2 G3 P);refine⟨by rw[d],?_,a.out.1.2.any.tr g6,λb1 _ h=>(by rw[i.out]at h;cases h;exact V),λh=>h.elim (λh=>by rw[L.out]at h;cases h) λh=>by rw[i.out]at h;cases h⟩;rw[d];exact⟨_,_,_,_,_,_,_,g5⟩
     go_wp2;go_ret;exact n
   |some t=>
    obtain⟨u,rfl⟩:∃u,t=u+1:=⟨t-1,by have:t≠0:=λe=>F (by rw[j,e]);omega⟩;rw[j]at C;have b2:QG.wrap (((u+1:Nat):Int)-1)=(u:Nat):=by have:=R _ j;go_arith
    have b3:(0:Int)<((u+1:Nat):Int):=aa;have a6:(((u+1:Nat):Int)==0)=false:=aS;simp only[eK]at C;obtain⟨U,b4⟩:=ah (u+1);rw[b4]at C b2 b3 a6;have l:=ad j;have L:=ad G;have a3:=ad a7;have O:=ad N;go_enter func79,ntmps79;go_wp2_with(first|(go_at_call 140;refine a0.mono ?_;rintro e w' ⟨rfl,rfl⟩)|(go_at_call 89;refine(nm _ _ _).mono ?_;rintro e w' ⟨rfl,rfl⟩));obtain⟨q,s⟩:=ah ((w.setCell (ag B 2) (ae u)).setCell (ag B 5) (ae (WW (f+1))));rw[s];have a:QX ((dU q B S M a8 a9 r wc (WW (f+1)) b.tick/\Fr TB aG w q)/\q.heap.size=w.heap.size):=by rw[<-s];refine⟨H.mz (dk:=b.bz) (tr:=b.tick.aW) (((Out.refl (λk=>k=B) w).setCell (p:=ag B 2) (λ_=>rfl) _).setCell (p:=ag B 5) (λ_=>rfl) _) (by have:=heap_setCell_same _ B 5 _ 100 (ae (WW (f+1))) (heap_setCell_same w B 2 _ 100 (ae u) H.aM);simp only[By.tick,l.out,QY,VS,eK]at this|-;exact this) ?_,by simp only[RT]⟩;intro t2 E;have h7:=H.low;simp only[By.tick,l.out,QY,VS,SI]at E;have:=h7 _ l;omega
    cases g:b.dv k with
    |none=>
     have n:QX (qn Q B b k c X w (.returned (aH 51)) q):=by
      have d:b.op k c=(b.tick,51):=by simp[By.op,L.out,g]
      refine⟨by rw[d];rfl,?_,a.out.1.2.any,λv _ h=>(by rw[g]at h;cases h),λ_=>a.out.1.2⟩;rw[d];exact⟨_,_,_,_,_,_,_,a.out.1.1⟩
     refine(eD a.out.1.1 k m g).mono ?_;rintro e w' ⟨rfl,rfl⟩;go_wp2;go_ret;exact n
    |some v=>
     have i:=ad g;refine(fF a.out.1.1 k m v g).mono ?_;rintro e w' ⟨rfl,rfl⟩;go_wp2_with fail;refine(jI _ _ _ v q (a.out.1.1.dev k v m i)).mono ?_;rintro e w3 ⟨rfl,a4⟩;have I:=ad a4;obtain⟨A3,g1,g2,g3⟩:=I.out;have G1:=ad g1;have G2:=ad g2;have G3:=ad g3;go_wp2_with fail;refine(O _ _ A3 v w3 i G1 (a.out.1.2.tr ((a.out.1.1.sx m i I).choose_spec.2))).mono ?_;rintro e w4 ⟨rfl,P,V⟩;have n:QX (qn Q B b k c X w (.returned (.int .u16 ((c v.use).2:Nat))) w4):=by
      have d:b.op k c=(b.tick.put k (c v.use).1,(c v.use).2):=by simp[By.op,L.out,i.out]
      obtain⟨a5,g5,g6⟩:=a.out.1.1.wT (Q:=Q) m i (λx o Z Y=>by have y:=Z_ Y;rw[a.out.2]at y;have J:w.heap[x]?=some w.heap[x]:=RU y;have h9:=a3.out x _ Z J;have z:=a.out.1.2.hp J h9;rw[Y]at z;cases z;exact h9) (lx.after G2 G3 P);refine⟨by rw[d],?_,a.out.1.2.any.tr g6,λb1 _ h=>(by rw[i.out]at h;cases h;exact V),λh=>h.elim (λh=>by rw[L.out]at h;cases h) λh=>by rw[i.out]at h;cases h⟩;rw[d];exact⟨_,_,_,_,_,_,_,g5⟩
     go_wp2;go_ret;exact n
theorem Dv.CA(v:Dv):v.use.d.n=v.d.n:=by
 unfold Dv.use;split
 .split<;>rfl
 .rfl
theorem Dv.CB(v:Dv):v.use.d.cn<=v.d.cn:=by
 unfold Dv.use;split
 .split
  .exact QO _
  .exact QE _
 .exact QE _
def OQ[Lo](B:Nat)(b:By)(k d:Nat)(w:M)(e:RV)(f:M):Prop:=
 ∃a n c,aL e (.tuple #[.slice a n c,.int .u16 ((b.op k bS).2:Nat)])/\aC f B (b.op k bS).1/\Fr TB aG w f/\((b.op k bS).2=0->∃v,b.dv k=some v/\v.use.d.failed=false/\cA f (.slice a n c) 128 (v.use.d.view d)/\n<=c)
def RX(e b:Nat)(v:Dv)(d:M):Prop:=∃a n c,d.heap[e]?=some (N #[.slice a n c] 41)/\(v.d.failed=false->cA d (.slice a n c) 128 (v.d.view b)/\n<=c)
theorem mA[Lo](B k d:Nat)(b:By)(w:QA)(h:aC w B b)(a2:k<b.N)(a3:∀v,b.dv k=some v->d<v.d.n):aF 185 #[ar B,ae k,ae d] w (OQ B b k d w):=by
 obtain⟨W,z⟩:=ah ((w.alloc (ao #[ae d] 3)).alloc (ao #[aO] 41));have N:aq w W:=by rw[<-z];exact aK (aK aj _) _
 have a9:W.heap.size=w.heap.size+2:=by rw[<-z];simp
 have h1:W.heap[w.heap.size]?=some (ao #[ae d] 3):=by rw[<-z];exact e_ _ _ _
 have F:W.heap[w.heap.size+1]?=some (ao #[aO] 41):=by rw[<-z];exact eZ _ _ _
 have G:=K' (λx=>x=w.heap.size+1) B k b bS (RX (w.heap.size+1) d) w.heap.size (w.heap.size+1) W (h.below N) a2 (λx o i j=>by subst i;rw[F]at j;cases j;rfl) (by
  intro D K A v M q r R;have I:=R.hp h1 rfl;have C:=R.hp F rfl;have L:d<v.use.d.n:=by rw[Dv.CA];exact a3 v q
  cases f:v.use.d.failed with
  |true=>
   have O:bS v.use=(v.use,2):=by simp[bS,f]
   rw[O];refine(ud D K _ _ A v.use d M r f I C).mono ?_;rintro e a4 ⟨rfl,l,g⟩;exact⟨rfl,⟨A,r.out g (λx i e=>by subst e;obtain⟨o,m,t⟩:=r.ty i;rw[C]at m;cases m;cases t),g.mono λ_ _ e=>.inr e,λ_ h=>.inl h⟩,_,_,_,l,λh=>by rw[f]at h;cases h⟩
  |false=>
   have O:bS v.use=(v.use,0):=by simp[bS,f]
   rw[O];refine(FI D K _ _ A v.use d M r f L I C).mono ?_;rintro e a4 ⟨u,rfl,l,Y,g,q4⟩;obtain⟨b0,b1,rfl⟩:=Y.form;exact⟨rfl,⟨A,r.out g (λx i e=>by subst e;obtain⟨o,m,t⟩:=r.ty i;rw[C]at m;cases m;cases t),g.mono λ_ _ e=>.inr e,λ_ h=>.inl h⟩,_,_,_,l,λ_=>⟨Y,q4⟩⟩)
 have P:=ad G;have a5:=ad N;have J:=ad F;have Q:Lo.lo<=w.heap.size+1:=by have:=h.lo;have:=h.lt;omega
 go_enter func185,ntmps185;go_wp2_with fail;refine P.mono ?_;rintro e s ⟨rfl,S,T,i,a0⟩;have U:∃a n c,s.heap[w.heap.size+1]?=some (ao #[.slice a n c] 41)/\((b.op k bS).2=0->∃v,b.dv k=some v/\v.use.d.failed=false/\cA s (.slice a n c) 128 (v.use.d.view d)/\n<=c):=by
  cases j:b.out with
  |true=>exact⟨_,_,_,(a0 (.inl j)).hp J rfl,λh=>by simp[By.op,j]at h⟩
  |false=>
   cases q:b.dv k with
   |none=>exact⟨_,_,_,(a0 (.inr q)).hp J rfl,λh=>by simp[By.op,j,q]at h⟩
   |some v=>
    obtain⟨a,n,c,l,g⟩:=i v j q;refine⟨a,n,c,l,λh=>⟨v,rfl,?_⟩⟩;have f:v.use.d.failed=false:=by
     cases a6:v.use.d.failed with
     |false=>rfl
     |true=>simp[By.op,j,q,bS,a6]at h
    exact⟨f,g f⟩
 obtain⟨a,n,c,l,g⟩:=U;obtain⟨E,a1⟩:=ah ((b.op k bS).2);obtain⟨k1,f1,z1⟩:=cr l;have V:QX (Fr TB aG w s):=(Fr.af a5).trans (T.mono (λ_ h=>h) λ_ _ e=>e) λx i e=>aa;have X:=ad S;have Z:=ad g;have H:=ad l;have a7:=ad a1;rw[a1];go_wp2;refine QT (v:=.tuple #[.slice a n c,aH E]) (by simp[RP,results185,go_sem,k1]) rfl ?_;have a8:Fr TB aG w (s.setCell ⟨w.heap.size+1,0,none⟩ (.slice a n c)):=V.new (p:=⟨w.heap.size+1,0,none⟩) (by show w.heap.size<=w.heap.size+1;omega) _;have y:Fr [41] aG s (s.setCell ⟨w.heap.size+1,0,none⟩ (.slice a n c)):=(Fr.refl _ _ _).set (p:=⟨w.heap.size+1,0,none⟩) H rfl Q _;refine⟨a,n,c,by rw[a7.out],X.fn y rfl,a8,λh0=>?_⟩;obtain⟨v,m,t,r3,r4⟩:=Z.out h0;exact⟨v,m,t,r3.fr y rfl,r4⟩
def CC[Lo](B:Nat)(b:By)(k:Nat)(a:Dv->Dv × Nat)(w:M)(e:RV)(c:M):Prop:=
 aL e (.int .u16 ((b.op k a).2:Nat))/\aC c B (b.op k a).1/\Fr TB aG w c
theorem cA.fn[Lo](h:cA w v n f)(a:Fr TB aG w W):cA W v n f:=h.fr a rfl
theorem gF[Lo](B k a:Nat)(u:QC)(f:aN)(b:By)(w:M)(h:aC w B b)(S:k<b.N)(E:cA w u 128 f)(F:∀v,b.dv k=some v->a<v.d.n/\v.d.cn<1000000000000):aF 52 #[ar B,Y k,Y a,u] w (CC B b k (aR a f) w):=by
 obtain⟨G,L,rfl⟩:=E.form;obtain⟨W,g⟩:=ah ((w.alloc (ao #[Y a] 3)).alloc (ao #[.slice G 128 L] 41));have i:aq w W:=by rw[<-g];exact aK (aK aj _) _
 have T:aX W w.heap.size (ao #[Y a] 3):=by rw[<-g];exact e_ _ _ _
 have U:aX W (w.heap.size+1) (ao #[.slice G 128 L] 41):=by rw[<-g];exact eZ _ _ _
 have j:=E.below i;have l:=La aG B k b (aR a f) (λ_ _=>True) w.heap.size (w.heap.size+1) W (h.below i) S (λx o V _=>V.elim) (by
  intro D K A v m O n p;have P:=p.hp T rfl;have Q:=p.hp U rfl;have r:a<v.use.d.n:=by rw[Dv.CA];exact(F v O).1
  have s:v.use.d.cn<1000000000000:=Nat.lt_of_le_of_lt (Dv.CB v) (F v O).2;cases c:v.use.d.failed with
  |true=>
   have t:aR a f v.use=(v.use,2):=by simp[aR,c]
   rw[t];refine(ue D K _ _ A v.use a _ _ _ m n c P Q).mono ?_;rintro e X ⟨rfl,q,rfl⟩;exact⟨rfl,⟨A,n.out ((Out.refl aG m).drewN q) λ_ _ e=>e,(Out.refl _ _).drewN q,λ_ h=>.inl h⟩,trivial⟩
  |false=>
   have t:aR a f v.use=({v.use with d:=v.use.d.wr a f},0):=by simp[aR,c]
   rw[t];refine(FJ D K _ _ A v.use a _ f m n c r s (j.fn p).wj P Q).mono ?_;rintro e X ⟨rfl,Z⟩;exact⟨rfl,Z.q,trivial⟩)
 have y:=I l;have H:=I i;go_enter func52,ntmps52;go_wp2_with(first|(go_at_call 79;refine y.mono ?_;rintro e N ⟨rfl,z,C,-,-⟩));go_ret;exact⟨rfl,z,(Fr.af H).tr C⟩
theorem ik[Lo](B k:Nat)(b:By)(w:M)(h:aC w B b)(n:k<b.N):aF 56 #[ar B,Y k] w (CC B b k be w):=by
 have c:=Lb aG B k b be (λ_ _=>True) w h n (λx o p _=>p.elim) (by
  intro D K A v m s f t;cases a:v.use.d.failed with
  |true=>
   have g:be v.use=(v.use,2):=by simp[be,a]
   rw[g];refine(uf D K A v.use m f a).mono ?_;rintro e q ⟨rfl,rfl⟩;exact⟨rfl,(jX.refl f).q,trivial⟩
  |false=>
   have g:be v.use=({v.use with d:=v.use.d.settled λ_=>true},0):=by simp[be,a]
   rw[g];refine(FK D K A v.use m f a).mono ?_;rintro e q ⟨rfl,r⟩;exact⟨rfl,r.q,trivial⟩)
 have i:=I c;go_enter func56,ntmps56;go_wp2_with(first|(go_at_call 79;refine i.mono ?_;rintro e u ⟨rfl,j,l,-,-⟩));go_ret;exact⟨rfl,j,l⟩
def CD[Lo](B:Nat)(b:By)(c:Nat)(w:M)(e:RV)(a:M):Prop:=aL e (aH c)/\aC a B b/\Fr TB aG w a
theorem CE[Lo](B k:Nat)(b:By)(v:Dv)(w:M)(h:aC w B b)(g:k<b.N)(i:b.dv k=some v):aF 62 #[ar B,Y k] w (CD B (b.put k {v with d:=v.d.dead}) 0 w):=by
 obtain⟨S,o,n,y,r,wc,f,h⟩:=h;have p:=I (fF h k g v i);have j:=h.dev k v g i;obtain⟨z,f1,A⟩:=cr j.aM;have q:=I (uc _ _ _ w j.tq);have c:∀a,kG (n k).K (n k).A v.d.dead w a->aC a B (b.put k {v with d:=v.d.dead})/\Fr TB aG w a:=λa l=>by obtain⟨s,t,u⟩:=h.sx g i (j.Ac l);exact⟨⟨_,_,_,_,_,_,_,t⟩,u⟩
 have m:=I c;go_enter func62,ntmps62;go_wp2_with(first|(go_at_call 115;refine p.mono ?_;rintro e a ⟨rfl,rfl⟩)|(go_at_call 116;refine q.mono ?_;rintro e a ⟨rfl,l⟩;have x:=I l));go_ret;exact⟨rfl,m _ x⟩
theorem wU[Lo](B k:Nat)(b:By)(w:M)(h:aC w B b)(a:k<b.N)(c:b.dv k=none):aF 62 #[ar B,Y k] w (CD B b 51 w):=by have d:=I h;obtain⟨S,g,j,l,r,wc,f,h⟩:=h;have i:=I (eD h k a c);go_enter func62,ntmps62;go_wp2_with(first|(go_at_call 115;refine i.mono ?_;rintro e m ⟨rfl,rfl⟩));go_ret;exact⟨rfl,d,Fr.refl _ _ _⟩
theorem CF[Lo](B n:Nat)(b:By)(w:M)(h:aC w B b)(d:b.bz=false)(e:n<=1000000):aF 69 #[ar B,Y n] w (CD B {b with aW:=some n} 0 w):=by obtain⟨S,g,j,l,r,wc,f,h⟩:=h;obtain⟨i,f1,m⟩:=cr h.aM;have a:=h.mz (w':=w.setCell (R B 2) (Y n)) (dk:=b.bz) (tr:=some n) ((Out.refl (λk=>k=B) w).setCell (p:=R B 2) (λ_=>rfl) _) (heap_setCell_same w B 2 _ 100 (Y n) h.aM) (λt a=>by cases a;exact e);have c:QX (CD B {b with aW:=some n} 0 w (.returned (aH 0)) (w.setCell (R B 2) (Y n))):=⟨rfl,⟨_,_,_,_,_,_,_,a.1⟩,a.2⟩;have d1:decide ((n:Int)<0)=false:=aJ;rw[d]at i;go_enter func69,ntmps69;go_wp2;go_ret;exact c
def Nc(w:M)(e:RV)(a:M):Prop:=∃r wc f:Int,aL e (.agg #[Y r,Y wc,Y f])/\aq w a
theorem uh[Lo](B:Nat)(b:By)(w:M)(h:aC w B b):aF 43 #[ar B] w (Nc w):=by obtain⟨S,a,c,d,r,wc,f,h⟩:=h;obtain⟨e,f1,g⟩:=cr h.aM;go_enter func43,ntmps43;go_wp2;refine QT (v:=.agg #[Y r,Y wc,Y f]) (by simp[RP,results43,go_sem]) rfl ⟨r,wc,f,rfl,?_⟩;exact aK aj _
theorem dU.swap[Lo]{z:Nat->wQ}{G:Nat->Option SR}{r wc f:Int}(h:dU w n m C z G r wc f b){k D K:Nat}{A:DA}(Q:k<b.N)(L:aq w W)(S:cS W D K A U)(t:∀x,VZ D K A x->w.heap.size<=x):
  (∃B,dU (W.setCell ⟨m,k*3,none⟩ (ar D)) n m C B G r wc f (b.put k U))/\Fr TB aG w (W.setCell ⟨m,k*3,none⟩ (ar D)):=by
 have E:=(L.block m (Z_ h.dC)).trans h.dC;have O:Out (λx=>x=m) W (W.setCell ⟨m,k*3,none⟩ (ar D)):=(Out.refl (λx=>x=m) W).setCell (p:=⟨m,k*3,none⟩) (λ_=>rfl) _;have wg:Out (λx=>x=m) w (W.setCell ⟨m,k*3,none⟩ (ar D)):=(Out.af L).tr O;have T:=Z_ h.dC;refine⟨⟨λj=>if j=k then⟨D,K,A⟩else z j,wg.heap h.aM h.Nb,?_,λj u d c=>?_,λi j V d l F v x a g=>?_,h.low,h.top,h.lo,λj u d c x a=>?_⟩,wg.Cz λx _ e=>by subst e;exact⟨⟨_,h.dC,rfl⟩,h.lo.2⟩⟩
 .rw [heap_setCell_same W m (k*3) _ 108 _ E,oQ _ _ _ _ _ Q];congr 2;apply ij
  .intro j d;unfold qm By.put;by_cases e:j=k
   .subst e;simp
   .simp [e]
  .intros;rfl
 .by_cases e:j=k
  .subst e;simp only[By.put,if_true,SI]at c|-;subst c;exact S.out O λx a e=>by have:=t x a;omega
  .simp only[By.put,al e]at c|-;exact(h.dev j u d c).out wg λx a e=>(h.MF d c a).2 e
 .have o:i<b.N:=V;have q:j<b.N:=d;have s:∀i x,(z i).Z x->(b.dv i).isSome=true->i<b.N->x<w.heap.size:=λi x a X d=>by obtain⟨u,c⟩:=UJ.1 X;exact(h.dev i u d c).lt a
  by_cases P:i=k
  .subst P;have y:¬j=i:=λe=>l e.symm;simp only[By.put,al y]at v g;simp only[if_true]at a;have:=t x a;have:=s j x g v q;omega
  .simp only[By.put,al P]at F a;by_cases y:j=k
   .subst y;simp only[if_true]at g;have:=t x g;have:=s i x a F o;omega
   .simp only[By.put,al y]at v g;exact h.apart i j o q l F v x a g
 .by_cases e:j=k
  .subst e;simp only[if_true,wQ.Z]at a;have:=t x a;have:=Z_ h.aM;have:=h.lo.1;omega
  .simp only[By.put,al e]at c;simp only[al e]at a;exact h.HX j u d c x a
theorem dU.pull[Lo]{q:Nat->wQ}{s:Nat->Option SR}{r wc f:Int}(h:dU w n m C q s r wc f b)(t:k<b.N)(p:Option SR):
  dU ((w.setCell ⟨m,k*3,none⟩ (.pointer none)).setCell ⟨m,k*3+1,none⟩ (.pointer p)) n m C q (λj=>if j=k then p else s j) r wc f {b with dv:=λj=>if j=k then none else b.dv j}/\Fr TB aG w ((w.setCell ⟨m,k*3,none⟩ (.pointer none)).setCell ⟨m,k*3+1,none⟩ (.pointer p)):=by
 have g:Out (λx=>x=m) w ((w.setCell ⟨m,k*3,none⟩ (.pointer none)).setCell ⟨m,k*3+1,none⟩ (.pointer p)):=((Out.refl (λx=>x=m) w).setCell (p:=⟨m,k*3,none⟩) (λ_=>rfl) _).setCell (p:=⟨m,k*3+1,none⟩) (λ_=>rfl) _;have a:∀j u,(if j=k then none else b.dv j)=some u->j≠k/\b.dv j=some u:=λj u e=>by
  split at e
  .cases e
  .exact ⟨by assumption,e⟩
 refine⟨⟨g.heap h.aM h.Nb,?_,λj u d c=>?_,λi j v d l y z=>?_,h.low,h.top,h.lo,λj u d c=>h.HX j u d (a j u c).2⟩,g.Cz λx _ e=>by subst e;exact⟨⟨_,h.dC,rfl⟩,h.lo.2⟩⟩
 .rw [heap_setCell_same _ m (k*3+1) _ 108 _ (heap_setCell_same w m (k*3) _ 108 _ h.dC),oQ _ _ _ _ _ t,ug _ _ _ _ _ t];congr 2;apply ij
  .intro j d;unfold qm;by_cases e:j=k
   .simp [e]
   .simp [e]
  .intros;rfl
 .obtain ⟨-,c⟩:=a j u c;exact(h.dev j u d c).out g λx A e=>(h.MF d c A).2 e
 .obtain ⟨u,c⟩:=UJ.1 y;obtain⟨B,o⟩:=UJ.1 z;exact h.apart i j v d l (by rw[(a i u c).2];rfl) (by rw[(a j B o).2];rfl)
def By.pull(b:By)(k:Nat):By:={b with dv:=λj=>if j=k then none else b.dv j}
theorem CG[Lo](B k:Nat)(b:By)(v:Dv)(w:M)(h:aC w B b)(c:k<b.N)(n:b.dv k=some v):aF 73 #[ar B,Y k] w (CD B (b.pull k) 0 w):=by
 obtain⟨S,s,t,A,r,wc,f,h⟩:=h;have C:=I (fF h k c v n);have o:=h.dev k v c n;obtain⟨Q,f1,T⟩:=cr o.aM;have D:=I (my _ _ _ none 0 0 (λ_=>false) w o.tq (.inl rfl));have a:∀g,kG (t k).K (t k).A (v.d.settled (gE 0 λ_=>false)) w g->∃i,dU g B S s i A r wc f (b.put k {v with d:=v.d.settled (gE 0 λ_=>false)})/\Fr TB aG w g:=λg p=>h.sx c n (o.Ac p);have l:=I a;clear h o n a;go_enter func73,ntmps73;go_wp2_with(first|(go_at_call 115;refine C.mono ?_;rintro e g ⟨rfl,rfl⟩)|(go_at_call 126;refine D.mono ?_;rintro e U ⟨rfl,p⟩;obtain⟨i,q,m⟩:=l.out _ p;have E:=I (oR q k c);have F:=I q;have u:=I m;obtain⟨x,y,V⟩:=cr q.dC;have G:=(x (k*3)).trans (jJ _ _ _ (show k<(b.put k _).N from c));have K:=(x (k*3+1)).trans (Ad _ _ _ (show k<(b.put k _).N from c));have L:=y (k*3);have O:=y (k*3+1);clear p q m x y)|(go_at_call 140;refine E.mono ?_;rintro e g ⟨rfl,rfl⟩));go_ret;obtain⟨z,P⟩:=F.pull c (some ⟨(t k).D,0,none⟩);have e:(b.pull k)={(b.put k {v with d:=v.d.settled (gE 0 λ_=>false)})with dv:=λj=>if j=k then none else(b.put k {v with d:=v.d.settled (gE 0 λ_=>false)}).dv j}:=by
  unfold By.pull By.put;congr 1;funext j;by_cases e:j=k
  .simp [e]
  .simp [e]
 rw[<-e]at z;exact⟨rfl,⟨_,_,_,_,_,_,_,z⟩,u.tr P⟩
def Ints(w:M)(v:H)(n:Nat)(f:aN):Prop:=
 ∃a c,v=.slice a n c/\(n=0\/∃b o d e,a=some (R b o)/\w.heap[b]?=some (.cells d 3 e)/\∀k,k<n->d[o+k]?=some (Y (f k:Nat)))
theorem FL(n:Nat):TN #[.pointer none,.pointer none,.pointer none] (n*3)=cD n (λ_=>none) λ_=>none:=by
 apply Array.ext
 .simp [TN,cD];omega
 .intro i b c;simp only[TN,cD,Array.getElem_map,Array.getElem_range,QK,UQ];have a:i%3<3:=SC _ J;have:∀j,j<3->(#[Value.pointer none,.pointer none,.pointer none]:Array H)[j]! =.pointer none:=λj d=>by
   rcases j with _|_|_|j
   .rfl
   .rfl
   .rfl
   .omega
  rw[show(#[Value.pointer none,.pointer none,.pointer none]:Array H).size=3 from rfl,this _ a];split<;>simp
theorem Nd:(prog.info? 108).map (λi=>(i.zero,i.size,i.bytes))=some (some (.agg #[.pointer none,.pointer none,.pointer none]),3,24):=aE
theorem FM(w:M)(n:Nat)(h:n<=17):(SY 98 (Y (n:Int)) (Y (n:Int))).run prog w=.ok (a' w.heap.size n n) (w.alloc (N (cD n (λ_=>none) λ_=>none) 108)):=by obtain⟨d,e,a,b,c⟩:=SB Nd;have:=run_make (P:=prog) w 98 108 d (.agg #[.pointer none,.pointer none,.pointer none]) underlying98 e a .i64 .i64 n n J J (by rw[c];omega) J;rw[this,b];show YT _ (w.alloc (N (TN #[.pointer none,.pointer none,.pointer none] (n*3)) 108))=_;rw[FL];rfl
def By.part(n:Nat)(a:aN)(k:Nat):By:=⟨n,λj=>if j<k then some ⟨Dk.fresh (a j),false,0⟩else none,false,none⟩
theorem By.Ae(n:Nat)(a:aN)(k:Nat):(By.part n a k).put k ⟨Dk.fresh (a k),false,0⟩=By.part n a (k+1):=by
 unfold By.part By.put;congr 1;funext j;by_cases e:j=k
 .subst e;simp
 .by_cases h:j<k
  .simp [e,h,show j<k+1 by omega]
  .simp [e,h,show¬j<k+1 by omega]
def HY[Lo](n:Nat)(b:aN)(w:M)(e:RV)(a:M):Prop:=∃B,aL e (.tuple #[ar B,aH 0])/\aC a B (By.part n b n)/\aq w a
structure Lc[Lo](n:Nat)(sz:aN)(B S:Nat)(w:M)(k:Nat)(wr:M):Prop where
 ct:∃sa,dU wr B S n sa (fun _=>none) 0 0 0 (By.part n sz k)
 dA:aq w wr
theorem FN[Lo](v:QC)(n:Nat)(c:aN)(w:QA)(q:Ints w v n c)(r:Lo.lo<=w.heap.size)(T:1<=n)(s:n<=17)(W:∀k,k<n->1<=c k/\c k<=8192):aF 28 #[v] w (HY n c w):=by
 obtain⟨a,X,rfl,H⟩:=q;obtain⟨b,o,y,B,rfl,N,M⟩:∃b o y B,a=some (ag b o)/\w.heap[b]?=some (.cells y 3 B)/\∀k,k<n->y[o+k]?=some (ae (c k:Nat)):=H.resolve_left aa;have a6:=FM w n s;have d1:decide ((n:Int)<1)=false:=aS;have d2:decide (17<(n:Int))=false:=aS;have C:Lc n c (w.heap.size+1) w.heap.size w 0 ((w.alloc (ao (cD n (λ_=>none) λ_=>none) 108)).alloc (ao #[a' w.heap.size n n,.bool false,ae (-1),ae 0,ae 0,ae 0] 100)):=by
  refine⟨⟨λ_=>⟨0,0,⟨0,0,aO,0⟩⟩,eZ _ _ _,?_,λk v _ q=>by simp[By.part]at q,λk j _ _ _ h=>by simp[By.part]at h,λt R=>(by cases R),s,⟨Nat.le_succ_of_le r,r⟩,λk v _ q=>by simp[By.part]at q⟩,aK (aK aj _) _⟩;rw[e_];have:qm (By.part n c 0) (λ_=>⟨0,0,⟨0,0,aO,0⟩⟩)=λ_=>none:=by funext j;simp[qm,By.part]
  rw[this];rfl
 have D:=ad C;have u:=ad N;have I:=ad M;have Y:=ad W;go_enter func28,ntmps28;go_wp2;go_loopw [24] (λi wr=>∃k:Nat,i= ae k/\k<=n/\QX (Lc n c (w.heap.size+1) w.heap.size w k wr)) (λi _=>n-(intOf i).toNat)
 case atStart=>exact⟨0,rfl,QO _,D⟩
 case round=>
  obtain⟨k,rfl,a7,m⟩:=hrel;by_cases d:k<n
  .obtain ⟨J,f⟩:=m.ct;have a0:=ad f;have g:wr.cell? ⟨b,o+k,none⟩=some (ae (c k:Nat)):=by rw[QS wr b (o+k) y 3 B ((m.dA.block b (Z_ u.out)).trans u.out)];exact I k d
   obtain⟨s1,s2⟩:=Y.out k d;have U:=ad (FH (c k) wr s1 s2);have E:((c k:Nat):Int)≠0:=aa;obtain⟨q1,q2,q3⟩:=cr f.aM;obtain⟨r1,r2,F⟩:=cr f.dC;have G:=(r1 (k*3)).trans (jJ _ _ _ (show k<(By.part n c k).N from d));have L:=r2 (k*3);obtain⟨Z,V⟩:=ah (c k);have a1:=ad V;rw[V]at g E U;have a2:(k:Int)<(n:Int):=aa;go_wp2_with(first|(go_at_call 48;refine U.mono ?_;rintro e z ⟨K,A,rfl,T,h2,h3⟩;have H1:=ad T;have H2:=ad h2;have l:=ad h3;have a3:=(l.cell (p:=⟨w.heap.size,k*3,none⟩) F).trans G;have a4:=(l.frozen (p:=⟨w.heap.size,k*3,none⟩) F).trans L;obtain⟨p1,p2,p3⟩:=kp l (w.heap.size+1) q3;have O:w.heap.size<z.heap.size:=RL F l.size));have P:aq wr (z.alloc (ao #[ar K,.bool false,ae 0] 106)):=aK l _;have a5:cS (z.alloc (ao #[ar K,.bool false,ae 0] 106)) z.heap.size K A ⟨Dk.fresh Z,false,0⟩:=⟨QB _ _,H1.below (aK aj _),QO _⟩;obtain⟨⟨Q,S⟩,g2⟩:=a0.swap (show k<(By.part n c k).N from d) P a5 (λx f=>f.elim (λe=>by subst e;exact l.size) (H2 x));rw[World.setCell_alloc_past _ _ _ _ O]at S g2;rw[<-a1.out,By.Ae]at S;refine⟨⟨k+1,by go_num,d,⟨⟨Q,S⟩,?_⟩⟩,by simp[intOf];omega⟩;exact(m.dA.trans (l.mono m.dA.size)).setCell (p:=⟨w.heap.size,k*3,none⟩) (QE _) _|>λh=>aK h _
  .obtain rfl:k=n:=aa;go_wp2;go_ret2;obtain⟨J,f⟩:=m.ct;exact⟨_,rfl,⟨_,_,_,_,_,_,_,f⟩,m.dA⟩
def gG[Lo](w:M)(v:H)(L:Nat)(n:aN)(f:Nat->Nat->Bool):Prop:=
 Lo.lo<=w.heap.size/\∃a c,v=.slice a L c/\(L=0\/∃b o,a=some (R b o)/\b<Lo.lo/\∀j,j<L->∃e h,w.cell? ⟨b,o+j,none⟩=some (.slice e (n j) h)/\
  (n j=0\/∃d g,e=some (R d g)/\d<Lo.lo/\∀i,i<n j->w.cell? ⟨d,g+i,none⟩=some (.bool (f j i))))
theorem gG.fr[Lo]{n:aN}{f:Nat->Nat->Bool}(h:gG w v m n f)(d:Fr T aG w W):gG W v m n f:=by obtain⟨e,a,g,rfl,h⟩:=h;refine⟨QD e d.size,a,g,rfl,h.imp id ?_⟩;rintro⟨b,o,rfl,k,h⟩;refine⟨b,o,rfl,k,λj l=>?_⟩;obtain⟨p,q,r,h⟩:=h j l;refine⟨p,q,d.fS e k r,h.imp id ?_⟩;rintro⟨s,t,rfl,c,h⟩;exact⟨s,t,rfl,c,λi u=>d.fS e c (h i u)⟩
def cE(L:Nat)(n:aN)(f:Nat->Nat->Bool)(j i:Nat):Bool:=decide (j<L)&&gE (n j) (f j) i
def Dv.nn(kp:Nat->Bool)(v:Dv):Dv:={v with d:=v.d.settled kp}
def By.fG(b:By)(kp:Nat->Nat->Bool)(k:Nat):By:={b with dv:=λj=>if j<k then(b.dv j).map (Dv.nn (kp j))else b.dv j}
def By.cut(b:By)(kp:Nat->Nat->Bool):By:={b with dv:=λj=>if j<b.N then(b.dv j).map (Dv.nn (kp j))else b.dv j,bz:=false,aW:=none}
theorem By.wV{kp:Nat->Nat->Bool}(h:b.dv k=none):b.fG kp (k+1)=b.fG kp k:=by
 unfold By.fG;congr 1;funext j;by_cases e:j=k
 .subst e;simp[h]
 .by_cases h:j<k
  .simp [h,show j<k+1 by omega]
  .simp [h,show¬j<k+1 by omega]
theorem By.wW{kp:Nat->Nat->Bool}(h:b.dv k=some U):(b.fG kp k).put k (U.nn (kp k))=b.fG kp (k+1):=by
 unfold By.fG By.put;congr 1;funext j;by_cases e:j=k
 .subst e;simp[h]
 .by_cases h:j<k
  .simp [e,h,show j<k+1 by omega]
  .simp [e,h,show¬j<k+1 by omega]
structure FO[Lo](B S cap:Nat)(sd:Nat->Option SR)(r wc f:Int)(b:By)(kp:Nat->Nat->Bool)(w:M)(k:Nat)(wr:M):Prop where
 ct:∃sa,dU wr B S cap sa sd r wc f (b.fG kp k)
 bY:Fr TB aG w wr
theorem FP[Lo](B:Nat)(b:By)(v:QC)(L:Nat)(n:aN)(c:Nat->Nat->Bool)(w:QA)(h:aC w B b)(a3:gG w v L n c)(b7:L<=1000000):aF 71 #[ar B,v] w λe w'=>aL e (.tuple #[])/\aC w' B (b.cut (cE L n c))/\Fr TB aG w w':=by
 have a7:=ad a3;obtain⟨-,b8,b9,rfl,-⟩:=a3;obtain⟨S,s,a8,K,r,wc,f,h⟩:=h;have M:=h.top;obtain⟨N,H⟩:=ah b.N;rw[H]at M;obtain⟨k1,f1,z1⟩:=cr h.aM;rw[H]at k1;have R:QX (FO B S s K r wc f b (cE L n c) w 0 w):=by
  refine⟨⟨a8,?_⟩,Fr.refl _ _ _⟩;have:b.fG (cE L n c) 0=b:=by simp[By.fG]
  rw[this];exact h
 have I:=ad H;clear h H;go_enter func71,ntmps71;go_wp2;go_loopw [12] (λi wr=>∃k:Nat,i= ae k/\k<=N/\QX (FO B S s K r wc f b (cE L n c) w k wr)) (λi _=>N-(intOf i).toNat)
 case atStart=>exact⟨0,rfl,QO _,R⟩
 case round=>
  obtain⟨k,rfl,c0,O⟩:=hrel;obtain⟨l,q⟩:=O.ct;have a4:=ad q;by_cases z:k<N
  .have g:k<(b.fG (cE L n c) k).N:=by show k<b.N;rw[I.out];exact z
   obtain⟨q1,q2,q3⟩:=cr q.aM;rw[show(b.fG (cE L n c) k).N=N from I.out]at q1;obtain⟨P,r2,r3⟩:=cr q.dC;have Q:=(P (k*3)).trans (jJ _ _ _ g);have a9:=(P (k*3+2)).trans (qK _ _ _ g);have b0:(k:Int)<(N:Int):=aa;have a:(b.fG (cE L n c) k).dv k=b.dv k:=by simp[By.fG]
   cases d:b.dv k with
   |none=>rw[show qm (b.fG (cE L n c) k) l k=none by simp[qm,a,d]]at Q;have u:QX (FO B S s K r wc f b (cE L n c) w (k+1) wr):=⟨⟨l,by rw[By.wV d];exact a4⟩,O.bY⟩;clear q P a d g;go_wp2;refine⟨⟨k+1,by go_num,z,u⟩,by simp[intOf];omega⟩
   |some v=>
    rw[show qm (b.fG (cE L n c) k) l k=some ⟨(l k).D,0,none⟩by simp[qm,a,d]]at Q;have T:=q.dev k v g (a.trans d);obtain⟨p1,p2,p3⟩:=cr T.aM;have x:=a7.fr O.bY;have y:∀G,kG (l k).K (l k).A (v.d.settled (cE L n c k)) wr G->QX (FO B S s K r wc f b (cE L n c) w (k+1) G)/\G.cell? ⟨S,k*3+2,none⟩=some (.pointer none):=λG D=>by
     obtain⟨Y,g1,g2⟩:=a4.sx g (a.trans d) (T.Ac D);refine⟨⟨⟨Y,?_⟩,O.bY.tr g2⟩,?_⟩
     .have:=By.wW (kp:=cE L n c) d;rw[<-this];exact g1
     .exact ((cr g1.dC).1 (k*3+2)).trans (qK _ _ _ g)
    have A:=ad y;have a5:=ad T;by_cases E:k<L
    .obtain ⟨J,c1,c2,b2,U⟩:=x;cases b2;obtain⟨b1,o1,rfl,-,C⟩:=U.resolve_left aa;obtain⟨a6,b3,a0,j⟩:=C k E;have a1:=q.HX k v g (a.trans d) _ (.inr (.inr (.inl rfl)));have j:n k=0\/∃b o,a6=some (ag b o)/\b<wr.heap.size/\b≠(l k).A.gl/\∀i,i<n k->wr.cell? ⟨b,o+i,none⟩=some (.bool (c k i)):=j.imp id λ⟨b4,b5,e1,e2,e3⟩=>⟨b4,b5,e1,aa,aa,e3⟩;have V:cE L n c k=gE (n k) (c k):=by funext i;simp[cE,E]
     have m:=my _ _ _ a6 (n k) b3 (c k) wr a5.tq j;rw[<-V]at m;have F:=ad m;have W:(k:Int)<(L:Int):=aa;clear q P a d T y U C j a1 J V m g;go_wp2_with(first|(go_at_call 126;refine F.mono ?_;rintro e G ⟨rfl,D⟩;obtain⟨u,a2⟩:=A.out _ D;clear D));refine⟨⟨k+1,by go_num,z,u⟩,by simp[intOf];omega⟩
    .have V:cE L n c k=gE 0 (λ_=>false):=by funext i;simp[cE,gE,E]
     have m:=my _ _ _ none 0 0 (λ_=>false) wr a5.tq (.inl rfl);rw[<-V]at m;have F:=ad m;have W:¬(k:Int)<(L:Int):=aa;clear q P a d T y x V m g;go_wp2_with(first|(go_at_call 126;refine F.mono ?_;rintro e G ⟨rfl,D⟩;obtain⟨u,a2⟩:=A.out _ D;clear D));refine⟨⟨k+1,by go_num,z,u⟩,by simp[intOf];omega⟩
  .obtain rfl:k=N:=aa;obtain⟨q1,q2,q3⟩:=cr q.aM;have X:=heap_setCell_same _ B 2 _ 100 (ae (-1)) (heap_setCell_same wr B 1 _ 100 iL q.aM);have Z:=q.mz (w':=(wr.setCell (ag B 1) iL).setCell (ag B 2) (ae (-1))) (dk:=false) (tr:=none) (((Out.refl (λk=>k=B) wr).setCell (p:=ag B 1) (λ_=>rfl) _).setCell (p:=ag B 2) (λ_=>rfl) _) X (λt Z=>by cases Z);have b6:QX (aC ((wr.setCell (ag B 1) iL).setCell (ag B 2) (ae (-1))) B (b.cut (cE L n c))/\Fr TB aG w ((wr.setCell (ag B 1) iL).setCell (ag B 2) (ae (-1)))):=by
    refine⟨⟨S,s,l,K,r,wc,f,?_⟩,O.bY.tr Z.2⟩;have e:b.cut (cE L n c)={b.fG (cE L n c) k with bz:=false,aW:=none}:=by simp only[By.cut,By.fG,I.out]
    rw[e];exact Z.1
   clear q X Z;go_wp2;go_end0;exact⟨rfl,b6⟩
def Af(w:M)(v:H)(n:Nat)(f:Nat->Bool):Prop:=
 ∃a c,v=.slice a n c/\(n=0\/∃b o d e,a=some (R b o)/\w.heap[b]?=some (.cells d 4 e)/\∀k,k<n->d[o+k]?=some (.bool (f k)))
theorem Af.below{f:Nat->Bool}(h:Af w v n f)(g:aq w W):Af W v n f:=by obtain⟨a,c,e,h⟩:=h;refine⟨a,c,e,h.imp id ?_⟩;rintro⟨b,o,i,j,e,d,k⟩;exact⟨b,o,i,j,e,(g.block b (Z_ d)).trans d,k⟩
theorem Af.fr[Lo]{f:Nat->Bool}(h:Af w v n f)(d:Fr T aG w W)(g:T.contains 4=false):Af W v n f:=by obtain⟨a,c,e,h⟩:=h;refine⟨a,c,e,h.imp id ?_⟩;rintro⟨b,o,i,j,e,k,l⟩;exact⟨b,o,i,j,e,d.hp k g,l⟩
def yF(w:QA)(b:Nat)(g:aA)(c:Nat->Bool)(l:List Pt)(par:Nat):Prop:=
 ∃a pv,w.heap[b]?=some (N #[Y g.M,Y g.c,Y g.s,a,pv,Y par] 427)/\Af w a g.M c/\e' w pv l
theorem yF.below{b:Nat->Bool}(h:yF w n g b l m)(a:aq w W):yF W n g b l m:=by obtain⟨d,pv,c,e,f⟩:=h;exact⟨d,pv,(a.block _ (Z_ c)).trans c,e.below a,f.below a⟩
def Ag(l:List Pt)(m:Nat):Bool:=l.any λp=>decide (p.1=m)
theorem oT(d:Nat)(g:aA)(j:Nat->Bool)(l:List Pt)(par m:Nat)(w:M)(h:yF w d g j l par)(n:l.length<=1000000):aF 360 #[ar d,Y m] w λe o=>aL e (.bool (Ag l m))/\aq w o:=by
 obtain⟨A,pv,q,B,i⟩:=h;obtain⟨k,f,z⟩:=cr q;obtain⟨C,D,a,-⟩:=id i;have r:=I (λ(W:M) (b:aq w W) (x:aX W w.heap.size (N #[Y m] 3))=>lq 376 #[ar w.heap.size] (RH func376 aE rfl) l (λp=>decide (p.1=m)) pv W (i.below b) n
  (λs c p E u t=>IW p u w.heap.size m s t ((c.block _ (Z_ x)).trans x)))
 subst a;have v:QX (Ag l m=l.any λp=>decide (p.1=m)):=rfl;go_enter func360,ntmps360;go_wp2_with(go_at_call 357;refine(r _ (aK aj _) (QB _ _)).mono ?_;rintro e F ⟨rfl,b⟩;have y:=I b);go_ret;exact⟨by rw[v.out];rfl,(aK aj _).trans (y.mono aJ)⟩
theorem FQ(a:Nat)(w:M):aF 327 #[ar a] w λe b=>aL e aO/\aq w b:=by go_enter func327,ntmps327;go_wp2;go_ret;exact⟨rfl,aj⟩
theorem Ld:(prog.info? 3).map (λi=>(i.zero,i.size,i.bytes))=some (some (Y 0),1,8):=aE
theorem Ah(l:List Nat)(m:Nat):(l.map λa=>.int .i64 (a:Nat))++ [Y m] =(l++ [m]).map λa=>.int .i64 (a:Nat):=aJ
theorem qM(F:Nat)(G:Array QC)(a4:∀f w,(VF F f).run prog w=.ok (.enter F f) w)(b:Nat->Bool)(V:Nat)(g:aA)(J:Nat->Bool)(l:List Pt)(par:Nat)(w:QA)(h:yF w V g J l par)(a0:g.M<=16)(X:∀W,aq w W->∀m,m<g.M->aF F (#[ae m] ++G) W λe z=>aL e (.bool (b m))/\aq W z):
  aF 358 #[ar V,.func (.func F) #[] G] w (iC (ZZ g.M b) w):=by
 obtain⟨a5,pv,h1,h2,h3⟩:=h;obtain⟨k1,f1,z1⟩:=cr h1;obtain⟨M,Z⟩:=ah g.M;rw[Z]at k1 a0 X;rw[Z];have a1:=ad X;obtain⟨a2,K,O,P,Q⟩:=SB Ld;go_enter func358,ntmps358;go_wp2;go_loopw [5,12] (λv i wr=>∃k:Nat,i= ae k/\k<=M/\QX (aq w wr)/\QX (wr.ownsRow w.heap.size 3 1 v (ZZ k b).length ((ZZ k b).map λa=>.int .i64 (a:Nat)))) (λ_ i _=>M-(intOf i).toNat)
 case atStart=>exact⟨0,rfl,QO _,aj,SD _ _ _ _⟩
 case round=>
  obtain⟨k,rfl,H,y,p⟩:=hrel;by_cases q:k<M
  .have d:=ad (a1 wr y k q);have j:=fy k b;have A:=ad (dP k b);obtain⟨L,a3⟩:=ah (ZZ k b);rw[a3]at p A j;obtain⟨n,N⟩:=ah L.length;rw[N]at p j;have R:=ad N;obtain⟨S,T,rfl,-⟩:=au p;cases I:b k with
   |true=>
    rw[I]at d A;go_wp2_with fail;refine d.mono ?_;rintro e r ⟨rfl,c⟩;have B:=ad (aP c p);have C:=ad (y.trans (c.mono y.size));go_wp2_with(first|(at_builtin;refine aU _ rfl _ _ 82 rfl w.heap.size 3 a2 (ae 0) 1 8 YC K O P Q rfl ai (.slice S n T) n _ rfl (aP (aK aj _) B) (ag r.heap.size 0) 1 1 [ae k] rfl rfl (RW (cs:= #[ae k]) (t:=3) (fr:=(0,0)) (QB r _)) (by intro u Y;simp at Y;rw[Y];rfl) aa (by unfold UE;omega) aa (by have:=C.size;simp;omega) ?_));intro a6 z o D;have E:aq w (r.alloc (ao #[ae k] 3)):=aK C _;have s:QX (aq w z):=D.below E E.size λk H=>(bo B H).2;obtain⟨G,U,rfl,-⟩:=au o;have x:QX (z.ownsRow w.heap.size 3 1 (.slice G (n+1) U) (ZZ (k+1) b).length ((ZZ (k+1) b).map λa=>.int .i64 (a:Nat))):=by show z.ownsRow _ _ _ _ _ _;rw[A.out];simp only[if_true];rw[<-Ah,QU,R.out];exact o
    go_wp2;exact⟨⟨k+1,by go_num,q,s,x⟩,by simp[intOf];omega⟩
   |false=>
    rw[I]at d A;go_wp2_with fail;refine d.mono ?_;rintro e r ⟨rfl,c⟩;have s:QX (aq w r):=y.trans (c.mono y.size);have x:QX (r.ownsRow w.heap.size 3 1 (.slice S n T) (ZZ (k+1) b).length ((ZZ (k+1) b).map λa=>.int .i64 (a:Nat))):=by show r.ownsRow _ _ _ _ _ _;rw[A.out];simp only[SL,if_false];rw[TZ,R.out];exact aP c p
    go_wp2;exact⟨⟨k+1,by go_num,q,s,x⟩,by simp[intOf];omega⟩
  .obtain rfl:k=M:=aa;obtain⟨S,T,rfl,-⟩:=au p;go_wp2;go_ret;exact⟨_,rfl,p,y⟩
def qN(par:Nat)(l:List Pt)(m:Nat):Bool:=decide (m≠par)&& !Ag l m
def Ai(par:Nat)(l:List Pt)(m:Nat):Bool:=decide (m=par)||Ag l m
theorem CH(a q:Nat)(g:aA)(i:Nat->Bool)(l:List Pt)(par m:Nat)(w:M)(h:yF w a g i l par)(k:l.length<=1000000)(n:aX w q (N #[ar a] 420)):
  aF 359 (#[Y m] ++ #[ar q]) w λe o=>aL e (.bool (qN par l m))/\aq w o:=by
 have b:=I (oT a g i l par m w h k);have c:QX (qN par l m=(decide (m≠par)&& !Ag l m)):=rfl;obtain⟨t,pv,p,u,v⟩:=h;obtain⟨x,f1,z⟩:=cr p;obtain⟨A,f2,B⟩:=cr n;obtain⟨y,r⟩:=ah (Ag l m);rw[r]at b c;by_cases e:m=par
 .have d1:((m:Int)==(par:Int))=true:=by simp[e]
  have d2:((m:Int) !=(par:Int))=false:=by simp[e]
  have d:=I e;go_enter func359,ntmps359;go_wp2_with(go_at_call 360;refine b.mono ?_;rintro e s ⟨rfl,f⟩;have j:=I f);go_ret;exact⟨by rw[c.out];simp[d.out],aj⟩
 .have d1:((m:Int)==(par:Int))=false:=by rw[sr];simp[e]
  have d2:((m:Int) !=(par:Int))=true:=by rw[bne,sr];simp[e]
  have d:=I e;go_enter func359,ntmps359;go_wp2_with(go_at_call 360;refine b.mono ?_;rintro e s ⟨rfl,f⟩;have j:=I f);go_ret;exact⟨by rw[c.out];simp[d.out],j⟩
theorem FR(a q:Nat)(g:aA)(i:Nat->Bool)(l:List Pt)(par m:Nat)(w:M)(h:yF w a g i l par)(k:l.length<=1000000)(n:aX w q (N #[ar a] 420)):
  aF 361 (#[Y m] ++ #[ar q]) w λe o=>aL e (.bool (Ai par l m))/\aq w o:=by
 have b:=I (oT a g i l par m w h k);have c:QX (Ai par l m=(decide (m=par)||Ag l m)):=rfl;obtain⟨t,pv,p,u,v⟩:=h;obtain⟨x,f1,z⟩:=cr p;obtain⟨A,f2,B⟩:=cr n;obtain⟨y,r⟩:=ah (Ag l m);rw[r]at b c;by_cases e:m=par
 .have d1:((m:Int)==(par:Int))=true:=by simp[e]
  have d:=I e;go_enter func361,ntmps361;go_wp2_with(go_at_call 360;refine b.mono ?_;rintro e s ⟨rfl,f⟩;have j:=I f);go_ret;exact⟨by rw[c.out];simp[d.out],aj⟩
 .have d1:((m:Int)==(par:Int))=false:=by rw[sr];simp[e]
  have d:=I e;go_enter func361,ntmps361;go_wp2_with(go_at_call 360;refine b.mono ?_;rintro e s ⟨rfl,f⟩;have j:=I f);go_ret;exact⟨by rw[c.out];simp[d.out],j⟩
theorem iC.pre{e:RV}(h:iC T W e z)(a:aq w W):iC T w e z:=by
 obtain⟨v,f,d,i⟩:=h;refine⟨v,f,?_,a.trans (i.mono a.size)⟩;refine⟨d.1,?_⟩;rcases d.2 with h|⟨g,b,c,e,j,r⟩
 .exact .inl h
 .exact .inr ⟨g,b,c,e,QD a.size j,r⟩
theorem FT(a:Nat)(g:aA)(c:Nat->Bool)(l:List Pt)(par:Nat)(w:QA)(h:yF w a g c l par)(j:l.length<=1000000)(k:g.M<=16):
  aF 328 #[ar a] w (iC (ZZ g.M (qN par l)) w):=by
 have n:=I (λ(W:QA) (d:aq w W) (x:aX W w.heap.size (N #[ar a] 420))=>qM 359 #[ar w.heap.size] (RH func359 aE rfl) (qN par l) a g c l par W (h.below d) k λo b m r=>CH a w.heap.size g c l par m o ((h.below d).below b) j ((b.block _ (Z_ x)).trans x));go_enter func328,ntmps328;go_wp2_with(go_at_call 358;refine(n _ (aK aj _) (QB _ _)).mono ?_;rintro e s f;have i:=I (iC.pre f (aK aj _));obtain⟨v,rfl,e_,eZ⟩:=f);obtain⟨t,p,q⟩:=i.out;cases p;obtain⟨u,y,rfl,-⟩:=au q.1;go_ret;exact i
theorem I_(a:Nat)(g:aA)(c:Nat->Bool)(l:List Pt)(par:Nat)(w:QA)(h:yF w a g c l par)(j:l.length<=1000000)(k:g.M<=16):
  aF 329 #[ar a] w (iC (ZZ g.M (Ai par l)) w):=by
 have n:=I (λ(W:QA) (d:aq w W) (x:aX W w.heap.size (N #[ar a] 420))=>qM 361 #[ar w.heap.size] (RH func361 aE rfl) (Ai par l) a g c l par W (h.below d) k λo b m r=>FR a w.heap.size g c l par m o ((h.below d).below b) j ((b.block _ (Z_ x)).trans x));go_enter func329,ntmps329;go_wp2_with(go_at_call 358;refine(n _ (aK aj _) (QB _ _)).mono ?_;rintro e s f;have i:=I (iC.pre f (aK aj _));obtain⟨v,rfl,e_,eZ⟩:=f);obtain⟨t,p,q⟩:=i.out;cases p;obtain⟨u,y,rfl,-⟩:=au q.1;go_ret;exact i
def gone(a:Nat->Bool):Nat->Option Nat
 |0=>none
 |n+1=>match gone a n with|some k=>some k|none=>if a n then some n else none
def ga(a:Nat->Bool)(n:Nat):Int:=match gone a n with|some k=>(k:Nat)|none=> -1
theorem fo{c:Nat->Bool}:∀{n k:Nat},gone c n=some k->k<n/\c k=true
 |0,_,h=>by cases h
 |n+1,k,h=>by
  unfold gone at h;cases d:gone c n with
  |some j=>rw[d]at h;cases h;obtain⟨a,b⟩:=fo d;exact⟨J,b⟩
  |none=>
   rw[d]at h;simp only at h;split at h
   .cases h;exact⟨J,by assumption⟩
   .cases h
theorem qO{a:Nat->Bool}:∀{n:Nat},gone a n=none->∀k,k<n->a k=false
 |0,_,_,h=>J
 |n+1,h,k,c=>by
  unfold gone at h;cases b:gone a n with
  |some j=>rw[b]at h;cases h
  |none=>
   rw[b]at h;simp only at h;split at h
   .cases h
   .by_cases e:k=n
    .rw [e];simpa using(by assumption:¬a n=true)
    .exact qO b k J
theorem oU{c:Nat->Bool}(f:k<n)(h:c k=true)(g:∀j,j<k->c j=false):gone c n=some k:=by
 cases d:gone c n with
 |none=>rw[qO d k f]at h;cases h
 |some j=>
  obtain⟨a,b⟩:=fo d;by_cases e:j<k
  .rw [g j e]at b;cases b
  .by_cases i:j=k
   .rw [i]
   .exfalso;have:∀m,k<m->gone c m=some k:=λm=>by
     induction m with
     |zero=>intro h;omega
     |succ m l=>
      intro r;unfold gone;by_cases o:k<m
      .rw [l o]
      .have:k=m:=J;subst this;have:gone c k=none:=by
        cases p:gone c k with
        |none=>rfl
        |some q=>obtain⟨x,y⟩:=fo p;rw[g q x]at y;cases y
       rw[this];simp[h]
    rw[this n f]at d;cases d;exact i rfl
theorem wX(v:H)(n:Nat)(c:Nat->Bool)(w:M)(h:Af w v n c)(F:n<=1000000):aF 362 #[v,.bool true] w λe r=>aL e (Y (ga c n))/\w=r:=by
 obtain⟨a,s,rfl,t⟩:=h;have u:=I t;go_enter func362,ntmps362;go_wp2;go_loop [8] (λi=>∃k:Nat,i= Y k/\k<=n/\QX (∀j,j<k->c j=false)) (λi=>n-(intOf i).toNat)
 case atStart=>exact⟨0,rfl,QO _,λj z=>J⟩
 case round=>
  obtain⟨k,rfl,G,g⟩:=hrel;by_cases d:k<n
  .obtain ⟨b,o,A,B,rfl,C,D⟩:=u.resolve_left J;have p:=(QS w b (o+k) A 4 B C).trans (D k d);cases f:c k with
   |true=>
    rw[f]at p;have l:QX (ga c n=(k:Nat)):=by show _=_;unfold ga;rw[oU d f g.out]
    go_wp2;go_ret;exact⟨by rw[l.out];rfl,rfl⟩
   |false=>
    rw[f]at p;have m:QX (∀j,j<k+1->c j=false):=λj z=>by
     by_cases e:j=k
     .rw [e];exact f
     .exact g j J
    go_wp2;go_round
    case rel=>exact⟨k+1,by go_num,d,m⟩
    case measure=>simp[intOf];omega
  .obtain rfl:k=n:=J;have l:QX (ga c k= -1):=by
    show _=_;unfold ga;have:gone c k=none:=by
     cases E:gone c k with
     |none=>rfl
     |some q=>obtain⟨x,y⟩:=fo E;rw[g.out q x]at y;cases y
    rw[this]
   go_wp2;go_ret;exact⟨by rw[l.out];rfl,rfl⟩
def dW(M:Nat)(a:Nat->Bool)(l:List Pt)(par:Nat):Nat:=
 if M-1-l.length=0 then 1 else match gone a M with
  |some k=>if k=par then 4 else if Ag l k=true then 3 else 2
  |none=>if M-1-l.length<l.length+1 then 3 else 2
theorem FU(u:Nat)(g:aA)(c:Nat->Bool)(l:List Pt)(par:Nat)(w:QA)(h:yF w u g c l par)(A:g.ok)(D:l.length<=g.M-1):
  aF 330 #[ar u] w λe E=>aL e (.int .u8 (dW g.M c l par:Nat))/\aq w E:=by
 have F:=A.m16;have v:=A.m3;have t:=I (λ(W:QA) (b:aq w W) (m:Nat)=>oT u g c l par m W (h.below b) J);obtain⟨G,pv,K,p,L⟩:=h;obtain⟨O,f1,Q⟩:=cr K;have d:=I (λ(W:QA) (b:aq w W)=>wX G g.M c W (p.below b) J);obtain⟨S,T,rfl,-⟩:=p;obtain⟨U,V,rfl,-⟩:=L;have a:QX (dW g.M c l par=if g.M-1-l.length=0 then 1 else match gone c g.M with
  |some k=>if k=par then 4 else if Ag l k=true then 3 else 2
  |none=>if g.M-1-l.length<l.length+1 then 3 else 2):=rfl
 obtain⟨M,x⟩:=ah g.M;obtain⟨n,B⟩:=ah l.length;obtain⟨X,r⟩:=ah (dW g.M c l par);rw[r,x,B]at a;rw[x,B]at O D;rw[x]at F v d;rw[r];have i:QX (ga c M=match gone c M with|some k=>(k:Nat)|none=> -1):=rfl;have Z:QG.wrap ((M:Int)-1)=(M:Int)-1:=bs;have H:QG.wrap ((M:Int)-1-(n:Int))=(M:Int)-1-(n:Int):=bs;by_cases C:M-1-n=0
 .have d0:((M:Int)-1-(n:Int)==0)=true:=by rw[beq_iff_eq];omega
  rw[ak C]at a;obtain⟨N,z⟩:=ah (ga c M);rw[z]at d;go_enter func330,ntmps330;go_wp2;go_quiet(fail);go_wp2_with(go_at_call 362;refine(d _ (cK aj _)).mono ?_;rintro e f ⟨rfl,rfl⟩);go_ret;exact⟨by rw[a.out];rfl,cK aj _⟩
 .have d0:((M:Int)-1-(n:Int)==0)=false:=by rw[beq_eq_false_iff_ne];omega
  rw[al C]at a;cases s:gone c M with
  |none=>
   rw[s]at a i;rw[i.out]at d;have d1:((-1:Int)==(par:Int))=false:=by rw[beq_eq_false_iff_ne];omega
   simp only at a;by_cases p:M-1-n<n+1
   .have d2:decide ((M:Int)-1-(n:Int)<(n:Int)+1)=true:=aS;rw[ak p]at a;go_enter func330,ntmps330;go_wp2;go_quiet(fail);go_wp2_with(first|(go_at_call 362;refine(d _ (cK aj _)).mono ?_;rintro e f ⟨rfl,rfl⟩)|(go_at_call 360;refine(t _ (cK aj _) _).mono ?_;rintro e f ⟨rfl,b⟩;have o:=I b));go_ret;exact⟨by rw[a.out];rfl,cK aj _⟩
   .have d2:decide ((M:Int)-1-(n:Int)<(n:Int)+1)=false:=aS;rw[al p]at a;go_enter func330,ntmps330;go_wp2;go_quiet(fail);go_wp2_with(first|(go_at_call 362;refine(d _ (cK aj _)).mono ?_;rintro e f ⟨rfl,rfl⟩)|(go_at_call 360;refine(t _ (cK aj _) _).mono ?_;rintro e f ⟨rfl,b⟩;have o:=I b));go_ret;exact⟨by rw[a.out];rfl,cK aj _⟩
  |some q=>
   rw[s]at a i;rw[i.out]at d;simp only at a d;by_cases e:q=par
   .have d1:((q:Int)==(par:Int))=true:=by simp[e]
    rw[ak e]at a;go_enter func330,ntmps330;go_wp2;go_quiet(fail);go_wp2_with(first|(go_at_call 362;refine(d _ (cK aj _)).mono ?_;rintro e f ⟨rfl,rfl⟩)|(go_at_call 360;refine(t _ (cK aj _) _).mono ?_;rintro e f ⟨rfl,b⟩;have o:=I b));go_ret;exact⟨by rw[a.out];rfl,cK aj _⟩
   .have d1:((q:Int)==(par:Int))=false:=by rw[sr];simp[e]
    rw[al e]at a;have d4:decide ((q:Int)<0)=false:=aJ;have j:=I (λ(W:QA) (b:aq w W)=>t.out W b q);obtain⟨y,P⟩:=ah (Ag l q);rw[P]at j a;cases y with
    |true=>simp only[if_true]at a;go_enter func330,ntmps330;go_wp2;go_quiet(fail);go_wp2_with(first|(go_at_call 362;refine(d _ (cK aj _)).mono ?_;rintro e f ⟨rfl,rfl⟩)|(go_at_call 360;refine(j _ (cK aj _)).mono ?_;rintro e f ⟨rfl,b⟩;have o:=I b));go_ret;exact⟨by rw[a.out];rfl,(cK aj _).trans o⟩
    |false=>simp only[SL,if_false]at a;go_enter func330,ntmps330;go_wp2;go_quiet(fail);go_wp2_with(first|(go_at_call 362;refine(d _ (cK aj _)).mono ?_;rintro e f ⟨rfl,rfl⟩)|(go_at_call 360;refine(j _ (cK aj _)).mono ?_;rintro e f ⟨rfl,b⟩;have o:=I b));go_ret;exact⟨by rw[a.out];rfl,(cK aj _).trans o⟩
structure jY(g:aA)(B:bq)(w:M)(Ms:Nat)(i:Nat)(inn:aN)(cv:Nat->H)(wr:M):Prop where
 dA:aq w wr
 OR:w.heap.size<=Ms
 outer:KM wr Ms i fun r=>if aZ g B i r=true then some (.map (some (inn r))) else none
 inner:∀r,aZ g B i r=true->w.heap.size<=inn r/\inn r≠Ms/\KM wr (inn r) i fun m=>(cO g B i m r).map fun j=> .agg #[Y m,Y r,cv j]
 apart:∀r r',aZ g B i r=true->aZ g B i r'=true->r≠r'->inn r≠inn r'
 iM:∀j,j<i->dR wr (cv j) (B.da j)
theorem jY.next{w wr q B C:QA}{s:Nat->QC}(h:jY g K w n i f s wr){a:aN}(M:i<=1000000)(t:aq w q)(P:KM q n (i+1) λr=>if aZ g K (i+1) r=true then some (.map (some (a r)))else none)(u:∀r,aZ g K (i+1) r=true->w.heap.size<=a r/\a r≠n/\KM q (a r) i λm=>(cO g K i m r).map λj=>.agg #[ae m,ae r,s j])(x:∀r E,aZ g K (i+1) r=true->aZ g K (i+1) E=true->r≠E->a r≠a E)(Q:∀j,j<i->dR q (s j) (K.da j))(c:aq q B)(T:dR B v (K.da i)){b p F:Nat}(U:K.aM i=b/\g.row b=p/\g.mem b=F)(d:Out (λk=>k=a p) B C)(y:KM C (a p) (i+1) λm=>if m=F then some (.agg #[ae F,ae p,v])else(cO g K i m p).map λj=>.agg #[ae m,ae p,s j]):
  jY g K w n (i+1) a (λj=>if j=i then v else s j) C:=by
 obtain⟨rfl,rfl,rfl⟩:=U;have z:aZ g K (i+1) (g.row (K.aM i))=true:=dt.2 ⟨i,aa,rfl⟩;obtain⟨R,V,W⟩:=u _ z;have l:∀k o,k=a (g.row (K.aM i))->B.heap[k]?=some o->ty o≠5:=by intro k o y A;obtain⟨D,⟨I,Y,X,_⟩,_⟩:=(W.below c).own;rw[y,X]at A;cases A;exact ia _ _
 refine⟨?_,h.OR,?_,λr O=>?_,x,λj J=>?_⟩
 .exact (Out.trans (S:=λk=>w.heap.size<=k) (Out.af (t.trans (c.mono t.size))) d λk y e=>aa).below (λk y Z=>Z) (QE _)
 .exact (P.below c).out d λe=>V e.symm
 .obtain ⟨H,N,c3⟩:=u r O;refine⟨H,N,?_⟩;by_cases e:r=g.row (K.aM i)
  .subst e;refine y.congr λm=>?_;by_cases e:m=g.mem (K.aM i)
   .subst e;simp[cO]
   .rw [al e];have G:¬(g.mem (K.aM i)=m/\g.row (K.aM i)=g.row (K.aM i)):=λh=>e h.1.symm;rw[show cO g K (i+1) m (g.row (K.aM i))=cO g K i m (g.row (K.aM i))from al G];cases L:cO g K i m (g.row (K.aM i))with
    |none=>rfl
    |some j=>have:=(dH L).1;simp only[QY];rw[al aa]
  .refine (((c3.below c).out d (x _ _ O z e)).mono (US _)).congr λm=>?_;have G:¬(g.mem (K.aM i)=m/\g.row (K.aM i)=r):=λh=>e h.2.symm;rw[show cO g K (i+1) m r=cO g K i m r from al G];cases L:cO g K i m r with
   |none=>rfl
   |some j=>have:=(dH L).1;simp only[QY];rw[al aa]
 .by_cases e:j=i
  .subst e;simp only[if_true];exact T.out d l
  .simp only[al e];exact((Q j aa).below c).out d l
theorem jY.vY{o:Nat->H}(h:jY g K w n i f o z){b q s:Nat}(t:K.aM i=b/\g.row b=q/\g.mem b=s)(p:aq z W)(u:aZ g K i q=true):
  (KM W n (i+1) λr=>if aZ g K (i+1) r=true then some (.map (some (f r)))else none)/\
  (∀r,aZ g K (i+1) r=true->w.heap.size<=f r/\f r≠n/\KM W (f r) i λm=>(cO g K i m r).map λj=>.agg #[Y m,Y r,o j])/\
  (∀r d,aZ g K (i+1) r=true->aZ g K (i+1) d=true->r≠d->f r≠f d)/\(∀j,j<i->dR W (o j) (K.da j)):=by
 obtain⟨rfl,rfl,rfl⟩:=t;have e:∀r,aZ g K (i+1) r=aZ g K i r:=λr=>by
  show(g.row (K.aM i)==r||aZ g K i r)=aZ g K i r;by_cases e:g.row (K.aM i)=r
  .rw [<-e,u];simp
  .simp [e]
 refine⟨((h.outer.below p).mono (US _)).congr λr=>by rw[e r],λr k=>?_,λr d k l=>?_,λj v=>(h.iM j v).below p⟩
 .rw [e r]at k;obtain⟨a,b,c⟩:=h.inner r k;exact⟨a,b,c.below p⟩
 .rw [e r]at k;rw[e d]at l;exact h.apart r d k l
theorem jY.fresh{w wr W t:QA}{B:Nat->QC}(h:jY g K w n i f B wr){b q O:Nat}(P:K.aM i=b/\g.row b=q/\g.mem b=O)(F:aq wr W)(G:aZ g K i q=false)(z:Out (λk=>k=n) (W.alloc (.map #[] 0)) t)(C:KM t n (i+1) λr=>if r=q then some (.map (some W.heap.size))else if aZ g K i r=true then some (.map (some (f r)))else none):
  (KM t n (i+1) λr=>if aZ g K (i+1) r=true then some (.map (some (if r=q then W.heap.size else f r)))else none)/\
  (∀r,aZ g K (i+1) r=true->w.heap.size<=(if r=q then W.heap.size else f r)/\(if r=q then W.heap.size else f r)≠n/\KM t (if r=q then W.heap.size else f r) i λm=>(cO g K i m r).map λj=>.agg #[Y m,Y r,B j])/\
  (∀r l,aZ g K (i+1) r=true->aZ g K (i+1) l=true->r≠l->(if r=q then W.heap.size else f r)≠(if l=q then W.heap.size else f l))/\(∀j,j<i->dR t (B j) (K.da j))/\aq w t:=by
 obtain⟨rfl,rfl,rfl⟩:=P;have e:∀r,aZ g K (i+1) r=(decide (r=g.row (K.aM i))||aZ g K i r):=λr=>by
  show(g.row (K.aM i)==r||aZ g K i r)=_;congr 1;by_cases e:r=g.row (K.aM i)
  .simp [e]
  .simp [e,Ne.symm e]
 have Q:=h.outer.lt;have T:=F.size;have U:=h.dA.size;have s:aq wr (W.alloc (.map #[] 0)):=aK F _;have v:∀r,aZ g K i r=true->f r<wr.heap.size:=λr p=>(h.inner r p).2.2.lt;refine⟨C.congr λr=>?_,λr p=>?_,λr l p d x=>?_,λj V=>((h.iM j V).below s).out z ?_,?_⟩
 .rw [e r];by_cases e:r=g.row (K.aM i)
  .simp [e]
  .simp [e]
 .rw [e r]at p;by_cases e:r=g.row (K.aM i)
  .rw [ak e];refine⟨J,J,?_⟩;refine(((KM.made W).out z J).mono (QO _)).congr λm=>?_;cases X:cO g K i m r with
   |none=>rfl
   |some j=>obtain⟨Z,N,L⟩:=dH X;rw[e]at L;rw[dt.2 ⟨j,Z,L⟩]at G;cases G
  .rw [al e];simp[e]at p;obtain⟨a,b,c⟩:=h.inner r p;exact⟨a,b,(c.below s).out z b⟩
 .rw [e r]at p;rw[e l]at d;by_cases A:r=g.row (K.aM i)
  .have u:¬l=g.row (K.aM i):=λh=>x (by rw[A,h]);simp[u]at d;rw[ak A,al u];have:=v l d;omega
  .simp [A]at p;rw[al A];by_cases u:l=g.row (K.aM i)
   .rw [ak u];have:=v r p;omega
   .simp [u]at d;rw[al u];exact h.apart r l p d x
 .intro k o C y;subst C;obtain⟨D,⟨M,R,H,_⟩,_⟩:=(h.outer.below s).own;rw[H]at y;cases y;exact ia _ _
 .have E:aq w (W.alloc (.map #[] 0)):=h.dA.trans (s.mono h.dA.size);exact(Out.trans (S:=λk=>w.heap.size<=k) (Out.af E) z λk _ e=>by rw[e];exact h.OR).below (λ_ _ h=>h) (QE _)
def bq.bP(g:aA)(B:bq)(r:Nat):List Pt:=(B.nP g r).map λm=>(m,r,B.iM g m r)
def bq.fH(g:aA)(B:bq):List (List Pt):=(B.eM g).map (B.bP g)
def Nf(g:aA)(B:bq)(w:M)(e:RV)(a:M):Prop:=∃v,aL e (.tuple #[v,aH 0])/\Fs a v (B.fH g)/\aq w a
theorem jY.rows{b:Nat->H}(c:g.ok)(d:K.ok g)(_:jY g K w n K.n f b W):(∀a,g.R<=a->(if aZ g K K.n a=true then some (Value.map (some (f a)))else none)=none)/\(ZZ g.R λa=>(if aZ g K K.n a=true then some (Value.map (some (f a)))else none).isSome)=K.eM g:=by
 refine⟨λa j=>?_,?_⟩
 .rw [al];intro h;obtain⟨i,e,rfl⟩:=dt.1 h;have:=aA.iU c (d.aM i e);omega
 .unfold bq.eM;congr 1;funext a;cases aZ g K K.n a<;>rfl
theorem jY.Ng{b:Nat->H}(c:g.ok)(_:jY g K w n K.n f b W)(r:Nat):(∀a,g.M<=a->((cO g K K.n a r).map λj=>Value.agg #[Y a,Y r,b j])=none)/\(ZZ g.M λa=>((cO g K K.n a r).map λj=>Value.agg #[Y a,Y r,b j]).isSome)=K.nP g r:=by
 refine⟨λa e=>?_,?_⟩
 .cases d:cO g K K.n a r with
  |none=>rfl
  |some i=>obtain⟨_,h,_⟩:=dH d;have:=aA.kC c (K.aM i);omega
 .unfold bq.nP;congr 1;funext a;unfold bq.gd;rw[Option.isSome_map]
theorem Aj:(prog.info? 206).map (λi=>(i.zero,i.size,i.bytes))=some (some (.agg #[Y 0,Y 0,aO]),3,40):=aE
theorem Nh:(prog.info? 162).map (λi=>(i.zero,i.size,i.bytes))=some (some aO,1,24):=aE
end Go.Proofs.YtbimjlmclegaeaaGreat
