/- TopOne: without crashes, and with at most one member away, every call answers what one disk would; part 1 of 6. Conditions: none. -/
import Derived.Test.YtbimjlmclegaeaaGreatProg
import Derived.Handy
import Derived.Lib.Hide
import Derived.OneCell
import Derived.Laws.CopyOwn
import Derived.Lib.Bytes
import Derived.WalkSpells
import Derived.WalkLawsBesides
import Derived.StillTailTactics
import Derived.Deep.RegionHeld3
import Derived.Deep.DeepCutAuto
import Derived.Deep.CutBlock
import Derived.Deep.AppendLies
import Derived.Deep.WholeRow
import Derived.Lib.AppendZeros
import Derived.Shelf.SlIterI.Nil
import Derived.Shelf.SortM.Plain
import Derived.Shelf.SortM.SortNone
import Derived.Great.Walk
import Derived.Shelf.SlSortCmp.WholeK
import Derived.RangeFuncNested
import Derived.Laws.EntriesVeiled
import Derived.Test.YtbimjlmclegaeaaGreatRows
import Derived.Lib.SmallJoins
import Derived.Deep.SlicePairs
import Derived.Lib.BufferWrite
namespace Go.Proofs.YtbimjlmclegaeaaGreat
set_option maxRecDepth 100000
set_option maxHeartbeats 8000000
open Go.RowKit Go.Proofs.Tryz
open Go renaming World->QA,World->M,heap_alloc_new->QB,Value->QC,bodyPost_ret->QR,cell_of_row->QT,results->RM,Ending->RW,info_parts->SD,run_underlying->SU,TypeId->SV,Addr->SZ,MapEntry->TE,madeCells->TQ,maxLen->UI,callFunc->UN,callsIn_wide->UP,ownsRow_setCell_other->XS,splice->YG
open Nat renaming le_trans->QE,le_refl->QH,zero_le->QN,zero_add->RH,lt_of_lt_of_le->RJ,not_lt_zero->RR,mod_lt->RT,mod_eq_of_lt->SA,mul_le_mul->SX,mul_one->TZ,add_assoc->UO,le_succ->US,mul_comm->VB,add_zero->VJ,add_sub_cancel->VP,mul_le_mul_right->WC,min_eq_left->WK,div_add_mod->WL,xor_assoc->XM,xor_lt_two_pow->XT,mod_eq_sub_mod->XU,mod_one->YF,add_comm->YZ,min_le_left->ZH
open List renaming getElem_cons_zero->QF,getElem_cons_succ->QG,getElem_toArray->QI,getElem?_eq_getElem->QP,getElem?_eq_some_iff->QS,length_append->QU,mem_of_getElem?->QV,getElem?_append_right->QZ,length_map->RA,getElem?_append_left->RD,getElem?_eq_none->RE,getElem?_map->RL,mem_map->RQ,mem_cons_self->SE,getElem?_range->SF,length_cons->SG,map_append->SH,mem_cons_of_mem->SN,mem_singleton->SP,append_assoc->SY,getElem?_take->TH,ext_getElem?->TN,map_cons->TS,range->TT,eq_nil_of_length_eq_zero->TU,mem_iff_getElem?->TY,mem_range->UA,append_nil->UB,mem_cons->UG,range_succ->UK,cons_append->UQ,nil_append->UT,map_congr_left->UX,flatMap_append->UY,length_take->VD,getElem_map->VE,length_filter_le->VI,length->VR,size_toArray->VW,all_eq_true->WD,getElem?_toArray->XA,any_eq_true->XD,replicate->XQ,map_nil->XR,findIdx?_eq_none_iff->XW,pairwise_map->YA,take_of_length_le->YH,getElem_mem->YJ,modify_zero_cons->YP,modify_succ_cons->YQ,length_replicate->YS,mem_iff_getElem->ZA,getElem?_modify->ZN
open Go.IntKind renaming i64->QK,u64->VN
open Go.World renaming block_lt_of_cell?->QO,cell?_of_block->QQ,size_setCell->RS,news_of_block->RY,ownsRow_nil->SJ,putObj_heap_same->SR,size_alloc->SS,putObj_heap_other->TI,putObj_size->WO,cell?_alloc_lt->YV,ownsRow_made->ZS
open Go.RowKit.Below renaming heap_alloc->QW,heap_setCell->RP,refl->SL
open Go.RowKit renaming Hid->QX,Below->SC,wrap64->WV
open Option renaming map_some->QY,getD_some->TF,map_none->VF,isSome_iff_exists->WB,map_map->YN
open Go.Lib renaming hid->RB
open _root_.Array renaming getElem?_eq_some_iff->RC,getElem?_eq_getElem->SB,toList_modify->VK
open Go.Proofs renaming enters_of->RF
open Go.Act renaming put->RG,eval->VU
open Go.Result renaming andThen_ok->RI,ok->YT
open Go.Value renaming slice->RU,int->SK,ownBlock->WQ
open Go.Sem renaming run_bind->RZ,run_pure->VA,run->ZT
open Bool renaming false_eq_true->SM,and_eq_true->VM
open Option.some renaming injEq->SO
open Go.IntWalk renaming i64_in->SQ
open Go.Instr renaming makeSlice->TC,mapUpdate->TD,lookup->UZ,checkKey->VC,keyThatStays->WI,findNow->XB,findKey->XE,sameBits->XN
open Int renaming natCast_mul->TG,tmod_eq_emod_of_nonneg->UH,tdiv_eq_ediv_of_nonneg->VH,emod_lt_of_pos->VQ,emod_nonneg->WN,ediv_nonneg->ZI,ediv_lt_of_lt_mul->ZP
open Go.Fence renaming wide->TV
open List.cons renaming injEq->UD
open BitVec renaming ofInt->UJ,ofInt_natCast->WW,toNat_ofNat->XL
open Go.Proofs.Tryz renaming underlying41->UL,underlying5->UR,prog->VY,underlying3->XF,underlying82->YD,underlying338->YU
open UInt8 renaming ofNat->VX
open Go.Region renaming wanted->WT
open Go.DataW renaming insert->XK
open Go.WideElems renaming rg->YK
open Go.Shelf renaming Ren->ZE
variable {w W z:World}{n m k i j r C:Nat}{c:Int}{v x y:Value}{T:List Nat}{p:Addr}{P:Option Addr}{A:Array Value}{d:Bool}{S Q X:Nat->Prop}{t:TypeId}{L:List Value}{O:Obj}
theorem aa{p:Prop}(h:p:=by omega):p:=h
theorem aj{p:Prop}(h:p:=by decide):p:=h
theorem ai{p:Prop}(h:p:=by kernel_rfl):p:=h
theorem aJ{p:Prop}(h:p:=by simp):p:=h
theorem aR{p:Prop}(h:p:=by simp;omega):p:=h
theorem bj{p:Prop}(h:p:=by go_arith):p:=h
theorem bF{p:Prop}(h:p:=by go_grown):p:=h
theorem dJ{p:Prop}(h:p:=by go_size):p:=h
theorem OO{p:Prop}(h:p:=by simp[*,go_sem];done):p:=h
theorem ao{c:Prop}{h:Decidable c}(a:c){α:Sort _}{t e:α}:ite c t e=t:=if_pos a
theorem aq{c:Prop}{h:Decidable c}(a:¬c){α:Sort _}{t e:α}:ite c t e=e:=if_neg a
theorem ad{p:Prop}(h:p):Hid p:=h
theorem ah{α:Sort _}(a:α):∃x,a=x:=⟨a,rfl⟩
abbrev ae(n:Int):Value:=.int .i64 n
abbrev aG(n:Int):Value:=.int .u16 n
abbrev bx(n:Int):Value:=.int .u8 n
abbrev bg(n:Int):Value:=.int .u64 n
abbrev al(a:Array Value)(T:TypeId):Obj:=.cells a T (0,0)
abbrev aW:Value:=.slice none 0 0
abbrev ed:Value:=.bool true
abbrev iG:Value:=.bool false
abbrev a_(w:World)(b:Nat)(o:Obj):Prop:=w.heap[b]?=some o
abbrev aK(e:Ending)(v:Value):Prop:=e=.returned v
abbrev ar(b:Nat):Value:=.pointer (some ⟨b,0,none⟩)
abbrev a'(b n c:Nat):Value:=.slice (some ⟨b,0,none⟩) n c
abbrev ag(b i:Nat):Addr:=⟨b,i,none⟩
abbrev au(w v:World):Prop:=Below w.heap.size w v
theorem ak{B:Nat}{w:World}:Below B w w:=.refl _ _
abbrev aE:=Calls Tryz.prog
theorem qc(w:World)(X:Obj):∃u,w.alloc X=u/\Below w.heap.size w u/\u.heap[w.heap.size]?=some X:=⟨_,rfl,ak.alloc (Nat.le_refl _) _,heap_alloc_new _ _⟩
theorem dU(w:World)(X:Obj):∃u G,w.alloc X=u/\w.heap.size=G/\Below w.heap.size w u/\u.heap[G]?=some X:=⟨_,_,rfl,rfl,ak.alloc (Nat.le_refl _) _,heap_alloc_new _ _⟩
abbrev aQ:=Nat->Nat
variable {f:aQ}
abbrev dp:=Nat->Nat->Nat
variable {F:dp}
abbrev bY:=Nat->Nat->Nat->Nat
theorem aB{a b:Prop}(c:a)(d:b):Hid (a/\b):=⟨c,d⟩
theorem aM{a b c:Prop}(d:a)(e:b)(f:c):Hid (a/\b/\c):=⟨d,e,f⟩
theorem aT{a b c d:Prop}(e:a)(f:b)(g:c)(h:d):Hid (a/\b/\c/\d):=⟨e,f,g,h⟩
theorem bZ{a b c d e:Prop}(f:a)(g:b)(h:c)(i:d)(x4:e):Hid (a/\b/\c/\d/\e):=⟨f,g,h,i,x4⟩
theorem eM{a b c d e f:Prop}(g:a)(h:b)(i:c)(j:d)(x4:e)(k:f):Hid (a/\b/\c/\d/\e/\f):=⟨g,h,i,j,x4,k⟩
theorem j_{a b c d e f g:Prop}(h:a)(i:b)(j:c)(k:d)(x4:e)(l:f)(m:g):Hid (a/\b/\c/\d/\e/\f/\g):=⟨h,i,j,k,x4,l,m⟩
theorem HJ{a b c d e f g h:Prop}(i:a)(j:b)(k:c)(l:d)(x4:e)(m:f)(n:g)(o:h):Hid (a/\b/\c/\d/\e/\f/\g/\h):=⟨i,j,k,l,x4,m,n,o⟩
theorem HK{a b c d e f g h i:Prop}(j:a)(k:b)(l:c)(m:d)(x4:e)(n:f)(o:g)(p:h)(q:i):Hid (a/\b/\c/\d/\e/\f/\g/\h/\i):=⟨j,k,l,m,x4,n,o,p,q⟩
theorem IC{a b c d e f g h i j:Prop}(k:a)(l:b)(m:c)(n:d)(x4:e)(o:f)(p:g)(q:h)(r:i)(s:j):Hid (a/\b/\c/\d/\e/\f/\g/\h/\i/\j):=⟨k,l,m,n,x4,o,p,q,r,s⟩
theorem MQ{a b c d e f g h i j k:Prop}(m:a)(n:b)(o:c)(p:d)(x4:e)(q:f)(r:g)(s:h)(t:i)(u:j)(l:k):Hid (a/\b/\c/\d/\e/\f/\g/\h/\i/\j/\k):=⟨m,n,o,p,x4,q,r,s,t,u,l⟩
theorem MR{a b c d e f g h i j k l:Prop}(o:a)(p:b)(q:c)(r:d)(x4:e)(s:f)(t:g)(u:h)(v:i)(w:j)(m:k)(n:l):Hid (a/\b/\c/\d/\e/\f/\g/\h/\i/\j/\k/\l):=⟨o,p,q,r,x4,s,t,u,v,w,m,n⟩
theorem J{p:Prop}(h:p:=by omega):p:=h
theorem I{p:Prop}(h:p):Hid p:=h
abbrev Y(n:Int):Value:=.int .i64 n
abbrev N(a:Array Value)(T:TypeId):Obj:=.cells a T (0,0)
abbrev H(b:Nat):Value:=.pointer (some ⟨b,0,none⟩)
abbrev R(b i:Nat):Addr:=⟨b,i,none⟩
section
theorem cr{w:M}{b:Nat}{a:Array QC}{T:SV}(h:a_ w b (.cells a T (0,0))):(∀o,w.cell? (R b o)=a[o]?)/\(∀o,w.frozen? (R b o)=false)/\b<w.heap.size:=
 ⟨λo=>QT w b o a T (0,0) h,λo=>frozen_of_row w b o a T h,(RC.1 h).1⟩
theorem via{w W a:M}(h:au w W)(b:au W a):au w a:=h.trans (b.mono h.size)
theorem aI{w W:M}(h:au w W)(o:Obj):au w (W.alloc o):=h.alloc h.size o
theorem cE{B:Nat}{w W:M}(h:SC B w W)(n:Nat):SC B w (W.drewN n):=h.trans ⟨rfl,rfl,rfl,QH _,λ_ _=>rfl⟩
theorem kp{W a:M}(b:au W a)(B:Nat)(h:B<W.heap.size):(∀o,a.cell? (R B o)=W.cell? (R B o))/\(∀o,a.frozen? (R B o)=W.frozen? (R B o))/\B<a.heap.size:=
 ⟨λo=>b.cell (p:=R B o) h,λo=>b.frozen (p:=R B o) h,RJ h b.size⟩
theorem fe(w:M)(A B:Obj):((w.alloc A).alloc B).heap[w.heap.size+1]?=some B:=
 (congrArg (λi=>((w.alloc A).alloc B).heap[i]?) (SS _ _).symm).trans (QB _ _)
theorem gb(w:M)(A B:Obj):((w.alloc A).alloc B).heap[w.heap.size]?=some A:=
 (QW (w.alloc A) B _ aJ).trans (QB _ _)
def cB(L:Nat)(f:aQ):Array QC:=((TT L).map λk=>SK .u8 (f k)).toArray
theorem eu(L:Nat)(f:aQ)(k:Nat)(h:k<L):(cB L f)[k]?=some (.int .u8 (f k)):=by simp[cB,h]
theorem gg(L:Nat)(f:aQ):(cB L f).size=L:=by simp[cB]
theorem kq(L:Nat)(g a:aQ)(h:∀x,x<L->g x=a x):cB L g=cB L a:=by unfold cB;congr 1;apply UX;intro x b;rw[h x (by simpa using b)]
theorem tv(L:Nat)(g:aQ)(x v:Nat):(cB L g).setIfInBounds x (.int .u8 v)=cB L (λy=>if y=x then v else g y):=by
 apply Array.ext
 .simp [cB]
 .intro i b c;by_cases h:x=i
  .subst h;simp[cB]
  .have a:¬i=x:=λe=>h e.symm;simp[cB,h,a]
def lW(w:M)(v:QC)(n:Nat)(f:aQ):Prop:=
 ∃a c,v=.slice a n c/\(n=0\/∃b o,a=some (R b o)/\∀k,k<n->w.cell? ⟨b,o+k,none⟩=some (.int .u8 (f k)))
theorem lW.cS{w d:M}{v:QC}{n:Nat}{f:aQ}(h:lW w v n f)(i:au w d):lW d v n f:=by
 obtain⟨a,c,j,h⟩:=h;refine⟨a,c,j,?_⟩;rcases h with h|⟨b,o,l,e⟩
 .exact .inl h
 .refine .inr ⟨b,o,l,λk g=>?_⟩;rw[i.cell (p:=⟨b,o+k,none⟩) (QO w _ (e k g))];exact e k g
structure Out(S:Nat->Prop)(w w1:M):Prop where
 os:w1.os=w.os
 tape:w1.tape=w.tape
 output:w1.output=w.output
 size:w.heap.size<=w1.heap.size
 block:∀k,k<w.heap.size->¬S k->w1.heap[k]? =w.heap[k]?
theorem Out.refl(S:Nat->Prop)(w:M):Out S w w:=⟨rfl,rfl,rfl,QH _,λ_ _ _=>rfl⟩
theorem Out.mono{S T:Nat->Prop}{a b:M}(h:Out S a b)(d:∀k,k<a.heap.size->S k->T k):Out T a b:=
 ⟨h.os,h.tape,h.output,h.size,λk c e=>h.block k c λf=>e (d k c f)⟩
theorem Out.trans{S T:Nat->Prop}{a b c:M}(h:Out S a b)(k:Out T b c)(f:∀k,k<a.heap.size->T k->S k):Out S a c:=
 ⟨k.os.trans h.os,k.tape.trans h.tape,k.output.trans h.output,QE h.size k.size,λi d e=>(k.block i (RJ d h.size) λg=>e (f i d g)).trans (h.block i d e)⟩
theorem Out.tr{S:Nat->Prop}{a b c:M}(h:Out S a b)(k:Out S b c):Out S a c:=h.trans k λ_ _ h=>h
theorem Out.af{S:Nat->Prop}{w a:M}(h:au w a):Out S w a:=⟨h.os,h.tape,h.output,h.size,λk b _=>h.block k b⟩
theorem Out.then{S:Nat->Prop}{a b c:M}(h:Out S a b)(k:au b c):Out S a c:=h.tr (Out.af k)
theorem Out.below{S:Nat->Prop}{B:Nat}{w a:M}(h:Out S w a)(b:∀k,k<w.heap.size->S k->B<=k)(d:B<=w.heap.size):SC B w a:=
 ⟨h.os,h.tape,h.output,h.size,λk e=>h.block k J λc=>by have:=b k J c;omega⟩
theorem Out.alloc{S:Nat->Prop}{a w:M}(h:Out S a w)(o:Obj):Out S a (w.alloc o):=
 h.tr ⟨rfl,rfl,rfl,aJ,λk b _=>QW _ _ _ b⟩
theorem Out.drewN{S:Nat->Prop}{a w:M}(h:Out S a w)(n:Nat):Out S a (w.drewN n):=h.tr ⟨rfl,rfl,rfl,QH _,λ_ _ _=>rfl⟩
theorem Out.drew{S:Nat->Prop}{a w:M}(h:Out S a w):Out S a w.drew:=h.tr ⟨rfl,rfl,rfl,QH _,λ_ _ _=>rfl⟩
theorem Out.setCell{S:Nat->Prop}{a w:M}(h:Out S a w){p:SZ}(d:p.block<a.heap.size->S p.block)(u:QC):Out S a (w.setCell p u):=
 ⟨h.os,h.tape,h.output,by simp only[RS];exact h.size,λk b c=>(RP _ _ _ _ λe=>by subst e;exact c (d b)).trans (h.block k b c)⟩
theorem Out.grown{S:Nat->Prop}{a w f:M}{b:Option Nat}(h:Out S a w)(c:w.grownBy f b)(i:∀k,b=some k->k<a.heap.size->S k):Out S a f:=
 ⟨c.os.trans h.os,c.tape.trans h.tape,c.output.trans h.output,QE h.size c.size,λk d g=>(c.block k (RJ d h.size) λe=>g (i k e.symm d)).trans (h.block k d g)⟩
theorem Out.heap{S:Nat->Prop}{w a:M}(h:Out S w a){b:Nat}{o:Obj}(c:a_ w b o)(d:¬S b):a.heap[b]?=some o:=
 (h.block b (RC.1 c).1 d).trans c
theorem Out.own{S:Nat->Prop}{w d:M}(h:Out S w d){a:Nat}{e:SV}{size:Nat}{v:QC}{n:Nat}{xs:List QC}(f:w.ownsRow a e size v n xs)(i:∀k,v.ownBlock=some k->¬S k):d.ownsRow a e size v n xs:=by
 refine⟨f.1,?_⟩;rcases f.2 with j|⟨g,b,c,rfl,l,m,r⟩
 .exact .inl j
 .exact .inr ⟨g,b,c,rfl,l,h.heap m (i g rfl),r⟩
theorem aP{w b:M}(h:au w b){a:Nat}{e:SV}{size:Nat}{v:QC}{n:Nat}{xs:List QC}(c:w.ownsRow a e size v n xs):b.ownsRow a e size v n xs:=
 (Out.af (S:=λ_=>False) h).own c λ_ _ h=>h
theorem Fs{w:M}{a:Nat}{e:SV}{g n b:Nat}{xs:List QC}(h:w.ownsRow a e 1 (a' g n b) n xs)(k:Nat)(u:QC):(w.setCell (R g k) u).ownsRow a e 1 (a' g n b) n (xs.set k u):=by
 refine⟨by rw[List.length_set];exact h.1,?_⟩;rcases h.2 with⟨c,_⟩|⟨q,f,d,c,i,j,l,m,o,p⟩
 .cases c
 .cases c;refine .inr ⟨g,b,_,rfl,i,heap_setCell_same w g k d e u j,l,m,by simpa using o,?_⟩;rw[<-p];simp[List.take_set]
theorem oe{w:M}{a:Nat}{e:SV}{g n c:Nat}{xs:List QC}(h:w.ownsRow a e 1 (a' g n c) n xs){k:Nat}{u:QC}(f:xs[k]?=some u):w.cell? (R g k)=some u/\w.frozen? (R g k)=false:=by
 rcases h.2 with⟨d,_⟩|⟨m,i,b,d,o,j,p,q,r,l⟩
 .cases d
 .cases d;refine⟨?_,frozen_of_row w g k b e j⟩;rw[QT w g k b e (0,0) j,<-f,<-l,TH,ao]
  .simp
  .have:=(QS.1 f).1;rw[h.1]at this;exact this
def nF(s:Nat)(W:M)(v:QC)(n m:Nat)(b:QC)(c:M):Prop:=
 (∃g a,v= a' g n a/\b= a' g (n+m) a/\W.grownBy c (some g))\/((∃a,b= a' s (n+m) a)/\W.grownBy c none)
theorem nF.cS{s:Nat}{W f:M}{h a:QC}{N q:Nat}(l:nF s W h N q a f){b:Nat}{e:SV}{i m:Nat}{y:QC}{xs:List QC}(j:W.ownsRow b e i y m xs)(c:∀k,y.ownBlock=some k->h.ownBlock≠some k):f.ownsRow b e i y m xs:=by
 rcases l with⟨g,cap,rfl,rfl,d⟩|⟨⟨cap,rfl⟩,d⟩
 .exact j.kept d (.inr λe=>c g e rfl)
 .exact j.kept d (by cases y.ownBlock<;>simp)
theorem nF.block{s:Nat}{W d:M}{c a:QC}{N q:Nat}(e:nF s W c N q a d){k:Nat}(b:a.ownBlock=some k):c.ownBlock=some k\/k=s:=by
 rcases e with⟨g,cap,rfl,rfl,f⟩|⟨⟨cap,rfl⟩,f⟩
 .exact .inl (by simpa[WQ]using b)
 .simp [WQ]at b;exact .inr b.symm
theorem nF.out{s:Nat}{a W e:M}{f b:QC}{N q:Nat}{S:Nat->Prop}(i:nF s W f N q b e)(h:Out S a W)(j:∀k,f.ownBlock=some k->k<a.heap.size->S k):Out S a e:=by
 rcases i with⟨g,cap,rfl,rfl,c⟩|⟨⟨cap,rfl⟩,c⟩
 .exact h.grown c λk d=>by cases d;exact j _ rfl
 .exact h.grown c λk d=>by cases d
theorem nF.heap{s:Nat}{W d:M}{a b:QC}{N q:Nat}(e:nF s W a N q b d){p:Nat}{o:Obj}(h:a_ W p o)(c:a.ownBlock≠some p):d.heap[p]?=some o:=
 (e.out (S:=λk=>a.ownBlock=some k) (Out.refl _ _) λ_ h _=>h).heap h c
theorem nF.below{s B:Nat}{a W e:M}{f b:QC}{N q:Nat}(j:nF s W f N q b e)(h:SC B a W)(i:B<=W.heap.size)(l:∀k,f.ownBlock=some k->B<=k):SC B a e:=by
 rcases j with⟨g,cap,rfl,rfl,c⟩|⟨⟨cap,rfl⟩,c⟩
 .exact h.grown c i λk d=>by cases d;exact l _ rfl
 .exact h.grown c i λk d=>by cases d
section
variable {P:Program} (w:QA)
theorem iJ(l:Nat)(t ty e:SV)(i:TypeInfo)(z:QC)(size bytes:Nat)(L:P.underlying t=some (.slice e))(O:P.info? e=some i)(S:i.zero=some z)(q:i.size=size)(D:i.bytes=bytes)(T:z.cells.size=size)(U:0<size)(v:QC)(n:Nat)(xs:List QC)(p:w.ownsRow l e size v n xs)(a:SZ)(m c:Nat)(b:List QC)(E:b.length=m*size)(d:∀j u,b[j]?=some u->w.cell? (a.add j)=some u)(Z:∀u∈b,u.oneCell'=true)(H:0<m)(F:n+m<=UI)(f:(n+m)*bytes<=140737488355328)(x:l<=w.heap.size):
  ∃B C,(Builtin.append_ #[t,t] ty #[v,.slice (some a) m c]).run P w=.ok B C/\C.ownsRow l e size B (n+m) (xs++b)/\
   ((∃g h,v= a' g n h/\B= a' g (n+m) h/\w.grownBy C (some g))\/((∃h,B= a' w.heap.size (n+m) h)/\w.grownBy C none)):=by
 obtain⟨B,C,y,N,M,-⟩:=run_append_own (P:=P) w l t ty e i z size bytes L O S q D T U v n xs p a m c b E d Z F f x;refine⟨B,C,y,N,?_⟩;subst q;subst D;have Q:n+m<=9223372036854775807:=by simp only[UI]at F;omega
 have r:∀o,w.grownBy (w.drew.alloc o) none:=λo=>⟨rfl,rfl,rfl,aJ,λk R _=>QW w.drew o k R⟩;rcases p.2 with⟨rfl,rfl⟩|⟨g,h,G,rfl,I,V,Y,J,W,X⟩
 .have:=run_append_nil (P:=P) w t ty e i z L O S a m c b E d H aa (by have a0:=f;simp only[RH]at a0;omega);rw[this]at y;cases y;exact .inr ⟨⟨_,by rw[RH]⟩,r _⟩
 .by_cases s:n+m<=h
  .have K:n*i.size+b.length<=G.size:=by rw[E,W,<-Nat.add_mul];exact WC _ s
   have:=run_append_room (P:=P) w t ty e i L O g n h G V a m c b E d Z s K;rw[this]at y;cases y;exact .inl ⟨g,h,rfl,rfl,M⟩
  .have A:∀j u,xs[j]?=some u->w.cell? (((ag g 0):SZ).add j)=some u:=p.cells (g:=g) rfl;have:=run_append_grow (P:=P) w t ty e i z L O S (ag g 0) n h xs p.1 A a m c b E d aa aa (growslice_fits aa f);rw[this]at y;cases y;exact .inr ⟨⟨_,rfl⟩,r _⟩
theorem aU{q:Array Oper}{g:List Oper}{o:Oper}{a:Act}{Q:Exit->Act->QA->Prop}(B:o.guard=none)(s x:Operand)(t:SV)(L:o.op=.call {callee:=.builtin .append,args:= #[s,x],argTypes:= #[t,t]})(d:Nat)(e:SV)(i:TypeInfo)(z:QC)(size bytes:Nat)(O:P.underlying t=some (.slice e))(S:P.info? e=some i)(T:i.zero=some z)(k:i.size=size)(C:i.bytes=bytes)(D:z.cells.size=size)(E:0<size)(v:QC)(n:Nat)(xs:List QC)(U:a.eval s=v)(r:w.ownsRow d e size v n xs)(F:SZ)(m c:Nat)(b:List QC)(V:a.eval x=.slice (some F) m c)(W:b.length=m*size)(l:∀j u,b[j]?=some u->w.cell? (F.add j)=some u)(X:∀u∈b,u.oneCell'=true)(Z:0<m)(G:n+m<=UI)(f:(n+m)*bytes<=140737488355328)(p:d<=w.heap.size)(h:∀y A,A.ownsRow d e size y (n+m) (xs++b)->nF w.heap.size w v n m y A->wpList P q Q g (a.put o.dst y) A):wpList P q Q (o::g) a w:=
 wpList_plain B λK H=>by obtain⟨y,A,N,M,R⟩:=iJ (P:=P) w d t o.type e i z size bytes O S T k C D E v n xs r F m c b W l X Z G f p;unfold Oper.wp execOp;simp only[L,resolve,invoke,builtin,RZ,VA,RI,List.map_toArray,TS,XR,U,V,N];exact H _ _ (h y A M R)
end
theorem eX{w:M}{c:Nat}{e:SV}{v:QC}{n:Nat}{xs:List QC}(h:w.ownsRow c e 1 v n xs):∃a b,v=.slice a n b/\n<=b/\(n=0\/∃g,a=some (R g 0)):=by
 rcases h.2 with⟨rfl,rfl⟩|⟨g,b,d,rfl,_,_,f,_⟩
 .exact ⟨none,0,rfl,QH _,.inl rfl⟩
 .exact ⟨_,_,rfl,f,.inr ⟨g,rfl⟩⟩
def aA(L:Nat)(f:aQ):List QC:=(TT L).map λk=>SK .u8 (f k)
theorem aH(L:Nat)(f:aQ):(aA L f).length=L:=by simp[aA]
theorem ba(L:Nat)(f:aQ)(k:Nat)(h:k<L):(aA L f)[k]?=some (.int .u8 (f k)):=by simp[aA,h]
theorem dg(L:Nat)(f:aQ):∀u∈aA L f,u.oneCell'=true:=by intro u a;simp only[aA,RQ]at a;obtain⟨q,_,rfl⟩:=a;rfl
theorem ee{L:Nat}{f g:aQ}(h:∀k,k<L->f k=g k):aA L f=aA L g:=by unfold aA;apply UX;intro x a;rw[h x (by simpa using a)]
theorem iK(b o q:Nat):((R b o):SZ).add q=⟨b,o+q,none⟩:=by unfold Addr.add;split<;>simp_all
def Pw(X:Nat->Prop)(w:M)(v:QC)(n:Nat)(f:aQ):Prop:=
 ∃a c,v=.slice a n c/\(n=0\/∃b o,a=some (R b o)/\¬X b/\∀k,k<n->w.cell? ⟨b,o+k,none⟩=some (.int .u8 (f k)))
theorem Out.cell{S:Nat->Prop}{w a:M}(h:Out S w a){p:SZ}{v:QC}(b:w.cell? p=some v)(c:¬S p.block):a.cell? p=some v:=by rw[QQ (h.block p.block (QO w _ b) c)];exact b
theorem tw{w:M}{a:Nat}{e:SV}{g n b f:Nat}{xs:List QC}(h:w.ownsRow a e f (a' g n b) n xs)(k:Nat)(u:QC):(w.setCell (R g k) u).ownsRow a e f (a' g n b) n (xs.set k u):=by
 refine⟨by rw[List.length_set];exact h.1,?_⟩;rcases h.2 with⟨c,_⟩|⟨r,i,d,c,j,l,m,o,p,q⟩
 .cases c
 .cases c;refine .inr ⟨g,b,_,rfl,j,heap_setCell_same w g k d e u l,m,o,by simpa using p,?_⟩;rw[<-q];simp[List.take_set]
theorem bz{w:M}{a:Nat}{e:SV}{g n c l:Nat}{xs:List QC}(h:w.ownsRow a e l (a' g n c) n xs){k:Nat}{u:QC}(f:xs[k]?=some u):w.cell? (R g k)=some u/\w.frozen? (R g k)=false:=by
 rcases h.2 with⟨d,_⟩|⟨o,i,b,d,p,j,q,r,s,m⟩
 .cases d
 .cases d;refine⟨?_,frozen_of_row w g k b e j⟩;rw[QT w g k b e (0,0) j,<-f,<-m,TH,ao]
  .simp
  .have:=(QS.1 f).1;rw[h.1]at this;exact this
theorem av{w:M}{b:Nat}{e:SV}{d:Nat}{v:QC}{n:Nat}{xs:List QC}(h:w.ownsRow b e d v n xs):∃a c,v=.slice a n c/\(n=0\/∃g,a=some (R g 0)):=by
 rcases h.2 with⟨rfl,rfl⟩|⟨g,c,f,rfl,_⟩
 .exact ⟨none,0,rfl,.inl rfl⟩
 .exact ⟨_,_,rfl,.inr ⟨g,rfl⟩⟩
theorem cu{w:M}{b f:Nat}{e:SV}{i:Nat}{v:QC}{n:Nat}{xs:List QC}(h:w.ownsRow b e i v n xs)(j:f<=b):w.ownsRow f e i v n xs:=by
 obtain⟨k,a⟩:=h;refine⟨k,?_⟩;rcases a with a|⟨g,c,d,l,m,r⟩
 .exact .inl a
 .exact .inr ⟨g,c,d,l,QE j m,r⟩
theorem Out.setRow{S:Nat->Prop}{a w:M}(h:Out S a w){g:Nat}(f:g<a.heap.size->S g)(b:Array QC):Out S a (w.setRow g b):=
 ⟨h.os,h.tape,h.output,by simp only[World.setRow,Array.size_modify];exact h.size,λk c d=>(setRow_other w g k b λe=>by subst e;exact d (f c)).trans (h.block k c d)⟩
theorem fi{α:Type}(L b:List α)(a k:Nat)(h:a+b.length<=L.length):(YG L a b)[k]?=if a<=k/\k<a+b.length then b[k-a]? else L[k]?:=by
 unfold YG;rw[List.getElem?_append,VD,WK J];by_cases c:k<a
 .rw [ao c,aq J,TH,ao c]
 .rw [aq c,List.getElem?_append];by_cases d:k-a<b.length
  .rw [ao d,ao J]
  .rw [aq d,aq J,List.getElem?_drop];congr 1;omega
theorem iL{α:Type}(L b:List α)(a n:Nat)(h:a+b.length<=n)(d:n<=L.length):(YG L a b).take n=YG (L.take n) a b:=by
 apply TN;intro k;have e:(L.take n).length=n:=by rw[VD];omega
 rw[TH,fi _ _ _ _ J,fi _ _ _ _ J];by_cases c:k<n
 .simp [c]
 .rw [aq c,aq J,TH,aq c]
section
variable {P:Program} (w:QA)
theorem j'(q u ty a:SV)(k g n o c f l:Nat)(xs:List QC)(h:w.ownsRow k a 1 (a' g n o) n xs)(r:SZ)(i m:Nat)(e:List QC)(A:P.underlying q=some (.slice a))(B:(P.info? a).map (·.size)=some 1)(C:e.length=Nat.min i f)(x:c+e.length<=n)(p:∀j v,e[j]?=some v->w.cell? (r.add j)=some v)(D:∀v∈e,v.oneCell'=true):
  ∃s,(Builtin.copy_ #[q,u] ty #[.slice (some (R g c)) f l,.slice (some r) i m]).run P w=.ok (goInt e.length) s/\
   s.ownsRow k a 1 (a' g n o) n (YG xs c e)/\Out (λb=>b=g) w s:=by
 rcases h.2 with⟨t,_⟩|⟨T,y,d,t,E,z,F,G,K,L⟩
 .cases t
 cases t;refine⟨_,run_copy_row P w q u ty a g c f l r i m d a e A B z C p J D,?_,Out.setRow (S:=λb=>b=g) (Out.refl _ _) (g:=g) (λ_=>rfl) _⟩;have O:c+e.length<=d.toList.length:=aR;have Q:d.toList.take c++e++d.toList.drop (c+e.length)=YG d.toList c e:=by rw[SY];rfl
 rw[Q];refine⟨by rw[length_splice _ _ _ (by have:=h.1;omega)];exact h.1,.inr ⟨g,o,_,rfl,E,setRow_heap w g d _ a _ z,F,G,?_,?_⟩⟩
 .show (YG d.toList c e).toArray.size=_;rw[VW,length_splice _ _ _ O];simpa using K
 .show (YG d.toList c e).take _=_;rw[iL _ _ _ _ J aR,L]
theorem ef{t:Array Oper}{l:List Oper}{o:Oper}{a:Act}{Q:Exit->Act->M->Prop}(A:o.guard=none)(d s:Operand)(B D:SV)(E:o.op=.call {callee:=.builtin .copy,args:= #[d,s],argTypes:= #[B,D]})(c:SV)(e g n q k f m:Nat)(xs:List QC)(u:w.ownsRow e c 1 (a' g n q) n xs)(C:SZ)(i p:Nat)(r:List QC)(F:P.underlying B=some (.slice c))(G:(P.info? c).map (·.size)=some 1)(L:a.eval d=.slice (some (R g k)) f m)(O:a.eval s=.slice (some C) i p)(S:r.length=Nat.min i f)(x:k+r.length<=n)(y:∀j v,r[j]?=some v->w.cell? (C.add j)=some v)(T:∀v∈r,v.oneCell'=true)(h:∀z,z.ownsRow e c 1 (a' g n q) n (YG xs k r)->Out (λb=>b=g) w z->wpList P t Q l (a.put o.dst (goInt r.length)) z):wpList P t Q (o::l) a w:=
 wpList_plain A λK U=>by obtain⟨z,V,W,X⟩:=j' (P:=P) w B D o.type c e g n q k f m xs u C i p r F G S x y T;unfold Oper.wp execOp;simp only[E,resolve,invoke,builtin,RZ,VA,RI,List.map_toArray,TS,XR,L,O,V];exact U _ _ (h z W X)
theorem gn{r:Array Oper}{o:Oper}{a:Act}{K:Act->M->Prop}{Q:Exit->Act->M->Prop}{E:Prop}(z:o.guard=none)(d s:Operand)(A C:SV)(D:o.op=.call {callee:=.builtin .copy,args:= #[d,s],argTypes:= #[A,C]})(c:SV)(e g n p k f l:Nat)(xs:List QC)(t:w.ownsRow e c 1 (a' g n p) n xs)(B:SZ)(i m:Nat)(q:List QC)(F:P.underlying A=some (.slice c))(G:(P.info? c).map (·.size)=some 1)(L:a.eval d=.slice (some (R g k)) f l)(O:a.eval s=.slice (some B) i m)(S:q.length=Nat.min i f)(u:k+q.length<=n)(x:∀j v,q[j]?=some v->w.cell? (B.add j)=some v)(T:∀v∈q,v.oneCell'=true)(h:∀y,y.ownsRow e c 1 (a' g n p) n (YG xs k q)->Out (λb=>b=g) w y->K (a.put o.dst (goInt q.length)) y):
  if WT o (yielded r a.tmps)=true then Oper.wp P o a w K Q else E:=by
 have U:WT o (yielded r a.tmps)=true:=by simp[WT,z]
 rw[ao U];obtain⟨y,V,W,X⟩:=j' (P:=P) w A C o.type c e g n p k f l xs t B i m q F G S u x T;unfold Oper.wp execOp;simp only[D,resolve,invoke,builtin,RZ,VA,RI,List.map_toArray,TS,XR,L,O,V];exact h y W X
end
section
variable {P:Program} (w:QA)
end
section
variable {P:Program} (w:QA)
theorem dc{p:Array Oper}{o:Oper}{a:Act}{K:Act->QA->Prop}{Q:Exit->Act->QA->Prop}{E:Prop}(A:o.guard=none)(s x:Operand)(t:SV)(L:o.op=.call {callee:=.builtin .append,args:= #[s,x],argTypes:= #[t,t]})(d:Nat)(e:SV)(i:TypeInfo)(z:QC)(size bytes:Nat)(O:P.underlying t=some (.slice e))(S:P.info? e=some i)(T:i.zero=some z)(g:i.size=size)(B:i.bytes=bytes)(C:z.cells.size=size)(D:0<size)(v:QC)(n:Nat)(xs:List QC)(U:a.eval s=v)(q:w.ownsRow d e size v n xs)(F:SZ)(m c:Nat)(b:List QC)(V:a.eval x=.slice (some F) m c)(W:b.length=m*size)(k:∀j u,b[j]?=some u->w.cell? (F.add j)=some u)(X:∀u∈b,u.oneCell'=true)(Z:0<m)(G:n+m<=UI)(f:(n+m)*bytes<=140737488355328)(l:d<=w.heap.size)(h:∀r y,y.ownsRow d e size r (n+m) (xs++b)->nF w.heap.size w v n m r y->K (a.put o.dst r) y):
  if WT o (yielded p a.tmps)=true then Oper.wp P o a w K Q else E:=by
 have H:WT o (yielded p a.tmps)=true:=by simp[WT,A]
 rw[ao H];obtain⟨r,y,N,M,R⟩:=iJ (P:=P) w d t o.type e i z size bytes O S T g B C D v n xs q F m c b W k X Z G f l;unfold Oper.wp execOp;simp only[L,resolve,invoke,builtin,RZ,VA,RI,List.map_toArray,TS,XR,U,V,N];exact h r y M R
end
end
def isAgg:QC->Bool
 | .agg _=>true
 |_=>false
def ty:Obj->Nat
 | .cells _ e _=>e
 | .map es _=>if es.toList.any (λe=>isAgg e.key)then 1000002 else 1000000
 |_=>1000001
theorem hO(a:Array TE)(c:Nat):ty (.map a c)≠5:=by simp only[ty];split<;>decide
class Lo where
 lo:Nat
structure Fr[Lo](T:List Nat)(S:Nat->Prop)(w w1:M):Prop where
 os:w1.os=w.os
 tape:w1.tape=w.tape
 output:w1.output=w.output
 size:w.heap.size<=w1.heap.size
 block:∀k o,w.heap[k]? =some o->(T.contains (ty o)=false\/k<Lo.lo)->¬S k->w1.heap[k]? =some o
def aF(_:Nat):Prop:=False
theorem Z_(h:a_ w n O):n<w.heap.size:=(RC.1 h).1
theorem Fr.refl[Lo](T:List Nat)(S:Nat->Prop)(w:M):Fr T S w w:=⟨rfl,rfl,rfl,QH _,λ_ _ h _ _=>h⟩
theorem Fr.mono[Lo]{T a:List Nat}(h:Fr T S w W)(c:∀t,a.contains t=false->T.contains t=false)(d:∀k,k<w.heap.size->S k->Q k):Fr a Q w W:=
 ⟨h.os,h.tape,h.output,h.size,λk o b f g=>h.block k o b (f.imp (c _) id) λe=>g (d k (Z_ b) e)⟩
theorem ID{T a:List Nat}(h:T.all (λt=>a.contains t)=true):∀t,a.contains t=false->T.contains t=false:=by
 intro t b;cases c:T.contains t with
 |false=>rfl
 |true=>have:=WD.1 h t (List.contains_iff_mem.1 c);rw[b]at this;cases this
theorem Fr.wide[Lo](a:List Nat)(h:Fr T S w W)(b:T.all (λt=>a.contains t)=true):Fr a S w W:=h.mono (ID b) λ_ _ h=>h
theorem Fr.any[Lo](h:Fr T aF w W):Fr T S w W:=h.mono (λ_ h=>h) λ_ _ h=>h.elim
theorem Fr.trans[Lo](h:Fr T S w W)(k:Fr T Q W z)(d:∀k,k<w.heap.size->Q k->S k):Fr T S w z:=
 ⟨k.os.trans h.os,k.tape.trans h.tape,k.output.trans h.output,QE h.size k.size,λi o a b c=>k.block i o (h.block i o a b c) b λe=>c (d i (Z_ a) e)⟩
theorem Fr.tr[Lo](h:Fr T S w W)(k:Fr T S W z):Fr T S w z:=h.trans k λ_ _ h=>h
theorem Fr.heap[Lo](h:Fr T S w W)(a:a_ w n O)(b:T.contains (ty O)=false)(c:¬S n):W.heap[n]?=some O:=h.block n O a (.inl b) c
theorem Fr.hp[Lo](h:Fr T aF w W)(a:a_ w n O)(b:T.contains (ty O)=false):W.heap[n]?=some O:=h.block n O a (.inl b) id
theorem Fr.lt[Lo](h:Fr T S w W){b:Nat}(a:b<w.heap.size):b<W.heap.size:=RJ a h.size
theorem Fr.out[Lo](h:Fr T S w W)(k:Out Q W z)(c:∀k,k<w.heap.size->Q k->S k):Fr T S w z:=
 ⟨k.os.trans h.os,k.tape.trans h.tape,k.output.trans h.output,QE h.size k.size,λi o a d b=>k.heap (h.block i o a d b) λe=>b (c i (Z_ a) e)⟩
theorem Fr.vY[Lo](h:Out S w W):Fr T S w W:=(Fr.refl T S w).out h λ_ _ h=>h
theorem Fr.af[Lo](h:au w W):Fr T S w W:=(Fr.refl T S w).out (Out.af (S:=λ_=>False) h) λ_ _ h=>h.elim
theorem Fr.then[Lo](h:Fr T S w W)(k:au W z):Fr T S w z:=h.out (Out.af (S:=λ_=>False) k) λ_ _ h=>h.elim
theorem Fr.low[Lo](h:Fr T S w W)(k:SC n W z)(b:w.heap.size<=n):Fr T S w z:=
 ⟨k.os.trans h.os,k.tape.trans h.tape,k.output.trans h.output,QE h.size k.size,λi o a c d=>(k.block i (RJ (Z_ a) b)).trans (h.block i o a c d)⟩
theorem Fr.alloc[Lo](h:Fr T S W w)(o:Obj):Fr T S W (w.alloc o):=h.then (aI ak o)
theorem Fr.drewN[Lo](h:Fr T S W w)(n:Nat):Fr T S W (w.drewN n):=h.out ((Out.refl (λ_=>False) _).drewN n) λ_ _ h=>h.elim
theorem Fr.drew[Lo](h:Fr T S W w):Fr T S W w.drew:=h.out ((Out.refl (λ_=>False) _).drew) λ_ _ h=>h.elim
theorem Fr.set[Lo](h:Fr T S W w)(d:w.heap[p.block]?=some O)(f:T.contains (ty O)=true)(g:Lo.lo<=p.block)(u:QC):Fr T S W (w.setCell p u):=
 ⟨h.os,h.tape,h.output,by rw[RS];exact h.size,λi j k a l=>by
  have b:=h.block i j k a l;refine(RP _ _ _ _ λe=>?_).trans b;subst e;rw[d]at b;cases b;rcases a with a|c
  .rw [f]at a;cases a
  .exact absurd g (Nat.not_le_of_lt c)⟩
theorem Fr.new[Lo](h:Fr T S W w)(a:W.heap.size<=p.block)(u:QC):Fr T S W (w.setCell p u):=
 h.out ((Out.refl (λk=>k=p.block) w).setCell (λ_=>rfl) u) λk b e=>absurd e J
theorem Fr.own[Lo](h:Fr T S w W)(c:w.ownsRow m t i v n L)(d:T.contains t=false)(e:∀k,v.ownBlock=some k->¬S k):W.ownsRow m t i v n L:=by
 refine⟨c.1,?_⟩;rcases c.2 with f|⟨g,a,b,rfl,j,l,r⟩
 .exact .inl f
 .exact .inr ⟨g,a,b,rfl,j,h.heap l d (e g rfl),r⟩
def cR(w:M)(v:QC)(n:Nat)(f:aQ):Prop:=
 ∃a c,v=.slice a n c/\(n=0\/∃b o d e,a=some (R b o)/\w.heap[b]?=some (.cells d 5 e)/\∀k,k<n->d[o+k]?=some (.int .u8 (f k)))
theorem cR.Bz(h:cR w v n f):lW w v n f:=by
 obtain⟨a,c,d,h⟩:=h;refine⟨a,c,d,?_⟩;rcases h with h|⟨b,o,e,g,i,j,h⟩
 .exact .inl h
 .exact .inr ⟨b,o,i,λk l=>(QT w b (o+k) e 5 g j).trans (h k l)⟩
theorem cR.fr[Lo](h:cR w v n f)(d:Fr T aF w W)(e:T.contains 5=false):cR W v n f:=by
 obtain⟨a,c,g,h⟩:=h;refine⟨a,c,g,?_⟩;rcases h with h|⟨b,o,i,j,k,l,h⟩
 .exact .inl h
 .exact .inr ⟨b,o,i,j,k,d.hp l e,h⟩
theorem cR.below(h:cR w v n f)(a:au w W):cR W v n f:=by
 letI:Lo:=⟨0⟩
 exact h.fr (T:= []) (Fr.af a) rfl
theorem cR.congr{f g:aQ}(h:cR w v n f)(e:∀k,k<n->f k=g k):cR w v n g:=by
 obtain⟨a,c,rfl,h⟩:=h;refine⟨a,c,rfl,?_⟩;rcases h with h|⟨b,o,i,j,rfl,l,h⟩
 .exact .inl h
 .exact .inr ⟨b,o,i,j,rfl,l,λk d=>by rw[h k d,e k d]⟩
theorem fX(h:w.ownsRow m 5 1 v n (aA n f)):cR w v n f:=by
 rcases h.2 with⟨rfl,rfl⟩|⟨g,c,a,rfl,i,d,j,o,p,e⟩
 .exact ⟨none,0,rfl,.inl rfl⟩
 .refine ⟨_,_,rfl,.inr ⟨g,0,a,_,rfl,d,λk b=>?_⟩⟩;have:=congrArg (λl=>l[k]?) e;simp only[TH,TZ,ba n f k b,ao b]at this;rw[RH];simpa using this
abbrev G(m c s:Int):QC:=.agg #[Y m,Y c,Y s]
abbrev Sh(m c s d:Int):QC:=.agg #[Y m,Y c,Y s,Y d]
theorem HL(a:au W w):(∀b o,b<W.heap.size->w.cell? (R b o)=W.cell? (R b o))/\(∀b o,b<W.heap.size->w.frozen? (R b o)=W.frozen? (R b o)):=
 ⟨λb o h=>a.cell (p:=R b o) h,λb o h=>a.frozen (p:=R b o) h⟩
theorem ws(m:Int)(h:3<=m/\m<=16):WV (m-1)=m-1:=IntWalk.wrap64_in _ ⟨J,J⟩
theorem tx(m c s:Int)(w:M)(h:3<=m/\m<=16/\1<=c/\c<=16/\1<=s/\s<=256):
  aE 26 #[G m c s] w λe a=>aK e (aG 0)/\au w a:=by
 obtain⟨b,d,f,g,i,j⟩:=h;go_enter func26,ntmps26;go_wp2;go_ret;exact⟨rfl,ak.alloc (QH _) _⟩
theorem IE(m c s k:Int)(w:M)(b:∀w,aE 26 #[G m c s] w λe a=>aK e (.int .u16 k)/\au w a):
  aE 46 #[G m c s] w λe a=>aK e (.tuple #[Sh m c s (WV (m-1)),.int .u16 k])/\au w a:=by
 have H:=I b;go_enter func46,ntmps46;go_wp2;go_region_held3(λa=>a.cell? (R w.heap.size 0)=some (Y m)/\a.cell? (R w.heap.size 1)=some (Y c)/\a.cell? (R w.heap.size 2)=some (Y s)) (first|go_keep|(simp[b,go_sem];done))
  (first|(go_at_call 26;refine(H _).mono ?_;rintro e g ⟨rfl,d⟩;obtain⟨b,h⟩:=HL d))
 rename_i g d _;go_wp2;obtain⟨b,h⟩:=HL d;refine QR (v:=.tuple #[Sh m c s (WV (m-1)),.int .u16 k]) (by simp[RM,results46,go_sem,b,IntWalk.i64_left]) rfl ⟨rfl,?_⟩;have f:=((((SL w.heap.size w).alloc (QH _) (N #[Y m,Y c,Y s] 39)).alloc aJ (N #[Y 0,Y 0,Y 0,Y 0] 95)).drew).trans (d.mono (by simp[go_sem];omega));exact(((f.setCell (p:=⟨w.heap.size+1,0,none⟩) aJ _).setCell aJ _).setCell aJ _).setCell aJ _
theorem tz(m c s:Int)(w:M)(h:3<=m/\m<=16/\1<=c/\c<=16/\1<=s/\s<=256):
  aE 46 #[G m c s] w λe a=>aK e (.tuple #[Sh m c s (m-1),aG 0])/\au w a:=by
 have:=IE m c s 0 w (λw=>tx m c s w h);rw[ws m J]at this;exact this
theorem bce(a:au W w):(∀b o,(W.cell? (R b o)).isSome=true->w.cell? (R b o)=W.cell? (R b o))/\(∀b o,(W.cell? (R b o)).isSome=true->w.frozen? (R b o)=W.frozen? (R b o)):=by
 refine⟨λb o h=>?_,λb o h=>?_⟩
 all_goals obtain⟨v,c⟩:=WB.1 h
 all_goals have:=QO W _ c
 .exact a.cell (p:=R b o) this
 .exact a.frozen (p:=R b o) this
structure ZY(m c s:Int):Prop where
 m3:3<=m
 m16:m<=16
 c1:1<=c
 pZ:c<=16
 s1:1<=s
 hj:s<=256
theorem ZY.iff(m c s:Int):ZY m c s↔(3<=m/\m<=16/\1<=c/\c<=16/\1<=s/\s<=256):=⟨λh=>⟨h.1,h.2,h.3,h.4,h.5,h.6⟩,λ⟨a,b,c,d,e,f⟩=>⟨a,b,c,d,e,f⟩⟩
theorem l_{a b A B:Int}(d:0<=a)(e:a<=A)(c:0<=b)(f:b<=B):0<=a*b/\a*b<=A*B:=
 ⟨Int.mul_nonneg d c,Int.mul_le_mul e f c J⟩
theorem ZY.rows{m c s:Int}(h:ZY m c s):0<=s*c/\s*c<=4096:=by have:=l_ (a:=s) (b:=c) (A:=256) (B:=16) (by have:=h.s1;omega) h.hj (by have:=h.c1;omega) h.pZ;omega
theorem ZY.blocks{m c s:Int}(h:ZY m c s):0<=s*c*(m-1)/\s*c*(m-1)<=61440:=by have:=l_ (a:=s*c) (b:=m-1) (A:=4096) (B:=15) h.rows.1 h.rows.2 (by have:=h.m3;omega) (by have:=h.m16;omega);omega
theorem iM(m c s d:Int)(w:M)(h:0<=s*c)(b:s*c<=4096):
  aE 47 #[Sh m c s d] w λe a=>aK e (Y (s*c))/\au w a:=by
 go_enter func47,ntmps47;go_wp2;go_ret;exact⟨rfl,ak.alloc (QH _) _⟩
def par(m n:Int):Int:=m-1-n%m
def mem(m n i:Int):Int:=(par m n+1+i)%m
theorem IF(n:Int)(h:3<=c):0<=par c n/\par c n<c:=by unfold par;have:=WN n (show c≠0 by omega);have:=VQ n (show 0<c by omega);omega
theorem kr(m c s d n:Int)(w:M)(h:0<=n)(f:3<=m)(a:m<=16):
  aE 248 #[Sh m c s d,Y n] w λe b=>aK e (Y (par m n))/\au w b:=by
 have g:=WN n (show m≠0 by omega);have i:=VQ n (show 0<m by omega);go_enter func248,ntmps248;go_wp2;go_quiet(fail);go_wp2;go_ret;exact⟨rfl,(ak.alloc (QH _) _).trans ⟨rfl,rfl,rfl,QH _,λ_ _=>rfl⟩⟩
theorem Ft{k:IntKind}{a b:Int}(h:a=b):Ending.returned (.int k a)=.returned (.int k b):=by rw[h]
theorem ks(m c s d n i:Int)(w:M)(h:0<=n)(g:3<=m)(f:m<=16)(t:0<=i)(j:i<m):
  aE 195 #[Sh m c s d,Y n,Y i] w λe b=>aK e (Y (mem m n i))/\au w b:=by
 have k:=IF n g;obtain⟨l,o⟩:=k;have p:QK.wrap (par m n+1)=par m n+1:=SQ _ J;have u:QK.wrap (par m n+1+i)=par m n+1+i:=SQ _ J;have q:0<=par m n+1+i:=J;have v:¬m=0:=J;go_enter func195,ntmps195;go_wp2;go_region_held3(λb=>b.cell? (R w.heap.size 0)=some (Y m)/\b.cell? (R w.heap.size 1)=some (Y c)/\b.cell? (R w.heap.size 2)=some (Y s)/\b.cell? (R w.heap.size 3)=some (Y d)) ((simp[*,go_sem];done))
  (first|(go_at_call 248;refine(kr _ _ _ _ _ _ h g f).mono ?_;rintro e p ⟨rfl,r⟩;obtain⟨x,y⟩:=bce r))
 all_goals go_wp2
 go_ret;exact⟨Ft (a:=(par m n+1+i).tmod m) (UH q),via (aI ak _).drew (by assumption)⟩
theorem hl(m c s:Int)(w:M)(h:ZY m c s):
  aE 27 #[G m c s] w λe f=>aK e (Y (s*c))/\au w f:=by
 have b:=h.rows;have g:=I ((ZY.iff m c s).1 h);go_enter func27,ntmps27;go_wp2_with(first|(go_at_call 46;refine(tz _ _ _ _ g).mono ?_;rintro e i ⟨rfl,d⟩;obtain⟨j,k⟩:=bce d)|(go_at_call 47;refine(iM _ _ _ _ _ b.1 b.2).mono ?_;rintro e l ⟨rfl,a⟩));go_ret;exact⟨rfl,via (aI (via (aI ak _) d) _) a⟩
theorem vZ(m c s:Int)(w:M)(h:ZY m c s):
  aE 164 #[G m c s] w λe a=>aK e (Y (s*c*(m-1)))/\au w a:=by
 obtain⟨b,d⟩:=h.blocks;have f:=h.m3;have g:=h.m16;have i:=I h;have k:QK.wrap (m-1)=m-1:=SQ _ J;have l:QK.wrap (s*c*(m-1))=s*c*(m-1):=SQ _ J;go_enter func164,ntmps164;go_wp2;go_region_held3(λa=>a.cell? (R w.heap.size 0)=some (Y m)/\a.cell? (R w.heap.size 1)=some (Y c)/\a.cell? (R w.heap.size 2)=some (Y s)) ((simp[*,go_sem];done))
  (first|(go_at_call 27;refine(hl _ _ _ _ i).mono ?_;rintro e n ⟨rfl,j⟩;obtain⟨o,p⟩:=bce j))
 all_goals go_wp2
 go_ret;exact⟨rfl,via (aI ak _).drew (by assumption)⟩
theorem v_(m c s r:Int)(w:M)(h:ZY m c s)(a:0<=r)(q:r<s*c):
  aE 355 #[G m c s,Y r] w λe b=>aK e (.tuple #[Y (par m (r/c)),aG 0])/\au w b:=by
 obtain⟨g,i⟩:=h.rows;have j:=h.m3;have k:=h.m16;have t:=h.c1;have l:0<=r/c:=ZI a J;have o:r/c<=r:=Int.ediv_le_self _ a;have B:r.tdiv c=r/c:=VH a;have u:QK.wrap (r/c)=r/c:=SQ _ J;have C:¬c=0:=J;have v:=I ((ZY.iff m c s).1 h);go_enter func355,ntmps355;go_wp2_with(first|(go_at_call 46;refine(tz _ _ _ _ v).mono ?_;rintro e f ⟨rfl,p⟩;obtain⟨D,E⟩:=bce p)|(go_at_call 47;refine(iM _ _ _ _ _ g i).mono ?_;rintro e F ⟨rfl,d⟩;obtain⟨x,y⟩:=bce d));go_region_held3(λb=>b.cell? (R f.heap.size 0)=some (Y m)/\b.cell? (R f.heap.size 1)=some (Y c)/\b.cell? (R f.heap.size 2)=some (Y s)/\b.cell? (R f.heap.size 3)=some (Y (m-1))) ((simp[*,go_sem];done))
  (first|(go_at_call 248;refine(kr _ _ _ _ _ _ l j k).mono ?_;rintro e K ⟨rfl,n⟩;obtain⟨z,A⟩:=bce n))
 go_wp2;go_ret2;exact⟨rfl,via (via (aI (via (aI ak _) p) _) d).drew (by assumption)⟩
def Pl(a b c d:Int):QC:=.agg #[Y a,Y b,Y c,Y d]
theorem IG(m c s b:Int)(w:QA)(h:ZY m c s)(q:0<=b)(I:b<s*c*(m-1)):
  Calls VY 165 #[G m c s,.int .i64 b] w λe d=>e=.returned (.tuple #[Pl (b/((m-1)*c)) (b/((m-1)*c)*c+b%((m-1)*c)%c) (mem m (b/((m-1)*c)) (b%((m-1)*c)/c)) (par m (b/((m-1)*c))),.int .u16 0])/\SC w.heap.size w d:=by
 obtain⟨r,t⟩:=h.rows;obtain⟨Y,J⟩:=h.blocks;have j:=h.m3;have k:=h.m16;have a4:=h.c1;have a5:=h.pZ;have a6:=h.s1;have a7:=h.hj;have a8:=RB ((ZY.iff m c s).1 h);obtain⟨u,x⟩:=l_ (a:=m-1) (b:=c) (A:=15) (B:=16) (by omega) (by omega) (by omega) (by omega);have y:1<=(m-1)*c:=Int.mul_pos (by omega) (by omega);clear h;obtain⟨E,l⟩:∃E,E=(m-1)*c:=⟨_,rfl⟩;rw[<-l]at u x y|-;have f:0<=b/E:=ZI q (by omega);have a0:b/E<s:=by apply ZP (by omega);rw[l,Int.mul_comm (m-1) c,<-Int.mul_assoc];exact I
 have i:0<=b%E:=WN _ (by omega);have z:b%E<E:=VQ _ (by omega);have a9:0<=b%E%c:=WN _ (by omega);have b0:b%E%c<c:=VQ _ (by omega);have C:0<=b%E/c:=ZI i (by omega);have b1:b%E/c<m-1:=by apply ZP (by omega);rw[<-l];exact z
 obtain⟨b2,b3⟩:=l_ (a:=b/E) (b:=c) (A:=256) (B:=16) f (by omega) (by omega) (by omega);have d0:decide (b<0)=false:=by simpa using q
 have d1:decide (s*c*(m-1)<=b)=false:=by simpa using I
 have b4:(m-1)*c=E:=l.symm;have w0:QK.wrap E=E:=SQ _ (by omega);have w3:QK.wrap (s*c*(m-1))=s*c*(m-1):=SQ _ (by omega);have q1:b.tdiv E=b/E:=VH q;have q2:b.tmod E=b%E:=UH q;have q3:QK.wrap (b/E)=b/E:=SQ _ (by omega);have q4:(b%E).tmod c=b%E%c:=UH i;have q5:(b%E).tdiv c=b%E/c:=VH i;have q6:QK.wrap (b%E/c)=b%E/c:=SQ _ (by omega);have q7:QK.wrap (b/E*c)=b/E*c:=SQ _ (by omega);have q8:QK.wrap (b/E*c+b%E%c)=b/E*c+b%E%c:=SQ _ (by omega);have E0:¬E=0:=by omega
 have c0:¬c=0:=by omega
 clear l;go_enter Tryz.func165,Tryz.ntmps165;go_wp2_with(first|(go_at_call 46;refine(tz _ _ _ _ a8.out).mono ?_;rintro e g ⟨rfl,b5⟩;obtain⟨a1,a2,a3⟩:=kp b5 (w.heap.size+1) (by go_size)));go_region_held3(λd=>d.cell? ⟨g.heap.size,0,none⟩=some (.int .i64 m)/\d.cell? ⟨g.heap.size,1,none⟩=some (.int .i64 c)/\d.cell? ⟨g.heap.size,2,none⟩=some (.int .i64 s)/\d.cell? ⟨g.heap.size,3,none⟩=some (.int .i64 (m-1))) ((simp[*,go_sem];done))
  (first|(go_at_call 47;refine(iM _ _ _ _ _ r t).mono ?_;rintro e w2 ⟨rfl,n⟩;obtain⟨D,F,K⟩:=kp n (g.heap.size) (by go_size);obtain⟨L,O,P⟩:=kp n (w.heap.size+1) (by go_size)))
 go_wp2;go_quiet(fail);go_wp2;go_region_held3(λd=>d.cell? ⟨g.heap.size,0,none⟩=some (.int .i64 m)/\d.cell? ⟨g.heap.size,1,none⟩=some (.int .i64 c)/\d.cell? ⟨g.heap.size,2,none⟩=some (.int .i64 s)/\d.cell? ⟨g.heap.size,3,none⟩=some (.int .i64 (m-1))) ((simp[*,go_sem];done))
  (first|(go_at_call 195;refine(ks _ _ _ _ _ _ _ f j k C (by omega)).mono ?_;rintro e w3 ⟨rfl,o⟩;obtain⟨Q,S,T⟩:=kp o (g.heap.size) (by go_size);obtain⟨U,V,W⟩:=kp o (w.heap.size+1) (by go_size))|(go_at_call 248;refine(kr _ _ _ _ _ _ f j k).mono ?_;rintro e w4 ⟨rfl,p⟩;obtain⟨X,Z,H⟩:=kp p (g.heap.size) (by go_size);obtain⟨N,M,R⟩:=kp p (w.heap.size+1) (by go_size)))
 go_wp2;refine QR (v:=.tuple #[Pl (b/E) (b/E*c+b%E%c) (mem m (b/E) (b%E/c)) (par m (b/E)),.int .u16 0]) (by simp[RM,Tryz.results165,go_sem,Pl, *]) rfl ⟨rfl,?_⟩
 (repeat'(first|(with_reducible exact SL _ _)|(with_reducible refine Below.setCell ?_ (by go_size) _)|(with_reducible refine aI ?_ _)|(with_reducible refine Below.drew ?_)|(with_reducible refine cE ?_ _)|(with_reducible refine via ?_ (by with_reducible assumption))))
def tq(m c a r:Int):Int:=(a-mem m (r/c) 0+m)%m
theorem BA(n i:Int)(h:3<=c):0<=mem c n i/\mem c n i<c:=
 ⟨WN _ J,VQ _ J⟩
theorem xZ(m c s a r:Int)(w:QA)(h:ZY m c s)(A:0<=a)(B:a<m)(i:0<=r)(y:r<s*c)(C:tq m c a r=m-1):
  aE 131 #[G m c s,Y a,Y r] w λe b=>aK e (.tuple #[Y 0,.bool true,aG 0])/\au w b:=by
 obtain⟨j,k⟩:=h.rows;have f:=h.m3;have l:=h.m16;have D:=h.c1;have E:=h.pZ;have F:=h.s1;have K:=h.hj;have L:=I ((ZY.iff m c s).1 h);have g:0<=r/c:=ZI i J;have z:r/c<s:=ZP J y;obtain⟨O,P⟩:=BA (r/c) 0 f;have d0:decide (a<0)=false:=by simpa using A
 have d1:decide (m<=a)=false:=by simpa using B
 have d2:decide (r<0)=false:=by simpa using i
 have d3:decide (s*c<=r)=false:=by simpa using y
 have S:r.tdiv c=r/c:=VH i;have T:QK.wrap (r/c)=r/c:=SQ _ J;have U:QK.wrap (a-mem m (r/c) 0)=a-mem m (r/c) 0:=SQ _ J;have V:QK.wrap (a-mem m (r/c) 0+m)=a-mem m (r/c) 0+m:=SQ _ J;have W:(a-mem m (r/c) 0+m).tmod m=tq m c a r:=UH J;have X:¬c=0:=J;have Z:¬m=0:=J;have Q:(tq m c a r==m-1)=true:=by simpa using C
 go_enter func131,ntmps131;go_wp2_with(first|(go_at_call 46;refine(tz _ _ _ _ L).mono ?_;rintro e d ⟨rfl,H⟩)|(go_at_call 47;refine(iM _ _ _ _ _ j k).mono ?_;rintro e N ⟨rfl,n⟩;obtain⟨o,p,q⟩:=kp n (d.heap.size) dJ));go_region_held3(λb=>b.cell? (R d.heap.size 0)=some (Y m)/\b.cell? (R d.heap.size 1)=some (Y c)/\b.cell? (R d.heap.size 2)=some (Y s)/\b.cell? (R d.heap.size 3)=some (Y (m-1))) ((simp[*,go_sem];done))
  (first|(go_at_call 195;refine(ks _ _ _ _ _ _ _ g f l J J).mono ?_;rintro e M ⟨rfl,t⟩;obtain⟨u,v,x⟩:=kp t (d.heap.size) dJ))
 go_wp2
 go_returns
 refine⟨rfl,?_⟩
 (repeat'(first|(with_reducible exact ak)|(with_reducible refine Below.setCell ?_ dJ _)|(with_reducible refine aI ?_ _)|(with_reducible refine Below.drew ?_)|(with_reducible refine cE ?_ _)|(with_reducible refine via ?_ (by with_reducible assumption))))
theorem x_(m c s a r:Int)(w:QA)(h:ZY m c s)(D:0<=a)(E:a<m)(j:0<=r)(z:r<s*c)(F:¬tq m c a r=m-1):
  aE 131 #[G m c s,ae a,ae r] w λe f=>aK e (.tuple #[ae ((r/c*(m-1)+tq m c a r)*c+r%c),.bool false,aG 0])/\au w f:=by
 obtain⟨k,l⟩:=h.rows;have i:=h.m3;have n:=h.m16;have K:=h.c1;have L:=h.pZ;have O:=h.s1;have P:=h.hj;have Q:=ad ((ZY.iff m c s).1 h);have d:0<=r/c:=ZI j aa;have C:r/c<s:=ZP aa z;obtain⟨S,T⟩:=BA (r/c) 0 i;have U:0<=tq m c a r:=WN _ aa;have V:tq m c a r<m:=VQ _ aa;have W:0<=r%c:=WN _ aa;have X:r%c<c:=VQ _ aa;have d0:decide (a<0)=false:=by simpa using D
 have d1:decide (m<=a)=false:=by simpa using E
 have d2:decide (r<0)=false:=by simpa using j
 have d3:decide (s*c<=r)=false:=by simpa using z
 have H:r.tdiv c=r/c:=VH j;have N:r.tmod c=r%c:=UH j;have M:QK.wrap (r/c)=r/c:=SQ _ aa;have R:QK.wrap (a-mem m (r/c) 0)=a-mem m (r/c) 0:=SQ _ aa;have I:QK.wrap (a-mem m (r/c) 0+m)=a-mem m (r/c) 0+m:=SQ _ aa;have Y:(a-mem m (r/c) 0+m).tmod m=tq m c a r:=UH aa;have J:¬c=0:=aa;have m0:¬m=0:=aa;have Z:(tq m c a r==m-1)=false:=by simpa using F
 obtain⟨x1,x2⟩:=l_ (a:=r/c) (b:=m-1) (A:=256) (B:=15) d aa aa aa;obtain⟨x3,x4⟩:=l_ (a:=r/c*(m-1)+tq m c a r) (b:=c) (A:=3860) (B:=16) aa aa aa aa;have y1:QK.wrap (r/c*(m-1))=r/c*(m-1):=SQ _ aa;have y2:QK.wrap (r/c*(m-1)+tq m c a r)=r/c*(m-1)+tq m c a r:=SQ _ aa;have y3:QK.wrap ((r/c*(m-1)+tq m c a r)*c)=(r/c*(m-1)+tq m c a r)*c:=SQ _ aa;have y4:QK.wrap ((r/c*(m-1)+tq m c a r)*c+r%c)=(r/c*(m-1)+tq m c a r)*c+r%c:=SQ _ aa;go_enter func131,ntmps131;go_wp2_with(first|(go_at_call 46;refine(tz _ _ _ _ Q).mono ?_;rintro e g ⟨rfl,a0⟩)|(go_at_call 47;refine(iM _ _ _ _ _ k l).mono ?_;rintro e w2 ⟨rfl,o⟩;obtain⟨p,q,t⟩:=kp o (g.heap.size) dJ));go_region_held3(λf=>f.cell? (ag g.heap.size 0)=some (ae m)/\f.cell? (ag g.heap.size 1)=some (ae c)/\f.cell? (ag g.heap.size 2)=some (ae s)/\f.cell? (ag g.heap.size 3)=some (ae (m-1))) ((simp[*,go_sem];done))
  (first|(go_at_call 195;refine(ks _ _ _ _ _ _ _ d i n aa aa).mono ?_;rintro e w3 ⟨rfl,u⟩;obtain⟨v,x,y⟩:=kp u (g.heap.size) dJ))
 go_wp2;go_quiet(fail);go_wp2
 go_returns
 refine⟨rfl,?_⟩
 (repeat'(first|(with_reducible exact ak)|(with_reducible refine Below.setCell ?_ dJ _)|(with_reducible refine aI ?_ _)|(with_reducible refine Below.drew ?_)|(with_reducible refine cE ?_ _)|(with_reducible refine via ?_ (by with_reducible assumption))))
structure az where
 M:Nat
 c:Nat
 s:Nat
variable {g:az}
structure az.ok(g:az):Prop where
 m3:3<=g.M
 m16:g.M<=16
 c1:1<=g.c
 pZ:g.c<=16
 s1:1<=g.s
 hj:g.s<=256
def az.R(g:az):Nat:=g.s*g.c
def az.E(g:az):Nat:=(g.M-1)*g.c
def az.B(g:az):Nat:=g.s*g.E
def az.row(g:az)(b:Nat):Nat:=b/g.E*g.c+b%g.E%g.c
def az.par(g:az)(r:Nat):Nat:=g.M-1-(r/g.c)%g.M
def az.mem(g:az)(b:Nat):Nat:=(g.M-1-(b/g.E)%g.M+1+b%g.E/g.c)%g.M
abbrev az.V(g:az):QC:=.agg #[Y g.M,Y g.c,Y g.s]
theorem az.fY(h:g.ok):ZY (g.M:Nat) (g.c:Nat) (g.s:Nat):=by obtain⟨a,b,c,d,e,f⟩:=h;constructor<;>omega
theorem az.gY(h:g.ok):g.R<=4096:=by unfold az.R;exact SX h.hj h.pZ
theorem az.KX(h:g.ok):0<g.E:=Nat.mul_pos (by have:=h.m3;omega) h.c1
theorem az.nR(h:g.ok)(b:Nat):g.row b/g.c=b/g.E:=by unfold az.row;rw[YZ,Nat.add_mul_div_right _ _ h.c1,Nat.div_eq_of_lt (RT _ h.c1),RH]
theorem az.x'(h:g.ok)(b:Nat):g.row b%g.c=b%g.E%g.c:=by unfold az.row;rw[YZ,Nat.add_mul_mod_self_right,SA (RT _ h.c1)]
theorem az.iN(h:g.ok)(a:n<g.B):g.row n<g.R:=by have b:n/g.E<g.s:=Nat.div_lt_of_lt_mul (by rw[VB];exact a);have d:n%g.E%g.c<g.c:=RT _ h.c1;have c:(n/g.E+1)*g.c<=g.s*g.c:=WC _ b;rw[Nat.add_mul,Nat.one_mul]at c;unfold az.row az.R;omega
theorem az.kt(h:g.ok)(b:Nat):g.mem b<g.M:=RT _ (by have:=h.m3;omega)
theorem az.iO(h:g.ok)(r:Nat):g.par r<g.M:=by unfold az.par;have:=h.m3;omega
theorem az.wa(h:g.ok)(b:Nat):b%g.E/g.c<g.M-1:=
 Nat.div_lt_of_lt_mul (by rw[VB];exact RT _ (az.KX h))
theorem az.BB(h:g.ok)(b:Nat):g.mem b≠g.par (g.row b):=by
 have c:=az.wa h b;have f:=h.m3;unfold az.mem az.par;rw[az.nR h b];have d:b/g.E%g.M<g.M:=RT _ J;generalize b/g.E%g.M=S at d|-;generalize b%g.E/g.c=i at c|-;intro e;by_cases a:g.M-1-S+1+i<g.M
 .rw [SA a]at e;omega
 .rw [XU J,SA J]at e;omega
theorem az.inj(h:g.ok)(d:g.row n=g.row m)(a:g.mem n=g.mem m):n=m:=by
 have r:=h.m3;have b:n/g.E=m/g.E:=by rw[<-az.nR h n,<-az.nR h m,d]
 have k:n%g.E%g.c=m%g.E%g.c:=by rw[<-az.x' h n,<-az.x' h m,d]
 have l:=az.wa h n;have c:=az.wa h m;have o:n%g.E/g.c=m%g.E/g.c:=by
  unfold az.mem at a;rw[b]at a;have b:m/g.E%g.M<g.M:=RT _ J;generalize m/g.E%g.M=S at b a;generalize n%g.E/g.c=i at l a|-;generalize m%g.E/g.c=j at c a|-;by_cases e:g.M-1-S+1+i<g.M<;>by_cases f:g.M-1-S+1+j<g.M
  .rw [SA e,SA f]at a;omega
  .rw [SA e,XU J,SA J]at a;omega
  .rw [SA f,XU J,SA J]at a;omega
  .rw [XU J,SA J,XU J,SA J]at a;omega
 have p:=WL n g.E;have s:=WL m g.E;have q:=WL (n%g.E) g.c;have t:=WL (m%g.E) g.c;rw[b]at p;rw[o,k]at q;omega
theorem og(g:az)(h:g.ok)(n:Nat):par (g.M:Nat) (n:Nat)=((g.M-1-n%g.M:Nat):Int):=by unfold par;have:=RT n (show 0<g.M by have:=h.m3;omega);have:=h.m3;omega
theorem ya(h:g.ok)(l:n<g.B)(w:QA):
  aE 165 #[g.V,Y n] w λe b=>aK e (.tuple #[.agg #[Y (n/g.E:Nat),Y (g.row n:Nat),Y (g.mem n:Nat),Y (g.par (g.row n):Nat)],aG 0])/\au w b:=by
 have m:=h.m3;have c:(((g.M:Nat):Int)-1)*(g.c:Nat)=((g.E:Nat):Int):=by unfold az.E;rw[TG,Int.ofNat_sub J];rfl
 have d:((g.s:Nat):Int)*(g.c:Nat)*(((g.M:Nat):Int)-1)=((g.B:Nat):Int):=by unfold az.B;rw[TG,<-c,Int.mul_assoc,Int.mul_comm ((g.c:Nat):Int)]
 refine(IG (g.M:Nat) (g.c:Nat) (g.s:Nat) (n:Nat) w (az.fY h) J (by rw[d];omega)).mono ?_;rintro e b ⟨rfl,a⟩;refine⟨?_,a⟩;rw[c];have f:((n:Nat):Int)/((g.E:Nat):Int)=((n/g.E:Nat):Int):=rfl;have i:((n:Nat):Int)%((g.E:Nat):Int)=((n%g.E:Nat):Int):=rfl;rw[f,i];have j:par (g.M:Nat) ((n/g.E:Nat):Int)=((g.par (g.row n):Nat):Int):=by rw[og g h];unfold az.par;rw[az.nR h]
 have k:mem (g.M:Nat) ((n/g.E:Nat):Int) (((n%g.E:Nat):Int)/(g.c:Nat))=((g.mem n:Nat):Int):=by unfold mem;rw[og g h];rfl
 rw[j,k];rfl
def xs(p:Nat->Bool)(f:aQ):Nat->Nat
 |0=>0
 |n+1=>xs p f n^^^(if p n then f n else 0)
theorem dC{p q:Nat->Bool}{f g:aQ}:∀{n:Nat},(∀m,m<n->p m=q m/\(p m=true->f m=g m))->xs p f n=xs q g n
 |0,_=>rfl
 |n+1,h=>by
  obtain⟨a,b⟩:=h n J;simp only[xs];rw[dC λm d=>h m J,<-a];cases c:p n with
  |false=>rfl
  |true=>simp only[if_true];rw[b c]
theorem x4(a b c d:Nat):(a^^^b)^^^(c^^^d)=(a^^^c)^^^(b^^^d):=by rw[XM,<-XM b,Nat.xor_comm b c,XM c,<-XM]
theorem qy{p q:Nat->Bool}{f:aQ}:∀{n:Nat},(∀m,m<n->(p m&&q m)=false)->xs (λm=>p m||q m) f n=xs p f n^^^xs q f n
 |0,_=>by simp[xs]
 |n+1,h=>by
  have a:=h n J;simp only[xs];rw[qy λm c=>h m J,x4];congr 1;by_cases b:p n=true
  .rw [b]at a;simp only[Bool.true_and]at a;simp[b,a]
  .simp [b]
theorem rN{p:Nat->Bool}{f:aQ}:∀{n:Nat},(∀m,m<n->p m=true->f m=0)->xs p f n=0
 |0,_=>rfl
 |n+1,h=>by
  simp only[xs];rw[rN λm b=>h m J];cases a:p n with
  |false=>simp
  |true=>simp[h n J a]
theorem rO{p:Nat->Bool}{f:aQ}{a:Nat}:∀{n:Nat},a<n->(∀m,m<n->p m=decide (m=a))->xs p f n=f a
 |0,h,_=>J
 |n+1,h,b=>by
  simp only[xs];rw[b n J];by_cases e:n=a
  .subst e;rw[show xs p f n=0 from rN λm d c=>by rw[b m J]at c;simp at c;omega];simp
  .rw [rO (a:=a) J λm d=>b m J];simp[e]
theorem BC{p:Nat->Bool}{f:aQ}:∀{n:Nat},(∀m,m<n->p m=true->f m<256)->xs p f n<256
 |0,_=>by simp[xs]
 |n+1,h=>by
  simp only[xs];refine XT (n:=8) (BC λm b=>h m J) ?_;cases a:p n with
  |false=>simp
  |true=>simpa using h n J a
def bQ(n:Nat)(p:Nat->Bool):List Nat:=(TT n).filter p
theorem dH(n:Nat)(p:Nat->Bool):bQ (n+1) p=bQ n p++(if p n then[n]else[]):=by unfold bQ;rw[UK,List.filter_append];cases a:p n<;>simp[a]
theorem bC{p:Nat->Bool}:m∈bQ n p↔m<n/\p m=true:=by unfold bQ;simp
theorem oh(p:Nat->Bool)(f:aQ)(a:Nat):∀n,(bQ n p).foldl (λx m=>x^^^f m) a=a^^^xs p f n
 |0=>by simp[bQ,xs]
 |n+1=>by rw[dH,List.foldl_append,oh];simp only[xs];cases p n<;>simp[XM]
theorem wb(n:Nat)(p:Nat->Bool):(bQ n p).Nodup:=List.Pairwise.filter _ List.nodup_range
theorem iP(n:Nat)(p:Nat->Bool):(bQ n p).Pairwise (· <·):=List.Pairwise.filter _ List.pairwise_lt_range
theorem fv(n:Nat)(p:Nat->Bool):(bQ n p).length<=n:=by unfold bQ;exact QE (VI _ _) aJ
structure bq where
 n:Nat
 aL:Nat->Nat
 da:Nat->Nat->Nat
variable {K:bq}
structure bq.ok(g:az)(B:bq):Prop where
 aL:∀i,i<B.n->B.aL i<g.B
 da:∀i,i<B.n->∀k,k<128->B.da i k<256
def cO(g:az)(B:bq):Nat->Nat->Nat->Option Nat
 |0,_,_=>none
 |n+1,m,r=>if g.mem (B.aL n)=m/\g.row (B.aL n)=r then some n else cO g B n m r
def aY(g:az)(B:bq):Nat->Nat->Bool
 |0,_=>false
 |n+1,r=>g.row (B.aL n)==r||aY g B n r
theorem dz{g:az}{B:bq}:∀{n m r i:Nat},cO g B n m r=some i->i<n/\g.mem (B.aL i)=m/\g.row (B.aL i)=r
 |0,_,_,_,h=>by cases h
 |n+1,m,r,i,h=>by
  unfold cO at h;split at h
  .cases h;rename_i c;exact⟨J,c⟩
  .obtain ⟨a,b⟩:=dz h;exact⟨J,b⟩
theorem oi{g:az}{B:bq}:∀{n m r:Nat},cO g B n m r=none->∀i,i<n->¬(g.mem (B.aL i)=m/\g.row (B.aL i)=r)
 |0,_,_,_,_,h=>J
 |n+1,m,r,h,i,b=>by
  unfold cO at h;split at h
  .cases h
  .rename_i a;by_cases e:i=n
   .rw [e];exact a
   .exact oi h i J
theorem dh{g:az}{B:bq}:∀{n r:Nat},aY g B n r=true↔∃i,i<n/\g.row (B.aL i)=r
 |0,r=>by simp[aY]
 |n+1,r=>by
  unfold aY;rw[Bool.or_eq_true,dh,beq_iff_eq];constructor
  .rintro (h|⟨i,a,h⟩)
   .exact ⟨n,J,h⟩
   .exact ⟨i,J,h⟩
  .rintro ⟨i,a,h⟩;by_cases e:i=n
   .rw [e]at h;exact .inl h
   .exact .inr ⟨i,J,h⟩
def bq.gd(g:az)(B:bq)(m r:Nat):Bool:=(cO g B B.n m r).isSome
def bq.iQ(g:az)(B:bq)(m r:Nat):Nat->Nat:=match cO g B B.n m r with|some i=>B.da i|none=>λ_=>0
def bq.eR(g:az)(B:bq):List Nat:=bQ g.R (aY g B B.n)
def bq.nG(g:az)(B:bq)(r:Nat):List Nat:=bQ g.M λm=>B.gd g m r
theorem bq.iR(h:g.ok):K.gd g (g.par r) r=false:=by
 unfold bq.gd;cases a:cO g K K.n (g.par r) r with
 |none=>rfl
 |some i=>obtain⟨_,b,c⟩:=dz a;have:=az.BB h (K.aL i);rw[b,c]at this;exact absurd rfl this
theorem bq.BD(h:K.gd g m r=true):aY g K K.n r=true:=by
 unfold bq.gd at h;cases a:cO g K K.n m r with
 |none=>rw[a]at h;cases h
 |some i=>obtain⟨b,d,c⟩:=dz a;exact dh.2 ⟨i,b,c⟩
theorem bq.KY(h:i<K.n):K.gd g (g.mem (K.aL i)) (g.row (K.aL i))=true:=by
 unfold bq.gd;cases a:cO g K K.n (g.mem (K.aL i)) (g.row (K.aL i))with
 |none=>exact absurd ⟨rfl,rfl⟩ (oi a i h)
 |some i=>rfl
theorem bq.BF(a:K.ok g)(b:k<128):K.iQ g m r k<256:=by
 unfold bq.iQ;cases c:cO g K K.n m r with
 |none=>simp
 |some i=>exact a.da i (dz c).1 k b
def bq.base(g:az)(B:bq)(V:bY)(m r:Nat):Nat->Nat:=if B.gd g m r then B.iQ g m r else V m r
def bq.dR(g:az)(B:bq)(V:bY)(m r:Nat):Nat->Nat:=
 if m=g.par r/\aY g B B.n r=true thenλk=>xs (λa=>decide (a≠g.par r)) (λa=>B.base g V a r k) g.M else B.base g V m r
structure BG(g:az)(V:bY):Prop where
 lt:∀m r k,m<g.M->r<g.R->k<128->V m r k<256
 even:∀r k,r<g.R->k<128->xs (fun _=>true) (fun m=>V m r k) g.M=0
theorem tA(h:g.ok)(r:Nat)(f:aQ):xs (λ_=>true) f g.M=xs (λm=>decide (m≠g.par r)) f g.M^^^f (g.par r):=by have:=qy (p:=λm=>decide (m≠g.par r)) (q:=λm=>decide (m=g.par r)) (f:=f) (n:=g.M) (λm _=>by by_cases e:m=g.par r<;>simp[e]);rw[<-rO (f:=f) (az.iO h r) (λm _=>rfl),<-this];exact dC λm _=>⟨by by_cases e:m=g.par r<;>simp[e],λ_=>rfl⟩
theorem BG.par(h:g.ok){V:bY}(hV:BG g V)(c:r<g.R)(d:k<128):V (g.par r) r k=xs (λm=>decide (m≠g.par r)) (λm=>V m r k) g.M:=by
 have:=hV.even r k c d;rw[tA h r]at this;have e:∀a b:Nat,a^^^b=0->b=a:=λa b h=>by
  have:(a^^^b)^^^b=0^^^b:=by rw[h]
  rw[XM,Nat.xor_self,Nat.xor_zero,Nat.zero_xor]at this;exact this.symm
 exact e _ _ this
theorem bq.yb(b:K.ok g){V:bY}(hV:BG g V)(c:m<g.M)(d:r<g.R)(a:k<128):K.base g V m r k<256:=by
 unfold bq.base;split
 .exact bq.BF b a
 .exact hV.lt m r k c d a
theorem bq.yc(h:g.ok)(j:K.ok g){V:bY}(hV:BG g V):BG g (K.dR g V):=by
 constructor
 .intro m r k b c d;unfold bq.dR;split
  .exact BC λa f _=>bq.yb j hV f c d
  .exact bq.yb j hV b c d
 .intro r k c d;by_cases i:aY g K K.n r=true
  .rw [tA h r];have l:K.dR g V (g.par r) r k=xs (λa=>decide (a≠g.par r)) (λa=>K.base g V a r k) g.M:=by unfold bq.dR;rw[ao ⟨rfl,i⟩]
   rw[l];rw[show xs (λm=>decide (m≠g.par r)) (λm=>K.dR g V m r k) g.M=xs (λa=>decide (a≠g.par r)) (λa=>K.base g V a r k) g.M from dC λm _=>⟨rfl,λb=>by unfold bq.dR;rw[aq λe=>by simp at b;exact b e.1]⟩];exact Nat.xor_self _
  .rw [<-hV.even r k c d];refine dC λm _=>⟨rfl,λ_=>?_⟩;unfold bq.dR;rw[aq λe=>i e.2];unfold bq.base;rw[aq λe=>i (bq.BD e)]
theorem bq.oj(h:g.ok){V:bY}(b:aY g K K.n r=true):
  xs (λm=>decide (m≠g.par r)&& !K.gd g m r) (λm=>V m r k) g.M^^^xs (λm=>K.gd g m r) (λm=>K.iQ g m r k) g.M=K.dR g V (g.par r) r k:=by
 unfold bq.dR;rw[ao ⟨rfl,b⟩];rw[show xs (λm=>decide (m≠g.par r)&& !K.gd g m r) (λm=>V m r k) g.M=xs (λm=>decide (m≠g.par r)&& !K.gd g m r) (λm=>K.base g V m r k) g.M from dC λm _=>⟨rfl,λa=>by unfold bq.base;rw[aq];intro e;rw[e]at a;simp at a⟩];rw[show xs (λm=>K.gd g m r) (λm=>K.iQ g m r k) g.M=xs (λm=>K.gd g m r) (λm=>K.base g V m r k) g.M from dC λm _=>⟨rfl,λa=>by unfold bq.base;rw[ao a]⟩];rw[<-qy λm _=>by cases K.gd g m r<;>simp];refine dC λm _=>⟨?_,λ_=>rfl⟩;by_cases e:m=g.par r
 .subst e;rw[bq.iR h];simp
 .cases K.gd g m r<;>simp[e]
theorem bq.Fu(h:g.ok){V:bY}(hV:BG g V)(b:aY g K K.n r=true)(a:r<g.R)(c:k<128):
  xs (λm=>decide (m=g.par r)||K.gd g m r) (λm=>V m r k) g.M^^^xs (λm=>K.gd g m r) (λm=>K.iQ g m r k) g.M=K.dR g V (g.par r) r k:=by
 rw[<-bq.oj h (V:=V) b];congr 1;rw[qy λm _=>by
  by_cases e:m=g.par r
  .subst e;rw[bq.iR h];simp
  .simp [e]]
 rw[rO (f:=λm=>V m r k) (az.iO h r) λm _=>rfl];show V (g.par r) r k^^^_=_;rw[hV.par h a c];rw[show xs (λm=>decide (m≠g.par r)) (λm=>V m r k) g.M=xs (λm=>decide (m≠g.par r)&& !K.gd g m r) (λm=>V m r k) g.M^^^xs (λm=>K.gd g m r) (λm=>V m r k) g.M from by
  rw[<-qy λm _=>by cases K.gd g m r<;>simp];refine dC λm _=>⟨?_,λ_=>rfl⟩;by_cases e:m=g.par r
  .subst e;rw[bq.iR h];simp
  .cases K.gd g m r<;>simp[e]]
 rw[XM,Nat.xor_self,Nat.xor_zero]
section
def hn(a:Int)(e:TE):Bool:=match e.key with| .int .i64 b=>a==b|_=>false
def dD(a:Int):List TE->Nat->Option (Nat × QC)
 | [],_=>none
 |e::b,i=>if hn a e then some (i,e.val)else dD a b (i+1)
def jD(b:List TE):Prop:=∀e∈b,∃a,e.key= Y a
theorem BH{b:Array TE}{c:Nat}(h:jD b.toList):ty (.map b c)=1000000:=by simp only[ty];rw[aq];rw[XD];rintro⟨e,f,d⟩;obtain⟨a,g⟩:=h e f;rw[g]at d;cases d
theorem tB{a b:Int}{e:TE}(h:e.key= Y b):hn a e=(a==b):=by simp[hn,h]
theorem mZ(a:Int):∀(c:List TE) (i:Nat),jD c->XB (.int .i64) (Y a) c i=some (dD a c i)
 | [],i,_=>rfl
 |e::c,i,h=>by obtain⟨b,d⟩:=h e SE;have f:=mZ a c (i+1) λg j=>h g (SN _ j);simp only[XB,dD,d,Instr.sameNow,if_true,tB d];cases k:(a==b)<;>simp[f]
theorem gP(a:Int):∀(b:List TE) (i:Nat),dD a b i=(dD a b 0).map λp=>(p.1+i,p.2)
 | [],_=>rfl
 |e::b,i=>by
  simp only[dD];split
  .simp
  .rw [gP a b (i+1),gP a b (0+1),YN];congr 1;funext p;simp;omega
theorem tC(a:Int):∀(b:List TE) (i:Nat) (v:QC),dD a b 0=some (i,v)->∃e,b[i]?=some e/\hn a e=true/\e.val=v
 | [],_,_,h=>by cases h
 |e::b,i,v,h=>by
  simp only[dD]at h;split at h
  .rename_i d;cases h;exact⟨e,rfl,d,rfl⟩
  .rw [gP]at h;cases c:dD a b 0 with
   |none=>rw[c]at h;cases h
   |some p=>obtain⟨j,u⟩:=p;rw[c]at h;simp at h;obtain⟨rfl,rfl⟩:=h;obtain⟨f,g,k,l⟩:=tC a b j u c;exact⟨f,by simpa using g,k,l⟩
def IM(w:M)(d:Nat)(f:Int->Option QC):Prop:=
 ∃c b,w.heap[d]?=some (.map c b)/\jD c.toList/\∀a,(dD a c.toList 0).map (·.2)=f a
theorem IM.out{S:Nat->Prop}{w w1:M}{a:Nat}{f:Int->Option QC}(h:IM w a f)(b:Out S w w1)(d:¬S a):IM w1 a f:=by obtain⟨e,c,g,i,j⟩:=h;exact⟨e,c,b.heap g d,i,j⟩
theorem IM.lt{w:M}{a:Nat}{f:Int->Option QC}(h:IM w a f):a<w.heap.size:=by obtain⟨d,c,b,e,g⟩:=h;exact Z_ b
theorem IM.made(w:M):IM (w.alloc (.map #[] 0)) w.heap.size λ_=>none:=⟨#[],0,QB _ _,λ_ h=>by simp at h,λ_=>rfl⟩
theorem IM.congr{w:M}{b:Nat}{f g:Int->Option QC}(h:IM w b f)(e:∀a,f a=g a):IM w b g:=by obtain⟨d,c,i,j,k⟩:=h;exact⟨d,c,i,j,λa=>(k a).trans (e a)⟩
section
variable {P:Program}
theorem ho(b:Bool)(k:SV)(a:Int)(w:M)(c:P.underlying k=some (.int .i64)):(VC b 10000 k (Y a)).run P w=.ok () w:=by unfold VC;simp[SU c]
theorem ir(k:SV)(a:Int)(b:List TE)(w:M)(c:P.underlying k=some (.int .i64))(h:jD b):(XE k (Y a) b).run P w=.ok (dD a b 0) w:=by unfold XE;simp[SU c,mZ a b 0 h]
theorem cb{w:M}{r:Nat}{b:Array TE}{a:Nat}(c:a_ w r (.map b a)):(getObj r).run P w=.ok (.map b a) w:=by simp[getObj,ZT,c]
theorem cf{w:M}{r:Nat}{b:Array TE}{a:Nat}(o:Obj)(c:a_ w r (.map b a)):(setObj r o).run P w=.ok () (w.putObj r o):=by simp[setObj,ZT,c,World.putObj]
theorem fw{w:M}{d:Nat}{f:Int->Option QC}(h:IM w d f)(t k e:SV)(z:QC)(c:Bool)(j:P.underlying t=some (.map k e))(g:P.underlying k=some (.int .i64))(l:(zeroValue e).run P w=.ok z w)(a:Int):
  (UZ t (.map (some d)) (Y a) c).run P w=.ok (if c then .tuple #[(f a).getD z,.bool (f a).isSome]else(f a).getD z) w:=by
 obtain⟨m,r,n,o,q⟩:=h;have b:=q a;unfold UZ;simp only[RZ,SU j,RI,VA,ho _ _ _ _ g,ir _ _ _ _ g o,cb n];cases i:dD a m.toList 0 with
 |none=>rw[i]at b;simp only[VF]at b;rw[<-b];simp[l]
 |some p=>rw[i]at b;simp only[QY]at b;rw[<-b];simp
theorem Out.we{S:Nat->Prop}{a w:M}(h:Out S a w){l:Nat}(d:l<a.heap.size->S l)(o:Obj):Out S a (w.putObj l o):=
 ⟨h.os,h.tape,h.output,by rw[WO];exact h.size,λk b c=>(TI (λe=>by subst e;exact c (d b))).trans (h.block k b c)⟩
theorem om(a:Int)(v:QC)(x:TE):∀(c:List TE) (i:Nat),(∀b,hn b x=(b==a))->x.val=v->dD a c i=none->∀b,(dD b (c++ [x]) i).map (·.2)=if b=a then some v else(dD b c i).map (·.2)
 | [],i,g,h,_,b=>by
  simp only[UT,dD,g b];by_cases e:b=a
  .simp [e,h]
  .simp [e]
 |y::c,i,g,h,f,b=>by
  simp only[UQ,dD]at f|-;split at f
  .cases f
  .rename_i j;have k:=om a v x c (i+1) g h f b;by_cases d:hn b y=true
   .rw [ao d,ao d,aq];intro e;subst e;exact j d
   .rw [aq d,aq d,k]
theorem qz(a:Int)(v:QC):∀(c:List TE) (i j:Nat) (u:QC),dD a c i=some (i+j,u)->∀b,(dD b (c.modify j λe=>{e with key:= Y a,val:=v}) i).map (·.2)=if b=a then some v else(dD b c i).map (·.2)
 | [],_,_,_,h,_=>by cases h
 |y::c,i,j,u,h,b=>by
  simp only[dD]at h;split at h
  .rename_i d;simp at h;obtain⟨rfl,rfl⟩:=h;have g:hn b y=(b==a):=by unfold hn at d|-;cases l:y.key<;>simp[l]at d|-;rename_i m q;cases m<;>simp at d|-;rw[d]
   simp only[YP,dD,g];by_cases e:b=a
   .subst e;simp[hn]
   .have:hn b {y with key:= Y a,val:=v}=false:=by simp[hn,e]
    simp[e,this]
  .rename_i d;cases j with
   |zero=>
    have:=gP a c (i+1);rw[h]at this;cases k:dD a c 0 with
    |none=>rw[k]at this;cases this
    |some p=>rw[k]at this;simp at this;omega
   |succ j=>
    have n:=qz a v c (i+1) j u (by rw[h];congr 2;omega) b;simp only[YQ,dD];by_cases f:hn b y=true
    .rw [ao f,ao f,aq];intro e;subst e;exact d f
    .rw [aq f,aq f,n]
theorem ka{w:M}{m:Nat}{f:Int->Option QC}(h:IM w m f)(t k e:SV)(U:P.underlying t=some (.map k e))(O:P.underlying k=some (.int .i64))(a:Int)(v:QC):
  ∃D,(TD t (.map (some m)) (Y a) v).run P w=.ok () D/\IM D m (λb=>if b=a then some v else f b)/\(∃o,ty o=1000000/\D=w.putObj m o):=by
 obtain⟨g,s,A,B,Q⟩:=h;have q:=Z_ A;unfold TD;simp only[RZ,SU U,RI,ho _ _ _ _ O,ir _ _ _ _ O B,cb A];cases E:dD a g.toList 0 with
 |none=>
  have d:jD (g.push {key:= Y a,val:=v,born:=s}).toList:=by
   intro x C;simp at C;rcases C with C|rfl
   .exact B x (by simpa using C)
   .exact ⟨a,rfl⟩
  refine⟨w.putObj m (.map (g.push {key:= Y a,val:=v,born:=s}) (s+1)),cf _ A,⟨_,_,SR q,d,λb=>?_⟩,_,BH d,rfl⟩
  .rw [Array.toList_push,om a v _ _ _ (λb=>by simp[hn]) rfl E b,Q b]
 |some p=>
  obtain⟨i,u⟩:=p;obtain⟨x,r,l,V⟩:=tC a _ i u E;have F:g[i]?=some x:=by simpa using r
  have G:x.key= Y a:=by obtain⟨c,S⟩:=B x (QV r);rw[tB S]at l;rw[S];simp at l;rw[l]
  have K:(WI (((g[i]?).map (·.key)).getD (Y a)) (Y a)).run P w=.ok (Y a) w:=by rw[F];simp[G,WI,XN]
  simp only[RZ,K,RI];have d:jD (g.modify i λe=>{e with key:= Y a,val:=v}).toList:=by
   intro y T;rw[VK,TY]at T;obtain⟨j,n⟩:=T;rw[ZN]at n;cases L:g.toList[j]? with
   |none=>rw[L]at n;simp at n
   |some z=>
    rw[L]at n;simp at n;subst n;split
    .exact ⟨a,rfl⟩
    .exact B z (QV L)
  refine⟨w.putObj m (.map (g.modify i λe=>{e with key:= Y a,val:=v}) s),cf _ A,⟨_,_,SR q,d,λb=>?_⟩,_,BH d,rfl⟩
  .rw [VK,qz a v _ 0 i u (by rw[E,RH]) b,Q b]
theorem hP{w:M}{a:Nat}{f:Int->Option QC}(h:IM w a f)(t b k e:SV)(i:P.underlying t=some (.map k e)):
  ∃c,(Builtin.clear_ #[t] b #[.map (some a)]).run P w=.ok (.tuple #[]) c/\IM c a (λ_=>none)/\(∃o,ty o=1000000/\c=w.putObj a o):=by
 obtain⟨l,j,d,m,n⟩:=h;have g:=Z_ d;refine⟨w.putObj a (.map #[] j),?_,⟨_,_,SR g,λ_ h=>by simp at h,λ_=>rfl⟩,_,rfl,rfl⟩;unfold Builtin.clear_;simp[SU i,cb d,cf _ d]
end
end
section
open Go.Maps
def R0(_:QC):Option (DataW Unit × List MemPlace):=some (.lit (.bool true),[])
def nH(f:Nat->Option QC)(a:Int):Option QC:=if 0<=a then f a.toNat else none
structure KM(w:M)(ms n:Nat)(f:Nat->Option QC):Prop where
 im:IM w ms (nH f)
 own:∃D:DataW Unit,w.ownsMap prog 3 R0 ms n D/\Tidy D/\∀a:Int,has D (.int .i64 a)=(nH f a).isSome
theorem KM.lt{f:Nat->Option QC}(h:KM w m n f):m<w.heap.size:=h.im.lt
theorem KM.out{w w1:M}{f:Nat->Option QC}(h:KM w m n f)(a:Out S w w1)(b:¬S m):KM w1 m n f:=by obtain⟨D,⟨c,d,e,g⟩,i⟩:=h.own;exact⟨h.im.out a b,D,⟨c,d,a.heap e b,g⟩,i⟩
theorem KM.below{f:Nat->Option QC}(h:KM w m n f)(a:au w W):KM W m n f:=h.out (Out.af (S:=λ_=>False) a) id
theorem KM.congr{f g:Nat->Option QC}(h:KM w m n f)(e:∀a,f a=g a):KM w m n g:=by have:f=g:=funext e;rw[<-this];exact h
theorem KM.mono{f:Nat->Option QC}(h:KM w m n f)(a:n<=k):KM w m k f:=by obtain⟨D,b,c⟩:=h.own;exact⟨h.im,D,b.mono a,c⟩
theorem KM.made(w:M):KM (w.alloc (.map #[] 0)) w.heap.size 0 λ_=>none:=by
 refine⟨(IM.made w).congr λa=>?_,.map [],World.ownsMap_made w _ _ _,tidy_empty,λa=>?_⟩
 .unfold nH;split<;>rfl
 .unfold nH;split<;>rfl
theorem IH(h:n<=1000000):(Lit.int .i64 (n:Nat)).wf=true:=by simp only[Lit.wf,VM,decide_eq_true_eq];have a:QK.min<=(0:Int):=aj;have b:(1000000:Int)<=QK.max:=aj;have c:(0:Int)<=(n:Nat):=Int.natCast_nonneg n;have d:((n:Nat):Int)<=1000000:=J;exact⟨Int.le_trans a c,Int.le_trans d b⟩
theorem di{f:Nat->Option QC}(h:KM w m n f)(t e:SV)(z:QC)(c:Bool)(b:prog.underlying t=some (.map 3 e))(d:(zeroValue e).run prog w=.ok z w)(a:Nat):
  (UZ t (.map (some m)) (Y a) c).run prog w=.ok (if c then .tuple #[(f a).getD z,.bool (f a).isSome]else(f a).getD z) w:=by
 have:=fw h.im t 3 e z c b XF d (a:Nat);have e:nH f (a:Nat)=f a:=by simp[nH]
 rw[e]at this;exact this
theorem tD(f:Nat->Option QC)(a:Nat)(v:QC)(b:Int):(if b=(a:Nat)then some v else nH f b)=nH (λc=>if c=a then some v else f c) b:=by
 unfold nH;by_cases h:0<=b
 .rw [ao h,ao h];by_cases e:b=(a:Nat)
  .subst e;simp
  .rw [aq e];show f b.toNat=if b.toNat=a then some v else f b.toNat
   rw[aq];omega
 .rw [aq h,aq h,aq];omega
theorem gZ{f:Nat->Option QC}(h:KM w m n f)(B:n<=1000000)(t e:SV)(g:prog.underlying t=some (.map 3 e))(q:i<=1000000)(v:QC):
  ∃c,(TD t (.map (some m)) (.int .i64 (i:Nat)) v).run prog w=.ok () c/\KM c m (n+1) (λb=>if b=i then some v else f b)/\Out (λk=>k=m) w c:=by
 obtain⟨D,r,j,s⟩:=h.own;obtain⟨u,l,x,o,_,C⟩:=ka h.im t 3 e g XF (i:Nat) v;obtain⟨E,p,y,a⟩:=r.update (int_keyed XF) g (by simp[UI];omega) (keyOf_int_mk XF (IH q)) (val:=v) (d:=.lit (.bool true)) (ps:= []) rfl;rw[l]at p;cases p;refine⟨u,l,⟨x.congr λb=>tD f i v b,_,y,j.put (k:=.int .i64 (i:Nat)) (by trivial) _,λb=>?_⟩,⟨a.os,a.tape,a.output,a.size,λk z A=>a.block k z λe=>A (by cases e;rfl)⟩⟩;by_cases e:b=(i:Nat)
 .subst e;rw[has_put_same (k:=.int .i64 (i:Nat)) j.isMap (by trivial)];simp[nH]
 .rw [has_put_other (λh=>e (by cases h;rfl)),s b,<-tD f i v b,aq e]
theorem KM.keys{f:Nat->Option QC}(h:KM w m n f)(u:∀a,k<=a->f a=none):∃D:DataW Unit,w.ownsMap prog 3 R0 m n D/\((bQ k λa=>(f a).isSome).map λa=>((a:Nat):Int)).Perm (intKeys D):=by
 obtain⟨D,s,⟨G,rfl,j⟩,v⟩:=h.own;refine⟨_,s,perm_intKeys j ?_ ?_ λx=>?_⟩
 .intro p j;obtain⟨d,K,L,A,O,B⟩:=s;have g:p∈(d.toList.map (YK prog 3 R0)).foldr XK []:=by cases B;exact j
  have:∀(l:List (Lit × DataW Unit)),p∈l.foldr XK []->p∈l:=λl=>by
   induction l with
   |nil=>exact id
   |cons x r o=>
    intro C;have i:∀(y:Lit × DataW Unit) (r:List (Lit × DataW Unit)),p∈XK y r->p=y\/p∈r:=λy r=>by
     induction r with
     |nil=>intro h;simpa[XK]using h
     |cons z r o=>
      intro h;unfold XK at h;split at h
      .simpa using h
      .rcases UG.1 h with h|h
       .exact .inr (by rw[h];exact SE)
       .exact (o h).imp id (SN _)
    rcases i _ _ C with h|h
    .rw [h];exact SE
    .exact SN _ (o h)
  obtain⟨x,c,rfl⟩:=RQ.1 (this _ g);obtain⟨y,t⟩:=A.reads x c;have E:=Go.WideElems.rd_key t;obtain⟨a,_,q,_⟩:=Maps.keyOf_i64 XF E;refine⟨a,?_⟩;unfold YK;rw[t];exact q
 .exact YA.2 ((wb _ _).imp λ{a b} h e=>h J)
 .rw [v x,RQ];constructor
  .rintro ⟨a,q,rfl⟩;simp only[nH,Int.natCast_nonneg,if_true,Int.toNat_natCast];exact(bC.1 q).2
  .intro c;unfold nH at c;split at c
   .rename_i P;refine⟨x.toNat,bC.2 ⟨?_,c⟩,J⟩;by_cases F:x.toNat<k
    .exact F
    .rw [u _ J]at c;cases c
   .cases c
end
section
open Go.Maps Go.Sort Go.Shelf
def qA:ZE:=⟨fun|7=>252|10=>297|n=>n,fun|23=>338|26=>3|3=>339|28=>341|0=>0|27=>243|33=>109|4=>4|n=>n,fun|n=>n⟩
theorem HM:SlLaysZI.n7 prog qA:={
 mixed:=ai
 f7:=⟨Tryz.f252.name,aj,func252.trans (congrArg some ai)⟩
 f10:=⟨Tryz.f297.name,aj,func297.trans (congrArg some ai)⟩
 t0:=underlying0
 a0:=isAgg0
 z0:=sizeOf0
 v0:=zeroValue0
 t4:=underlying4
 a4:=isAgg4
 z4:=sizeOf4
 v4:=zeroValue4
 t23:=YU
 a23:=isAgg338
 z23:=sizeOf338
 v23:=zeroValue338
 t26:=XF
 a26:=isAgg3
 z26:=sizeOf3
 v26:=zeroValue3
 t27:=underlying243
 a27:=isAgg243
 z27:=sizeOf243
 v27:=zeroValue243
 t28:=underlying341
 a28:=isAgg341
 z28:=sizeOf341
 v28:=zeroValue341
 t33:=underlying109
 a33:=isAgg109
 z33:=sizeOf109
 v33:=zeroValue109}
def qB:ZE:=⟨fun|7=>253|10=>298|n=>n,fun|23=>339|26=>3|3=>206|28=>341|0=>0|27=>243|33=>109|4=>4|n=>n,fun|n=>n⟩
theorem HN:SlLaysZI.n7 prog qB:={
 mixed:=ai
 f7:=⟨Tryz.f253.name,aj,func253.trans (congrArg some ai)⟩
 f10:=⟨Tryz.f298.name,aj,func298.trans (congrArg some ai)⟩
 t0:=underlying0
 a0:=isAgg0
 z0:=sizeOf0
 v0:=zeroValue0
 t4:=underlying4
 a4:=isAgg4
 z4:=sizeOf4
 v4:=zeroValue4
 t23:=underlying339
 a23:=isAgg339
 z23:=sizeOf339
 v23:=zeroValue339
 t26:=XF
 a26:=isAgg3
 z26:=sizeOf3
 v26:=zeroValue3
 t27:=underlying243
 a27:=isAgg243
 z27:=sizeOf243
 v27:=zeroValue243
 t28:=underlying341
 a28:=isAgg341
 z28:=sizeOf341
 v28:=zeroValue341
 t33:=underlying109
 a33:=isAgg109
 z33:=sizeOf109
 v33:=zeroValue109}
def m_:ZE:=⟨fun|6=>251|8=>295|9=>296|11=>323|13=>325|12=>324|23=>353|24=>354|14=>344|15=>345|16=>346|17=>347|18=>348|19=>349|20=>350|21=>351|22=>352|25=>370|26=>371|27=>372|28=>373|29=>374|30=>375|31=>385|n=>n,fun|26=>3|28=>341|24=>82|0=>0|3=>3|37=>157|48=>224|50=>87|4=>4|40=>445|39=>444|45=>386|5=>5|9=>9|51=>460|55=>214|57=>469|58=>470|33=>109|n=>n,fun|n=>n⟩
theorem yd:SlLaysZI.n6 prog m_:={
 mixed:=ai
 f6:=⟨Tryz.f251.name,aj,func251.trans (congrArg some ai)⟩
 f8:=⟨Tryz.f295.name,aj,func295.trans (congrArg some ai)⟩
 f11:=⟨Tryz.f323.name,aj,func323.trans (congrArg some ai)⟩
 t0:=underlying0
 a0:=isAgg0
 z0:=sizeOf0
 v0:=zeroValue0
 t24:=YD
 a24:=isAgg82
 z24:=sizeOf82
 v24:=zeroValue82
 t26:=XF
 a26:=isAgg3
 z26:=sizeOf3
 v26:=zeroValue3
 t28:=underlying341
 a28:=isAgg341
 z28:=sizeOf341
 v28:=zeroValue341
 i26:=by kernel_rfl}
def zm:ZE:=⟨fun|5=>296|8=>325|7=>324|19=>353|20=>354|10=>344|11=>345|12=>346|13=>347|14=>348|15=>349|16=>350|17=>351|18=>352|30=>370|31=>371|32=>372|33=>373|34=>374|35=>375|40=>385|n=>n,fun|23=>82|25=>3|3=>3|32=>157|22=>82|0=>0|44=>224|46=>87|4=>4|36=>445|35=>444|41=>386|5=>5|9=>9|53=>460|57=>214|63=>469|64=>470|n=>n,fun|n=>n⟩
theorem HO:SlLaysM.n5 prog zm:={
 mixed:=ai
 f5:=⟨Tryz.f296.name,aj,func296.trans (congrArg some ai)⟩
 f7:=⟨Tryz.f324.name,aj,func324.trans (congrArg some ai)⟩
 f8:=func325.trans (congrArg some ai)
 f10:=⟨Tryz.f344.name,aj,func344.trans (congrArg some ai)⟩
 f11:=⟨Tryz.f345.name,aj,func345.trans (congrArg some ai)⟩
 f12:=⟨Tryz.f346.name,aj,func346.trans (congrArg some ai)⟩
 f13:=⟨Tryz.f347.name,aj,func347.trans (congrArg some ai)⟩
 f14:=⟨Tryz.f348.name,aj,func348.trans (congrArg some ai)⟩
 f15:=⟨Tryz.f349.name,aj,func349.trans (congrArg some ai)⟩
 f16:=⟨Tryz.f350.name,aj,func350.trans (congrArg some ai)⟩
 f17:=⟨Tryz.f351.name,aj,func351.trans (congrArg some ai)⟩
 f18:=⟨Tryz.f352.name,aj,func352.trans (congrArg some ai)⟩
 f19:=func353.trans (congrArg some ai)
 f20:=func354.trans (congrArg some ai)
 f30:=⟨Tryz.f370.name,aj,func370.trans (congrArg some ai)⟩
 f31:=func371.trans (congrArg some ai)
 f32:=func372.trans (congrArg some ai)
 f33:=⟨Tryz.f373.name,aj,func373.trans (congrArg some ai)⟩
 f34:=⟨Tryz.f374.name,aj,func374.trans (congrArg some ai)⟩
 f35:=⟨Tryz.f375.name,aj,func375.trans (congrArg some ai)⟩
 f40:=⟨Tryz.f385.name,aj,func385.trans (congrArg some ai)⟩
 t0:=underlying0
 a0:=isAgg0
 z0:=sizeOf0
 v0:=zeroValue0
 t3:=XF
 a3:=isAgg3
 z3:=sizeOf3
 v3:=zeroValue3
 t4:=underlying4
 a4:=isAgg4
 z4:=sizeOf4
 v4:=zeroValue4
 t5:=UR
 a5:=isAgg5
 z5:=sizeOf5
 v5:=zeroValue5
 t9:=underlying9
 a9:=isAgg9
 z9:=sizeOf9
 v9:=zeroValue9
 t22:=YD
 a22:=isAgg82
 z22:=sizeOf82
 v22:=zeroValue82
 t23:=YD
 a23:=isAgg82
 z23:=sizeOf82
 v23:=zeroValue82
 t25:=XF
 a25:=isAgg3
 z25:=sizeOf3
 v25:=zeroValue3
 t32:=underlying157
 a32:=isAgg157
 z32:=sizeOf157
 v32:=zeroValue157
 t35:=underlying444
 a35:=isAgg444
 z35:=sizeOf444
 v35:=zeroValue444
 t36:=underlying445
 a36:=isAgg445
 z36:=sizeOf445
 v36:=zeroValue445
 t41:=underlying386
 a41:=isAgg386
 z41:=sizeOf386
 v41:=zeroValue386
 t44:=underlying224
 a44:=isAgg224
 z44:=sizeOf224
 v44:=zeroValue224
 t46:=underlying87
 a46:=isAgg87
 z46:=sizeOf87
 v46:=zeroValue87
 t53:=underlying460
 a53:=isAgg460
 z53:=sizeOf460
 v53:=zeroValue460
 t57:=underlying214
 a57:=isAgg214
 z57:=sizeOf214
 v57:=zeroValue214
 t63:=underlying469
 a63:=isAgg469
 z63:=sizeOf469
 v63:=zeroValue469
 t64:=underlying470
 a64:=isAgg470
 z64:=sizeOf470
 v64:=zeroValue470}
theorem BI(m:Nat):AnyZI.SortsIn prog m_ TV m:=
 ⟨λc d a f W g b e=>UP.2 (AnyM.slices_Sort_int HO c d a f W g b e),
  λp a W=>UP.2 (AnyM.slices_Sort_int_none HO p a W)⟩
def iu(l:List Nat)(w:M)(e:RW)(b:M):Prop:=
 ∃v,aK e v/\b.ownsRow w.heap.size 3 1 v l.length (l.map λa=>SK .i64 (a:Nat))/\au w b
theorem zn(a:Option Nat)(W:M):aE 252 #[.map a] W λe b=>aK e (.func (.func 297) #[] #[H W.heap.size])/\b=W.alloc (N #[.map a] 338):=
 (UP (n:=5)).1 (AnyZI.keys_in HM TV 5 trivial rfl a W)
theorem zo(a:Option Nat)(W:M):aE 253 #[.map a] W λe b=>aK e (.func (.func 298) #[] #[H W.heap.size])/\b=W.alloc (N #[.map a] 339):=
 (UP (n:=5)).1 (AnyZI.keys_in HN TV 5 trivial rfl a W)
theorem m'{f:List Int}{D:DataW Unit}{p:Nat->Bool}(d:f.Perm (intKeys D))(e:((bQ n p).map λa=>((a:Nat):Int)).Perm (intKeys D)):f.mergeSort (λx y=>decide (x<=y))=(bQ n p).map λa=>((a:Nat):Int):=by
 have h:=d.trans e.symm;have i:∀a b c:Int,decide (a<=b)=true->decide (b<=c)=true->decide (a<=c)=true:=λa b c d e=>by simp only[decide_eq_true_eq]at*;exact Int.le_trans d e
 have g:∀a b:Int,(decide (a<=b)||decide (b<=a))=true:=λa b=>by simp only[Bool.or_eq_true,decide_eq_true_eq];exact Int.le_total a b
 refine List.Perm.eq_of_pairwise (le:=λa b=>decide (a<=b)=true) (λa b _ _ d e=>?_) (List.pairwise_mergeSort i g f) ?_ ((List.mergeSort_perm f _).trans h)
 .simp only[decide_eq_true_eq]at d e;exact Int.le_antisymm d e
 .refine YA.2 ((iP n p).imp λ{a b} h=>?_);simp only[decide_eq_true_eq];omega
theorem tE(g b n L:Nat)(f:Nat->Option QC)(w:M)(j:a_ w g (N #[.map (some b)] 338))(h:KM w b n f)(x:n<=1000000)(p:∀a,L<=a->f a=none):
  aE 251 #[.func (.func 297) #[] #[H g]] w (iu (bQ L λa=>(f a).isSome) w):=by
 refine(UP (n:=5)).1 ?_;obtain⟨D,k,l⟩:=h.keys p;have q:Maps.size D<=n:=by obtain⟨r,y,_,_,s,rfl⟩:=k;show((r.toList.map (YK prog 3 R0)).foldr XK []).length<=n;rw[length_sorted];simpa using s
 have d:SeqGives TV 2 prog 297 #[H g] encZ (λi=>i.Perm (intKeys D)) (Maps.size D) w:=
  AnyZI.keys_gives (ρ:=qA) {HM with} TV _ trivial rfl J g b n D w (Z_ j) ((cr j).1 0) k
 have m:=AnyZI.sorted_in yd TV 5 trivial trivial trivial trivial rfl J (BI _) (RF func296 ai rfl) 297 #[H g] trivial (RF func297 ai rfl) _ _ (by simp[UI];omega) J _ d;change CallsIn _ _ prog 251 _ _ _ at m;refine m.mono ?_;rintro e z ⟨v,i,rfl,o,c,-,t⟩;have u:i.length=(bQ L λa=>(f a).isSome).length:=by have:=(o.trans l.symm).length_eq;rw[this,RA]
 rw[m' o l,List.map_map,u]at c;exact⟨v,rfl,c,t⟩
theorem tF(g b n L:Nat)(f:Nat->Option QC)(w:M)(j:a_ w g (N #[.map (some b)] 339))(h:KM w b n f)(x:n<=1000000)(p:∀a,L<=a->f a=none):
  aE 251 #[.func (.func 298) #[] #[H g]] w (iu (bQ L λa=>(f a).isSome) w):=by
 refine(UP (n:=5)).1 ?_;obtain⟨D,k,l⟩:=h.keys p;have q:Maps.size D<=n:=by obtain⟨r,y,_,_,s,rfl⟩:=k;show((r.toList.map (YK prog 3 R0)).foldr XK []).length<=n;rw[length_sorted];simpa using s
 have d:SeqGives TV 2 prog 298 #[H g] encZ (λi=>i.Perm (intKeys D)) (Maps.size D) w:=
  AnyZI.keys_gives (ρ:=qB) {HN with} TV _ trivial rfl J g b n D w (Z_ j) ((cr j).1 0) k
 have m:=AnyZI.sorted_in yd TV 5 trivial trivial trivial trivial rfl J (BI _) (RF func296 ai rfl) 298 #[H g] trivial (RF func298 ai rfl) _ _ (by simp[UI];omega) J _ d;change CallsIn _ _ prog 251 _ _ _ at m;refine m.mono ?_;rintro e z ⟨v,i,rfl,o,c,-,t⟩;have u:i.length=(bQ L λa=>(f a).isSome).length:=by have:=(o.trans l.symm).length_eq;rw[this,RA]
 rw[m' o l,List.map_map,u]at c;exact⟨v,rfl,c,t⟩
end
theorem ZX(n:Nat)(h:n<4294967296):(UJ 32 (n:Int)).toNat=n:=by rw[WW,XL];exact SA J
theorem nS(a b:Nat)(c:a<4294967296)(d:b<4294967296):bits .xor .u32 (a:Int) (b:Int)=((a^^^b:Nat):Int):=by have e:a^^^b<2^32:=XT J J;show IntKind.u32.wrap ((UJ 32 (a:Int)^^^UJ 32 (b:Int)).toNat:Int)=_;rw[BitVec.toNat_xor,ZX a c,ZX b d,IntKind.wrap_u32];omega
theorem rP(a b:Nat)(c:a<4294967296)(d:b<4294967296):bits .and .u32 (a:Int) (b:Int)=((a&&&b:Nat):Int):=by have e:a&&&b<2^32:=Nat.and_lt_two_pow _ J;show IntKind.u32.wrap ((UJ 32 (a:Int)&&&UJ 32 (b:Int)).toNat:Int)=_;rw[BitVec.toNat_and,ZX a c,ZX b d,IntKind.wrap_u32];omega
def II(n:Nat):Nat:=(n/2)^^^(2197175160*(n&&&1)%4294967296)
def na(n:Nat):Nat->Nat
 |0=>n
 |k+1=>II (na n k)
def zp(i:Nat):Nat:=na i 4
def wg(n:Nat):Nat:=(n/16)^^^zp (n&&&15)
def iv(n:Nat)(f:aQ):Nat->Nat
 |0=>n
 |k+1=>wg (wg (iv n f k^^^f k))
def oo(n:Nat):Nat:=4294967295^^^n
def dE(s L:Nat)(f:aQ):Nat:=oo (iv (oo s) f L)
theorem KZ(a:m<4294967296)(b:k<4294967296):m^^^k<4294967296:=XT (n:=32) J J
theorem Fv(n:Nat)(h:n<4294967296):II n<4294967296:=KZ J (RT _ J)
theorem tG(n k:Nat)(h:n<4294967296):na n k<4294967296:=by
 induction k with
 |zero=>exact h
 |succ k a=>exact Fv _ a
theorem tH(n:Nat):n&&&15<16:=Nat.lt_succ_of_le Nat.and_le_right
theorem ye(n:Nat):zp (n&&&15)<4294967296:=tG _ _ (by have:=tH n;omega)
theorem rQ(n:Nat)(h:n<4294967296):wg n<4294967296:=KZ J (ye n)
theorem oq(n:Nat)(f:aQ)(L:Nat)(h:n<4294967296)(a:∀k,k<L->f k<256):iv n f L<4294967296:=by
 induction L with
 |zero=>exact h
 |succ k b=>exact rQ _ (rQ _ (KZ (b λj c=>a j J) (by have:=a k J;omega)))
theorem rR(n:Nat)(h:n<4294967296):oo n<4294967296:=KZ J h
theorem gQ(s L:Nat)(f:aQ)(h:s<4294967296)(a:∀k,k<L->f k<256):dE s L f<4294967296:=rR _ (oq _ f L (rR _ h) a)
theorem IJ(n:Nat)(h:n<4294967296):bits .xor .u32 ((n:Int)/2) (2197175160*bits .and .u32 (n:Int) 1%4294967296)=((II n:Nat):Int):=by have a:bits .and .u32 (n:Int) 1=((n&&&1:Nat):Int):=rP n 1 h J;rw[a];exact nS (n/2) (2197175160*(n&&&1)%4294967296) J (RT _ J)
def bs(n:Nat)(f:Nat->QC):Array QC:=((TT n).map f).toArray
theorem zq(n:Nat)(f:Nat->QC):(bs n f).size=n:=by simp[bs]
theorem cg(n:Nat)(f:Nat->QC)(k:Nat)(h:k<n):(bs n f)[k]?=some (f k):=by simp[bs,h]
theorem kV{f g:Nat->QC}(h:∀k,k<n->f k=g k):bs n f=bs n g:=by unfold bs;congr 1;exact UX λx a=>h x (by simpa using a)
theorem eY(n:Nat)(f:Nat->QC)(i:Nat)(v:QC):(bs n f).setIfInBounds i v=bs n λk=>if k=i then v else f k:=by
 apply Array.ext
 .simp [bs]
 .intro k b c;by_cases h:i=k
  .subst h;simp[bs]
  .have a:¬k=i:=λe=>h e.symm;simp[bs,h,a]
def qd(k i:Nat):QC:=.int .u32 (if i<k then zp i else 0)
theorem BJ(k:Nat):(bs 16 (qd k)).setIfInBounds k (.int .u32 (na k 4:Nat))=bs 16 (qd (k+1)):=by
 rw[eY];refine kV λi _=>?_;unfold qd zp;by_cases h:i=k
 .subst h;simp
 .rw [aq h];by_cases a:i<k
  .rw [ao a,ao J]
  .rw [aq a,aq J]
def ku:Array QC:=bs 16 (qd 16)
theorem rS:(prog.info? 369).map (·.size)=some 16:=ai
theorem tI{f:Nat->QC}(h:∀i,i<n->(f i).oneCell'=true):∀v∈(bs n f).toList,v.oneCell'=true:=by intro x a;simp only[bs,RQ,UA]at a;obtain⟨i,b,rfl⟩:=a;exact h i b
theorem Px(h:SC n w W)(b:n<=m)(a:Array QC):SC n w (W.setRow m a):=
 h.trans ⟨rfl,rfl,rfl,aJ,λk c=>setRow_other W m k a J⟩
theorem BK(w:M):aE 291 #[] w λe s=>aK e (.agg ku)/\SC w.heap.size w s:=by
 go_enter func291,ntmps291;go_wp2;obtain⟨W,c⟩:=ah (w.alloc (N #[.int .u32 0,.int .u32 0,.int .u32 0,.int .u32 0,.int .u32 0,.int .u32 0,.int .u32 0,.int .u32 0,.int .u32 0,.int .u32 0,.int .u32 0,.int .u32 0,.int .u32 0,.int .u32 0,.int .u32 0,.int .u32 0] 369));have m:QX (a_ W w.heap.size (N (bs 16 (qd 0)) 369)/\SC w.heap.size w W):=by rw[<-c];exact⟨QB w _,aI ak _⟩
 rw[c];clear c;obtain⟨g,b⟩:=ah w.heap.size;have t:=I b;rw[b];rw[b]at m;clear b;go_loopw [3] (λd wr=>∃k:Nat,k<=16/\d= Y k/\QX (a_ wr g (N (bs 16 (qd k)) 369)/\SC g w wr)) (λd _=>16-(intOf d).toNat)
 case atStart=>exact⟨0,J,rfl,m⟩
 case round=>
  obtain⟨k,C,rfl,a⟩:=hrel;by_cases f:k<16
  .have u:(k:Int)%4294967296=k:=J;go_wp2;go_loop [2,8] (λv h=>∃j:Nat,j<=4/\h= Y j/\v=.int .u32 (na k j:Nat)) (λ_ h=>4-(intOf h).toNat)
   case atStart=>exact⟨0,J,rfl,rfl⟩
   case round=>
    obtain⟨j,D,rfl,rfl⟩:=hrel;by_cases x:j<4
    .have o:=I (IJ (na k j) (tG _ _ J));obtain⟨n,i⟩:=ah (na k j);have y:=I i;rw[i]at o|-;clear i;go_wp2;rw[o.out];go_round
     case rel=>exact⟨j+1,J,by go_num,by rw[<-y.out];rfl⟩
     case measure=>simp[intOf];omega
    .obtain rfl:j=4:=J;obtain⟨q,E,c3⟩:=cr a.1;have c4:wr.cell? (R g k)=some (qd k k):=by rw[q];exact cg _ _ _ f
     have F:(0:Int)<=k:=J;clear q;go_wp2;go_roundw
     case rel=>refine⟨k+1,J,by go_num,?_,a.2.setCell (p:=R g k) (QH _) _⟩;have r:=heap_setCell_same wr g k _ _ (.int .u32 (na k 4:Nat)) a.1;rw[BJ]at r;exact r
     case measure=>simp[intOf];omega
  .obtain rfl:k=16:=J;have l:=a.1;have z:(storeCells (R g 0) ku.toList).run prog wr=.ok () (wr.setRow g ku):=by have:=run_storeCells_from (P:=prog) g 369 ku.toList 0 ku wr l aJ (tI λ_ _=>rfl);simpa using this
   go_wp2_with(refine wpList_load_row rfl 369 _ rfl g rfl 369 ku (0,0) _ l underlying369 rfl (by rw[rS];rfl) ?_);have A:=setRow_heap wr g _ ku _ _ l;have B:SC g w (wr.setRow g ku):=Px a.2 (QH _) _;exact QR (results_cell_row rfl _ _ g 369 ku (0,0) _ rfl A underlying369 rfl (by rw[rS];rfl)) rfl ⟨rfl,t▸B⟩
theorem BL(n:Nat)(h:n<4294967296):bits .xor .u32 IntKind.u32.max (n:Int)=((oo n:Nat):Int):=nS 4294967295 n J h
theorem BM(n:Nat)(h:n<4294967296):bits .xor .u32 ((n:Int)/16) ((zp (n&&&15):Nat):Int)=((wg n:Nat):Int):=nS (n/16) _ J (ye n)
theorem tJ(s L:Nat)(v:QC)(f:aQ)(w:QA)(F:s<4294967296)(h:lW w v L f)(Z:∀k,k<L->f k<256)(a3:L<=140737488355328):
  aE 247 #[.int .u32 s,v] w λe H=>aK e (.int .u32 (dE s L f:Nat))/\au w H:=by
 obtain⟨a,N,rfl,h⟩:=h;have M:=ad h;have y:=ad Z;go_enter func247,ntmps247;go_wp2_with fail;refine(BK w).mono ?_;rintro e c ⟨rfl,R⟩;have q:=ad R;have I:(storeCells (ag c.heap.size 0) ku.toList 0).run prog (c.alloc (al #[.int .u32 0,.int .u32 0,.int .u32 0,.int .u32 0,.int .u32 0,.int .u32 0,.int .u32 0,.int .u32 0,.int .u32 0,.int .u32 0,.int .u32 0,.int .u32 0,.int .u32 0,.int .u32 0,.int .u32 0,.int .u32 0] 369))=.ok () (c.alloc (al ku 369)):=
  run_storeCells_new c 369 _ ku (by rw[rS];rfl) rfl (by rw[Array.all_eq_true_iff_forall_mem];intro x z;exact tI (n:=16) (f:=qd 16) (λ_ _=>rfl) x (by rw[Array.mem_toList_iff];exact z))
 go_wp2;obtain⟨W,G⟩:=ah (c.alloc (al ku 369));have t:QX (a_ W c.heap.size (al ku 369)/\au w W/\∀k,k<L->∃b o,a=some (ag b o)/\W.cell? ⟨b,o+k,none⟩=some (.int .u8 (f k))):=by
  rw[<-G];refine⟨QB c _,aI q _,λk A=>?_⟩;rcases M.out with K|⟨b,o,e,O⟩
  .omega
  .exact ⟨b,o,e,by rw[(aI q.out _).cell (p:=⟨b,o+k,none⟩) (QO w _ (O k A))];exact O k A⟩
 rw[G];obtain⟨g,Y⟩:=ah c.heap.size;rw[Y]at t|-;have P:QX (∀i,i<16->W.cell? (ag g i)=some (.int .u32 (zp i:Nat))):=λi Q=>by rw[(cr t.1).1,show ku=bs 16 (qd 16)from rfl,cg _ _ _ Q];unfold qd;rw[ao Q]
 rw[BL s F];have S:=rR s F;go_loop [6,14] (λJ l=>∃k:Nat,k<=L/\l= ae k/\J=.int .u32 (iv (oo s) f k:Nat)) (λ_ l=>L-(intOf l).toNat)
 case atStart=>exact⟨0,QN _,rfl,rfl⟩
 case round=>
  obtain⟨k,A,rfl,rfl⟩:=hrel;by_cases r:k<L
  .obtain ⟨b,o,rfl,c1⟩:=t.2.2 k r;have z:=y.out k r;have T:=oq (oo s) f k S λj a4=>y.out j aa;have u:QX (iv (oo s) f (k+1)=wg (wg (iv (oo s) f k^^^f k))):=rfl;have B:=nS (iv (oo s) f k) (f k) T aa;have gb:=KZ T (show f k<4294967296 by omega);have fe:=rQ _ gb;obtain⟨n0,K⟩:=ah (iv (oo s) f k);rw[K]at u B gb fe|-;obtain⟨d,h1⟩:=ah (n0^^^f k);rw[h1]at u B gb fe;obtain⟨x,C⟩:=ah (f k);rw[C]at c1 B z;have U:=rP d 15 gb aa;have c2:=P.out (d&&&15) (tH d);have V:=BM d gb;obtain⟨m,h2⟩:=ah (wg d);rw[h2]at u V fe;have X:=rP m 15 fe aa;have c3:=P.out (m&&&15) (tH m);have e5:=BM m fe;have j1:=tH d;have j2:=tH m;obtain⟨q1,D⟩:=ah (d&&&15);obtain⟨q2,E⟩:=ah (m&&&15);rw[D]at U c2 V j1;rw[E]at X c3 e5 j2;have a0:bits .and .u32 (d:Int) 15=(q1:Int):=U;have a1:bits .and .u32 (m:Int) 15=(q2:Int):=X;have i1:(0:Int)<=k:=aa;have i2:(k:Int)<L:=aa;go_wp2;go_round
   case rel=>exact⟨k+1,aa,by go_num,by rw[u.out]⟩
   case measure=>simp[intOf];omega
  .obtain rfl:k=L:=aa;have a2:=ad (BL (iv (oo s) f k) (oq _ f k S y));go_wp2;go_ret;exact⟨by rw[a2.out];rfl,t.2.1⟩
theorem jE(L:Nat)(v:QC)(f:aQ)(w:M)(h:lW w v L f)(a:∀k,k<L->f k<256)(b:L<=140737488355328):
  aE 160 #[v] w λe c=>aK e (.int .u32 (dE 0 L f:Nat))/\au w c:=by
 have d:=I (tJ 0 L v f w J h a b);go_enter func160,ntmps160;go_wp2_with fail;refine d.mono ?_;rintro e j ⟨rfl,g⟩;have i:=I g;go_wp2;go_ret;exact⟨rfl,i⟩
def Fw(w:M)(d s m:Nat):Prop:=w.heap[d]?=some (N #[.int .u32 (s:Int),Y (m:Int)] 436)
theorem Fx(w:M):aE 308 #[] w λe a=>aK e (H w.heap.size)/\Fw a w.heap.size 0 0/\au w a:=by go_enter func308,ntmps308;go_wp2;go_ret;exact⟨rfl,QB _ _,aI ak _⟩
theorem yf(w:M)(d s m:Nat)(h:Fw w d s m):aE 311 #[H d] w λe a=>aK e (.int .u32 s)/\w=a:=by obtain⟨b,f1,c⟩:=cr h;go_enter func311,ntmps311;go_wp2;go_ret;exact⟨rfl,rfl⟩
theorem rT(w:M)(d s m L:Nat)(v:QC)(f:aQ)(h:Fw w d s m)(q:s<4294967296)(l:lW w v L f)(r:∀k,k<L->f k<256)(A:L<=1000000)(B:m<=1000000000):
  aE 313 #[H d,v] w λe n=>aK e (Y (m+L:Nat))/\Fw n d (dE s L f) (m+L)/\Out (λk=>k=d) w n:=by
 obtain⟨a,t,rfl,-⟩:=id l;have u:=I h;have x:=I (λ(W:M) (i:au w W)=>tJ s L _ f W q (lW.cS l i) r J);obtain⟨y,f1,o⟩:=cr h;have C:QK.wrap ((m:Int)+L)=((m+L:Nat):Int):=bj;go_enter func313,ntmps313;go_wp2
 go_region_with (first|(go_at_call 247;refine(x _ bF).mono ?_;rintro e g ⟨rfl,b⟩;obtain⟨D,f3,z3⟩:=kp b d dJ))
 all_goals(
  have c:au w g:=⟨b.os,b.tape,b.output,b.size,b.block⟩;have i:=(c.block d o).trans u;have j:QX (((g.setCell (R d 0) (.int .u32 (dE s L f:Nat))).setCell (R d 1) (Y ((m:Int)+L))).heap[d]?=some (N #[.int .u32 (dE s L f:Nat),Y ((m:Int)+L)] 436)/\Out (λk=>k=d) w ((g.setCell (R d 0) (.int .u32 (dE s L f:Nat))).setCell (R d 1) (Y ((m:Int)+L)))):=
   ⟨heap_setCell_same _ d 1 _ 436 _ (heap_setCell_same _ d 0 _ 436 _ i),((Out.af (S:=λk=>k=d) c).setCell (p:=R d 0) (λ_=>rfl) _).setCell (p:=R d 1) (λ_=>rfl) _⟩
  obtain⟨W,z⟩:=ah ((g.setCell (R d 0) (.int .u32 (dE s L f:Nat))).setCell (R d 1) (Y ((m:Int)+L)));rw[z]at j|-;obtain⟨y,f1,o⟩:=cr j.1;go_wp2;go_ret;exact⟨aJ,j⟩)
structure iD(Z:Nat->Prop)(w w':M)(Z':Nat->Prop):Prop where
 out:Out Z w w'
 new:∀k,Z' k->Z k\/w.heap.size<=k
theorem iD.trans(h:iD S w W Q)(k:iD Q W z X):iD S w z X:=
 ⟨h.out.trans k.out λi a e=>(h.new i e).elim id λe=>absurd a J,λi e=>(k.new i e).elim (h.new i) λe=>.inr (by have:=h.out.size;omega)⟩
theorem iD.same(h:au w W):iD S w W S:=⟨Out.af h,λ_ h=>.inl h⟩
theorem iD.pre(h:au w W)(k:iD S W z Q):iD S w z Q:=(iD.same h).trans k
theorem iD.refl(Z:Nat->Prop)(w:M):iD Z w w Z:=iD.same ak
def cat(N:Nat)(f g:aQ)(k:Nat):Nat:=if k<N then f k else g (k-N)
def leB(v j:Nat):Nat:=v/256^j%256
theorem kb:(prog.info? 5).map (λi=>(i.zero,i.size,i.bytes))=some (some (.int .u8 0),1,1):=ai
def Pk(Z:Nat->Prop)(w:M)(p size N:Nat)(f:aQ):Prop:=
 ∃a,w.heap[p]?=some (al #[Y size,a,aG 0] 309)/\w.ownsRow 0 5 1 a N (aA N f)/\a.ownBlock≠some p/\Z=λk=>k=p\/a.ownBlock=some k
theorem Pk.out{w w1:M}{p size N:Nat}(h:Pk Q w p size N f)(a:Out S w w1)(b:∀k,k<w.heap.size->S k->¬Q k):Pk Q w1 p size N f:=by obtain⟨i,c,d,j,rfl⟩:=h;exact⟨i,a.heap c (λe=>b p (RC.1 c).1 e (.inl rfl)),a.own d (λk g e=>b k (d.lt k g).2 e (.inr g)),j,rfl⟩
theorem Pk.cS(h:Pk Q w n m k f)(a:au w W):Pk Q W n m k f:=h.out (S:=λ_=>False) (Out.af a) λ_ _ h=>h.elim
theorem tK(N:Nat)(f g:aQ)(j:Nat):aA (N+j) (cat N f g)++ [.int .u8 (g j:Nat)] =aA (N+(j+1)) (cat N f g):=by
 have e:[SK .u8 (g j:Nat)] = [j+N].map λk=>SK .u8 (cat N f g k):=by simp only[TS,XR,cat];rw[aq J,VP]
 rw[e];unfold aA;rw[<-UO,UK,SH,YZ j N]
theorem jF(N L:Nat)(f g:aQ):aA N f++aA L g=aA (N+L) (cat N f g):=by
 induction L with
 |zero=>rw[VJ];simp only[aA,List.range_zero,XR,UB];exact UX λk a=>by unfold cat;rw[ao (UA.1 a)]
 |succ j b=>rw[<-tK,<-b,SY];congr 1;simp[aA,UK]
theorem Pk.put(g:a_ w n (N #[Y m,v,aG 0] 309))(h:v.ownBlock≠some n)(a:au w W)(l:z.ownsRow 0 5 1 x j (aA j f))(c:nF C W v i r x z)(q:w.heap.size<=C):
  Pk (λk=>k=n\/x.ownBlock=some k) (z.setCell (R n 1) x) n m j f/\iD (λk=>k=n\/v.ownBlock=some k) w (z.setCell (R n 1) x) (λk=>k=n\/x.ownBlock=some k):=by
 have o:=(RC.1 g).1;have d:=c.heap ((a.block n o).trans g) h;have b:x.ownBlock≠some n:=λe=>(c.block e).elim h λe=>J;refine⟨⟨x,heap_setCell_same z n 1 _ 309 x d,XS l b _,b,rfl⟩,(c.out (Out.af a) λk hk _=>.inr hk).setCell (p:=R n 1) (λ_=>.inl rfl) x,λk hk=>?_⟩;rcases hk with hk|hk
 .exact .inl (.inl hk)
 .exact (c.block hk).elim (λe=>.inl (.inr e)) λe=>.inr J
def ot(Z:Nat->Prop)(w:M)(p size N:Nat)(f:aQ)(e:RW)(a:M):Prop:=
 aK e (.tuple #[])/\∃b,Pk b a p size N f/\iD Z w a b
theorem ou(Z:Nat->Prop)(w:M)(p size N n:Nat)(f:aQ)(h:Pk Z w p size N f)(d:size<=4096)(g:N+n<=size):
  aE 244 #[H p,Y n] w λe a=>aK e ed/\au w a:=by
 obtain⟨i,b,c,-,-⟩:=h;obtain⟨j,k,rfl,-⟩:=av c;obtain⟨l,f1,m⟩:=cr b;have o:QK.wrap ((size:Int)-N)=((size-N:Nat):Int):=bj;have q:¬((size-N:Nat):Int)<(n:Int):=J;go_enter func244,ntmps244;go_wp2;go_quiet(fail);go_wp2;go_ret;exact⟨rfl,cE ak _⟩
theorem hQ(Z:Nat->Prop)(w:QA)(p size N v L:Nat)(f:aQ)(h:Pk Z w p size N f)(G:size<=4096)(K:N+L<=size):
  aE 246 #[ar p,.int .u64 v,ae L] w (ot Z w p size (N+L) (cat N f (leB v))):=by
 have O:=ad h;have P:=ad (ou Z w p size N L f h G K);obtain⟨Q,S,o,q,r⟩:=SD kb;go_enter func246,ntmps246;go_wp2_with fail;refine P.mono ?_;rintro e w1 ⟨rfl,T⟩;have y:=ad T;go_wp2_with fail;go_loopw [1,11] (λU k wr=>∃(j:Nat) (n:Nat->Prop),j<=L/\k= ae j/\U=.int .u64 (v/256^j:Nat)/\QX (Pk n wr p size (N+j) (cat N f (leB v))/\iD Z w wr n)) (λ_ k _=>L-(intOf k).toNat)
 case atStart=>
  have l:=O.cS y;have e:aA (N+0) (cat N f (leB v))=aA N f:=by rw[<-jF];simp[aA]
  exact⟨0,Z,QN _,rfl,aJ,by obtain⟨z,a,b,c,d⟩:=l;exact⟨z,a,by rw[e];exact b,c,d⟩,iD.same y⟩
 case round=>
  obtain⟨j,n,a5,rfl,rfl,s⟩:=hrel;by_cases V:j<L
  .obtain ⟨z,A,B,W,X⟩:=s.1;obtain⟨H,M,rfl,-⟩:=av B;obtain⟨R,f1,C⟩:=cr A;have D:=ad A;have I:=ad B;have E:=ad W;have Y:=ad X;have J:N+(j+1)<=4096:=aa;have F:QX (v/256^j/256=v/256^(j+1)):=by show _=_;rw[Nat.pow_succ,Nat.div_div_eq_div_mul]
   have m:QX (((v/256^j:Nat):Int)%256=((leB v j:Nat):Int)):=by show _=_;unfold leB;omega
   obtain⟨x,a0⟩:=ah (v/256^j);rw[a0]at F m|-;go_wp2_with(first|(at_builtin;refine aU _ rfl _ _ 41 rfl 0 5 Q (.int .u8 0) 1 1 UL S o q r rfl aj (.slice H (N+j) M) (N+j) (aA (N+j) (cat N f (leB v))) rfl (I.alloc _) (ag wr.heap.size 0) 1 1 [.int .u8 ((x:Int)%256)] rfl rfl (RY (cs:= #[.int .u8 ((x:Int)%256)]) (t:=5) (fr:=(0,0)) (QB wr _)) (by intro u a1;rw[SP.1 a1];rfl) aa (by unfold UI;omega) aa (QN _) ?_));intro a6 a7 g i;rw[m.out,tK]at g;obtain⟨a8,a2,rfl,-⟩:=av g;have a3:=ad (Pk.put D E (aI ak _) g i (US _));have a4:=i.heap ((QW _ _ _ C).trans D) E;obtain⟨R,f1,C⟩:=cr a4;go_wp2;go_roundw
   case rel=>have l:=a3.out;rw[<-Y.out]at l;exact⟨j+1,_,aa,by go_num,by rw[<-F.out];rfl,l.1,s.2.trans l.2⟩
   case measure=>simp[intOf];omega
  .obtain rfl:j=L:=aa;go_wp2;go_end0;exact⟨rfl,n,s⟩
theorem fx(Z:Nat->Prop)(w:M)(p size N v:Nat)(f:aQ)(h:Pk Z w p size N f)(a:size<=4096)(b:N+4<=size)(i:v<4294967296):
  aE 159 #[H p,.int .u32 v] w (ot Z w p size (N+4) (cat N f (leB v))):=by
 have c:=I (hQ Z w p size N v 4 f h a b);go_enter func159,ntmps159;go_wp2_with fail;refine c.mono ?_;rintro e j ⟨rfl,d⟩;have g:=I d;go_wp2;go_end0;exact⟨rfl,g⟩
theorem rU(Z:Nat->Prop)(w:M)(p size N v:Nat)(f:aQ)(h:Pk Z w p size N f)(a:size<=4096)(b:N+8<=size):
  aE 219 #[H p,.int .u64 v] w (ot Z w p size (N+8) (cat N f (leB v))):=by
 have c:=I (hQ Z w p size N v 8 f h a b);go_enter func219,ntmps219;go_wp2_with fail;refine c.mono ?_;rintro e i ⟨rfl,d⟩;have g:=I d;go_wp2;go_end0;exact⟨rfl,g⟩
theorem Fy(a b:Nat)(c:a<18446744073709551616)(d:b<18446744073709551616):bits .and .u64 (a:Int) (b:Int)=((a&&&b:Nat):Int):=by
 have f:a&&&b<2^64:=Nat.and_lt_two_pow _ J;have e:∀n:Nat,n<18446744073709551616->(UJ 64 (n:Int)).toNat=n:=λn h=>by rw[WW,XL];exact SA J
 show VN.wrap ((UJ 64 (a:Int)&&&UJ 64 (b:Int)).toNat:Int)=_;rw[BitVec.toNat_and,e a c,e b d,IntKind.wrap_u64];omega
theorem wh(n:Nat)(h:n<4294967296):bits .and .u64 (n:Int) 4294967295=n:=by have:=Fy n 4294967295 J J;rw[show n&&&4294967295=n from(Nat.and_two_pow_sub_one_eq_mod n 32).trans (SA h)]at this;exact this
theorem mul_one(n:Nat)(w:M)(h:n<4294967296):aE 87 #[.int .u64 1,.int .u64 n] w λe a=>aK e (.tuple #[.int .u64 0,.int .u64 n])/\w=a:=by have b:=wh n h;have c:bits .and .u64 1 4294967295=1:=wh 1 J;have d:bits .and .u64 0 4294967295=0:=wh 0 J;have f:(n:Int)/4294967296=0:=J;go_enter func87,ntmps87;go_wp2;go_ret2;exact⟨rfl,rfl⟩
def bP(n:Nat)(f:Nat->QC):List QC:=(TT n).map f
theorem bG(n:Nat)(f:Nat->QC):(bP n f).length=n:=by simp[bP]
theorem cd(n:Nat)(f:Nat->QC)(k:Nat)(h:k<n):(bP n f)[k]?=some (f k):=by simp[bP,h]
theorem ov{f g:Nat->QC}(h:∀k,k<n->f k=g k):bP n f=bP n g:=UX λx a=>h x (by simpa using a)
theorem ow{f:Nat->QC}(h:∀i,i<n->(f i).oneCell'=true):∀v∈bP n f,v.oneCell'=true:=by intro x a;simp only[bP,RQ,UA]at a;obtain⟨i,b,rfl⟩:=a;exact h i b
theorem iS{K:IntKind}(N:Nat):TQ (SK K 0).cells N=bs N λ_=>.int K 0:=by simp[TQ,bs,Value.cells];apply Array.ext<;>simp[YF]
theorem iT{g L B:Nat}{f:Nat->QC}(h:a_ w g (.cells (bs L f) t (0,0)))(a:B<=g)(b:L<=UI):w.ownsRow B t 1 (a' g L L) L (bP L f):=by refine⟨by rw[bG,TZ],.inr ⟨g,L,_,rfl,a,h,QH _,b,by rw[zq,TZ],?_⟩⟩;rw[TZ,YH (by simp[bs])];simp[bs,bP]
theorem hS(n m q:Nat)(x y:QC)(h:m+q<=n):YG (bP n λk=>if k<m then x else y) m (bP q λ_=>x)=bP n λk=>if k<m+q then x else y:=by
 apply TN;intro k;rw[fi _ _ _ _ (by rw[bG,bG];omega),bG];by_cases b:k<n
 .rw [cd _ _ _ b,cd _ _ _ b];by_cases a:m<=k/\k<m+q
  .rw [ao a,cd _ _ _ J,ao a.2]
  .rw [aq a];by_cases c:k<m
   .rw [ao c,ao J]
   .rw [aq c,aq J]
 .have e:∀f:Nat->QC,(bP n f)[k]?=none:=λf=>RE (by rw[bG];omega);rw[aq J,e,e]
theorem kx(n:Nat)(x y:QC)(h:1<=n):YG (bP n λ_=>y) 0 [x] =bP n λk=>if k<1 then x else y:=by have:=hS n 0 1 x y J;rw[RH]at this;rw[<-this];congr 1
theorem aV(h:SC n w W):SC n w W.drew:=h.trans ⟨rfl,rfl,rfl,QH _,λ_ _=>rfl⟩
def MS(E n:Nat)(v:QC)(w:M)(e:RW)(a:M):Prop:=
 ∃g c,aK e (a' g n c)/\a.ownsRow w.heap.size E 1 (a' g n c) n (bP n λ_=>v)/\au w a
theorem IK:(prog.info? 5).map (λi=>(i.zero,i.size,i.bytes))=some (some (.int .u8 0),1,1):=ai
theorem rV:(prog.info? 5).map (·.size)=some 1:=ai
theorem zs(n b:Nat)(c:Int)(w:QA)(h0:0<n)(a2:n<=4096)(i:w.cell? (ag b 0)=some (.int .u8 c)):
  aE 245 #[a' b 1 1,ae n] w (MS 5 n (.int .u8 c) w):=by
 obtain⟨V,W,y,z,A⟩:=SD IK;have C:∀w,(TC 41 (ae (n:Int)) (ae (n:Int))).run prog w=.ok (a' w.heap.size n n) (w.alloc (al (bs n λ_=>.int .u8 0) 5)):=λw=>by have:=run_make (P:=prog) w 41 5 V (.int .u8 0) UL W y .i64 .i64 n n aa aa (by rw[A];omega) aa;rw[this,z,TZ,iS];simp
 have e2:(n:Int)%18446744073709551616=n:=aa;have e3:¬(9223372036854775807:Int)<n:=aa;have e4:¬(n:Int)<0:=aa;have G:=ad (λw=>mul_one n w aa);have l:=QO w _ i;go_enter func245,ntmps245;go_wp2_with fail;refine(G _).mono ?_;rintro e t ⟨rfl,rfl⟩;clear G;have x:=ad (iT (w:=w.alloc (al (bs n λ_=>.int .u8 0) 5)) (B:=w.heap.size) (QB w _) (QH _) (by unfold UI;omega));have K:(w.alloc (al (bs n λ_=>.int .u8 0) 5)).cell? (ag b 0)=some (.int .u8 c):=by rw[(aI ak _).cell (p:=ag b 0) l];exact i
 go_wp2_with(refine ef _ rfl (.tmp 31) (.tmp 32) 41 41 rfl 5 w.heap.size w.heap.size n n 0 n n (bP n λ_=>.int .u8 0) x (ag b 0) 1 1 [.int .u8 c] UL rV rfl rfl (by show 1=Nat.min 1 n;exact(WK aa).symm) aR (λj v d=>by cases j with|zero=>simp at d;subst d;rw[iK];exact K|succ j=>simp at d) (by simp[Value.oneCell']) ?_);intro L f a;have O:QX (L.ownsRow w.heap.size 5 1 (a' w.heap.size n n) n (bP n λk=>if k<1 then .int .u8 c else .int .u8 0)/\SC w.heap.size w L):=by refine⟨?_,((Out.af (S:=λk=>k=w.heap.size) (aI (SL w.heap.size w) _)).tr a).below (λk _ e=>aa) (QH _)⟩;rw[kx _ _ _ aa]at f;exact f
 obtain⟨g,D⟩:=ah w.heap.size;have Q:=ad D;rw[D]at O|-;clear f a x K i l D C;go_wp2;go_loopw [8] (λE wr=>∃m:Nat,1<=m/\m<=n/\E= ae m/\QX (wr.ownsRow g 5 1 (a' g n n) n (bP n λk=>if k<m then .int .u8 c else .int .u8 0)/\SC g w wr)) (λE _=>n-(intOf E).toNat)
 case atStart=>exact⟨1,aa,aa,rfl,O⟩
 case round=>
  obtain⟨m,X,Z,rfl,h⟩:=hrel;by_cases H:m<n
  .obtain ⟨q,o⟩:=ah (Nat.min m (n-m));have N:1<=q:=by subst o;exact Nat.le_min.2 ⟨aa,aa⟩
   have M:q<=m:=by subst o;exact ZH _ _
   have R:q<=n-m:=by subst o;exact Nat.min_le_right _ _
   have I:=ad o;have Y:QX (YG (bP n λk=>if k<m then SK .u8 c else .int .u8 0) m (bP q λ_=>.int .u8 c)=bP n λk=>if k<m+q then .int .u8 c else .int .u8 0):=hS n m q _ _ aa;have J:QX (∀t,SC wr.heap.size wr t->∀j u,(bP q λ_=>SK .u8 c)[j]?=some u->t.cell? (((ag g 0):SZ).add j)=some u):=λt i j u d=>by
    by_cases F:j<q
    .rw [cd _ _ _ F]at d;rw[iK,RH];have r:=(bz h.1 (k:=j) (u:=.int .u8 c) (by rw[cd _ _ _ aa,ao aa])).1;rw[i.cell (p:=ag g j) (QO wr _ r),r,d]
    .rw [RE (by rw[bG];omega)]at d;cases d
   have a0:QK.wrap ((m:Int)+q)=((m+q:Nat):Int):=bj;have j1:¬n=m:=aa;have i1:(0:Int)<=m:=aa;have i2:(m:Int)<=n:=aa;clear o;go_wp2
   go_region_law (refine gn _ rfl (.tmp 41) (.tmp 44) 41 41 rfl 5 g g n n m (n-m) (n-m) (bP n λk=>if k<m then .int .u8 c else .int .u8 0) (aP (w:=wr) bF h.1) (ag g 0) m n (bP q λ_=>.int .u8 c) UL rV (by simp[VU,RG, *]) (by simp[VU,RG, *]) (by rw[bG];exact I.symm) (by rw[bG];omega) (J _ bF) (ow λ_ _=>rfl) ?_;intro T f a;rw[bG];have x:=ad f;have s:=ad a;clear f a)
   all_goals(try simp only[QI,QF,QG])
   all_goals go_frame
   all_goals go_roundw
   all_goals(
    have U:QX (T.ownsRow g 5 1 (a' g n n) n (bP n λk=>if k<m+q then .int .u8 c else .int .u8 0)/\SC g w T):=by refine⟨by rw[<-Y.out];exact x,h.2.trans (((Out.af (S:=λk=>k=g) (aV (SL wr.heap.size wr))).tr s).below (λk _ e=>aa) ?_)⟩;have:=(h.1.lt g rfl).2;omega)
   all_goals first
    |exact⟨m+q,aa,aa,by go_num,U⟩
    |((repeat apply Exists.intro);exact⟨⟨m+q,aa,aa,by go_num,U⟩,rfl⟩)
    |(simp[intOf];omega)
  .obtain rfl:m=n:=aa;go_wp2;go_ret;refine⟨_,_,rfl,?_,(Q▸h.2:SC w.heap.size w wr)⟩;have r:=h.1;rw[ov (g:=λ_=>.int .u8 c) λk a1=>ao a1]at r;exact Q▸r
theorem wi:(prog.info? 3).map (λi=>(i.zero,i.size,i.bytes))=some (some (Y 0),1,8):=ai
theorem BN:(prog.info? 3).map (·.size)=some 1:=ai
theorem ox:(prog.info? 122).map (λi=>(i.zero,i.size,i.bytes))=some (some (.int .u8 0),1,1):=ai
theorem tL:(prog.info? 122).map (·.size)=some 1:=ai
def Py(size:Nat)(w:M)(e:RW)(a:M):Prop:=∃p Z,aK e (.tuple #[H p,aG 0])/\Pk Z a p size 0 (λ_=>0)/\(∀k,Z k->w.heap.size<=k)/\au w a
theorem wj(size:Nat)(w:M)(h:size<=4096):aE 154 #[Y size] w (Py size w):=by
 have a:¬(size:Int)<0:=J;have b:¬(4096:Int)<size:=J;go_enter func154,ntmps154;go_wp2;go_ret2;refine⟨w.heap.size,_,rfl,⟨aW,QB _ _,SJ _ _ _ _,(by simp[WQ]),rfl⟩,?_,aI ak _⟩;rintro k (rfl|hk)
 .exact QH _
 .cases hk
theorem rW(Z:Nat->Prop)(w:QA)(p size N L:Nat)(v:QC)(f g:Nat->Nat)(h:Pk Z w p size N f)(P:lW w v L g)(Q:0<L)(S:size<=4096)(T:N+L<=size):
  Calls VY 214 #[.pointer (some ⟨p,0,none⟩),v] w (ot Z w p size (N+L) (cat N f g)):=by
 have U:=RB h;have z:=RB (ou Z w p size N L f h S T);obtain⟨a,m,rfl,A⟩:=P;obtain⟨b,o,rfl,k⟩:=A.resolve_left (by omega);have B:=RB k;obtain⟨V,W,n,q,r⟩:=SD kb;clear h A k;go_enter Tryz.func214,Tryz.ntmps214;go_wp2_with fail;refine z.out.mono ?_;rintro e X ⟨rfl,C⟩;have s:=RB C;clear C z;obtain⟨a2,t,x,D,E⟩:=U.out.cS s.out;obtain⟨H,M,rfl,-⟩:=av x;obtain⟨F,f1,R⟩:=cr t;have G:=RB t;have I:=RB x;have K:=RB D;have Y:=RB E;have J:QX (∀j u,(aA L g)[j]?=some u->X.cell? ((⟨b,o,none⟩:SZ).add j)=some u):=λj u l=>by
  by_cases i:j<L
  .rw [ba _ _ _ i]at l;rw[iK,s.out.cell (p:=⟨b,o+j,none⟩) (QO w _ (B.out j i)),B.out j i,l]
  .rw [RE (by rw[aH];omega)]at l;cases l
 clear t x D E;go_wp2_with(first|(at_builtin;refine aU _ rfl _ _ 41 rfl 0 5 V (.int .u8 0) 1 1 Tryz.underlying41 W n q r rfl (by decide) (.slice H N M) N (aA N f) rfl I.out ⟨b,o,none⟩ L m (aA L g) rfl (by rw[aH,TZ]) J.out (dg _ _) Q (by unfold UI;omega) (by omega) (QN _) ?_));intro a3 a4 c d;rw[jF]at c;obtain⟨a5,a0,rfl,-⟩:=av c;have a1:=RB (Pk.put G.out K.out (SL _ _) c d (QH _));have O:=d.heap G.out K.out;clear c d F f1;obtain⟨F,f1,R⟩:=cr O;clear O;go_wp2;go_end0;have y:=a1.out;rw[<-Y.out]at y;exact⟨rfl,_,y.1,iD.pre s.out y.2⟩
theorem BO(Z:Nat->Prop)(w:QA)(p size N L c:Nat)(f:aQ)(h:Pk Z w p size N f)(v:0<L)(D:size<=4096)(E:N+L<=size):
  aE 156 #[ar p,ae L,.int .u8 c] w (ot Z w p size (N+L) (cat N f λ_=>c)):=by
 have F:=ad h;have G:=ad (ou Z w p size N L f h D E);obtain⟨K,O,l,m,n⟩:=SD kb;go_enter func156,ntmps156;go_wp2_with fail;refine G.mono ?_;rintro e d ⟨rfl,P⟩;have x:=ad P;obtain⟨a0,y,z,Q,S⟩:=F.cS x;obtain⟨T,U,rfl,-⟩:=av z;obtain⟨k1,f1,V⟩:=cr y;have A:=ad y;have X:=ad z;have B:=ad Q;have H:=ad S;go_wp2_with fail;have o:L<=4096:=aa;have i:p<d.heap.size:=V;have q:QX (∀W:QA,W.heap=(d.alloc (al #[.int .u8 (c:Int)] 5)).heap->W.cell? (ag d.heap.size 0)=some (.int .u8 c)):=λW e=>
  (QQ (congrArg (λh=>h[d.heap.size]?) e)).trans ((cr (QB d (al #[.int .u8 (c:Int)] 5))).1 0)
 go_region_law (first|(refine dc _ rfl (.tmp 17) (.tmp 21) 41 rfl 0 5 K (.int .u8 0) 1 1 UL O l m n rfl aj (.slice T N U) N (aA N f) (by simp[VU]) (aP (w:=d) a X) (ag C 0) L M (aA L λ_=>c) (by simp[VU]) (by rw[aH,TZ]) (λj u R=>r.cells (g:=C) rfl j u R) (dg _ _) v (by unfold UI;omega) aa (QN _) ?_;intro a1 a2 b k;obtain⟨I,Y,rfl,-⟩:=av b;obtain⟨a3,a4,a5⟩:=cr (k.heap ((a.block p i).trans A) B))|(go_simp;go_at_call 245;refine(zs L d.heap.size c _ v o (q _ (by rfl))).mono ?_;rintro e J ⟨C,M,rfl,r,s⟩;have a:au d J:=(show au d _ by go_grown).trans (s.mono aJ);obtain⟨a6,a7,a8⟩:=kp a p i))
 all_goals(
  go_end0;rw[jF]at b;have t:=Pk.put A B a b k a.size;rw[<-H.out]at t;exact⟨rfl,_,t.1,iD.pre x t.2⟩)
def rX(n:Nat)(f:aQ)(w:M)(e:RW)(a:M):Prop:=
 ∃g c,aK e (.tuple #[a' g n c,aG 0])/\a.ownsRow w.heap.size 5 1 (a' g n c) n (aA n f)/\au w a
theorem jG(Z:Nat->Prop)(w:M)(p size N:Nat)(f:aQ)(h:Pk Z w p size N f)(q:0<N)(D:size<=4096)(E:N<=size):
  aE 158 #[H p] w (rX size (cat N f λ_=>0) w):=by
 obtain⟨r,s,c,d,i⟩:=SD kb;have t:∀w,(TC 41 (Y (size:Int)) (Y (size:Int))).run prog w=.ok (a' w.heap.size size size) (w.alloc (al (bs size λ_=>.int .u8 0) 5)):=λw=>by have:=run_make (P:=prog) w 41 5 r (.int .u8 0) UL s c .i64 .i64 size size J J (by rw[i];omega) J;rw[this,d,TZ,iS];simp
 obtain⟨F,a,l,G,-⟩:=h;obtain⟨K,v,rfl,x⟩:=av l;obtain⟨g,rfl⟩:=x.resolve_left J;obtain⟨L,f1,O⟩:=cr a;have y:=I (iT (w:=w.alloc (al (bs size λ_=>.int .u8 0) 5)) (B:=w.heap.size) (QB w _) (QH _) (by unfold UI;omega));have z:=I (aP (aI ak (al (bs size λ_=>.int .u8 0) 5)) l);go_enter func158,ntmps158;go_wp2_with(refine ef _ rfl (.tmp 19) (.tmp 23) 41 41 rfl 5 w.heap.size w.heap.size size size 0 size size (bP size λ_=>.int .u8 0) y (R g 0) N v (aA N f) UL rV rfl rfl (by rw[aH];exact(WK J).symm) (by rw[aH];omega) (λj u A=>z.cells (g:=g) rfl j u A) (dg _ _) ?_);intro m n b;have C:QX (m.ownsRow w.heap.size 5 1 (a' w.heap.size size size) size (aA size (cat N f λ_=>0))/\au w m):=by
  refine⟨?_,((Out.af (S:=λk=>k=w.heap.size) (aI (SL w.heap.size w) _)).tr b).below (λk _ e=>J) (QH _)⟩;have e:YG (bP size λ_=>SK .u8 0) 0 (aA N f)=aA size (cat N f λ_=>0):=by
   apply TN;intro k;rw[fi _ _ _ _ (by rw[aH,bG];omega),aH];by_cases o:k<size
   .rw [ba _ _ _ o,cd _ _ _ o];unfold cat;by_cases a:k<N
    .rw [ao J,Nat.sub_zero,ba _ _ _ a,ao a]
    .rw [aq J,aq a];rfl
   .rw [aq J,RE (by rw[bG];omega),RE (by rw[aH];omega)]
  rw[e]at n;exact n
 go_wp2;go_ret2;exact⟨_,_,rfl,C⟩
theorem wk(Z:Nat->Prop)(w:M)(p size N v:Nat)(f:aQ)(h:Pk Z w p size N f)(a:size<=4096)(b:N+1<=size)(i:v<256):
  aE 225 #[H p,.int .u8 v] w (ot Z w p size (N+1) (cat N f (leB v))):=by
 have c:=I (hQ Z w p size N v 1 f h a b);go_enter func225,ntmps225;go_wp2_with fail;refine c.mono ?_;rintro e j ⟨rfl,d⟩;have g:=I d;go_wp2;go_end0;exact⟨rfl,g⟩
theorem yh(Z:Nat->Prop)(w:M)(p size N v:Nat)(f:aQ)(h:Pk Z w p size N f)(a:size<=4096)(b:N+2<=size)(i:v<65536):
  aE 234 #[H p,.int .u16 v] w (ot Z w p size (N+2) (cat N f (leB v))):=by
 have c:=I (hQ Z w p size N v 2 f h a b);go_enter func234,ntmps234;go_wp2_with fail;refine c.mono ?_;rintro e j ⟨rfl,d⟩;have g:=I d;go_wp2;go_end0;exact⟨rfl,g⟩
theorem IL(Z:Nat->Prop)(w:M)(p size N:Nat)(f:aQ)(h:Pk Z w p size N f):aE 157 #[H p] w λe a=>aK e (Y N)/\w=a:=by obtain⟨d,b,c,-,-⟩:=h;obtain⟨g,i,rfl,-⟩:=av c;obtain⟨j,f1,k⟩:=cr b;go_enter func157,ntmps157;go_wp2;go_ret;exact⟨rfl,rfl⟩
def zB:Nat->Nat:=λ_=>0
def iU(k:Nat):Nat:=if k=0 then 83 else if k=1 then 80 else if k=2 then 74 else 76
def KF(a b c:Nat):Nat->Nat:=cat 16 (cat 8 (cat 4 (cat 0 zB iU) (leB a)) (leB b)) (leB c)
def gS(a b c M:Nat)(g:aQ):Nat->Nat:=cat (24+M) (cat 24 (KF a b c) g) zB
def iV(a b c M:Nat)(g:aQ):Nat->Nat:=cat 128 (cat 124 (cat 0 zB (gS a b c M g)) (leB (dE 0 124 (gS a b c M g)))) zB
theorem cI(v j:Nat):leB v j<256:=RT _ J
theorem cU{f g:aQ}(a:∀k,f k<256)(b:∀k,g k<256)(k:Nat):cat n f g k<256:=by
 unfold cat;split
 .exact a k
 .exact b _
theorem kW(a:∀k,f k<256)(k:Nat):gS n m i j f k<256:=
 cU (cU (cU (cU (cU (cU (λ_=>by show 0<256;omega) λk=>by unfold iU;(repeat' split)<;>omega) (cI _)) (cI _)) (cI _)) a) (λ_=>by show 0<256;omega) k
theorem oy(h:w.ownsRow m 5 1 (a' i n j) n (aA n f)):lW w (a' i n j) n f:=
 ⟨_,_,rfl,.inr ⟨i,0,rfl,λk a=>by rw[RH];exact(bz h (ba _ _ _ a)).1⟩⟩
theorem fj(h:au w W)(a:∀k,S k->w.heap.size<=k)(b:iD S W z Q):au w z/\∀k,Q k->w.heap.size<=k:=
 ⟨h.trans (b.out.below (λk _ e=>a k e) h.size),λk e=>(b.new k e).elim (a k) λe=>QE h.size e⟩
theorem iW(a i j M G:Nat)(a3:Array QC)(b4:∀m w,(UN G m).run prog w=.ok (.enter G m) w)(g:aQ)(w:QA)(s:a<256)(b5:M<=100)(a8:∀k,g k<256)(o:∀W Z p f,au w W->(∀k,Z k->w.heap.size<=k)->Pk Z W p 124 24 f->aE G (#[ar p] ++a3) W (ot Z W p 124 (24+M) (cat 24 f g))):
  aE 207 #[.int .u8 a,.int .u64 i,.int .u64 j,.func (.func G) #[] a3] w (rX 128 (iV a i j M g) w):=by
 have a9:=ad o;have a4:=ad a8;have b6:=λ(w:QA) (C:Array QC) (n c:Nat)=>Lib.run_convert_bytes_const (P:=prog) w 41 5 C n c UL UR;go_enter func207,ntmps207;go_wp2_with fail;refine(wj 124 w aa).mono ?_;rintro e t ⟨p,Z1,rfl,b,L,h⟩;have O:=ad (b.cS (aI ak (.cells #[.int .u8 83,.int .u8 80,.int .u8 74,.int .u8 76] 5 (4,5))));have Q:QX (lW (t.alloc (.cells #[.int .u8 83,.int .u8 80,.int .u8 74,.int .u8 76] 5 (4,5))) (a' t.heap.size 4 4) 4 iU):=⟨_,_,rfl,.inr ⟨t.heap.size,0,rfl,λk s=>by rw[QT _ _ _ _ _ _ (QB t _)];match k,s with|0,_=>rfl|1,_=>rfl|2,_=>rfl|3,_=>rfl⟩⟩;have u:QX (au w (t.alloc (.cells #[.int .u8 83,.int .u8 80,.int .u8 74,.int .u8 76] 5 (4,5)))/\∀k,Z1 k->w.heap.size<=k):=⟨aI h _,L⟩;go_wp2_with fail;refine(rW Z1 _ p 124 0 4 _ zB iU O Q aa aa aa).mono ?_;rintro e w2 ⟨rfl,Z2,b,d⟩;have S:=ad b;have v:=ad (fj u.1 u.2 d);go_wp2_with fail;refine(fx Z2 w2 p 124 4 a _ S aa aa aa).mono ?_;rintro e w3 ⟨rfl,Z3,b,d⟩;have T:=ad b;have x:=ad (fj v.1 v.2 d);go_wp2_with fail;refine(rU Z3 w3 p 124 8 i _ T aa aa).mono ?_;rintro e w4 ⟨rfl,Z4,b,d⟩;have U:=ad b;have y:=ad (fj x.1 x.2 d);go_wp2_with fail;refine(rU Z4 w4 p 124 16 j _ U aa aa).mono ?_;rintro e w5 ⟨rfl,Z5,b,d⟩;have V:=ad b;have l:=ad (fj y.1 y.2 d);go_wp2_with fail;refine(a9 w5 Z5 p _ l.1 l.2 V).mono ?_;rintro e w6 ⟨rfl,Z6,b,d⟩;have X:=ad b;have z:=ad (fj l.1 l.2 d);go_wp2_with fail;refine(jG Z6 w6 p 124 (24+M) _ X aa aa aa).mono ?_;rintro e K ⟨H,c7,rfl,N,h⟩;have A:QX (K.ownsRow w6.heap.size 5 1 (a' H 124 c7) 124 (aA 124 (gS a i j M g))):=N;have b0:=(A.lt H rfl).2;have B:=ad (z.1.trans (h.mono z.1.size));go_wp2_with fail;refine(wj 128 K aa).mono ?_;rintro e w8 ⟨q,Z8,rfl,b,L,h⟩;have R:=ad b;have D:=ad (aP h A);have r:QX (au K w8/\∀k,Z8 k->K.heap.size<=k):=⟨h,L⟩;go_wp2_with fail;refine(rW Z8 w8 q 128 0 124 _ zB (gS a i j M g) R (oy D) aa aa aa).mono ?_;rintro e w9 ⟨rfl,Z9,b,d⟩;have I:=ad b;have E:=ad (fj r.1 r.2 d);have Y:=ad (d.out.own D λk s e=>by have h1:=r.2 k e;have e2:H=k:=(by cases s;rfl);omega);go_wp2_with fail;refine(jE 124 _ (gS a i j M g) w9 (oy Y) (λk _=>kW a4 k) aa).mono ?_;rintro e b1 ⟨rfl,h⟩;have J:=ad (I.cS h);have a0:=ad (via E.1 h);have a1:=gQ 0 124 (gS a i j M g) aa λk _=>kW a4 k;go_wp2_with fail;refine(fx Z9 b1 q 128 124 (dE 0 124 (gS a i j M g)) _ J aa aa a1).mono ?_;rintro e a5 ⟨rfl,b2,b,d⟩;have a2:=ad b;have F:=ad (fj a0 (λk s=>E.2 k s) d);go_wp2_with fail;refine(jG b2 a5 q 128 128 _ a2 aa aa aa).mono ?_;rintro e wc ⟨a6,a7,rfl,N,h⟩;have b3:QX (wc.ownsRow w.heap.size 5 1 (a' a6 128 a7) 128 (aA 128 (iV a i j M g))/\au w wc):=by have h1:=B.size;have h2:=F.1.size;have h3:au w a5:=B.trans (F.1.mono h1);exact⟨cu N aa,h3.trans (h.mono h3.size)⟩
 go_wp2;go_ret2;exact⟨a6,a7,rfl,b3⟩
theorem gh(N M:Nat)(f g h:aQ):cat (N+M) (cat N f g) h=cat N f (cat M g h):=by
 funext k;unfold cat;by_cases a:k<N
 .rw [ao J,ao a,ao a]
 .by_cases b:k<N+M
  .rw [ao b,aq a,aq a,ao J]
  .rw [aq b,aq a,aq J,Nat.sub_add_eq]
def ma(d a e b:Nat)(c:Bool)(f:Nat):Nat->Nat:=
 λk=>cat 20 (cat 16 (cat 12 (cat 8 (cat 4 (leB d) (leB a)) (leB e)) (leB b)) (leB (if c then 1 else 0))) (leB f) k
def cJ(b a:Nat):Prop:=b<=4611686018427387904/\1<=a/\a<=4611686018427387904
def aX(a b tail:Nat):Nat->Nat:=iV 3 a b 4 (leB tail)
def eh(b c a d:Nat):Nat->Nat:=iV 2 b c 8 (cat 4 (leB a) (leB d))
def iX(d e f a g b:Nat)(c:Bool)(h:Nat):Nat->Nat:=iV 1 d e 24 (ma f a g b c h)
theorem kX(d a e b:Nat)(c:Bool)(f k:Nat):ma d a e b c f k<256:=
 cU (cU (cU (cU (cU (cI _) (cI _)) (cI _)) (cI _)) (cI _)) (cI _) k
theorem hT(b a:Nat)(w:M)(h:cJ b a):aE 205 #[.int .u64 b,.int .u64 a] w λe c=>aK e ed/\w=c:=by obtain⟨d,f,g⟩:=h;have i:(b:Int)<=4611686018427387904:=J;have j:(1:Int)<=a:=J;have k:(a:Int)<=4611686018427387904:=J;go_enter func205,ntmps205;go_wp2;go_ret;exact⟨rfl,rfl⟩
theorem mb(n a b:Int)(w:M)(d:a<=n)(f:n<=b):aE 206 #[Y n,Y a,Y b] w λe c=>aK e ed/\w=c:=by go_enter func206,ntmps206;go_wp2;go_ret;exact⟨rfl,rfl⟩
theorem mc(a b tail:Nat)(w:M)(j:cJ a b)(r:tail<=2047):aE 149 #[.agg #[.int .u64 a,.int .u64 b,Y tail]] w (rX 128 (aX a b tail) w):=by have g:QX (au w (w.alloc (N #[.int .u64 a,.int .u64 b,Y tail] 156))):=aI ak _;have k:=I (iW 3 a b 4 208 #[H w.heap.size] (λ_ _=>rfl) (leB tail) (w.alloc (N #[.int .u64 a,.int .u64 b,Y tail] 156)) J J (cI _) (λW Z p f d s l=>by obtain⟨t,f1,u⟩:=cr ((d.block w.heap.size aJ).trans (QB w _));have m:=I (fx Z W p 124 24 tail f l J J J);go_enter func208,ntmps208;go_wp2_with fail;refine m.mono ?_;rintro e h ⟨rfl,d⟩;have g:=I d;go_wp2;go_end0;exact⟨rfl,g⟩));go_enter func149,ntmps149;go_wp2_with fail;refine(hT a b _ j).mono ?_;rintro e n ⟨rfl,rfl⟩;go_wp2_with fail;refine(mb tail 0 2047 _ J J).mono ?_;rintro e n ⟨rfl,rfl⟩;go_wp2_with fail;refine k.mono ?_;rintro e h ⟨i,c,rfl,o,d⟩;have q:QX (h.ownsRow w.heap.size 5 1 (a' i 128 c) 128 (aA 128 (aX a b tail))/\au w h):=⟨cu o aJ,g.trans (d.mono aJ)⟩;go_wp2;go_ret2;exact⟨i,c,rfl,q⟩
theorem oz(d g a b:Nat)(w:M)(t:cJ d g)(L:1<=a)(O:a<=1023)(u:b<4294967296):aE 336 #[.agg #[.int .u64 d,.int .u64 g,Y a,.int .u32 b]] w (rX 128 (eh d g a b) w):=by have v:QX (au w (w.alloc (N #[.int .u64 d,.int .u64 g,Y a,.int .u32 b] 397))):=aI ak _;have x:=I (iW 2 d g 8 369 #[H w.heap.size] (λ_ _=>rfl) (cat 4 (leB a) (leB b)) (w.alloc (N #[.int .u64 d,.int .u64 g,Y a,.int .u32 b] 397)) J J (cU (cI _) (cI _)) (λW Z p f k y h=>by have q:=(k.block w.heap.size aJ).trans (QB w _);have z:=I q;have A:=I (show¬Z w.heap.size fromλe=>by have:=y _ e;simp at this;omega);obtain⟨B,f1,C⟩:=cr q;have l:=I (fx Z W p 124 24 a f h J J J);go_enter func369,ntmps369;go_wp2_with fail;refine l.mono ?_;rintro e j ⟨rfl,D,h,m⟩;have n:=I h;have i:=I m;obtain⟨B,f1,C⟩:=cr (i.out.out.heap z A);have l:=I (fx D j p 124 28 b _ n J J u);go_wp2_with fail;refine l.mono ?_;rintro e r ⟨rfl,o,h,m⟩;have E:QX (Pk o r p 124 (24+8) (cat 24 f (cat 4 (leB a) (leB b)))/\iD Z W r o):=⟨by rw[<-gh];exact h,i.trans m⟩;go_wp2;go_end0;exact⟨rfl,o,E⟩));go_enter func336,ntmps336;go_wp2_with fail;refine(hT d g _ t).mono ?_;rintro e F ⟨rfl,rfl⟩;go_wp2_with fail;refine(mb a 1 1023 _ J J).mono ?_;rintro e F ⟨rfl,rfl⟩;go_wp2_with fail;refine x.mono ?_;rintro e j ⟨s,c,rfl,G,k⟩;have K:QX (j.ownsRow w.heap.size 5 1 (a' s 128 c) 128 (aA 128 (eh d g a b))/\au w j):=⟨cu G aJ,v.trans (k.mono aJ)⟩;go_wp2;go_ret2;exact⟨s,c,rfl,K⟩
def hV(c a d b j:Nat):Nat:=if j=0 then c else if j=1 then a else if j=2 then d else b
def hF(f:aQ)(c a d b:Nat):Nat->Nat->Nat
 |0=>f
 |j+1=>cat (24+4*j) (hF f c a d b j) (leB (hV c a d b j))
theorem OP(f:aQ)(d a e b:Nat)(c:Bool)(g:Nat):cat 44 (cat 40 (hF f d a e b 4) (leB (if c then 1 else 0))) (leB g)=cat 24 f (ma d a e b c g):=by show cat (24+20) (cat (24+16) (cat (24+12) (cat (24+8) (cat (24+4) (cat 24 f (leB d)) (leB a)) (leB e)) (leB b)) (leB (if c then 1 else 0))) (leB g)=_;rw[gh,gh,gh,gh,gh];rfl
def OQ(Z:Nat->Prop)(W:M)(p:Nat)(F:aQ)(N:Nat)(a:M):Prop:=∃b,Pk b a p 124 N F/\iD Z W a b
theorem tM(l m d a g b i:Nat)(h:Bool)(w:QA)(a5:cJ l m)(h1:1<=a)(h2:a<=1023)(h3:d<a)(h4:g<=15)(h5:b<=4095)(a6:i<4294967296):aE 335 #[.agg #[.int .u64 l,.int .u64 m,ae d,ae a,ae g,ae b,.bool h,.int .u32 i]] w (rX 128 (iX l m d a g b h i) w):=by
 have a7:QX (au w (w.alloc (al #[.int .u64 l,.int .u64 m,ae d,ae a,ae g,ae b,.bool h,.int .u32 i] 390))):=aI ak _;have a8:=ad (iW 1 l m 24 368 #[ar w.heap.size] (λ_ _=>rfl) (ma d a g b h i) (w.alloc (al #[.int .u64 l,.int .u64 m,ae d,ae a,ae g,ae b,.bool h,.int .u32 i] 390)) aa aa (kX _ _ _ _ _ _) (λW Z p f O a9 n=>by
  have H:=(O.block w.heap.size aJ).trans (QB w _);have N:=ad H;have M:=ad (show¬Z w.heap.size fromλe=>by have:=a9 _ e;simp at this;omega);obtain⟨R,f1,I⟩:=cr H;have t:=ad n;go_enter func368,ntmps368;go_wp2;obtain⟨D,u⟩:=ah (W.alloc (al #[ae d,ae a,ae g,ae b] 3));have o:QX (au W D/\a_ D W.heap.size (al #[ae d,ae a,ae g,ae b] 3)):=by rw[<-u];exact⟨aI ak _,QB _ _⟩
  rw[u];obtain⟨Y,v⟩:=ah W.heap.size;have y:=ad v;rw[v];have P:QX (¬Z Y):=λe=>by
   obtain⟨b5,a1,a2,a3,rfl⟩:=t.out;have:=y.out;rcases e with e|e
   .have:=(RC.1 a1).1;omega
   .have:=(a2.lt _ e).2;omega
  go_loopw [16] (λq wr=>∃j:Nat,j<=4/\q= ae j/\QX (OQ Z D p (hF f d a g b j) (24+4*j) wr)) (λq _=>4-(intOf q).toNat)
  case atStart=>exact⟨0,aa,rfl,Z,t.cS o.1,iD.refl _ _⟩
  case round=>
   obtain⟨j,b6,rfl,b0⟩:=hrel;obtain⟨E,z,r⟩:=b0.out;by_cases Q:j<4
   .have s:wr.cell? (ag Y j)=some (ae (hV d a g b j:Nat)):=by
     have b1:=r.out.heap (y▸o.2) (P);rw[(cr b1).1]
     match j,Q with
     |0,_=>rfl
     |1,_=>rfl
     |2,_=>rfl
     |3,_=>rfl
    have J:hV d a g b j<4294967296:=by unfold hV;(repeat' split)<;>omega
    have F:=ad (fx E wr p 124 (24+4*j) (hV d a g b j) _ z aa aa J);have k:=ad r;obtain⟨x,a0⟩:=ah (hV d a g b j);have b2:=ad a0;rw[a0]at s J F;have i1:(0:Int)<=j:=aa;have i2:(j:Int)<4:=aa;go_wp2_with fail;refine F.mono ?_;rintro e G ⟨rfl,K,n,A⟩;have S:QX (OQ Z D p (hF f d a g b (j+1)) (24+4*(j+1)) G):=⟨K,by show Pk K G p 124 (24+4*j+4) (cat (24+4*j) _ (leB (hV d a g b j)));rw[b2.out];exact n,k.trans A⟩;go_wp2;go_roundw
    case rel=>exact⟨j+1,aa,by go_num,S⟩
    case measure=>simp[intOf];omega
   .obtain rfl:j=4:=aa;have B:QX (Pk E wr p 124 40 (hF f d a g b 4)):=z;have k:=ad (iD.pre o.1 r);obtain⟨R,f1,I⟩:=cr (k.out.out.heap N M);have T:=ad (fx E wr p 124 40 0 _ B aa aa aa);have U:=ad (fx E wr p 124 40 1 _ B aa aa aa);cases h
    all_goals(
     go_wp2_with fail
     first|refine T.mono ?_|refine U.mono ?_
     rintro e G ⟨rfl,K,n,A⟩;have V:=ad n;have C:=ad (k.trans A);obtain⟨R,f1,I⟩:=cr (C.out.out.heap N M);have F:=ad (fx K G p 124 44 i _ V aa aa a6);go_wp2_with fail;refine F.mono ?_;rintro e w3 ⟨rfl,X,n,A⟩;have S:QX (Pk X w3 p 124 (24+24) (cat 24 f (ma d a g b _ i))/\iD Z W w3 X):=⟨by first|(rw[<-OP f d a g b true i];exact n)|(rw[<-OP f d a g b false i];exact n),C.trans A⟩;go_wp2;go_end0;exact⟨rfl,X,S⟩)))
 go_enter func335,ntmps335;go_wp2_with fail;refine(hT l m _ a5).mono ?_;rintro e L ⟨rfl,rfl⟩;go_wp2_with fail;refine(mb a 1 1023 _ aa aa).mono ?_;rintro e L ⟨rfl,rfl⟩;go_wp2_with fail;refine(mb d 0 ((a:Int)-1) _ aa aa).mono ?_;rintro e L ⟨rfl,rfl⟩;go_wp2_with fail;refine(mb g 0 15 _ aa aa).mono ?_;rintro e L ⟨rfl,rfl⟩;go_wp2_with fail;refine(mb b 0 4095 _ aa aa).mono ?_;rintro e L ⟨rfl,rfl⟩;go_wp2_with fail;refine a8.mono ?_;rintro e w1 ⟨a4,c,rfl,b3,O⟩;have b4:QX (w1.ownsRow w.heap.size 5 1 (a' a4 128 c) 128 (aA 128 (iX l m d a g b h i))/\au w w1):=⟨cu b3 aJ,a7.trans (O.mono aJ)⟩;go_wp2;go_ret2;exact⟨a4,c,rfl,b4⟩
def Lt(n:Nat)(f:aQ):Prop:=∀k,k<n->f k<256
def qC(n m:Nat)(f g:aQ):Bool:=decide (n=m/\∀k,k<n->f k=g k)
def ky(n:Nat)(f:aQ):ByteArray:=strOfNums ((TT n).map λk=>(f k:Int))
theorem hq(n:Nat)(f:aQ):(ky n f).toList=(TT n).map λk=>VX (f k):=by unfold ky;rw[Lib.strOfNums_toList];simp[Lib.bytesOf]
theorem yi(n m:Nat)(f g:aQ)(i:Lt n f)(j:Lt m g):((ky n f).toList==(ky m g).toList)=qC n m f g:=by
 have b:(ky n f).toList=(ky m g).toList↔(n=m/\∀k,k<n->f k=g k):=by
  constructor
  .intro h;have c:=h;simp only[hq]at c;have d:=congrArg VR c;simp only[RA,List.length_range]at d;refine⟨d,λk a=>?_⟩;have e:=congrArg (λl:List UInt8=>l[k]?) c;simp only[RL,SF a,SF (show k<m by omega),QY,SO]at e;have o:=congrArg UInt8.toNat e;simp only[UInt8.toNat_ofNat']at o;have:=i k a;have:=j k J;omega
  .rintro ⟨rfl,h⟩;rw[hq,hq];apply UX;intro k a;rw[h k (UA.1 a)]
 rw[Bool.eq_iff_iff];simp only[beq_iff_eq,qC,decide_eq_true_eq];exact b
theorem iY(h:lW w v n f):∀c,au w c->(convert 41 9 v).run prog c=.ok (.string (ky n f)) c:=by
 intro c m;obtain⟨a,d,rfl,h⟩:=h;by_cases q:n=0
 .subst q;cases a with
  |none=>exact run_convert_bytes_nil c 41 5 UL UR _ _ 9 underlying9
  |some p=>have e:=run_convert_bytes_string (P:=prog) c 41 9 5 (some p) 0 d UL UR underlying9;rw[e,run_bytesToString c p 0 d [] (run_loadCells_list (P:=prog) c p [] (λj v r=>by simp at r))];rfl
 .rcases h with h|⟨b,o,rfl,l⟩
  .omega
  .refine run_convert_bytes_arg (P:=prog) c 41 5 UL UR b o n d ((TT n).map λk=>(f k:Int)) aJ (λi g=>?_) 9 underlying9;rw[m.cell (p:=⟨b,o+i,none⟩) (QO w _ (l i g)),l i g];simp[List.getD,g]
theorem mf(c d:QC)(n m:Nat)(f g:aQ)(w:M)(h:lW w c n f)(i:lW w d m g)(j:Lt n f)(k:Lt m g):
  aE 264 #[c,d] w λe l=>aK e (.bool (qC n m f g))/\l=w:=by
 have o:=iY h w ak;have p:=iY i w ak;rw[<-yi n m f g j k];obtain⟨q,a⟩:=ah (ky n f);obtain⟨r,b⟩:=ah (ky m g);rw[a]at o|-;rw[b]at p|-;go_enter func264,ntmps264;go_wp2;go_ret;exact⟨rfl,rfl⟩
theorem iZ{f g:aQ}(h:∀k,k<n->f k=g k):qC n n f g=true:=by simp[qC];exact h
theorem Fz{f g:aQ}(h:n≠m):qC n m f g=false:=by simp[qC,h]
theorem IN{f g:aQ}(k:Nat)(a:k<n)(h:f k≠g k):qC n m f g=false:=by simp only[qC,decide_eq_false_iff_not];rintro⟨_,b⟩;exact h (b k a)
theorem IP(v x:QC)(n m:Nat)(f g:aQ)(w:M)(p:lW w v n f)(r:lW w x m g)(K:n<=140737488351232):
  aE 18 #[v,x] w λe B=>aK e (.bool (qC n m f g))/\∃q,B=w.drewN q:=by
 obtain⟨a,C,rfl,p⟩:=p;obtain⟨L,y,rfl,r⟩:=r;by_cases l:n=m
 .subst l;have D:=I p;have E:=I r;go_enter func18,ntmps18;go_wp2;go_loopw [5] (λi wr=>∃k q:Nat,k<=n/\i= Y k/\wr=w.drewN q/\QX (∀j,j<k->f j=g j)) (λi _=>n-(intOf i).toNat)
  case atStart=>exact⟨0,0,QN _,rfl,rfl,λ_ h=>absurd h (RR _)⟩
  case round=>
   obtain⟨k,q,O,rfl,rfl,z⟩:=hrel;by_cases c:k<n
   .rcases D.out with F|⟨b,o,rfl,s⟩
    .omega
    rcases E.out with F|⟨P,Q,rfl,t⟩
    .omega
    have S:=s k c;have T:=t k c;have U:(0:Int)<=(k:Int):=J;have V:(k:Int)<(n:Int):=J;by_cases d:f k=g k
    .have A:((f k:Int) !=(g k:Int))=false:=by simp[d]
     have u:=I d;go_wp2;go_quiet(fail);go_wp2;go_roundw
     case rel=>
      refine⟨k+1,_,J,by go_num,rfl,λj W=>?_⟩;by_cases e:j=k
      .subst e;exact u
      .exact z j J
     case measure=>simp[intOf];omega
    .have A:((f k:Int) !=(g k:Int))=true:=aR;have u:=I d;go_wp2;go_quiet(fail);go_wp2
     go_returns
     exact⟨by rw[IN k c u.out];rfl,_,World.drewN_drewN _ _ _⟩
   .obtain rfl:k=n:=J;go_wp2
    go_returns
    exact⟨by rw[iZ z.out];rfl,_,rfl⟩
 .have A:((n:Int) !=(m:Int))=true:=aR;have G:qC n m f g=false:=Fz l;rw[G];go_enter func18,ntmps18;go_wp2
  go_returns
  exact⟨rfl,0,rfl⟩
theorem BP(a b:QC)(n m:Nat)(f g:aQ)(w:M)(d:lW w a n f)(h:lW w b m g)(i:n<=140737488351232):
  aE 18 #[a,b] w λe c=>aK e (.bool (qC n m f g))/\au w c:=by
 refine(IP a b n m f g w d h i).mono ?_;rintro e c ⟨rfl,q,rfl⟩;exact⟨rfl,cE ak _⟩
def rY(L:Nat)(f:aQ)(w:M)(e:RW)(a:M):Prop:=
 ∃v,aK e v/\a.ownsRow w.heap.size 5 1 v L (aA L f)/\au w a
theorem eF(b o L a:Nat)(f:aQ)(w:M)(p:∀k,k<L->w.cell? ⟨b,o+k,none⟩=some (.int .u8 (f k)))(x:L<=140737488355328):
  aE 199 #[.slice (some (R b o)) L a] w (rY L f w):=by
 have m:=I p;obtain⟨r,s,h,i,j⟩:=SD kb;have n:=λw=>Lib.run_eql_slice_nil (P:=prog) w 41 5 (some (R b o)) L a 0 0 UL;go_enter func199,ntmps199;go_wp2_with(first|(at_builtin;refine wpList_append_own _ rfl _ _ 41 rfl w.heap.size 5 r (.int .u8 0) 1 1 UL s h i j rfl aj _ 0 [] rfl (ZS w #[] 0 (QH _) aj rfl) (R b o) L a (aA L f) rfl (by rw[aH,TZ]) ?c1 (dg _ _) ?c3 ?c4 ?c5 ?_))
 case c1=>
  intro q u g;by_cases c:q<L
  .rw [ba _ _ _ c]at g;rw[iK,YV _ _ _ (QO w _ (m.out q c)),m.out q c];exact g
  .rw [RE (by rw[aH];omega)]at g;cases g
 case c3=>unfold UI;omega
 case c4=>omega
 case c5=>simp
 intro y t d l _;have e:au w t:=(aI ak _).grown l aJ (λk v=>by simp[WQ]at v;omega);go_wp2;go_ret;exact⟨_,rfl,d,e⟩
def ht(f:aQ):Bool:=decide (f 0=83/\f 1=80/\f 2=74/\f 3=76)
def ei(f:aQ)(k:Nat):Nat:=if ht f=true/\k<4 then 0 else f k
theorem nT(h:Lt n f):Lt n (ei f):=λk a=>by
 unfold ei;split
 .omega
 .exact h k a
theorem wm(f:aQ)(h:Lt 4 f):((ky 4 f).toList== [83,80,74,76])=ht f:=by
 rw[hq];have c:=h 0 J;have d:=h 1 J;have g:=h 2 J;have i:=h 3 J;have e:∀a b:Nat,a<256->b<256->(VX a=VX b↔a=b):=λa b j k=>by
  constructor
  .intro h;have:=congrArg UInt8.toNat h;simp only[UInt8.toNat_ofNat']at this;omega
  .rintro rfl;rfl
 rw[Bool.eq_iff_iff];unfold ht;simp only[beq_iff_eq,decide_eq_true_eq];show([VX (f 0),VX (f 1),VX (f 2),VX (f 3)] = [VX 83,VX 80,VX 74,VX 76])↔_;simp only[UD,and_true];rw[e _ _ c J,e _ _ d J,e _ _ g J,e _ _ i J]
def gp(X:Nat->Prop)(w:M)(v:QC)(f:aQ):Prop:=∃b o a,v=.slice (some (R b o)) 128 a/\128<=a/\¬X b/\(∀k,k<128->w.cell? ⟨b,o+k,none⟩=some (.int .u8 (f k)))/\∃c d,w.heap[b]?=some (.cells c 5 d)
theorem gp.out{w w1:M}(h:gp X w v f)(e:Out S w w1)(g:∀k,k<w.heap.size->S k->X k):gp X w1 v f:=by obtain⟨b,o,a,l,m,c,h,n,p,i⟩:=h;exact⟨b,o,a,l,m,c,λk j=>e.cell (h k j) λd=>c (g _ (QO w _ (h k j)) d),n,p,e.heap i λd=>c (g _ (RC.1 i).1 d)⟩
theorem gp.cS(h:gp X w v f)(a:au w W):gp X W v f:=h.out (S:=λ_=>False) (Out.af a) λ_ _ e=>e.elim
theorem gp.mono(h:gp X w v f)(c:∀k,k<w.heap.size->S k->X k):gp S w v f:=by obtain⟨b,o,a,d,g,i,h,j⟩:=h;exact⟨b,o,a,d,g,λe=>i (c _ (QO w _ (h 0 J)) e),h,j⟩
theorem gp.of(h:w.ownsRow n 5 1 (a' m 128 i) 128 (aA 128 f))(a:¬X m):gp X w (a' m 128 i) f:=by
 refine⟨m,0,i,rfl,?_,a,λk b=>by rw[RH];exact(bz h (ba _ _ _ b)).1,?_⟩
 .rcases h.2 with⟨h,_⟩|⟨_,_,_,h,_,_,c,_⟩
  .cases h
  .cases h;exact c
 .rcases h.2 with⟨h,_⟩|⟨_,_,_,h,_,d,_⟩
  .cases h
  .cases h;exact⟨_,_,d⟩
def K_(f:aQ)(w:M)(e:RW)(a:M):Prop:=
 ∃g c,aK e (.tuple #[a' g 128 c,.bool (ht f),aG 0])/\a.ownsRow w.heap.size 5 1 (a' g 128 c) 128 (aA 128 (ei f))/\au w a
theorem FA(f:aQ)(h:ht f=true):YG (aA 128 f) 0 (XQ 4 (.int .u8 0))=aA 128 (ei f):=by
 apply TN;intro k;rw[fi _ _ _ _ (by simp[aH])];by_cases a:k<128
 .rw [ba _ _ _ a,ba _ _ _ a];unfold ei;rw[h,YS];by_cases b:k<4
  .rw [ao J,ao ⟨rfl,b⟩,List.getElem?_replicate,ao J];rfl
  .rw [aq J,aq J]
 .rw [aq (by rw[YS];omega),RE (by rw[aH];omega),RE (by rw[aH];omega)]
theorem qe(w:M)(B g n b m c:Nat)(xs:List QC)(h:w.ownsRow B 5 1 (a' g n b) n xs)(y:m<=n)(z:0<m):
  ∃f,(Builtin.clear_ #[41] 0 #[a' g m c]).run prog w=.ok (.tuple #[]) f/\f.ownsRow B 5 1 (a' g n b) n (YG xs 0 (XQ m (.int .u8 0)))/\Out (λk=>k=g) w f:=by
 rcases h.2 with⟨d,_⟩|⟨A,j,a,d,p,l,q,r,s,t⟩
 .cases d
 cases d;have e:=run_storeCells_at (P:=prog) g 0 5 (XQ m (.int .u8 0)) 0 a w l aR (λv d=>by rw[List.eq_of_mem_replicate d];rfl);have u:(Builtin.zeroCells (SK .u8 0).cells m).toList=XQ m (.int .u8 0):=by
  simp[Builtin.zeroCells,Value.cells];apply List.ext_getElem
  .simp
  .intro i C D;simp[YF]
 have x:0+(XQ m (SK .u8 0)).length<=a.toList.length:=aR;refine⟨_,?_,?_,Out.setRow (S:=λk=>k=g) (Out.refl _ _) (g:=g) (λ_=>rfl) (YG a.toList 0 (XQ m (.int .u8 0))).toArray⟩
 .obtain ⟨o,rfl⟩:∃o,m=o+1:=⟨m-1,J⟩;simp only[Builtin.clear_,XA,List.getElem?_cons_zero,RZ,SU UL,RI,zeroValue5,u];simp only[VJ,RH,YS,List.take_zero,UT]at e;rw[e];simp[YG]
 .refine ⟨by rw[length_splice _ _ _ (by have:=h.1;simp;omega)];exact h.1,.inr ⟨g,b,_,rfl,p,setRow_heap w g a _ 5 _ l,q,r,?_,?_⟩⟩
  .rw [VW,length_splice _ _ _ x];simpa using s
  .show (YG a.toList 0 _).take _=_;rw[iL _ _ _ _ aR aR,t]
theorem wo(X:Nat->Prop)(v:QC)(f:aQ)(w:M)(h:gp X w v f)(K:Lt 128 f):aE 334 #[v] w (K_ f w):=by
 obtain⟨b,o,c,rfl,A,-,B,-⟩:=h;have C:=I B;have l:=I (eF b o 128 c f w B J);have D:=I (wm f λk L=>K k J);unfold K_;obtain⟨m,E⟩:=ah (ht f);have d:=I E;rw[E]at D|-;go_enter func334,ntmps334;go_wp2_with fail;refine l.mono ?_;rintro e q ⟨Q,rfl,r,F⟩;obtain⟨S,i,rfl,O,s⟩:=eX r;obtain⟨j,rfl⟩:=s.resolve_left J;have G:=I r;have t:=I F;have u:=iY (w:=q) (v:=.slice (some (R b o)) 4 c) (n:=4) (f:=f) ⟨_,_,rfl,.inr ⟨b,o,rfl,λk L=>by rw[F.cell (p:=⟨b,o+k,none⟩) (QO w _ (C.out k J))];exact C k J⟩⟩ q ak;obtain⟨T,x⟩:=ah (ky 4 f);have y:=D.out;rw[x]at u y;obtain⟨U,P,z,a⟩:=qe q w.heap.size j 128 i 4 i _ r J J;have g:=aB z a;cases m
 .go_wp2;go_ret3;have e:aA 128 (ei f)=aA 128 f:=ee λk _=>by unfold ei;rw[d.out,aq aJ]
  exact⟨j,i,rfl,by rw[e];exact G,t⟩
 .go_wp2;go_ret3;exact⟨j,i,rfl,by rw[<-FA f d.out];exact g.1,t.trans (g.2.below (λk _ e=>by have:=(G.lt j rfl).1;omega) t.size)⟩
structure bX where
 N:Nat
 me:Nat->Nat
 row:Nat->Nat
 da:Nat->Nat->Nat
structure bX.ok(P:bX):Prop where
 me:∀i,i<P.N->P.me i<=15
 row:∀i,i<P.N->P.row i<=4095
 da:∀i,i<P.N->Lt 128 (P.da i)
structure FB(X:Nat->Prop)(w:M)(a:Option SZ)(P:bX)(dv:Nat->QC):Prop where
 l:P.N=0\/∃b o,a=some (R b o)/\¬X b/\∀i,i<P.N->w.cell? ⟨b,o+i*3,none⟩=some (Y (P.me i))/\w.cell? ⟨b,o+i*3+1,none⟩=some (Y (P.row i))/\w.cell? ⟨b,o+i*3+2,none⟩=some (dv i)
 d:∀i,i<P.N->gp X w (dv i) (P.da i)
def rZ(X:Nat->Prop)(w:M)(v:QC)(P:bX):Prop:=∃a b c,v=.slice a P.N b/\P.N<=b/\FB X w a P c
theorem FB.out{w w1:M}{a:Option SZ}{P:bX}{f:Nat->QC}(h:FB X w a P f)(c:Out S w w1)(g:∀k,k<w.heap.size->S k->X k):FB X w1 a P f:=by
 refine⟨?_,λi d=>(h.d i d).out c g⟩;rcases h.l with h|⟨b,o,m,j,n⟩
 .exact .inl h
 .refine .inr ⟨b,o,m,j,λi d=>?_⟩;obtain⟨l,p,q⟩:=n i d;have e:¬S b:=λr=>j (g _ (QO w _ l) r);exact⟨c.cell l e,c.cell p e,c.cell q e⟩
theorem rZ.out{w w1:M}{P:bX}(h:rZ X w v P)(c:Out S w w1)(d:∀k,k<w.heap.size->S k->X k):rZ X w1 v P:=by obtain⟨a,b,f,e,g,h⟩:=h;exact⟨a,b,f,e,g,h.out c d⟩
theorem rZ.cS{P:bX}(h:rZ X w v P)(a:au w W):rZ X W v P:=h.out (S:=λ_=>False) (Out.af a) λ_ _ e=>e.elim
def fA(a b:Nat)(P:bX):Nat->Nat
 |0=>0
 |i+1=>dE (fA a b P i) 128 (iX a b i P.N (P.me i) (P.row i) (ht (P.da i)) (dE 0 128 (ei (P.da i))))
def bp(a b:Nat)(P:bX)(j:Nat):Nat->Nat:=
 if j=2*P.N then eh a b P.N (fA a b P P.N)else if j%2=0 then iX a b (j/2) P.N (P.me (j/2)) (P.row (j/2)) (ht (P.da (j/2))) (dE 0 128 (ei (P.da (j/2))))else ei (P.da (j/2))
structure i_(B:Nat)(S:Nat->Prop)(w:M)(lv:QC)(n:Nat)(sv:Nat->QC)(sf:dp):Prop where
 own:w.ownsRow B 41 1 lv n (bP n sv)
 sec:∀j,j<n->gp (fun k=>k<B\/S k\/lv.ownBlock=some k) w (sv j) (sf j)
theorem jH(a:∀k,f k<256)(k:Nat):iV n m i j f k<256:=
 cU (cU (cU (λ_=>by show 0<256;omega) (kW a)) (cI _)) (λ_=>by show 0<256;omega) k
theorem oA(d e f a g b:Nat)(c:Bool)(h k:Nat):iX d e f a g b c h k<256:=jH (kX _ _ _ _ _ _) k
theorem kY(a b:Nat)(P:bX)(i:Nat):fA a b P i<4294967296:=by
 induction i with
 |zero=>show 0<4294967296;omega
 |succ i c=>exact gQ _ _ _ c λk _=>oA _ _ _ _ _ _ _ _ k
theorem r_:(prog.info? 41).map (λi=>(i.zero,i.size,i.bytes))=some (some aW,1,24):=ai
theorem zt(w:M)(N:Nat)(h:N<=2000000):∃a,(TC 42 (Y 0) (Y (N:Int))).run prog w=.ok (a' w.heap.size 0 N) (w.alloc (al a 41))/\a.size=N:=by obtain⟨e,f,b,c,d⟩:=SD r_;have:=run_make (P:=prog) w 42 41 e aW underlying42 f b .i64 .i64 0 N J J (by rw[d];omega) J;rw[c,Int.toNat_natCast]at this;exact⟨_,this,by simp[TQ]⟩
def MT(c d:Nat)(P:bX)(w:M)(e:RW)(a:M):Prop:=
 ∃b f,aK e (.tuple #[b,aG 0])/\i_ w.heap.size (λ_=>False) a b (2*P.N+1) f (bp c d P)/\au w a
def sc{α:Type}(N:Nat)(f g:Nat->α)(k:Nat):α:=if k<N then f k else g (k-N)
theorem BQ(n m:Nat)(f g:Nat->QC):bP n f++bP m g=bP (n+m) (sc n f g):=by
 apply TN;intro k;by_cases a:k<n
 .rw [RD (by rw[bG];exact a),cd _ _ _ a,cd _ _ _ J];unfold sc;rw[ao a]
 .rw [QZ (by rw[bG];omega),bG];by_cases b:k<n+m
  .rw [cd _ _ _ J,cd _ _ _ b];unfold sc;rw[aq a]
  .rw [RE (by rw[bG];omega),RE (by rw[bG];omega)]
theorem i_.push{lv b:QC}{sv f:Nat->QC}{g nf F:dp}(h:i_ i S w lv n sv g)(l:au w W)(o:nF r W lv n m b z)(v:w.heap.size<=r)(s:z.ownsRow i 41 1 b (n+m) (bP n sv++bP m f))(t:∀j,j<m->gp (λk=>k<i\/S k\/lv.ownBlock=some k\/w.heap.size<=k) w (f j) (nf j))(hF:∀j,j<n+m->F j=sc n g nf j):i_ i S z b (n+m) (sc n sv f) F:=by
 have p:Out (λk=>lv.ownBlock=some k) w z:=o.out (Out.af l) λk c _=>c;have q:∀k,b.ownBlock=some k->lv.ownBlock=some k\/w.heap.size<=k:=λk c=>(o.block c).imp id λe=>J;refine⟨by rw[<-BQ];exact s,λj u=>?_⟩;rw[hF j u];unfold sc;by_cases e:j<n
 .rw [ao e,ao e];have h1:gp (λk=>k<i\/S k\/lv.ownBlock=some k\/w.heap.size<=k) w (sv j) (g j):=(h.sec j e).mono λk c d=>by
   rcases d with h1|h1|h1|h1
   .exact .inl h1
   .exact .inr (.inl h1)
   .exact .inr (.inr h1)
   .exact absurd c J
  refine(h1.out p λk _ e=>.inr (.inr (.inl e))).mono λk _ d=>?_;rcases d with a|a|a
  .exact .inl a
  .exact .inr (.inl a)
  .exact (q k a).elim (λe=>.inr (.inr (.inl e))) λe=>.inr (.inr (.inr e))
 .rw [aq e,aq e];refine((t (j-n) J).out p λk _ e=>.inr (.inr (.inl e))).mono λk _ d=>?_;rcases d with a|a|a
  .exact .inl a
  .exact .inr (.inl a)
  .exact (q k a).elim (λe=>.inr (.inr (.inl e))) λe=>.inr (.inr (.inr e))
theorem mg(a b:Nat)(P:bX)(i:Nat)(h:i<P.N):bp a b P (2*i)=iX a b i P.N (P.me i) (P.row i) (ht (P.da i)) (dE 0 128 (ei (P.da i))):=by unfold bp;rw[aq J,ao J,show 2*i/2=i by omega]
theorem BS(a b:Nat)(P:bX)(i:Nat):bp a b P (2*i+1)=ei (P.da i):=by unfold bp;rw[aq J,aq J,show(2*i+1)/2=i by omega]
theorem zu(a b:Nat)(P:bX):bp a b P (2*P.N)=eh a b P.N (fA a b P P.N):=ao rfl
theorem bo(h:w.ownsRow m t i v n L)(a:v.ownBlock=some k):k<w.heap.size/\m<=k:=by
 rcases h.2 with⟨rfl,_⟩|⟨g,b,c,rfl,d,e,_⟩
 .cases a
 .cases a;exact⟨(RC.1 e).1,d⟩
theorem i_.out{w w1:M}{a:Nat->QC}(h:i_ m S w v n a F)(b:Out Q w w1)(c:∀k,Q k->S k/\v.ownBlock≠some k):i_ m S w1 v n a F:=
 ⟨b.own h.own λk e d=>(c k d).2 e,λj f=>(h.sec j f).out b λk _ e=>.inr (.inl (c k e).1)⟩
theorem i_.mono{a:Nat->QC}(h:i_ m S w v n a F)(b:i<=m)(c:∀k,Q k->S k):i_ i Q w v n a F:=
 ⟨cu h.own b,λj d=>(h.sec j d).mono λk _ e=>by
  rcases e with e|e|e
  .exact .inl J
  .exact .inr (.inl (c k e))
  .exact .inr (.inr e)⟩
structure IQ(w wr:M)(ep sq:Nat)(P:bX)(d:Nat)(lv:QC)(i:Nat)(sv:Nat->QC):Prop where
 se:i_ w.heap.size (fun k=>k=d) wr lv (2*i) sv (bp ep sq P)
 HP:Fw wr d (fA ep sq P i) (128*i)
 dw:au w wr
 dB:w.heap.size<=d
 ne:lv.ownBlock≠some d
theorem tO(X:Nat->Prop)(f c:Nat)(v:QC)(P:bX)(w:QA)(h:rZ X w v P)(k3:P.ok)(i8:1<=P.N)(l2:P.N<=1023)(k4:cJ f c):
  aE 302 #[.int .u64 f,.agg #[.int .u64 c,v]] w (MT f c P w):=by
 obtain⟨a,b6,l6,rfl,e6,i9⟩:=h;obtain⟨b,o,rfl,l7,-⟩:=i9.l.resolve_left aa;have k5:=ad i9;have e7:=ad k3;have k6:=ad k4;obtain⟨j0,j1,j2⟩:=k4;have g1:(f:Int)<=4611686018427387904:=aa;have g2:(1:Int)<=c:=aa;have g3:(c:Int)<=4611686018427387904:=aa;obtain⟨N,b7⟩:=ah P.N;have J:=ad b7;rw[b7]at i8 l2 e6|-;have y:¬(N:Int)<1:=aa;have g5:¬(1023:Int)<N:=aa;clear i9 k3 j0 j1 j2 b7;go_enter func302,ntmps302;go_wp2_with fail;obtain⟨x,b8⟩:=ah (w.alloc (al #[.int .u64 c,.slice (some (ag b o)) N b6] 204));have q:QX (au w x/\a_ x w.heap.size (al #[.int .u64 c,.slice (some (ag b o)) N b6] 204)):=by rw[<-b8];exact⟨aI ak _,QB _ _⟩
 rw[b8];obtain⟨a0,b9⟩:=ah w.heap.size;have a6:=ad b9;rw[b9];clear b8 b9;go_loopw [7,32] (λs7 c0 wr=>∃k:Nat,k<=N/\c0= ae k/\s7= aG 0/\QX (au x wr)) (λ_ c0 _=>N-(intOf c0).toNat)
 case atStart=>exact⟨0,QN _,rfl,rfl,ak⟩
 case round=>
  obtain⟨k,I,rfl,rfl,h9⟩:=hrel;by_cases e8:k<N
  .have z:=k5.out.out (S:=λ_=>False) (Out.af (q.1.trans (h9.mono q.1.size))) λ_ _ e=>e.elim;obtain⟨_,_,e0,-,a1⟩:=z.l.resolve_left (by have:=J.out;omega);cases e0;obtain⟨c1,c2,c3⟩:=a1 k (by have:=J.out;omega);obtain⟨i0,i3,L,a2,-,-,-⟩:=z.d k (by have:=J.out;omega);rw[a2]at c3;have m1:(P.me k:Int)<=15:=by have:=e7.me k (by have:=J.out;omega);omega
   have m2:(P.row k:Int)<=4095:=by have:=e7.row k (by have:=J.out;omega);omega
   have m3:(0:Int)<=P.me k:=aa;have m4:(0:Int)<=P.row k:=aa;obtain⟨mk,A⟩:=ah (P.me k);obtain⟨a5,O⟩:=ah (P.row k);rw[A]at c1 m1 m3;rw[O]at c2 m2 m4;have i1:(0:Int)<=k:=aa;have i2:(k:Int)<N:=aa;clear z a1 a2 A O;go_wp2;go_roundw
   case rel=>exact⟨k+1,aa,by go_num,rfl,aI h9 _⟩
   case measure=>simp[intOf];omega
  .obtain rfl:k=N:=aa;obtain⟨k1,f1,z1⟩:=cr ((h9.block _ (RC.1 (a6▸q.2)).1).trans (a6▸q.2));obtain⟨c4,b4,e9⟩:=zt wr (2*k+1) aa;have A:(TC 42 (ae 0) (ae (2*(k:Int)+1))).run prog wr=.ok (a' wr.heap.size 0 (2*k+1)) (wr.alloc (al c4 41)):=b4;have k7:=ad (ZS (base:=wr.heap.size) (e:=41) (size:=1) wr c4 (2*k+1) (QH _) (by unfold UI;omega) (by rw[e9,TZ]));go_wp2_with fail;refine(Fx _).mono ?_;rintro e w2 ⟨rfl,i4,a3⟩;obtain⟨d,Q⟩:=ah ((wr.alloc (al c4 41)).heap.size);have f0:wr.heap.size+1=d:=by rw[<-Q,SS]
   rw[Q]at i4;have k8:wr.heap.size+1=d:=f0;have k9:QX (IQ x w2 f c P d (a' wr.heap.size 0 (2*k+1)) 0 (λ_=> aW)):=by have h1:=h9.out;refine⟨⟨?_,λj f2=>absurd f2 (RR _)⟩,i4,(aI h1 _).trans (a3.mono (by simp;have:=h1.size;omega)),by have:=h1.size;omega,λe=>by simp only[WQ,SO]at e;omega⟩;exact aP a3 (cu k7 h1.size)
   clear i4 a3 A b4 e9 k7 Q f0 k1;have G:QX (a_ x a0 (al #[.int .u64 c,.slice (some (ag b o)) k b6] 204)/\a0<x.heap.size):=⟨a6▸q.2,(RC.1 (a6▸q.2)).1⟩;obtain⟨k1,f1,z1⟩:=cr ((k9.dw.block a0 G.2).trans G.1);go_wp2_with fail;clear k1;go_loopw [10,86] (λj3 c5 l3=>∃(i:Nat) (a7:Nat->QC),i<=k/\c5= ae i/\QX (IQ x l3 f c P d j3 i a7)) (λ_ c5 _=>k-(intOf c5).toNat)
   case atStart=>exact⟨0,_,QN _,rfl,k9⟩
   case round=>
    obtain⟨i,a7,l8,rfl,g⟩:=hrel;obtain⟨c6,c7,rfl,-⟩:=av g.se.own;by_cases e8:i<k
    .have K:i<P.N:=by have:=J.out;omega
     have z:=k5.out.out (S:=λ_=>False) (Out.af (q.1.trans (g.dw.mono q.1.size))) λ_ _ e=>e.elim;obtain⟨_,_,e0,-,a1⟩:=z.l.resolve_left aa;cases e0;obtain⟨c1,c2,c3⟩:=a1 i K;have a8:=ad (z.d i K);obtain⟨i0,i3,L,a2,-,-,-⟩:=z.d i K;rw[a2]at c3 a8;have C:=ad (show P.me i<=15/\P.row i<=4095/\Lt 128 (P.da i)from⟨e7.me i K,e7.row i K,e7.da i K⟩);obtain⟨mk,A⟩:=ah (P.me i);obtain⟨a5,O⟩:=ah (P.row i);obtain⟨e4,c8⟩:=ah (P.da i);have c9:=aM A O c8;rw[A]at c1 C;rw[O]at c2 C;rw[c8]at C a8;have i1:(0:Int)<=i:=aa;have i2:(i:Int)<k:=aa;clear z a1 a2 A O c8;obtain⟨i5,d0⟩:=ah (wr.alloc (al #[ae mk,ae a5,.slice (some (ag i0 i3)) 128 L] 206));have e5:QX (au wr i5/\a_ i5 wr.heap.size (al #[ae mk,ae a5,.slice (some (ag i0 i3)) 128 L] 206)):=by rw[<-d0];exact⟨aI ak _,QB _ _⟩
     have f3:=ad d0;have f4:=ad (wo (λ_=>False) _ e4 i5 ((a8.cS e5.1).mono λ_ _ e=>e.elim) C.2.2);clear d0;go_wp2_with fail;rw[f3.out];refine f4.mono ?_;rintro e w2 ⟨g2,T,rfl,l0,a3⟩;have f5:=ad l0;have a9:=ad (e5.1.trans (a3.mono e5.1.size));have f6:QX (a_ w2 wr.heap.size (al #[ae mk,ae a5,.slice (some (ag i0 i3)) 128 L] 206)):=(a3.block _ (RC.1 e5.2).1).trans e5.2;obtain⟨i6,f7⟩:=ah wr.heap.size;rw[f7]at f6|-;clear l0 a3 f7 f4 f3 c1 c2 c3;obtain⟨p1,p2,p3⟩:=cr f6;obtain⟨t1,t2,t3⟩:=cr ((a9.block a0 (RJ G.2 g.dw.size)).trans ((g.dw.block a0 G.2).trans G.1));have e1:=p1 0;have e2:=p1 1;have e3:=t1 0;simp at e1 e2 e3;have d1:QX (∀W,au w2 W->aE 160 #[a' g2 128 T] W λe b0=>aK e (.int .u32 (dE 0 128 (ei e4):Nat))/\au W b0):=λW a3=>jE 128 _ (ei e4) W ((oy f5).cS a3) (λk I=>nT C.2.2 k I) aa;have a4:=gQ 0 128 (ei e4) aa λk I=>nT C.2.2 k I;obtain⟨Y,r⟩:=ah (dE 0 128 (ei e4));obtain⟨f8,d2⟩:=ah (ht e4);have U:=aB r d2;rw[r]at d1 a4;rw[d2];have f9:QX (∀W,au w2 W->aE 335 #[.agg #[.int .u64 f,.int .u64 c,ae i,ae k,ae mk,ae a5,.bool f8,.int .u32 Y]] W (rX 128 (iX f c i k mk a5 f8 Y) W)):=λW _=>tM f c i k mk a5 Y f8 W k6 aa aa e8 C.1 C.2.1 a4;clear r d2 p1 t1 a8;go_wp2_with fail;go_region_held3(λb0=>b0.cell? (ag i6 0)=some (ae mk)/\b0.cell? (ag i6 1)=some (ae a5)/\b0.cell? (ag a0 0)=some (.int .u64 c)) ((simp[*,go_sem];done)) (first|(go_at_call 160;refine(d1 _ bF).mono ?_;rintro e w3 ⟨rfl,V⟩;have p:au w2 w3:=⟨V.os,V.tape,V.output,V.size,V.block⟩;obtain⟨x1,x2,x3⟩:=kp p i6 p3;obtain⟨y1,y2,y3⟩:=kp p a0 t3)|(go_at_call 335;refine(f9 _ (by first|exact p|exact aV p)).mono ?_;rintro e Z ⟨y,s,rfl,H,l⟩;have D:au w2 Z:=p.trans (Below.mono ⟨l.os,l.tape,l.output,l.size,l.block⟩ p.size);obtain⟨x4,x5,x6⟩:=kp D i6 p3;obtain⟨y4,y5,y6⟩:=kp D a0 t3));have E:QX (au wr Z):=a9.trans (D.mono a9.size);have M:=ad (cu H p.size);have b5:=ad (aP D f5);have d3:d<wr.heap.size:=(RC.1 g.HP).1;have j4:QX (Fw Z d (fA f c P i) (128*i)):=(E.block d d3).trans g.HP;have j5:=ad (aP E g.se.own);have g0:=ad (rT Z d (fA f c P i) (128*i) 128 _ (iX f c i k mk a5 f8 Y) j4 (kY _ _ _ _) (oy M) (λk _=>oA _ _ _ _ _ _ _ _ k) aa aa);clear H l V p D x1 x4 y1 y4 e1 e2 e3 p3 t3 f9 d1;go_wp2_with fail;refine g0.mono ?_;rintro e w5 ⟨rfl,g6,R⟩;have j6:QX (w5.ownsRow x.heap.size 41 1 (.slice c6 (2*i) c7) (2*i) (bP (2*i) a7)):=R.own j5 λk e g7=>g.ne (by rw[e,g7]);have b1:QX (Out (λk=>k=d) wr w5):=(Out.af E).tr R;have g8:y<Z.heap.size/\w2.heap.size<=y:=bo M rfl;have j7:g2<Z.heap.size/\i5.heap.size<=g2:=bo b5 rfl;have g9:=a9.size;have h0:=e5.1.size;have d4:=R.size;have j8:QX (∀j,j<2->gp (λk=>k<x.heap.size\/k=d\/(RU c6 (2*i) c7).ownBlock=some k\/w5.heap.size<=k) w5 ([a' y 128 s,a' g2 128 T].getD j aW) (bp f c P (2*i+j))):=λj f2=>by
      have h2:∀k,(RU c6 (2*i) c7).ownBlock=some k->k<wr.heap.size:=λk I=>(bo g.se.own I).1;have h3:=g.dw.size;obtain rfl|rfl:j=0\/j=1:=aa
      .rw [VJ,mg _ _ _ _ K,J.out,c9.1,c9.2.1,c9.2.2,U.1,U.2];refine gp.of (R.own M λk e g7=>?_) ?_
       .cases e;exact absurd (show y=d from g7) aa
       .rintro (h|h|h|h)
        .omega
        .omega
        .have:=h2 _ h;omega
        .omega
      .rw [BS _ _ _ _,c9.2.2];refine gp.of (R.own b5 λk e g7=>?_) ?_
       .cases e;exact absurd (show g2=d from g7) aa
       .rintro (h|h|h|h)
        .omega
        .omega
        .have:=h2 _ h;omega
        .omega
     have j9:QX (Fw w5 d (fA f c P (i+1)) (128*(i+1))):=by
      have:fA f c P (i+1)=dE (fA f c P i) 128 (iX f c i k mk a5 f8 Y):=by show dE _ 128 (iX f c i P.N (P.me i) (P.row i) (ht (P.da i)) (dE 0 128 (ei (P.da i))))=_;rw[J.out,c9.1,c9.2.1,c9.2.2,U.1,U.2]
      rw[this];exact g6
     clear g6 R g0 g8 j7 g9 h0 d4;obtain⟨d5,d6,d7,d8,d9⟩:=SD r_;go_wp2_with(first|(at_builtin;refine aU _ rfl _ _ 42 rfl x.heap.size 41 d5 aW 1 24 underlying42 d6 d7 d8 d9 rfl aj (.slice c6 (2*i) c7) (2*i) (bP (2*i) a7) rfl (j6.alloc _) (ag w5.heap.size 0) 2 2 [a' y 128 s,a' g2 128 T] rfl rfl (RY (cs:= #[a' y 128 s,a' g2 128 T]) (t:=41) (fr:=(0,0)) (QB w5 _)) (by intro u i7;simp at i7;rcases i7 with rfl|rfl<;>rfl) aa (by unfold UI;omega) aa (by have:=g.dw.size;have:=b1.size;simp;omega) ?_));intro b2 w6 F n;have b3:QX (i_ x.heap.size (λk=>k=d) w6 b2 (2*(i+1)) (sc (2*i) a7 (([a' y 128 s,a' g2 128 T].getD · aW))) (bp f c P)):=by
      refine i_.push (nf:=λj=>bp f c P (2*i+j)) (g.se.out b1 λk e=>⟨e,λh=>?_⟩) (aI ak _) n (US _) F j8 λj f2=>?_
      .exact g.ne (by rw[h,show k=d from e])
      .show bp f c P j=if j<2*i then bp f c P j else bp f c P (2*i+(j-2*i))
       split
       .rfl
       .rw [show 2*i+(j-2*i)=j by omega]
     have h6:∀k,(RU c6 (2*i) c7).ownBlock=some k->k<wr.heap.size/\x.heap.size<=k:=λk I=>bo g.se.own I;have h7:QX (IQ x w6 f c P d b2 (i+1) (sc (2*i) a7 (([a' y 128 s,a' g2 128 T].getD · aW)))):=by
      have h3:=g.dw.size;have h5:=b1.size;have Q:=g.dB;refine⟨b3,?_,?_,Q,λe=>?_⟩
      .refine n.heap ?_ g.ne;exact(QW _ _ _ aa).trans j9
      .refine n.below (B:=x.heap.size) ((g.dw.trans (b1.below (λk _ e=>?_) h3)).alloc aa _) aR λk I=>(h6 k I).2;rw[show k=d from e];exact Q
      .rcases n.block e with h|h
       .exact g.ne h
       .omega
     clear b3 F n h6;obtain⟨l4,l5,rfl,-⟩:=av h7.se.own;go_wp2;go_roundw
     case rel=>exact⟨i+1,_,aa,by go_num,h7⟩
     case measure=>simp[intOf];omega
    .obtain rfl:i=k:=aa;have d3:d<wr.heap.size:=(RC.1 g.HP).1;obtain⟨t1,t2,t3⟩:=cr ((g.dw.block a0 G.2).trans G.1);have e3:=t1 0;simp at e3;have l1:QX (∀W,au wr W->aE 311 #[ar d] W λe b0=>aK e (.int .u32 (fA f c P i))/\W=b0):=λW a3=>yf W d _ (128*i) ((a3.block d d3).trans g.HP);have a4:=kY f c P i;obtain⟨Y,r⟩:=ah (fA f c P i);have U:=ad r;rw[r]at l1 a4;have k0:QX (∀W,au wr W->aE 336 #[.agg #[.int .u64 f,.int .u64 c,ae i,.int .u32 Y]] W (rX 128 (eh f c i Y) W)):=λW _=>oz f c i Y W k6 aa aa a4;clear r t1;go_wp2_with fail;go_region_held3(λb0=>b0.cell? (ag a0 0)=some (.int .u64 c)) ((simp[*,go_sem];done)) (first|(go_at_call 311;refine(l1 _ bF).mono ?_;rintro e w3 ⟨rfl,rfl⟩)|(go_at_call 336;refine(k0 _ bF).mono ?_;rintro e Z ⟨y,s,rfl,H,l⟩;obtain⟨y1,y2,y3⟩:=kp l a0 (by first|exact t3|go_size)));have E:QX (au wr Z):=⟨l.os,l.tape,l.output,l.size,l.block⟩;have M:QX (Z.ownsRow wr.heap.size 5 1 (a' y 128 s) 128 (aA 128 (eh f c i Y))):=⟨H.1,H.2⟩;have h8:QX (i_ x.heap.size (λk=>k=d) Z (.slice c6 (2*i) c7) (2*i) a7 (bp f c P)):=g.se.out (Out.af (S:=λ_=>False) E) λ_ e=>e.elim;have g8:y<Z.heap.size/\wr.heap.size<=y:=bo M rfl;clear H l y1 e3 t3;obtain⟨d5,d6,d7,d8,d9⟩:=SD r_;go_wp2_with(first|(at_builtin;refine aU _ rfl _ _ 42 rfl x.heap.size 41 d5 aW 1 24 underlying42 d6 d7 d8 d9 rfl aj (.slice c6 (2*i) c7) (2*i) (bP (2*i) a7) rfl (h8.own.alloc _) (ag Z.heap.size 0) 1 1 [a' y 128 s] rfl rfl (RY (cs:= #[a' y 128 s]) (t:=41) (fr:=(0,0)) (QB Z _)) (by intro u i7;rw[SP.1 i7];rfl) aa (by unfold UI;omega) aa (by have:=g.dw.size;have:=E.size;simp;omega) ?_));intro b2 w6 F n;have b3:QX (i_ x.heap.size (λk=>k=d) w6 b2 (2*i+1) (sc (2*i) a7 (λ_=>a' y 128 s)) (bp f c P)):=by
      refine i_.push (m:=1) (nf:=λ_=>eh f c i Y) h8 (aI ak _) n (US _) F (λj f2=>gp.of M ?_) λj f2=>?_
      .have i4:=(RC.1 g.HP).1;have h3:=g.dw.size;rintro(h|h|h|h)
       .omega
       .exact absurd (show y=d from h) aa
       .have:=(bo g.se.own h).1;omega
       .omega
      .show bp f c P j=if j<2*i then bp f c P j else eh f c i Y
       split
       .rfl
       .obtain rfl:j=2*i:=aa;rw[<-J.out,zu,J.out,U.out]
     have k2:QX (au w w6):=by have h3:=g.dw.size;have h4:=E.size;have h1:=q.1.size;refine q.1.trans ((n.below (B:=x.heap.size) ((g.dw.trans (E.mono h3)).alloc aa _) aR λk I=>(bo g.se.own I).2).mono h1)
     clear F n;go_wp2;go_ret2;exact⟨_,_,rfl,by rw[J.out];exact b3.mono q.1.size λ_ e=>e.elim,k2⟩
def dT(w:M)(v:QC)(f:aQ):Prop:=∃b o a c d,v=.slice (some (R b o)) 128 a/\128<=a/\w.heap[b]?=some (.cells c 5 d)/\∀k,k<128->c[o+k]?=some (.int .u8 (f k))
theorem dT.out{w w1:M}(h:dT w v f)(d:Out S w w1)(g:∀k o,S k->w.heap[k]?=some o->ty o≠5):dT w1 v f:=by obtain⟨b,o,a,i,j,l,m,c,n⟩:=h;exact⟨b,o,a,i,j,l,m,d.heap c λe=>g _ _ e c rfl,n⟩
theorem dT.below(h:dT w v f)(a:au w W):dT W v f:=h.out (Out.af (S:=λ_=>False) a) λ_ _ h=>h.elim
theorem dT.fr[Lo](h:dT w v f)(c:Fr T aF w W)(d:T.contains 5=false):dT W v f:=by obtain⟨b,o,a,e,g,i,j,k,l⟩:=h;exact⟨b,o,a,e,g,i,j,c.hp k d,l⟩
theorem dT.eG(h:dT w v f):cR w v 128 f:=by obtain⟨b,o,a,c,d,rfl,i,e,g⟩:=h;exact⟨_,_,rfl,.inr ⟨b,o,c,d,rfl,e,g⟩⟩
theorem dT.Bz(h:dT w v f):lW w v 128 f:=h.eG.Bz
theorem eZ(h:w.ownsRow n 5 1 v 128 (aA 128 f)):dT w v f:=by
 rcases h.2 with⟨rfl,d⟩|⟨g,a,b,rfl,m,e,i,o,p,j⟩
 .cases d
 .refine ⟨g,0,a,b,_,rfl,i,e,λk c=>?_⟩;have:=congrArg (λl=>l[k]?) j;simp only[TH,TZ,ba 128 f k c,ao c]at this;rw[RH];simpa using this
theorem dT.form(h:dT w v f):∃b o c,v=.slice (some (R b o)) 128 c:=by obtain⟨b,o,a,e,g,d,_⟩:=h;exact⟨b,o,a,d⟩
theorem hv(v:QC)(f:aQ)(w:M)(h:dT w v f):aE 199 #[v] w (rY 128 f w):=by obtain⟨b,o,a,c,d,rfl,i,e,g⟩:=h;exact eF b o 128 a f w (λk h=>(QT w b (o+k) c 5 d e).trans (g k h)) J
abbrev Pt:=Nat × Nat × (Nat->Nat)
variable {l:List Pt}
def dd(l:List Pt)(a:List QC):List QC:=(l.zip a).flatMap λx=> [Y x.1.1,Y x.1.2.1,x.2]
theorem oB(h:L.length=l.length)(p:Pt)(u:QC):dd (l++ [p]) (L++ [u])=dd l L++ [Y p.1,Y p.2.1,u]:=by unfold dd;rw[List.zip_append h.symm,UY];rfl
theorem sh{l c:List Pt}{b a:List QC}(h:b.length=l.length):dd (l++c) (b++a)=dd l b++dd c a:=by unfold dd;rw[List.zip_append h.symm,UY]
theorem qD(h:L.length=l.length):(dd l L).length=l.length*3:=by
 unfold dd;have e:∀z:List (Pt × QC),(z.flatMap λx=> [Y x.1.1,Y x.1.2.1,x.2]).length=z.length*3:=by
  intro z;induction z with
  |nil=>rfl
  |cons a z b=>rw[List.flatMap_cons,QU,b];simp;omega
 rw[e,List.length_zip,h,Nat.min_self]
theorem jI:∀{l:List Pt} {us:List QC} {i:Nat} {p:Pt} {u:QC},l[i]?=some p->us[i]?=some u->(dd l us)[i*3]?=some (Y p.1)/\(dd l us)[i*3+1]?=some (Y p.2.1)/\(dd l us)[i*3+2]?=some u
 | [],_,_,_,_,h,_=>by simp at h
 |_::_,[],_,_,_,_,h=>by simp at h
 |q::l,v::us,0,p,u,h,g=>by simp at h g;subst h;subst g;exact⟨rfl,rfl,rfl⟩
 |q::l,v::us,i+1,p,u,h,g=>by
  have a:=jI (l:=l) (us:=us) (i:=i) (p:=p) (u:=u) (by simpa using h) (by simpa using g);have e:dd (q::l) (v::us)= [Y q.1,Y q.2.1,v] ++dd l us:=rfl;rw[e];refine⟨?_,?_,?_⟩
  .rw [QZ aR];simpa[show(i+1)*3-3=i*3 by omega]using a.1
  .rw [QZ aR];simpa[show(i+1)*3+1-3=i*3+1 by omega]using a.2.1
  .rw [QZ aR];simpa[show(i+1)*3+2-3=i*3+2 by omega]using a.2.2
def ff(w:M)(v:QC)(l:List Pt):Prop:=
 ∃a c,v=.slice a l.length c/\l.length<=c/\(l= []\/∃b o d e,a=some (R b o)/\w.heap[b]?=some (.cells d 206 e)/\
  ∀i (p:Pt),l[i]?=some p->d[o+i*3]?=some (Y p.1)/\d[o+i*3+1]?=some (Y p.2.1)/\∃u,d[o+i*3+2]?=some u/\dT w u p.2.2)
theorem ff.out{w w1:M}(h:ff w v l)(d:Out S w w1)(f:∀k o,S k->w.heap[k]?=some o->ty o≠5/\ty o≠206):ff w1 v l:=by obtain⟨a,c,j,m,n⟩:=h;refine⟨a,c,j,m,n.imp id ?_⟩;rintro⟨b,o,q,r,s,g,t⟩;refine⟨b,o,q,r,s,d.heap g λe=>(f _ _ e g).2 rfl,λi p x=>?_⟩;obtain⟨y,z,u,A,B⟩:=t i p x;exact⟨y,z,u,A,B.out d λk o C D=>(f k o C D).1⟩
theorem ff.below(h:ff w v l)(a:au w W):ff W v l:=h.out (Out.af (S:=λ_=>False) a) λ_ _ h=>h.elim
theorem ff.fr[Lo](h:ff w v l)(f:Fr T aF w W)(g:T.contains 5=false)(j:T.contains 206=false):ff W v l:=by obtain⟨a,c,d,e,k⟩:=h;refine⟨a,c,d,e,k.imp id ?_⟩;rintro⟨b,o,m,n,q,r,s⟩;refine⟨b,o,m,n,q,f.hp r j,λi p t=>?_⟩;obtain⟨d,e,u,x,y⟩:=s i p t;exact⟨d,e,u,x,y.fr f g⟩
theorem ff.nil(w:M):ff w aW []:=⟨none,0,rfl,QH _,.inl rfl⟩
def fg(B:Nat)(w:M)(v:QC)(l:List Pt):Prop:=
 ∃us:List QC,us.length=l.length/\w.ownsRow B 206 3 v l.length (dd l us)/\∀(i:Nat) (p:Pt) (u:QC),l[i]?=some p->us[i]?=some u->dT w u p.2.2
theorem fg.nil(B:Nat)(w:M):fg B w aW []:=⟨[],rfl,SJ _ _ _ _,λi p u h=>by simp at h⟩
theorem fg.yj(h:fg n w v l):ff w v l:=by
 obtain⟨e,A,k,m⟩:=h;rcases k.2 with⟨rfl,o⟩|⟨g,b,a,rfl,B,q,r,C,D,s⟩
 .have:=TU o;subst this;exact ff.nil w
 .refine ⟨_,b,rfl,r,.inr ⟨g,0,a,_,rfl,q,λi p c=>?_⟩⟩;have E:=(QS.1 c).1;obtain⟨u,f⟩:∃u,e[i]?=some u:=⟨_,QP J⟩;obtain⟨t,x,y⟩:=jI c f;have d:∀j,j<l.length*3->a[j]?=(dd l e)[j]?:=λj z=>by rw[<-s,TH,ao z];simp
  rw[RH];exact⟨(d _ J).trans t,(d _ J).trans x,u,(d _ J).trans y,m i p u c f⟩
theorem fg.out{w w1:M}(h:fg n w v l)(a:Out S w w1)(b:∀k,v.ownBlock=some k->¬S k)(c:∀k o,S k->w.heap[k]?=some o->ty o≠5):fg n w1 v l:=by obtain⟨d,e,f,g⟩:=h;exact⟨d,e,a.own f b,λi p u j m=>(g i p u j m).out a c⟩
theorem fg.below{B:Nat}(h:fg B w v l)(a:au w W):fg B W v l:=h.out (Out.af (S:=λ_=>False) a) (λ_ _=>id) λ_ _ h=>h.elim
theorem fg.fr[Lo](h:fg n w v l)(a:Fr T aF w W)(b:T.contains 5=false)(c:T.contains 206=false):fg n W v l:=by obtain⟨d,e,f,g⟩:=h;exact⟨d,e,a.own f c λ_ _=>id,λi p u j k=>(g i p u j k).fr a b⟩
theorem nF.ty(c:nF i W v n m x w)(d:W.ownsRow j r C v n L):Out (λk=>v.ownBlock=some k) W w/\∀k o,v.ownBlock=some k->W.heap[k]?=some o->ty o=r:=by
 refine⟨c.out (Out.refl _ _) λ_ h _=>h,λk o a b=>?_⟩;rcases d.2 with⟨rfl,_⟩|⟨g,e,f,rfl,_,l,_⟩
 .cases a
 .cases a;rw[l]at b;cases b;rfl
theorem fg.push{B s n m:Nat}{lv a:QC}{l b:List Pt}{us us':List QC}(e:us.length=l.length)(f:us'.length=b.length)(q:n=l.length)(r:m=b.length)(h:W.ownsRow B 206 3 lv n (dd l us))(t:∀(i:Nat) (p:Pt) (u:QC),l[i]?=some p->us[i]?=some u->dT W u p.2.2)(v:∀(i:Nat) (p:Pt) (u:QC),b[i]?=some p->us'[i]?=some u->dT W u p.2.2)(x:w.ownsRow B 206 3 a (n+m) (dd l us++dd b us'))(y:nF s W lv n m a w):fg B w a (l++b):=by
 subst q;subst r;obtain⟨g,z⟩:=y.ty h;refine⟨us++us',by simp[e,f],by rw[QU,sh e];exact x,λi p u c d=>?_⟩;have j:∀k o,lv.ownBlock=some k->a_ W k o->ty o≠5:=λk o A C=>by rw[z k o A C];decide
 by_cases D:i<l.length
 .rw [RD D]at c;rw[RD J]at d;exact(t i p u c d).out g j
 .rw [QZ J]at c;rw[QZ J,e]at d;exact(v _ p u c d).out g j
def IS(w:M)(v:QC)(L:List (List Pt)):Prop:=
 ∃a c,v=.slice a L.length c/\L.length<=c/\(L= []\/∃b o d e,a=some (R b o)/\w.heap[b]?=some (.cells d 162 e)/\∀(i:Nat) (l:List Pt),L[i]?=some l->∃u,d[o+i]?=some u/\ff w u l)
theorem IS.fr[Lo]{L:List (List Pt)}(h:IS w v L)(d:Fr T aF w W)(e:T.contains 5=false)(f:T.contains 206=false)(g:T.contains 162=false):IS W v L:=by obtain⟨a,c,j,k,h⟩:=h;refine⟨a,c,j,k,h.imp id ?_⟩;rintro⟨b,o,m,n,p,q,r⟩;refine⟨b,o,m,n,p,d.hp q g,λi l s=>?_⟩;obtain⟨u,t,x⟩:=r i l s;exact⟨u,t,x.fr d e f⟩
def zv(B:Nat)(w:M)(v:QC)(L:List (List Pt)):Prop:=
 ∃us:List QC,us.length=L.length/\w.ownsRow B 162 1 v L.length us/\∀(i:Nat) (l:List Pt) (u:QC),L[i]?=some l->us[i]?=some u->ff w u l
theorem zv.nil(B:Nat)(w:M):zv B w aW []:=⟨[],rfl,SJ _ _ _ _,λi p u h=>by simp at h⟩
theorem zv.Pz{L:List (List Pt)}(h:zv n w v L):IS w v L:=by
 obtain⟨e,q,f,j⟩:=h;rcases f.2 with⟨rfl,k⟩|⟨g,a,b,rfl,r,m,o,s,t,p⟩
 .have:=TU k;subst this;exact⟨none,0,rfl,QH _,.inl rfl⟩
 .refine ⟨_,a,rfl,o,.inr ⟨g,0,b,_,rfl,m,λi l c=>?_⟩⟩;have x:=(QS.1 c).1;obtain⟨u,d⟩:∃u,e[i]?=some u:=⟨_,QP J⟩;refine⟨u,?_,j i l u c d⟩;rw[RH,<-d,<-p,TH,ao J];simp
theorem zv.push{B s:Nat}{lv a u:QC}{L:List (List Pt)}{us:List QC}(d:us.length=L.length)(h:W.ownsRow B 162 1 lv L.length us)(g:∀(i:Nat) (p:List Pt) (u:QC),L[i]?=some p->us[i]?=some u->ff W u p)(j:ff W u l)(m:w.ownsRow B 162 1 a (L.length+1) (us++ [u]))(n:nF s W lv L.length 1 a w):zv B w a (L++ [l]):=by
 obtain⟨e,q⟩:=n.ty h;have f:∀k o,lv.ownBlock=some k->a_ W k o->ty o≠5/\ty o≠206:=λk o r t=>by rw[q k o r t];decide
 refine⟨us++ [u],by simp[d],by rw[QU];exact m,λi p x b c=>?_⟩;by_cases v:i<L.length
 .rw [RD v]at b;rw[RD J]at c;exact(g i p x b c).out e f
 .rw [QZ J]at b;rw[QZ J,d]at c;obtain⟨y,A⟩:=QS.1 b;have z:i-L.length=0:=by simp at y;omega
  rw[z]at b c;simp at b c;subst b;subst c;exact j.out e f
def gN(w:M)(v:QC)(B:bq):Prop:=
 ∃a c,v=.slice a B.n c/\B.n<=c/\(B.n=0\/∃b o d e,a=some (R b o)/\w.heap[b]?=some (.cells d 61 e)/\∀i,i<B.n->d[o+i*2]?=some (Y (B.aL i:Nat))/\∃u,d[o+i*2+1]?=some u/\dT w u (B.da i))
theorem gN.fr[Lo](h:gN w v K)(e:Fr T aF w W)(f:T.contains 5=false)(g:T.contains 61=false):gN W v K:=by obtain⟨a,c,d,j,h⟩:=h;refine⟨a,c,d,j,h.imp id ?_⟩;rintro⟨b,o,k,l,m,n,p⟩;refine⟨b,o,k,l,m,e.hp n g,λi q=>?_⟩;obtain⟨d,u,r,s⟩:=p i q;exact⟨d,u,r,s.fr e f⟩
theorem gN.below{B:bq}(h:gN w v B)(a:au w W):gN W v B:=by
 letI:Lo:=⟨0⟩
 exact h.fr (T:= []) (Fr.af a) rfl rfl
def mh(l:List Pt)(p:Pt->Bool):Int:=match l.findIdx? p with|some k=>(k:Nat)|none=> -1
theorem zw{p:Pt->Bool}(h:∀x∈l,p x=false):mh l p= -1:=by unfold mh;rw[XW.2 h]
theorem si(B:Nat)(U:Array QC)(a5:∀h w,(UN B h).run VY w=.ok (.enter B h) w)(l:List Pt)(m:Pt->Bool)(v:QC)(w:QA)(R:ff w v l)(I:l.length<=1000000)(V:∀W,SC w.heap.size w W->∀p,p∈l->∀u,dT W u p.2.2->Calls VY B (#[.agg #[.int .i64 (p.1:Nat),.int .i64 (p.2.1:Nat),u]] ++U) W λe F=>e=.returned (.bool (m p))/\SC W.heap.size W F):
  Calls VY 292 #[v,.func (.func B) #[] U] w λe F=>e=.returned (.int .i64 (mh l m))/\SC w.heap.size w F:=by
 obtain⟨n,C⟩:∃n,l.length=n:=⟨_,rfl⟩;obtain⟨a,Y,rfl,z,X⟩:=R;rw[C]at I z;rw[C];have J:=RB X;have G:=RB C;have a0:=RB V;clear X C V;go_enter Tryz.func292,Tryz.ntmps292;go_wp2;go_loopw [8] (λi wr=>∃k:Nat,i=.int .i64 k/\k<=n/\QX (SC w.heap.size w wr)/\QX (∀j p,j<k->l[j]?=some p->m p=false)) (λi _=>n-(intOf i).toNat)
 case atStart=>exact⟨0,rfl,QN _,SL _ _,λj p y=>by omega⟩
 case round=>
  obtain⟨k,rfl,a6,q,K⟩:=hrel;by_cases A:k<n
  .obtain ⟨p,r⟩:∃p,l[k]?=some p:=⟨_,QP (by rw[G.out];exact A)⟩;obtain⟨b,o,L,O,rfl,P,Z⟩:=J.out.resolve_left (by intro e;have:=G.out;rw[e]at this;simp at this;omega);obtain⟨D,E,u,H,Q⟩:=Z k p r;have f:=(q.out.block b (Z_ P)).trans P;have c1:=(QT wr b (o+k*3) L 206 O f).trans D;have c2:=(QT wr b (o+k*3+1) L 206 O f).trans E;have c3:=(QT wr b (o+k*3+2) L 206 O f).trans H;have g:=RB (a0.out wr q.out p (QV r) u (Q.below q.out));obtain⟨a7,a8,a9,rfl⟩:=Q.form;have N:=RB r;obtain⟨a1,a2,a3⟩:=p;clear Z D E H Q f P r;cases c:m (a1,a2,a3)with
   |true=>
    rw[c]at g;have s:=RB c;clear c;go_wp2_with fail;refine g.out.mono ?_;rintro e M ⟨rfl,d⟩;have S:QX (mh l m=(k:Nat)):=by
     show _=_;unfold mh;have:l.findIdx? m=some k:=by rw[List.findIdx?_eq_some_iff_getElem];obtain⟨D,E⟩:=QS.1 N.out;refine⟨D,by rw[E];exact s.out,λj y=>?_⟩;rw[K.out j _ y (QP (by omega))];decide
     rw[this]
    have t:=RB (q.out.trans (d.mono q.out.size));clear d;go_wp2;go_ret;exact⟨by rw[S.out];rfl,t.out⟩
   |false=>
    rw[c]at g;have s:=RB c;clear c;go_wp2_with fail;refine g.out.mono ?_;rintro e M ⟨rfl,d⟩;have t:QX (SC w.heap.size w M):=q.out.trans (d.mono q.out.size);have T:QX (∀j p,j<k+1->l[j]?=some p->m p=false):=λj p y r=>by
     by_cases e:j=k
     .subst e;rw[N.out]at r;cases r;exact s.out
     .exact K.out j p (by omega) r
    clear d;go_wp2;exact⟨⟨k+1,by go_num,A,t,T⟩,by simp[intOf];omega⟩
  .obtain rfl:k=n:=by omega
   have S:QX (mh l m= -1):=zw λx a4=>by obtain⟨j,y,rfl⟩:=ZA.1 a4;exact K.out j _ (by rw[<-G.out];exact y) (QP y)
   go_wp2;go_ret;exact⟨by rw[S.out];rfl,q.out⟩
theorem kZ(d:Nat)(g:Array QC)(q:∀c w,(UN d c).run prog w=.ok (.enter d c) w)(l:List Pt)(b:Pt->Bool)(v:QC)(w:M)(i:ff w v l)(r:l.length<=1000000)(s:∀W,au w W->∀p,p∈l->∀u,dT W u p.2.2->aE d (#[.agg #[Y p.1,Y p.2.1,u]] ++g) W λe h=>aK e (.bool (b p))/\au W h):
  aE 357 #[v,.func (.func d) #[] g] w λe h=>aK e (.bool (l.any b))/\au w h:=by
 have j:=I (si d g q l b v w i r s);have m:QX (decide (mh l b>=0)=l.any b):=by
  show _=_;unfold mh;cases n:l.findIdx? b with
  |none=>
   have:=XW.1 n;have e:l.any b=false:=by rw[List.any_eq_false];intro x f;rw[this x f];decide
   rw[e];decide
  |some k=>obtain⟨t,z,_⟩:=List.findIdx?_eq_some_iff_getElem.1 n;have e:l.any b=true:=XD.2 ⟨_,YJ t,z⟩;rw[e];simp
 obtain⟨x,f⟩:=ah (mh l b);obtain⟨y,o⟩:=ah (l.any b);rw[f,o]at m;rw[f]at j;rw[o];obtain⟨a,A,rfl,-⟩:=i;go_enter func357,ntmps357;go_wp2_with(go_at_call 292;refine j.mono ?_;rintro e D ⟨rfl,B⟩;have C:=I B);go_ret;exact⟨by rw[<-m.out];rfl,C⟩
theorem sj(a b:Nat):((a:Int)==(b:Int))=decide (a=b):=by
 by_cases h:a=b
 .simp [h]
 .rw [decide_eq_false h];exact beq_false_of_ne J
theorem BU(p:Pt)(u:QC)(W:M)(h:dT W u p.2.2):aE 356 (#[.agg #[Y p.1,Y p.2.1,u]] ++ #[]) W λe a=>aK e iG/\au W a:=by obtain⟨b,o,c,rfl⟩:=h.form;obtain⟨d,f,g⟩:=p;go_enter func356,ntmps356;go_wp2;go_ret;exact⟨rfl,aI ak _⟩
theorem IT(p:Pt)(u:QC)(g m:Nat)(W:M)(h:dT W u p.2.2)(a:a_ W g (N #[Y m] 3)):aE 376 (#[.agg #[Y p.1,Y p.2.1,u]] ++ #[H g]) W λe d=>aK e (.bool (decide (p.1=m)))/\au W d:=by obtain⟨b,o,c,rfl⟩:=h.form;obtain⟨i,j,l⟩:=p;obtain⟨k,f,z⟩:=cr a;go_enter func376,ntmps376;go_wp2;go_ret;exact⟨by simp[sj],aI ak _⟩
theorem BV(p:Pt)(u:QC)(i j m r:Nat)(W:M)(h:dT W u p.2.2)(l:a_ W i (N #[Y m] 3))(n:a_ W j (N #[Y r] 3)):
  aE 293 (#[.agg #[Y p.1,Y p.2.1,u]] ++ #[H i,H j]) W λe q=>aK e (.bool (decide (p.1=m/\p.2.1=r)))/\au W q:=by
 obtain⟨b,o,c,rfl⟩:=h.form;obtain⟨a,s,t⟩:=p;obtain⟨k,f,z⟩:=cr l;obtain⟨v,f2,w⟩:=cr n;by_cases d:a=m
 .have d1:((a:Int)==(m:Int))=true:=by simp[d]
  have g:=I d;go_enter func293,ntmps293;go_wp2;go_ret;exact⟨by simp[sj],aI ak _⟩
 .have d1:((a:Int)==(m:Int))=false:=aR;have g:=I d;go_enter func293,ntmps293;go_wp2;go_ret;exact⟨by simp,aI ak _⟩
structure Dk where
 n:Nat
 fS:Nat->Nat->Nat
 cn:Nat
 cat:Nat->Nat
 bS:Nat->Nat->Nat
 failed:Bool
variable {D:Dk}
def dN(cat:aQ):Nat->Nat->Option Nat
 |0,_=>none
 |n+1,a=>if cat n=a then some n else dN cat n a
def Dk.view(d:Dk)(a:Nat):Nat->Nat:=match dN d.cat d.cn a with|some k=>d.bS k|none=>d.fS a
def iw(cat:aQ)(n:Nat)(a:Int):Option QC:=if 0<=a then(dN cat n a.toNat).map λk=>.int .i64 (k:Nat)else none
theorem hz{cat:aQ}:∀{n a k:Nat},dN cat n a=some k->k<n/\cat k=a
 |0,_,_,h=>by cases h
 |n+1,a,k,h=>by
  unfold dN at h;split at h
  .cases h;exact⟨J,by assumption⟩
  .have:=hz h;exact⟨J,this.2⟩
theorem mi(cat:aQ)(n a:Nat):iw cat n (a:Int)=(dN cat n a).map λk=>.int .i64 (k:Nat):=by simp[iw]
def ew(n:Nat)(a:dp):Array QC:=((TT (128*n)).map λj=>SK .u8 (a (j/128) (j%128):Nat)).toArray
def fm(n:Nat)(cat:aQ)(a:dp):List QC:=(TT (129*n)).map λj=>if j%129=0 then Y (cat (j/129):Nat)else SK .u8 (a (j/129) (j%129-1):Nat)
theorem zx(n:Nat)(a:dp):(ew n a).size=128*n:=by simp[ew]
theorem hU(n:Nat)(cat:aQ)(a:dp):(fm n cat a).length=n*129:=by simp[fm];omega
theorem BW(n:Nat)(a:dp)(b:m<n)(c:k<128):(ew n a)[128*m+k]?=some (.int .u8 (a m k:Nat)):=by have h:128*m+k<128*n:=J;simp only[ew,XA,RL,SF h,QY];rw[show(128*m+k)/128=m by omega,show(128*m+k)%128=k by omega]
theorem zy(n:Nat)(cat:aQ)(a:dp)(b:i<n):(fm n cat a)[129*i]?=some (Y (cat i:Nat)):=by have h:129*i<129*n:=J;simp only[fm,RL,SF h,QY];rw[ao J,show 129*i/129=i by omega]
theorem wq(n:Nat)(cat:aQ)(a:dp)(b:i<n)(c:k<128):(fm n cat a)[129*i+1+k]?=some (.int .u8 (a i k:Nat)):=by have h:129*i+1+k<129*n:=J;simp only[fm,RL,SF h,QY];rw[aq J,show(129*i+1+k)/129=i by omega,show(129*i+1+k)%129-1=k by omega]
theorem tP(n:Nat)(cat:aQ)(b:dp)(a:Nat)(f:aQ):fm n cat b++(Y a::aA 128 f)=fm (n+1) (λi=>if i=n then a else cat i) (λi=>if i=n then f else b i):=by
 apply TN;intro j;by_cases c:j<129*n
 .rw [RD (by rw[hU];omega)];simp only[fm,RL,SF c,SF (show j<129*(n+1)by omega),QY];rw[aq (show¬j/129=n by omega),aq (show¬j/129=n by omega)]
 .rw [QZ (by rw[hU];omega),hU];by_cases d:j<129*(n+1)
  .simp only[fm,RL,SF d,QY];rw[show j/129=n by omega];simp only[if_true];by_cases e:j=n*129
   .subst e;rw[Nat.sub_self,ao J];rfl
   .rw [aq J,show j-n*129=(j%129-1)+1 by omega,List.getElem?_cons_succ,ba _ _ _ J]
  .rw [RE (by simp[aH];omega),RE (by rw[hU];omega)]
structure DA where
 gl:Nat
 lc:Nat
 cv:QC
 ms:Nat
structure cC(w:M)(K:Nat)(A:DA)(d:Dk):Prop where
 aL:w.heap[K]? =some (N #[a' A.gl d.n A.lc,A.cv,.map (some A.ms),.bool d.failed] 142)
 fS:w.heap[A.gl]? =some (N (ew d.n d.fS) 217)
 cache:w.ownsRow 0 219 129 A.cv d.cn (fm d.cn d.cat d.bS)
 seen:IM w A.ms (iw d.cat d.cn)
 pos:0<d.n
 top:d.n<=8192
 cap:d.cn<=1000000000000
 KG:∀i,i<d.cn->d.cat i<d.n
def DZ(K:Nat)(A:DA)(b:Nat):Prop:=b=K\/b=A.gl\/b=A.ms\/A.cv.ownBlock=some b
theorem cC.out{w w1:M}{A:DA}(h:cC w n A D)(a:Out S w w1)(c:∀b,DZ n A b->¬S b):cC w1 n A D:=
 ⟨a.heap h.aL (c _ (.inl rfl)),a.heap h.fS (c _ (.inr (.inl rfl))),a.own h.cache λk d=>c k (.inr (.inr (.inr d))),h.seen.out a (c _ (.inr (.inr (.inl rfl)))),h.pos,h.top,h.cap,h.KG⟩
theorem cC.below{A:DA}(h:cC w n A D)(a:au w W):cC W n A D:=
 h.out (Out.af (S:=λ_=>False) a) λ_ _ h=>h
def MU(t:Nat):Bool:=t==142||t==217||t==219||t==1000000
theorem cC.ty{A:DA}(h:cC w n A D)(a:DZ n A m):∃o,w.heap[m]?=some o/\MU (ty o)=true:=by
 rcases a with rfl|rfl|rfl|a
 .exact ⟨_,h.aL,rfl⟩
 .exact ⟨_,h.fS,rfl⟩
 .obtain ⟨k,c,b,d,_⟩:=h.seen;exact⟨_,b,by rw[BH d];rfl⟩
 .rcases h.cache.2 with⟨e,_⟩|⟨g,f,i,e,_,j,_⟩
  .rw [e]at a;cases a
  .rw [e]at a;cases a;exact⟨_,j,rfl⟩
theorem cC.lt{A:DA}(h:cC w n A D){b:Nat}(a:DZ n A b):b<w.heap.size:=by obtain⟨o,c,_⟩:=h.ty a;exact Z_ c
theorem cC.ne{A:DA}(h:cC w n A D):n≠A.gl/\n≠A.ms/\A.gl≠A.ms/\∀b,A.cv.ownBlock=some b->b≠n/\b≠A.gl/\b≠A.ms:=by
 obtain⟨k,c,a,_⟩:=h.seen;refine⟨λe=>?_,λe=>?_,λe=>?_,λb d=>?_⟩
 .have:=h.aL;rw[e,h.fS]at this;simp at this
 .have:=h.aL;rw[e,a]at this;simp at this
 .have:=h.fS;rw[e,a]at this;simp at this
 .rcases h.cache.2 with⟨e,_⟩|⟨g,i,j,e,_,f,_⟩
  .rw [e]at d;cases d
  .rw [e]at d;cases d;refine⟨λe=>?_,λe=>?_,λe=>?_⟩
   .have:=h.aL;rw[<-e,f]at this;simp at this
   .have:=h.fS;rw[<-e,f]at this;simp at this
   .rw [<-e,f]at a;simp at a
theorem BX(K:Nat)(A:DA)(d:Dk)(a:Nat)(w:M)(h:cC w K A d)(c:d.failed=false)(f:a<d.n):aE 146 #[H K,Y a] w λe g=>aK e (aG 0)/\w=g:=by obtain⟨b,f1,k⟩:=cr h.aL;have i:=h.top;rw[c]at b;obtain⟨n,j⟩:=ah d.n;rw[j]at b f i;have d1:decide ((a:Int)<0)=false:=aJ;have d2:decide ((n:Int)<=a)=false:=aR;go_enter func146,ntmps146;go_wp2;go_ret;exact⟨rfl,rfl⟩
theorem oC(K:Nat)(A:DA)(d:Dk)(a:Int)(w:M)(h:cC w K A d)(b:d.failed=true):aE 146 #[H K,Y a] w λe c=>aK e (aG 2)/\w=c:=by obtain⟨f,f1,g⟩:=cr h.aL;rw[b]at f;go_enter func146,ntmps146;go_wp2;go_ret;exact⟨rfl,rfl⟩
theorem oD(K:Nat)(A:DA)(d:Dk)(w:M)(h:cC w K A d):aE 77 #[H K] w λe a=>aK e (.bool d.failed)/\w=a:=by obtain⟨b,f1,c⟩:=cr h.aL;go_enter func77,ntmps77;go_wp2;go_ret;exact⟨rfl,rfl⟩
theorem wu(K:Nat)(A:DA)(d:Dk)(w:M)(h:cC w K A d):aE 78 #[H K] w λe a=>aK e (Y d.n)/\w=a:=by obtain⟨b,f1,c⟩:=cr h.aL;go_enter func78,ntmps78;go_wp2;go_ret;exact⟨rfl,rfl⟩
theorem BY:prog.underlying 217=some (.array 128 5):=ai
theorem wy:(prog.info? 217).map (·.size)=some 128:=ai
theorem MV:(prog.info? 217).map (λi=>(i.zero,i.size,i.bytes))=some (some (.agg (cB 128 λ_=>0)),128,128):=ai
theorem wz:prog.underlying 139=some (.map 3 3):=ai
theorem u3:prog.underlying 3=some (.int .i64):=ai
theorem z3(w:M):(zeroValue 3).run prog w=.ok (Y 0) w:=(zero_of_info (v:= Y 0) (n:=1) ai).1 w
theorem tQ(L:Nat)(f:aQ):(cB L f).all (·.oneCell')=true:=by rw[Array.all_eq_true_iff_forall_mem];intro x a;simp only[cB,List.mem_toArray,RQ]at a;obtain⟨k,_,rfl⟩:=a;rfl
theorem K':zeroCells217.size=128:=ai
theorem HQ(W:M)(f:aQ):ZT prog (storeCells (R W.heap.size 0) (aA 128 f)) (W.alloc (N zeroCells217 217))=.ok () (W.alloc (N (cB 128 f) 217)):=
 run_storeCells_new (P:=prog) W 217 zeroCells217 (cB 128 f) (by rw[gg];exact wy) (by rw[gg];exact K') (tQ _ _)
theorem IU(W:M)(f g:aQ):ZT prog (storeCells (R W.heap.size 0) (aA 128 f)) (W.alloc (N (cB 128 g) 217))=.ok () (W.alloc (N (cB 128 f) 217)):=
 run_storeCells_new (P:=prog) W 217 (cB 128 g) (cB 128 f) (by rw[gg];exact wy) (by rw[gg,gg]) (tQ _ _)
theorem cC.cell{A:DA}(h:cC w n A D)(c:m<D.n):w.rangeAt A.gl (m*128) (aA 128 (D.fS m)):=λj v a=>by
 have b:j<128:=by have:=(QS.1 a).1;rwa[aH]at this
 rw[ba _ _ _ b]at a;rw[QT w A.gl _ _ 217 (0,0) h.fS,VB,BW _ _ c b];exact a
theorem cC.yk{A:DA}(h:cC w n A D)(f:i<D.cn):∃g b,A.cv= a' g D.cn b/\w.rangeAt g (129*i+1) (aA 128 (D.bS i))/\w.rangeAt g (129*i) (Y (D.cat i:Nat)::aA 128 (D.bS i)):=by
 obtain⟨a,b,e,l⟩:=av h.cache;rcases l with m|⟨g,rfl⟩
 .omega
 have k:w.rangeAt g (129*i+1) (aA 128 (D.bS i)):=λj v c=>by
  have d:j<128:=by have:=(QS.1 c).1;rwa[aH]at this
  rw[ba _ _ _ d]at c;exact(bz (e▸h.cache) ((wq _ _ _ f d).trans c)).1
 refine⟨g,b,e,k,λj v c=>?_⟩;cases j with
 |zero=>exact(bz (e▸h.cache) ((zy _ _ _ f).trans c)).1
 |succ j=>have:=k j v (by simpa using c);rw[show 129*i+(j+1)=129*i+1+j by omega];exact this
def wB:QC->Prop
 | .slice _ n c=>n<=c
 |_=>True
theorem k_(h:w.ownsRow m t 1 v n L):wB v:=by obtain⟨a,c,rfl,h,-⟩:=eX h;exact h
def PA(f:aQ)(w:M)(e:RW)(a:M):Prop:=∃v,aK e (.tuple #[v,aG 0])/\cR a v 128 f/\au w a/\wB v
theorem zz(K:Nat)(A:DA)(d:Dk)(a:Int)(w:M)(h:cC w K A d)(c:d.failed=true):aE 260 #[H K,Y a] w λe b=>aK e (.tuple #[aW,aG 2])/\w=b:=by have f:=I (oC K A d a w h c);go_enter func260,ntmps260;go_wp2_with(first|(go_at_call 146;refine f.mono ?_;rintro e b ⟨rfl,rfl⟩));go_ret2;exact⟨rfl,rfl⟩
theorem La(K:Nat)(A:DA)(d:Dk)(a:Nat)(w:QA)(h:cC w K A d)(S:d.failed=false)(y:a<d.n):Calls VY 260 #[.pointer (some ⟨K,0,none⟩),.int .i64 a] w (PA (d.view a) w):=by
 have T:=RB (BX K A d a w h S y);have z:=RB h;have m:=fw h.seen 139 3 3 (.int .i64 0) true wz u3 (z3 w) a;rw[mi]at m;obtain⟨B,f1,I⟩:=cr h.aL;have Z:=h.top;have u:=h.cell y;obtain⟨n,U⟩:∃n,d.n=n:=⟨_,rfl⟩;rw[U]at B y Z;clear h S U;go_enter Tryz.func260,Tryz.ntmps260;have V:∀f,(VY.info? 217).map (·.size)=some (aA 128 f).length:=λf=>by rw[aH];exact wy
 have C:=RB V;clear V;have p:SC w.heap.size w (w.alloc (.cells (cB 128 (d.view a)) 217)):=aI (SL _ _) _;have q:=eF w.heap.size 0 128 128 (d.view a) (w.alloc (.cells (cB 128 (d.view a)) 217)) (λk x=>by rw[RH,(cr (QB w (.cells (cB 128 (d.view a)) 217))).1 k,eu _ _ _ x]) (by omega);have i:=RB q;have j:=RB p;clear q p;cases c:dN d.cat d.cn a with
 |none=>
  have r:d.view a=d.fS a:=by unfold Dk.view;rw[c]
  rw[c]at m;have D:=RB u;have E:=HQ w (d.fS a);rw[r]at i j|-;simp only[VF,Option.getD_none,Option.isSome_none,if_true]at m;have F:∀o,(UZ 139 (Value.map (some A.ms)) (SK QK ↑a) true).run VY (w.alloc o)=.ok (Value.tuple #[SK QK 0,Value.bool false]) (w.alloc o):=λo=>by have h:=fw (P:=VY) (z.out.below (aI (SL _ _) o)).seen 139 3 3 (.int .i64 0) true wz u3 (z3 _) a;rw[mi,c]at h;exact h
  clear m c r u;go_wp2_with(first|(go_at_call 146;refine T.out.mono ?_;rintro e G ⟨rfl,rfl⟩)|(go_at_call 199;refine i.out.mono ?_;rintro e G ⟨v,rfl,b,L⟩;obtain⟨H,M,rfl,-⟩:=av b)|(with_reducible refine wpList_load_mid rfl 217 (.tmp 21) rfl A.gl (a*128) rfl (aA 128 (d.fS a)) _ D.out BY rfl (C.out _) ?_));go_ret2;exact⟨_,rfl,fX b,via j.out L,k_ b⟩
 |some k=>
  have r:d.view a=d.bS k:=by unfold Dk.view;rw[c]
  obtain⟨x,-⟩:=hz c;obtain⟨g,R,s,t,-⟩:=z.out.yk x;have l:(w.alloc (.cells (cB 128 (d.fS a)) 217)).rangeAt g (k*129+1) (aA 128 (d.bS k)):=by rw[VB];exact World.rangeAt_alloc t _
  rw[c]at m;have D:=RB u;have O:=RB l;have E:=HQ w (d.fS a);have W:=IU w (d.bS k) (d.fS a);rw[s]at B;rw[r]at i j|-;simp only[QY,TF,Option.isSome_some,if_true]at m;have F:∀o,(UZ 139 (Value.map (some A.ms)) (SK QK ↑a) true).run VY (w.alloc o)=.ok (Value.tuple #[SK QK (k:Nat),Value.bool true]) (w.alloc o):=λo=>by have h:=fw (P:=VY) (z.out.below (aI (SL _ _) o)).seen 139 3 3 (.int .i64 0) true wz u3 (z3 _) a;rw[mi,c]at h;exact h
  have Q:((k:Nat):Int)<(d.cn:Int):=by omega
  clear m c r u t l s;obtain⟨N,X⟩:∃N,d.cn=N:=⟨_,rfl⟩;rw[X]at B x Q;clear X;go_wp2_with(first|(go_at_call 146;refine T.out.mono ?_;rintro e G ⟨rfl,rfl⟩)|(go_at_call 199;refine i.out.mono ?_;rintro e G ⟨v,rfl,b,L⟩;obtain⟨H,M,rfl,-⟩:=av b)|(with_reducible refine wpList_load_mid rfl 217 (.tmp 21) rfl A.gl (a*128) rfl (aA 128 (d.fS a)) _ D.out BY rfl (C.out _) ?_)|(with_reducible refine wpList_load_mid rfl 217 (.tmp 39) rfl g (k*129+1) rfl (aA 128 (d.bS k)) _ O.out BY rfl (C.out _) ?_));go_ret2;exact⟨_,rfl,fX b,via j.out L,k_ b⟩
def BZ(x:QC):Sem Next:=do pure (.value (<-Instr.loadAt 217 x))
def B_(x y:QC):Sem Next:=do
 Instr.storeAt 217 x y
 pure .skip
def ym(x y:QC):Sem Next:=do pure (.value (<-Instr.build 219 #[(0,x),(1,y)]))
def yn(x:QC):Sem Next:=do pure (.value (<-Instr.buildSlice 140 1 #[(0,x)]))
def B'(x:QC):Sem Next:=do pure (.value (<-Instr.loadAt 219 x))
def Ca(x y:QC):Sem Next:=do
 Instr.storeAt 219 x y
 pure .skip
theorem tR(ρ:Operand->QC)(d:Option Tmp)(x:Operand)(t:SV)(p:String)(a:Array Edge)(g:Option (Tmp × Bool)):execOp ρ ⟨d,.load 217 x,t,p,a,g⟩=BZ (ρ x):=rfl
theorem tS(ρ:Operand->QC)(d:Option Tmp)(x y:Operand)(t:SV)(p:String)(a:Array Edge)(g:Option (Tmp × Bool)):execOp ρ ⟨d,.store 217 x y,t,p,a,g⟩=B_ (ρ x) (ρ y):=rfl
theorem tT(ρ:Operand->QC)(d:Option Tmp)(x y:Operand)(t:SV)(p:String)(a:Array Edge)(g:Option (Tmp × Bool)):execOp ρ ⟨d,.build 219 #[(0,x),(1,y)],t,p,a,g⟩=ym (ρ x) (ρ y):=by simp[execOp,ym]
theorem tU(ρ:Operand->QC)(d:Option Tmp)(x:Operand)(t:SV)(p:String)(a:Array Edge)(g:Option (Tmp × Bool)):execOp ρ ⟨d,.buildSlice 140 1 #[(0,x)],t,p,a,g⟩=yn (ρ x):=by simp[execOp,yn]
theorem tV(ρ:Operand->QC)(d:Option Tmp)(x:Operand)(t:SV)(p:String)(a:Array Edge)(g:Option (Tmp × Bool)):execOp ρ ⟨d,.load 219 x,t,p,a,g⟩=B' (ρ x):=rfl
theorem tW(ρ:Operand->QC)(d:Option Tmp)(x y:Operand)(t:SV)(p:String)(a:Array Edge)(g:Option (Tmp × Bool)):execOp ρ ⟨d,.store 219 x y,t,p,a,g⟩=Ca (ρ x) (ρ y):=rfl
theorem Lb:(prog.underlying 219).map (·.isRow)=some true:=ai
theorem Lc:(prog.info? 219).map (·.size)=some 129:=ai
theorem MW:(prog.info? 219).map (λi=>(i.zero,i.size,i.bytes))=some (some (.agg (Y 0::aA 128 λ_=>0).toArray),129,136):=ai
theorem mj(w:M)(b o:Nat)(f:aQ)(h:w.rangeAt b o (aA 128 f)):ZT prog (BZ (.pointer (some (R b o)))) w=.ok (.value (.agg (aA 128 f).toArray)) w:=by simp only[BZ,RZ,run_loadAt_mid (P:=prog) w b o 217 (aA 128 f) _ h BY rfl (by rw[aH];exact wy),RI,VA]
theorem Cb(a:Int)(f:aQ):prog.built 219 [(0,Y a),(1,.agg (aA 128 f).toArray)] =some (Y a::aA 128 f).toArray:=ai
theorem zA(a:Int)(f:aQ):prog.builtSlice 219 1 [(0,.agg (Y a::aA 128 f).toArray)] =some (Y a::aA 128 f).toArray:=ai
theorem zC(w:M)(a:Int)(f:aQ):ZT prog (ym (Y a) (.agg (aA 128 f).toArray)) w=.ok (.value (.agg (Y a::aA 128 f).toArray)) w:=by simp only[ym,RZ,run_build (P:=prog) w 219 #[(0,Y a),(1,.agg (aA 128 f).toArray)] _ (Cb a f),RI,VA]
theorem zD(w:M)(a:Int)(f:aQ):ZT prog (yn (.agg (Y a::aA 128 f).toArray)) w=.ok (.value (a' w.heap.size 1 1)) (w.alloc (N (Y a::aA 128 f).toArray 219)):=by
 have b:=zA a f;unfold Program.builtSlice at b;cases c:prog.info? 219 with
 |none=>simp[c]at b
 |some d=>
  simp only[c]at b;cases g:d.zero with
  |none=>simp[g]at b
  |some z=>
   simp only[g]at b;by_cases e:1*d.size>2^24\/1*d.size=0
   .rw [ao e]at b;cases b
   .rw [aq e]at b;simp only[yn,RZ,run_buildSlice (P:=prog) w 140 219 1 #[(0,.agg (Y a::aA 128 f).toArray)] _ d z underlying140 c g (λh=>e (Or.inl h)) (λh=>e (Or.inr h)) b,RI,VA]
section
attribute [local go_sem ↓] tR tS tT tU tV tW
def Dk.wr(d:Dk)(a:Nat)(f:aQ):Dk:={d with cn:=d.cn+1,cat:=λi=>if i=d.cn then a else d.cat i,bS:=λi=>if i=d.cn then f else d.bS i}
theorem zE(K:Nat)(A:DA)(d:Dk)(a:Int)(v:QC)(w:M)(h:cC w K A d)(c:d.failed=true):aE 82 #[H K,Y a,v] w λe b=>aK e (aG 2)/\w=b:=by have f:=I (oC K A d a w h c);go_enter func82,ntmps82;go_wp2_with(first|(go_at_call 146;refine f.mono ?_;rintro e b ⟨rfl,rfl⟩));go_ret;exact⟨rfl,rfl⟩
def k'(K:Nat)(A:DA)(d:Dk)(w a:M):Prop:=
 ∃c,cC a K c d/\Out (DZ K A) w a/\∀b,DZ K c b->DZ K A b\/w.heap.size<=b
theorem IV(b o c:Nat)(W:M):ZT prog (Instr.arrayAt 217 (.slice (some (R b o)) 128 c)) W=.ok (.pointer (some (R b o))) W:=by simp[Instr.arrayAt,SU BY]
theorem i'{cat b:aQ}:∀{n a:Nat},(∀i,i<n->cat i=b i)->dN cat n a=dN b n a
 |0,_,_=>rfl
 |n+1,a,h=>by unfold dN;rw[h n J,i' λi c=>h i J]
theorem FC(d:Dk)(a:Nat)(f:aQ)(b:Int):(if b=(a:Int)then some (Y d.cn)else iw d.cat d.cn b)=iw (d.wr a f).cat (d.wr a f).cn b:=by
 unfold iw;simp only[Dk.wr,dN,if_true];have e:dN (λi=>if i=d.cn then a else d.cat i) d.cn b.toNat=dN d.cat d.cn b.toNat:=i' λi h=>aq J;rw[e];by_cases g:b=(a:Int)
 .subst g;rw[ao rfl,ao J,ao aJ];rfl
 .rw [aq g];by_cases c:0<=b
  .rw [ao c,ao c,aq J]
  .rw [aq c,aq c]
theorem cC.wrote{w t w2 c:M}{A:DA}(h:cC w n A D)(K:D.cn<1000000000000)(y:m<D.n)(z:Out (λk=>k=A.ms) w t)(B:IM t A.ms λb=>if b=(m:Int)then some (Y D.cn)else iw D.cat D.cn b)(o:au t w2)(d:c.ownsRow 0 219 129 v (D.cn+1) (fm D.cn D.cat D.bS++Y m::aA 128 f))(s:nF w2.heap.size w2 A.cv D.cn 1 v c):k' n A (D.wr m f) w (c.setCell (R n 1) v):=by
 have a:=h.ne;have L:n<w.heap.size:=h.lt (.inl rfl);have g:Out (λk=>k=A.ms) w w2:=z.then o;have j:Out (λk=>k=A.ms\/A.cv.ownBlock=some k) w c:=s.out (g.mono λk _ e=>.inl e) λk q _=>.inr q;have C:Out (DZ n A) w (c.setCell (R n 1) v):=(j.mono λk _ e=>e.elim (λe=>.inr (.inr (.inl e))) λe=>.inr (.inr (.inr e))).setCell (p:=R n 1) (λ_=>.inl rfl) _;have u:=j.heap h.aL λe=>e.elim a.2.1 λe=>(a.2.2.2 n e).1 rfl;have x:IM c A.ms λb=>if b=(m:Int)then some (Y D.cn)else iw D.cat D.cn b:=
  (B.out (Out.af (S:=λ_=>False) o) id).out (s.out (S:=λk=>A.cv.ownBlock=some k) (Out.refl _ _) λk q _=>q) λe=>(a.2.2.2 _ e).2.2 rfl
 have E:∀k,v.ownBlock=some k->k≠n:=λk q e=>by
  subst e;rcases s.block q with r|r
  .exact (a.2.2.2 _ r).1 rfl
  .have:=g.size;omega
 refine⟨⟨A.gl,A.lc,v,A.ms⟩,⟨?_,?_,?_,?_,h.pos,h.top,?_,?_⟩,C,?_⟩
 .have:=heap_setCell_same c n 1 _ 142 v u;exact this
 .exact (RP _ _ _ _ λe=>a.1 e.symm).trans (j.heap h.fS λe=>e.elim a.2.2.1 λe=>(a.2.2.2 _ e).2.1 rfl)
 .show World.ownsRow _ 0 219 129 v (D.cn+1) _;rw[tP]at d;exact XS d (λe=>E _ e rfl) _
 .refine (x.out (S:=λk=>k=n) ((Out.refl (λk=>k=n) c).setCell (p:=R n 1) (λ_=>rfl) _) λe=>a.2.1 e.symm).congr λb=>FC D m f b
 .show D.cn+1<=_;omega
 .intro i F;have G:i<D.cn+1:=F;show(if i=D.cn then m else D.cat i)<D.n;split
  .exact y
  .exact h.KG i J
 .rintro b (l|l|l|l)
  .exact .inl (.inl l)
  .exact .inl (.inr (.inl l))
  .exact .inl (.inr (.inr (.inl l)))
  .rcases s.block l with r|r
   .exact .inl (.inr (.inr (.inr r)))
   .exact .inr (by have:=g.size;omega)
theorem Ld(K:Nat)(A:DA)(d:Dk)(a:Nat)(v:QC)(f:aQ)(w:QA)(h:cC w K A d)(a2:d.failed=false)(Y:a<d.n)(a3:lW w v 128 f)(a4:d.cn<1000000000000):aE 82 #[ar K,ae a,v] w λe B=>aK e (aG 0)/\k' K A (d.wr a f) w B:=by
 have a5:=ad (BX K A d a w h a2 Y);have s:=ad h;obtain⟨J,a0,g,-⟩:=av h.cache;obtain⟨N,a1⟩:=ah d.cn;obtain⟨w1,hu,C,D⟩:=ka (P:=prog) (h.seen.out (w1:=w.drew) (S:=λ_=>False) (Out.refl _ _).drew id) 139 3 3 wz u3 a (ae N);obtain⟨k1,f1,z1⟩:=cr h.aL;obtain⟨a6,a7,rfl,E⟩:=a3;obtain⟨b,o,rfl,n⟩:∃b o,a6=some (ag b o)/\∀k,k<128->w.cell? ⟨b,o+k,none⟩=some (.int .u8 (f k)):=by
  rcases E with h|h
  .omega
  .exact h
 have a8:N<=1000000000000:=aa;rw[g,a1]at k1;have p:=ad a1;have F:=ad g;have G:Out (λk=>k=A.ms) w w1:=by obtain⟨b9,_,rfl⟩:=D;exact Out.we (S:=λk=>k=A.ms) (Out.refl _ _).drew (λ_=>rfl) _
 have m:=ad G;have L:=ad C;go_enter func82,ntmps82;go_wp2_with(first|(go_at_call 146;refine a5.mono ?_;rintro e B ⟨rfl,rfl⟩));go_region;have O:b≠A.ms:=λe=>by obtain⟨c0,c,a9,_⟩:=s.seen;have:=n 0 aa;rw[e]at this;simp[World.cell?,a9]at this
 have Q:w1.rangeAt b o (aA 128 f):=λj x T=>by
  have y:j<128:=by have:=(QS.1 T).1;rwa[aH]at this
  rw[ba _ _ _ y]at T;rw[QQ (m.block b (QO w _ (n 0 aa)) O),n j y];exact T
 have q:=s.ne;have r:=m.heap s.aL (λe=>q.2.1 e);rw[g,p.out]at r;have z:=m.own s.cache (λk b0 e=>(q.2.2.2 k b0).2.2 e);rw[g,p.out]at z;obtain⟨i1,U,V,X,Z⟩:=SD MW;have c1:(prog.info? 217).map (·.size)=some (aA 128 f).length:=by rw[aH];exact wy
 have H:=ad Q;have M:=ad z;have R:=ad r;have I:QX ((RU J N a0).ownBlock≠some K):=λe=>(q.2.2.2 K (by rw[g,p.out];exact e)).1 rfl;obtain⟨k1,f1,z1⟩:=cr r;have b1:=IV b o a7;go_wp2_with fail;have b2:=mj w1.drew b o f ((World.rangeAt_drew _ _ _ _).2 H);have b3:=λW=>zC W a f;have b4:=λW=>zD W a f
 go_region_law (first|(refine dc _ rfl (.tmp 31) (.tmp 37) 140 rfl 0 219 i1 (.agg (ae 0::aA 128 λ_=>0).toArray) 129 136 underlying140 U V X Z (by simp[Value.cells,aH]) aj (.slice J N a0) N (fm N d.cat d.bS) (by simp[VU]) (M.alloc _) (ag w1.heap.size 0) 1 1 (ae a::aA 128 f) (by simp[VU]) (by simp[aH]) (RY (cs:=(ae a::aA 128 f).toArray) (t:=219) (fr:=(0,0)) (QB w1.drew _)) (by intro u hu;rcases UG.1 hu with rfl|hu;rfl;exact dg _ _ u hu) aa (by unfold UI;omega) aa (QN _) ?_;intro c2 B i l;obtain⟨b5,b6,rfl,-⟩:=av i;obtain⟨c3,c4,c5⟩:=cr (l.heap ((QW _ _ _ z1).trans R) I)))
 all_goals(
  have b7:=ad i;have b8:=ad l;clear i l)
 all_goals go_wp2
 all_goals go_ret
 all_goals(
  refine⟨rfl,s.wrote a4 Y m (by have:=L.out;rw[<-p.out]at this;exact this) (w2:=w1.alloc (al (ae a::aA 128 f).toArray 219)|>.drew) (aV (aI ak _)) (by rw[p.out];exact b7) (by rw[p.out,F.out,p.out];exact b8)⟩)
end
section
attribute [local go_sem ↓] tR tS tT tU tV tW
def bJ(d:dp)(cat:aQ)(b:dp)(c:Nat->Bool):Nat->Nat->Nat->Nat
 |0=>d
 |n+1=>if c n thenλa=>if a=cat n then b n else bJ d cat b c n a else bJ d cat b c n
def Dk.settled(d:Dk)(a:Nat->Bool):Dk:={d with fS:=bJ d.fS d.cat d.bS a d.cn,cn:=0}
theorem Dk.hW(d:Dk)(a:Nat):(d.settled λ_=>true).view a=d.view a:=by
 show bJ d.fS d.cat d.bS (λ_=>true) d.cn a=d.view a;unfold Dk.view;induction d.cn with
 |zero=>rfl
 |succ n b=>
  simp only[bJ,dN,if_true];by_cases h:d.cat n=a
  .rw [ao h,ao h.symm]
  .rw [aq h,aq λe=>h e.symm,b]
theorem Cc(n:Nat)(b:dp)(c:Nat)(f:aQ)(h:c<n):((ew n b).toList.take (c*128)++aA 128 f++(ew n b).toList.drop (c*128+(aA 128 f).length)).toArray=ew n (λa=>if a=c then f else b a):=by
 rw[aH];apply Array.ext';apply TN;intro j;simp only[SY];by_cases d:j<c*128
 .rw [RD (by simp[ew];omega),TH,ao d];simp only[ew,RL,SF (show j<128*n by omega),QY];rw[aq J]
 .rw [QZ (by simp[ew];omega)];have e:((ew n b).toList.take (c*128)).length=c*128:=by simp[ew];omega
  rw[e];by_cases i:j<c*128+128
  .rw [RD (by rw[aH];omega),ba _ _ _ J];simp only[ew,RL,SF (show j<128*n by omega),QY];rw[ao J,show j%128=j-c*128 by omega]
  .rw [QZ (by rw[aH];omega),aH,List.getElem?_drop,show c*128+128+(j-c*128-128)=j by omega];by_cases g:j<128*n
   .simp only[ew,RL,SF g,QY];rw[aq J]
   .rw [RE (by simp[ew];omega),RE (by simp[ew];omega)]
theorem oE(w:M)(b n c:Nat)(d:dp)(f:aQ)(h:a_ w b (N (ew n d) 217))(k:c<n):
  ZT prog (B_ (.pointer (some ⟨b,c*128,none⟩)) (.agg (aA 128 f).toArray)) w=.ok .skip (w.setRow b (ew n λa=>if a=c then f else d a)):=by
 have j:=run_storeCells_at prog b (c*128) 217 (aA 128 f) 0 (ew n d) w h (by rw[aH,zx];omega) (dg _ _);rw[VJ,Cc n d c f k]at j;cases e:prog.info? 217 with
 |none=>have:=wy;rw[e]at this;cases this
 |some i=>
  have l:i.size=128:=by have:=wy;rw[e]at this;simpa using this
  have g:(storeVar 217 ⟨b,c*128,none⟩ (.agg (aA 128 f).toArray)).run prog w=.ok () (w.setRow b (ew n λa=>if a=c then f else d a)):=by simp[storeVar,sizeOf,typeInfo,e,Value.cells,l,aH,j]
  simp only[B_,Instr.storeAt,Instr.sureAddr,RZ,VA,RI,g]
theorem ml(w:M)(b o:Nat)(a:Int)(f:aQ)(h:w.rangeAt b o (Y a::aA 128 f)):ZT prog (B' (.pointer (some (R b o)))) w=.ok (.value (.agg (Y a::aA 128 f).toArray)) w:=by
 cases c:prog.underlying 219 with
 |none=>have:=Lb;rw[c]at this;cases this
 |some d=>
  have e:d.isRow=true:=by have:=Lb;rw[c]at this;simpa using this
  simp only[B',RZ,run_loadAt_mid (P:=prog) w b o 219 (Y a::aA 128 f) d h c e (by rw[SG,aH];exact Lc),RI,VA]
theorem Le(a:Int)(f:aQ):(Y a::aA 128 f).toArray.size=129:=by simp[aH]
theorem Lf:zeroCells219.size=129:=ai
theorem mm(W:M)(a:Int)(f:aQ):ZT prog (Ca (H W.heap.size) (.agg (Y a::aA 128 f).toArray)) (W.alloc (N zeroCells219 219))=.ok .skip (W.alloc (N (Y a::aA 128 f).toArray 219)):=by
 have b:(Y a::aA 128 f).toArray.all (·.oneCell')=true:=all_oneCell_toArray λu hu=>by
  rcases UG.1 hu with rfl|hu
  .rfl
  .exact dg _ _ u hu
 have:=run_storeAt_new (P:=prog) W 219 zeroCells219 (Y a::aA 128 f).toArray (by rw[VW,SG,aH];exact Lc) (by rw[Le];exact Lf) b;simp only[Ca,RZ,this,RI,VA]
structure qf(S:Nat->Prop)(n:Nat)(gl:Nat)(fS:dp)(w wr:M):Prop where
 row:wr.heap[gl]? =some (N (ew n fS) 217)
 out:Out (fun k=>k=gl) w wr
theorem zF(i:Int)(w:M):aE 162 #[Y i] w λe a=>aK e ed/\w=a:=by go_enter func162,ntmps162;go_wp2;go_ret;exact⟨rfl,rfl⟩
theorem wC(i:Int)(w:M):aE 180 #[Y i] w λe a=>aK e iG/\w=a:=by go_enter func180,ntmps180;go_wp2;go_ret;exact⟨rfl,rfl⟩
theorem tX(K:Nat)(A:DA)(d:Dk)(w:QA)(h:cC w K A d):aE 161 #[ar K,.func (.func 162) #[] #[]] w λe b0=>aK e (.tuple #[])/\k' K A (d.settled (λ_=>true)) w b0:=by
 have q:=ad h;have U:=h.ne;obtain⟨b4,b5,m,-⟩:=av h.cache;obtain⟨N,V⟩:=ah d.cn;have y:=h.cap;rw[V]at y;have T:=ad V;have r:=ad m;obtain⟨k1,f1,z1⟩:=cr h.aL;rw[m,V]at k1;have f:=ad U;have H0:QX (qf (λ_=>False) d.n A.gl (bJ d.fS d.cat d.bS (λ_=>true) 0) w w):=⟨h.fS,Out.refl _ _⟩;go_enter func161,ntmps161;go_wp2;go_loopw [11] (λi wr=>∃k:Nat,i= ae k/\k<=N/\QX (qf (λ_=>False) d.n A.gl (bJ d.fS d.cat d.bS (λ_=>true) k) w wr)) (λi _=>N-(intOf i).toNat)
 case atStart=>exact⟨0,rfl,QN _,H0⟩
 case round=>
  obtain⟨k,rfl,c2,n⟩:=hrel;by_cases z:k<N
  .have B:k<d.cn:=by rw[T.out];exact z
   obtain⟨g,X,m,-,Z⟩:=q.yk B;have D:=q.KG k B;have E:g≠A.gl:=λe=>(f.2.2.2 g (by rw[m];rfl)).2.1 e;have F:=r.out;rw[m]at F;obtain⟨rfl,rfl⟩:some (ag g 0)=b4/\X=b5:=by simpa using F
   have H:wr.rangeAt g (k*129) (ae (d.cat k:Nat)::aA 128 (d.bS k)):=λj v M=>by have:=Z j v M;rw[VB,<-this];exact QQ (n.out.out.block g (QO w _ this) E)
   have R:=ml wr g (k*129) _ _ H;have I:=λW=>mm W (d.cat k:Nat) (d.bS k);have l:=n.out.out.heap q.aL (λe=>f.1 e);rw[r.out,T.out]at l;obtain⟨k2,f2,Y⟩:=cr l;have b6:(k:Int)<(N:Int):=aa;have J:(0:Int)<=(d.cat k:Int):=aa;have a0:(d.cat k:Int)<(d.n:Int):=aa;obtain⟨C,b1⟩:=ah (d.cat k);have b7:=ad b1;rw[b1]at R I D J a0;go_wp2_with fail;refine(zF _ _).mono ?_;rintro e b0 ⟨rfl,rfl⟩;have a1:=QB wr (al (ae C::aA 128 (d.bS k)).toArray 219);have c:=(QW wr (al (ae C::aA 128 (d.bS k)).toArray 219) A.gl (Z_ n.row)).trans n.row;have s:=n.out.out.alloc (al (ae C::aA 128 (d.bS k)).toArray 219);have t:=(QW wr (al (ae C::aA 128 (d.bS k)).toArray 219) K Y).trans l;have b8:wr.heap.size≠A.gl:=by have:=Z_ n.row;omega
   revert a1 c s t;generalize wr.alloc (al (ae C::aA 128 (d.bS k)).toArray 219)=x;intro a1 c s t;obtain⟨x1,x2,x3⟩:=cr a1;obtain⟨k2,f2,Y⟩:=cr t;have a2:x.drew.rangeAt wr.heap.size 1 (aA 128 (d.bS k)):=λj v M=>by show x.cell? ⟨wr.heap.size,1+j,none⟩=_;rw[x1 (1+j),<-M,YZ];simp
   have b2:=mj x.drew wr.heap.size 1 (d.bS k) a2;have b3:=oE x.drew A.gl d.n C (bJ d.fS d.cat d.bS (λ_=>true) k) (d.bS k) c D;have a3:=ad c;have a4:=ad s;go_wp2_with fail;go_region;have a5:QX (qf (λ_=>False) d.n A.gl (bJ d.fS d.cat d.bS (λ_=>true) (k+1)) w (x.drew.setRow A.gl (ew d.n λa=>if a=C then d.bS k else bJ d.fS d.cat d.bS (λ_=>true) k a))):=by refine⟨?_,Out.setRow (S:=λb=>b=A.gl) a4.drew (λ_=>rfl) _⟩;have:=setRow_heap x.drew A.gl _ (ew d.n λa=>if a=C then d.bS k else bJ d.fS d.cat d.bS (λ_=>true) k a) 217 (0,0) a3;rw[this];simp only[bJ,b7.out,if_true]
   go_wp2;go_roundw
   case rel=>exact⟨k+1,by go_num,z,a5⟩
   case measure=>simp[intOf];omega
  .obtain rfl:k=N:=aa;have G:Out (λb=>b=A.gl) w wr:=n.out.out;have l:=G.heap q.aL (λe=>f.1 e);rw[r.out,T.out]at l;obtain⟨k2,f2,Y⟩:=cr l;have a6:=heap_setCell_same wr K 1 _ 142 aW l;have L:Out (λb=>b=A.gl\/b=K) w (wr.setCell (ag K 1) aW):=(G.mono λ_ _ e=>.inl e).setCell (p:=ag K 1) (λ_=>.inr rfl) _;obtain⟨w2,b9,a7,a8,_,rfl⟩:=hP (P:=prog) (q.seen.out L λe=>e.elim (λe=>f.2.2.1 e.symm) λe=>f.2.1 e.symm) 139 0 3 3 wz;have O:=(RP wr (ag K 1) aW A.gl λe=>f.1 e.symm).trans n.row;have Q:k' K A (d.settled (λ_=>true)) w ((wr.setCell (ag K 1) aW).putObj A.ms a8):=by
    have a9:Out (DZ K A) w ((wr.setCell (ag K 1) aW).putObj A.ms a8):=(L.mono λ_ _ e=>e.elim (λe=>.inr (.inl e)) λe=>.inl e).we (λ_=>.inr (.inr (.inl rfl))) _;refine⟨⟨A.gl,A.lc,aW,A.ms⟩,⟨?_,?_,SJ _ _ _ _,a7.congr λb=>?_,q.pos,q.top,QN _,λi c0=>absurd c0 (RR _)⟩,a9,?_⟩
    .exact (TI f.2.1).trans a6
    .have:=(TI (w:=wr.setCell (ag K 1) aW) (o:=a8) f.2.2.1).trans O;rw[<-T.out]at this;exact this
    .simp [iw,Dk.settled,dN]
    .rintro b (u|u|u|u)
     .exact .inl (.inl u)
     .exact .inl (.inr (.inl u))
     .exact .inl (.inr (.inr (.inl u)))
     .cases u
   have c1:=ad Q;go_wp2;go_end0;exact⟨rfl,c1⟩
theorem sk(K:Nat)(A:DA)(d:Dk)(w:QA)(h:cC w K A d):aE 161 #[ar K,.func (.func 180) #[] #[]] w λe a4=>aK e (.tuple #[])/\k' K A (d.settled (λ_=>false)) w a4:=by
 have n:=ad h;have O:=h.ne;obtain⟨a6,a7,l,-⟩:=av h.cache;obtain⟨N,Q⟩:=ah d.cn;have u:=h.cap;rw[Q]at u;have L:=ad Q;have q:=ad l;obtain⟨k1,f1,z1⟩:=cr h.aL;rw[l,Q]at k1;have b4:A.gl<w.heap.size:=h.lt (.inr (.inl rfl));have a:=ad O;have H0:QX (qf (λ_=>False) d.n A.gl (bJ d.fS d.cat d.bS (λ_=>false) 0) w w):=⟨h.fS,Out.refl _ _⟩;go_enter func161,ntmps161;go_wp2;go_loopw [11] (λi wr=>∃k:Nat,i= ae k/\k<=N/\QX (qf (λ_=>False) d.n A.gl (bJ d.fS d.cat d.bS (λ_=>false) k) w wr)) (λi _=>N-(intOf i).toNat)
 case atStart=>exact⟨0,rfl,QN _,H0⟩
 case round=>
  obtain⟨k,rfl,b5,m⟩:=hrel;by_cases x:k<N
  .have y:k<d.cn:=by rw[L.out];exact x
   obtain⟨g,S,l,-,T⟩:=n.yk y;have U:=n.KG k y;have z:g≠A.gl:=λe=>(a.2.2.2 g (by rw[l];rfl)).2.1 e;have B:=q.out;rw[l]at B;obtain⟨rfl,rfl⟩:some (ag g 0)=a6/\S=a7:=by simpa using B
   have V:wr.rangeAt g (k*129) (ae (d.cat k:Nat)::aA 128 (d.bS k)):=λj v a8=>by have:=T j v a8;rw[VB,<-this];exact QQ (m.out.out.block g (QO w _ this) z)
   have X:=ml wr g (k*129) _ _ V;have Z:=λW=>mm W (d.cat k:Nat) (d.bS k);have c:=m.out.out.heap n.aL (λe=>a.1 e);rw[q.out,L.out]at c;obtain⟨k2,f2,H⟩:=cr c;have a9:(k:Int)<(N:Int):=aa;have M:(0:Int)<=(d.cat k:Int):=aa;have R:(d.cat k:Int)<(d.n:Int):=aa;obtain⟨C,a5⟩:=ah (d.cat k);have b6:=ad a5;rw[a5]at X Z U M R;go_wp2_with fail;refine(wC _ _).mono ?_;rintro e a4 ⟨rfl,rfl⟩;have I:=QB wr (al (ae C::aA 128 (d.bS k)).toArray 219);have f:=(QW wr (al (ae C::aA 128 (d.bS k)).toArray 219) A.gl (Z_ m.row)).trans m.row;have r:=m.out.out.alloc (al (ae C::aA 128 (d.bS k)).toArray 219);have s:=(QW wr (al (ae C::aA 128 (d.bS k)).toArray 219) K H).trans c;have b0:wr.heap.size≠A.gl:=by have:=Z_ m.row;omega
   revert I f r s;generalize wr.alloc (al (ae C::aA 128 (d.bS k)).toArray 219)=W2;intro I f r s;obtain⟨x1,x2,x3⟩:=cr I;obtain⟨k2,f2,H⟩:=cr s;have Y:=ad r;have J:QX (qf (λ_=>False) d.n A.gl (bJ d.fS d.cat d.bS (λ_=>false) (k+1)) w W2):=by refine⟨?_,Y⟩;rw[f];simp only[bJ,SM,if_false]
   go_wp2;go_roundw
   case rel=>exact⟨k+1,by go_num,x,J⟩
   case measure=>simp[intOf];omega
  .obtain rfl:k=N:=aa;have D:Out (λb=>b=A.gl) w wr:=m.out.out;have c:=D.heap n.aL (λe=>a.1 e);rw[q.out,L.out]at c;obtain⟨k2,f2,H⟩:=cr c;have a0:=heap_setCell_same wr K 1 _ 142 aW c;have E:Out (λb=>b=A.gl\/b=K) w (wr.setCell (ag K 1) aW):=(D.mono λ_ _ e=>.inl e).setCell (p:=ag K 1) (λ_=>.inr rfl) _;obtain⟨w2,b1,a1,a2,_,rfl⟩:=hP (P:=prog) (n.seen.out E λe=>e.elim (λe=>a.2.2.1 e.symm) λe=>a.2.1 e.symm) 139 0 3 3 wz;have F:=(RP wr (ag K 1) aW A.gl λe=>a.1 e.symm).trans m.row;have G:k' K A (d.settled (λ_=>false)) w ((wr.setCell (ag K 1) aW).putObj A.ms a2):=by
    have a3:Out (DZ K A) w ((wr.setCell (ag K 1) aW).putObj A.ms a2):=(E.mono λ_ _ e=>e.elim (λe=>.inr (.inl e)) λe=>.inl e).we (λ_=>.inr (.inr (.inl rfl))) _;refine⟨⟨A.gl,A.lc,aW,A.ms⟩,⟨?_,?_,SJ _ _ _ _,a1.congr λb=>?_,n.pos,n.top,QN _,λi b2=>absurd b2 (RR _)⟩,a3,?_⟩
    .exact (TI a.2.1).trans a0
    .have:=(TI (w:=wr.setCell (ag K 1) aW) (o:=a2) a.2.2.1).trans F;rw[<-L.out]at this;exact this
    .simp [iw,Dk.settled,dN]
    .rintro b (t|t|t|t)
     .exact .inl (.inl t)
     .exact .inl (.inr (.inl t))
     .exact .inl (.inr (.inr (.inl t)))
     .cases t
   have b3:=ad G;go_wp2;go_end0;exact⟨rfl,b3⟩
theorem tY(K:Nat)(A:DA)(d:Dk)(B:Nat)(kp:Nat->Bool)(w:QA)(h:cC w K A d)(b2:∀(i:Nat) W,i<d.cn->Out (λk=>k=A.gl) w W->aE 184 #[ae i,ar B] W λe w2=>aK e (.bool (kp i))/\W=w2):aE 161 #[ar K,.func (.func 184) #[] #[ar B]] w λe b3=>aK e (.tuple #[])/\k' K A (d.settled kp) w b3:=by
 have s:=ad h;have M:=h.ne;obtain⟨b7,b8,m,-⟩:=av h.cache;obtain⟨N,R⟩:=ah d.cn;have F:=h.cap;rw[R]at F;have G:=ad R;have t:=ad m;obtain⟨k1,f1,z1⟩:=cr h.aL;rw[m,R]at k1;have f:=ad M;have H0:QX (qf (λ_=>False) d.n A.gl (bJ d.fS d.cat d.bS kp 0) w w):=⟨h.fS,Out.refl _ _⟩;have b9:=ad b2;go_enter func161,ntmps161;go_wp2;go_loopw [11] (λi wr=>∃k:Nat,i= ae k/\k<=N/\QX (qf (λ_=>False) d.n A.gl (bJ d.fS d.cat d.bS kp k) w wr)) (λi _=>N-(intOf i).toNat)
 case atStart=>exact⟨0,rfl,QN _,H0⟩
 case round=>
  obtain⟨k,rfl,b2,n⟩:=hrel;by_cases q:k<N
  .have L:k<d.cn:=by rw[G.out];exact q
   obtain⟨g,I,m,-,Y⟩:=s.yk L;have O:=s.KG k L;have Q:g≠A.gl:=λe=>(f.2.2.2 g (by rw[m];rfl)).2.1 e;have T:=t.out;rw[m]at T;obtain⟨rfl,rfl⟩:some (ag g 0)=b7/\I=b8:=by simpa using T
   have J:wr.rangeAt g (k*129) (ae (d.cat k:Nat)::aA 128 (d.bS k)):=λj v a0=>by have:=Y j v a0;rw[VB,<-this];exact QQ (n.out.out.block g (QO w _ this) Q)
   have a1:=ml wr g (k*129) _ _ J;have a2:=λW=>mm W (d.cat k:Nat) (d.bS k);have l:=n.out.out.heap s.aL (λe=>f.1 e);rw[t.out,G.out]at l;obtain⟨k2,f2,z2⟩:=cr l;have c0:(k:Int)<(N:Int):=aa;have a3:(0:Int)<=(d.cat k:Int):=aa;have a4:(d.cat k:Int)<(d.n:Int):=aa;obtain⟨C,b4⟩:=ah (d.cat k);have c1:=ad b4;rw[b4]at a1 a2 O a3 a4;go_wp2_with fail;refine(b9 k _ (by rw[G.out];exact q) (n.out.out.alloc _)).mono ?_;rintro e b3 ⟨rfl,rfl⟩;have a5:=QB wr (al (ae C::aA 128 (d.bS k)).toArray 219);have c:=(QW wr (al (ae C::aA 128 (d.bS k)).toArray 219) A.gl (Z_ n.row)).trans n.row;have r:=n.out.out.alloc (al (ae C::aA 128 (d.bS k)).toArray 219);have u:=(QW wr (al (ae C::aA 128 (d.bS k)).toArray 219) K z2).trans l;have c2:wr.heap.size≠A.gl:=by have:=Z_ n.row;omega
   revert a5 c r u;generalize wr.alloc (al (ae C::aA 128 (d.bS k)).toArray 219)=x;intro a5 c r u;obtain⟨x1,x2,x3⟩:=cr a5;obtain⟨k2,f2,z2⟩:=cr u;cases U:kp k
   .have y:=ad U;have z:=ad r;have D:QX (qf (λ_=>False) d.n A.gl (bJ d.fS d.cat d.bS kp (k+1)) w x):=by refine⟨?_,z⟩;rw[c];simp only[bJ,y.out,SM,if_false]
    go_wp2;go_roundw
    case rel=>exact⟨k+1,by go_num,q,D⟩
    case measure=>simp[intOf];omega
   .have y:=ad U;have a6:x.drew.rangeAt wr.heap.size 1 (aA 128 (d.bS k)):=λj v a0=>by show x.cell? ⟨wr.heap.size,1+j,none⟩=_;rw[x1 (1+j),<-a0,YZ];simp
    have b5:=mj x.drew wr.heap.size 1 (d.bS k) a6;have b6:=oE x.drew A.gl d.n C (bJ d.fS d.cat d.bS kp k) (d.bS k) c O;have a7:=ad c;have z:=ad r;go_wp2_with fail;go_region;have D:QX (qf (λ_=>False) d.n A.gl (bJ d.fS d.cat d.bS kp (k+1)) w (x.drew.setRow A.gl (ew d.n λa=>if a=C then d.bS k else bJ d.fS d.cat d.bS kp k a))):=by refine⟨?_,Out.setRow (S:=λb=>b=A.gl) z.drew (λ_=>rfl) _⟩;have:=setRow_heap x.drew A.gl _ (ew d.n λa=>if a=C then d.bS k else bJ d.fS d.cat d.bS kp k a) 217 (0,0) a7;rw[this];simp only[bJ,c1.out,y.out,if_true]
    go_wp2;go_roundw
    case rel=>exact⟨k+1,by go_num,q,D⟩
    case measure=>simp[intOf];omega
  .obtain rfl:k=N:=aa;have V:Out (λb=>b=A.gl) w wr:=n.out.out;have l:=V.heap s.aL (λe=>f.1 e);rw[t.out,G.out]at l;obtain⟨k2,f2,z2⟩:=cr l;have a8:=heap_setCell_same wr K 1 _ 142 aW l;have X:Out (λb=>b=A.gl\/b=K) w (wr.setCell (ag K 1) aW):=(V.mono λ_ _ e=>.inl e).setCell (p:=ag K 1) (λ_=>.inr rfl) _;obtain⟨w2,c3,a9,b0,_,rfl⟩:=hP (P:=prog) (s.seen.out X λe=>e.elim (λe=>f.2.2.1 e.symm) λe=>f.2.1 e.symm) 139 0 3 3 wz;have Z:=(RP wr (ag K 1) aW A.gl λe=>f.1 e.symm).trans n.row;have H:k' K A (d.settled kp) w ((wr.setCell (ag K 1) aW).putObj A.ms b0):=by
    have b1:Out (DZ K A) w ((wr.setCell (ag K 1) aW).putObj A.ms b0):=(X.mono λ_ _ e=>e.elim (λe=>.inr (.inl e)) λe=>.inl e).we (λ_=>.inr (.inr (.inl rfl))) _;refine⟨⟨A.gl,A.lc,aW,A.ms⟩,⟨?_,?_,SJ _ _ _ _,a9.congr λb=>?_,s.pos,s.top,QN _,λi c4=>absurd c4 (RR _)⟩,b1,?_⟩
    .exact (TI f.2.1).trans a8
    .have:=(TI (w:=wr.setCell (ag K 1) aW) (o:=b0) f.2.2.1).trans Z;rw[<-G.out]at this;exact this
    .simp [iw,Dk.settled,dN]
    .rintro b (E|E|E|E)
     .exact .inl (.inl E)
     .exact .inl (.inr (.inl E))
     .exact .inl (.inr (.inr (.inl E)))
     .cases E
   have c5:=ad H;go_wp2;go_end0;exact⟨rfl,c5⟩
theorem sn(K:Nat)(A:DA)(d:Dk)(w:M)(h:cC w K A d)(a:d.failed=true):aE 91 #[H K] w λe b=>aK e (aG 2)/\w=b:=by obtain⟨c,f1,f⟩:=cr h.aL;rw[a]at c;go_enter func91,ntmps91;go_wp2;go_ret;exact⟨rfl,rfl⟩
theorem Cd(K:Nat)(A:DA)(d:Dk)(w:M)(h:cC w K A d)(b:d.failed=false):aE 91 #[H K] w λe a=>aK e (aG 0)/\k' K A (d.settled λ_=>true) w a:=by have c:=I (tX K A d w h);obtain⟨f,f1,j⟩:=cr h.aL;rw[b]at f;go_enter func91,ntmps91;go_wp2_with(first|(go_at_call 161;refine c.mono ?_;rintro e a ⟨rfl,g⟩;have i:=I g));go_ret;exact⟨rfl,i⟩
def Dk.dead(d:Dk):Dk:={(d.settled λ_=>false)with failed:=true}
theorem tZ(K:Nat)(A:DA)(d:Dk)(w:M)(h:cC w K A d):aE 116 #[H K] w λe i=>aK e (.tuple #[])/\k' K A d.dead w i:=by
 obtain⟨v,f1,x⟩:=cr h.aL;have c:cC (w.setCell (R K 3) ed) K A {d with failed:=true}:=by have a:=h.ne;have f:Out (λk=>k=K) w (w.setCell (R K 3) ed):=(Out.refl (λk=>k=K) w).setCell (p:=R K 3) (λ_=>rfl) _;exact⟨heap_setCell_same w K 3 _ 142 ed h.aL,f.heap h.fS (λe=>a.1 e.symm),f.own h.cache (λk j e=>(a.2.2.2 k j).1 e),h.seen.out f (λe=>a.2.1 e.symm),h.pos,h.top,h.cap,h.KG⟩
 have l:=I (sk K A {d with failed:=true} _ c);have m:QX (Out (DZ K A) w (w.setCell (R K 3) ed)):=(Out.refl (DZ K A) w).setCell (p:=R K 3) (λ_=>.inl rfl) _;have g:(w.setCell (R K 3) ed).heap.size=w.heap.size:=RS _ _ _;have n:=I g;go_enter func116,ntmps116;go_wp2_with(first|(go_at_call 161;refine l.mono ?_;rintro e i ⟨rfl,o⟩;have q:=I o));go_end0;obtain⟨r,c,s,t⟩:=q.out;exact⟨rfl,r,c,m.tr s,λb u=>by rw[<-n.out];exact t b u⟩
def ja(n:Nat)(f:Nat->Bool)(i:Nat):Bool:=decide (i<n)&&f i
theorem zG(i B n c:Nat)(a:Option SZ)(f:Nat->Bool)(T:SV)(w:M)(h:a_ w B (.cells #[.slice a n c] T (0,0)))(g:n=0\/∃b o,a=some (R b o)/\∀k,k<n->w.cell? ⟨b,o+k,none⟩=some (.bool (f k))):
  aE 184 #[Y i,H B] w λe j=>aK e (.bool (ja n f i))/\w=j:=by
 obtain⟨q,f1,r⟩:=cr h;by_cases d:i<n
 .obtain ⟨b,o,rfl,l⟩:∃b o,a=some (R b o)/\∀k,k<n->w.cell? ⟨b,o+k,none⟩=some (.bool (f k)):=by
   rcases g with h|h
   .omega
   .exact h
  have m:=l i d;have e:ja n f i=f i:=by simp[ja,d]
  have p:(i:Int)<(n:Int):=J;rw[e];go_enter func184,ntmps184;go_wp2;go_ret;exact⟨rfl,rfl⟩
 .have e:ja n f i=false:=by simp[ja,d]
  have s:decide ((i:Int)<(n:Int))=false:=aR;rw[e];go_enter func184,ntmps184;go_wp2;go_ret;exact⟨rfl,rfl⟩
theorem qE(K:Nat)(A:DA)(d:Dk)(a:Option SZ)(n c:Nat)(f:Nat->Bool)(w:M)(h:cC w K A d)(v:n=0\/∃b o j m,a=some (R b o)/\w.heap[b]?=some (.cells j 4 m)/\∀k,k<n->j[o+k]?=some (.bool (f k))):
  aE 126 #[H K,.slice a n c] w λe s=>aK e (.tuple #[])/\k' K A (d.settled (ja n f)) w s:=by
 have l:au w (w.alloc (N #[.slice a n c] 56)):=aI ak _;have x:=QB w (N #[.slice a n c] 56);have p:=h.below l;have F:=h.lt (b:=A.gl) (.inr (.inl rfl));have y:=I (tY K A d w.heap.size (ja n f) _ p λi W G t=>by refine zG i w.heap.size n c a f 56 W (t.heap x J) (v.imp id ?_);rintro⟨b,o,j,m,rfl,g,z⟩;refine⟨b,o,rfl,λk q=>?_⟩;have r:=t.heap ((QW w _ b (Z_ g)).trans g) (λe=>by have:=h.fS;rw[<-e,g]at this;simp at this);rw[QT W b _ j 4 m r];exact z k q);have u:=I l;go_enter func126,ntmps126;go_wp2_with(first|(go_at_call 161;refine y.mono ?_;rintro e s ⟨rfl,B⟩;have C:=I B));go_end0;obtain⟨D,p,r,E⟩:=C.out;exact⟨rfl,D,p,(Out.af u).tr r,λb l=>(E b l).imp id λe=>by have:=u.size;omega⟩
end
def Dk.fresh(n:Nat):Dk:=⟨n,λ_ _=>0,0,λ_=>0,λ_ _=>0,false⟩
theorem FD(n:Nat):TQ (cB 128 λ_=>0) (n*128)=ew n λ_ _=>0:=by
 apply Array.ext
 .simp [TQ,ew];omega
 .intro i b c;have a:i%128<128:=RT _ J;simp only[TQ,ew,Array.getElem_map,Array.getElem_range,QI,VE,gg];have:=eu 128 (λ_=>0) (i%128) a;rw[Array.getElem!_eq_getD,Array.getD_eq_getD_getElem?,this];rfl
theorem Ce(w:M)(n:Nat)(h:n<=8192):(TC 138 (Y (n:Int)) (Y (n:Int))).run prog w=.ok (a' w.heap.size n n) (w.alloc (N (ew n λ_ _=>0) 217)):=by obtain⟨d,e,a,b,c⟩:=SD MV;have:=run_make (P:=prog) w 138 217 d (.agg (cB 128 λ_=>0)) underlying138 e a .i64 .i64 n n J J (by rw[c];omega) J;rw[this,b];show YT _ (w.alloc (N (TQ (cB 128 λ_=>0) (n*128)) 217))=_;rw[FD];rfl
theorem eN(t:SV)(w:M):(Instr.makeMap t none).run prog w=.ok (.map (some w.heap.size)) (w.alloc (.map #[] 0)):=rfl
def Lg(n:Nat)(w:M)(e:RW)(a:M):Prop:=∃K A,aK e (.tuple #[H K,aG 0])/\cC a K A (Dk.fresh n)/\(∀b,DZ K A b->w.heap.size<=b)/\au w a
theorem yo(n:Nat)(w:M)(c:1<=n)(h:n<=8192):aE 48 #[Y n] w (Lg n w):=by
 have g:=λw=>Ce w n h;have d:=λw=>eN 139 w;have d1:decide ((n:Int)<1)=false:=aR;have d2:decide (8192<(n:Int))=false:=aR;go_enter func48,ntmps48;go_wp2;go_ret2;refine⟨w.heap.size+1+1,⟨w.heap.size,n,aW,w.heap.size+1⟩,rfl,⟨?_,?_,SJ _ _ _ _,?_,c,h,QN _,λi e=>absurd e (RR _)⟩,?_,aI (aI (aI ak _) _) _⟩
 .have:=QB ((w.alloc (N (ew n λ_ _=>0) 217)).alloc (.map #[] 0)) (N #[a' w.heap.size n n,aW,.map (some (w.heap.size+1)),.bool false] 142);rwa[SS,SS]at this
 .exact (QW _ _ _ aR).trans (gb _ _ _)
 .have a:=IM.made (w.alloc (N (ew n λ_ _=>0) 217));rw[SS]at a;refine(a.out (Out.af (S:=λ_=>False) (aI ak _)) id).congr λb=>?_;simp[iw,Dk.fresh,dN]
 .rintro b (rfl|rfl|rfl|f)
  .omega
  .exact QH _
  .exact US _
  .cases f
structure Dv where
 d:Dk
 fN:Bool
 left:Nat
variable {U:Dv}
def Dv.use(v:Dv):Dv:=if v.fN then(if v.left=0 then{v with d:=v.d.dead,fN:=false}else{v with left:=v.left-1})else v
structure c_(w:M)(D K:Nat)(A:DA)(v:Dv):Prop where
 aL:w.heap[D]? =some (N #[H K,.bool v.fN,Y v.left] 106)
 so:cC w K A v.d
 low:v.left<=1000000
def VZ(D K:Nat)(A:DA)(b:Nat):Prop:=b=D\/DZ K A b
theorem c_.out{w w1:M}{A:DA}(h:c_ w n m A U)(a:Out S w w1)(c:∀b,VZ n m A b->¬S b):c_ w1 n m A U:=
 ⟨a.heap h.aL (c _ (.inl rfl)),h.so.out a λb d=>c b (.inr d),h.low⟩
def MK(t:Nat):Bool:=t==106||MU t
theorem c_.ty{A:DA}(h:c_ w n m A U)(a:VZ n m A k):∃o,w.heap[k]?=some o/\MK (ty o)=true:=by
 rcases a with rfl|a
 .exact ⟨_,h.aL,rfl⟩
 .obtain ⟨o,b,c⟩:=h.so.ty a;exact⟨o,b,by simp[MK,c]⟩
theorem c_.lt{A:DA}(h:c_ w n m A U){b:Nat}(a:VZ n m A b):b<w.heap.size:=by obtain⟨o,c,_⟩:=h.ty a;exact Z_ c
theorem c_.ne{A:DA}(h:c_ w n m A U)(b:DZ m A k):k≠n:=by rintro rfl;obtain⟨o,a,c⟩:=h.so.ty b;rw[h.aL]at a;cases a;cases c
def mn(D K:Nat)(A:DA)(v:Dv)(w a:M):Prop:=∃c,c_ a D K c v/\Out (VZ D K A) w a/\∀b,VZ D K c b->VZ D K A b\/w.heap.size<=b
theorem mn.refl{A:DA}(h:c_ w n m A U):mn n m A U w w:=⟨A,h,Out.refl _ _,λ_ h=>.inl h⟩
theorem c_.Cf{A:DA}{d:Dk}(h:c_ w n m A U)(f:k' m A d w W):mn n m A {U with d:=d} w W:=by
 obtain⟨g,i,c,j⟩:=f;refine⟨g,⟨c.heap h.aL λe=>h.ne e rfl,i,h.low⟩,c.mono λ_ _ e=>.inr e,λb a=>?_⟩;rcases a with a|a
 .exact .inl (.inl a)
 .exact (j b a).imp .inr id
theorem jJ(D K:Nat)(A:DA)(v:Dv)(w:QA)(h:c_ w D K A v):aE 145 #[H D] w λe f=>aK e (.tuple #[])/\mn D K A v.use w f:=by
 obtain⟨g,f1,C⟩:=cr h.aL;have r:=h.low;cases i:v.fN with
 |false=>
  have e:v.use=v:=by simp[Dv.use,i]
  rw[i]at g;rw[e];have l:=I h;go_enter func145,ntmps145;go_wp2;go_end0;exact⟨rfl,mn.refl l⟩
 |true=>
  rw[i]at g;by_cases m:v.left=0
  .have e:v.use={v with d:=v.d.dead,fN:=false}:=by simp[Dv.use,i,m]
   rw[m]at g;rw[e];have s:=I (tZ K A v.d w h.so);have l:=I h;go_enter func145,ntmps145;go_wp2_with fail;refine s.mono ?_;rintro e f ⟨rfl,t⟩;obtain⟨u,j,x,y⟩:=l.Cf t;have c:=heap_setCell_same f D 1 _ 106 iG j.aL;obtain⟨E,f2,F⟩:=cr j.aL;have a:mn D K A {v with d:=v.d.dead,fN:=false} w (f.setCell (R D 1) iG):=by refine⟨u,⟨c,j.so.out (S:=λk=>k=D) ((Out.refl (λk=>k=D) f).setCell (p:=R D 1) (λ_=>rfl) _) λb c e=>j.ne c e,j.low⟩,x.setCell (p:=R D 1) (λ_=>.inl rfl) _,y⟩
   have n:=I a;go_wp2;go_end0;exact⟨rfl,n⟩
  .have e:v.use={v with left:=v.left-1}:=by simp[Dv.use,i,m]
   rw[e];obtain⟨L,q⟩:∃L,v.left=L+1:=⟨v.left-1,J⟩;have c:=heap_setCell_same w D 2 _ 106 (Y L) h.aL;have a:mn D K A {v with left:=v.left-1} w (w.setCell (R D 2) (Y L)):=by
    refine⟨A,⟨?_,h.so.out (S:=λk=>k=D) ((Out.refl (λk=>k=D) w).setCell (p:=R D 2) (λ_=>rfl) _) λb c e=>h.ne c e,?_⟩,(Out.refl (VZ D K A) w).setCell (p:=R D 2) (λ_=>.inl rfl) _,λb c=>.inl c⟩
    .show _=some (Obj.cells #[H K,.bool v.fN,Y (v.left-1:Nat)] 106 (0,0));rw[q];exact c
    .show v.left-1<=_;omega
   have n:=I a;rw[q]at g r;have o:((L+1:Nat):Int)≠0:=J;have z:QK.wrap (((L+1:Nat):Int)-1)=(L:Nat):=bj;obtain⟨M,B⟩:=ah (L+1);rw[B]at g o z;go_enter func145,ntmps145;go_wp2;go_end0;exact⟨rfl,n⟩
theorem cR.form(h:cR w v n f):∃a c,v=.slice a n c:=by obtain⟨a,c,h,_⟩:=h;exact⟨a,c,h⟩
theorem cR.set(h:cR w v n f)(a:a_ w p.block O)(b:ty O≠5)(u:QC):cR (w.setCell p u) v n f:=by
 letI:Lo:=⟨0⟩
 exact h.fr (T:= [ty O]) ((Fr.refl _ aF w).set a aJ (QN _) u) (by simp[Ne.symm b])
def MX(f:aQ)(b:Nat)(w:M)(e:RW)(a:M):Prop:=∃v,aK e (aG 0)/\a.heap[b]?=some (N #[v] 41)/\cR a v 128 f/\Out (λk=>k=b) w a/\wB v
theorem FE(D K l a:Nat)(A:DA)(v:Dv)(b:Nat)(w:M)(h:c_ w D K A v)(s:v.d.failed=false)(t:b<v.d.n)(x:a_ w l (N #[Y b] 3))(m:a_ w a (N #[aW] 41)):
  aE 259 #[H D,H l,H a] w (MX (v.d.view b) a w):=by
 obtain⟨C,f1,E⟩:=cr h.aL;obtain⟨F,f2,G⟩:=cr x;obtain⟨L,f3,z3⟩:=cr m;have y:=I (La K A v.d b w.drew (h.so.out (S:=λ_=>False) (Out.refl _ _).drew λ_ _ h=>h) s t);have z:=I m;go_enter func259,ntmps259;go_wp2_with fail
 go_region_law (first|(go_simp;go_at_call 260;refine y.mono ?_;rintro e d ⟨u,rfl,c,f,g⟩;obtain⟨n,o,rfl⟩:=c.form;have i:=I g;obtain⟨O,f4,P⟩:=kp f a dJ))
 all_goals(
  have j:=I c;have q:=I f;clear c f)
 all_goals go_wp2
 all_goals go_ret
 all_goals(
  have r:=(q.block a z3).trans z;have B:Out (λk=>k=a) d (d.setCell (R a 0) (.slice n 128 o)):=(Out.refl (λk=>k=a) d).setCell (p:=R a 0) (λ_=>rfl) _;exact⟨_,rfl,heap_setCell_same d a 0 _ 41 (.slice n 128 o) r,j.set (p:=R a 0) r aj _,(Out.af (S:=λk=>k=a) ((aV (SL w.heap.size w)).trans q)).tr B,i⟩)
theorem t_(D K c a:Nat)(A:DA)(v:Dv)(b:Nat)(w:M)(h:c_ w D K A v)(g:v.d.failed=true)(i:a_ w c (N #[Y b] 3))(d:a_ w a (N #[aW] 41)):
  aE 259 #[H D,H c,H a] w λe f=>aK e (aG 2)/\f.heap[a]?=some (N #[aW] 41)/\Out (λk=>k=a) w f:=by
 obtain⟨m,f1,n⟩:=cr h.aL;obtain⟨o,f2,q⟩:=cr i;obtain⟨r,f3,z3⟩:=cr d;have j:=I (zz K A v.d b w.drew (h.so.out (S:=λ_=>False) (Out.refl _ _).drew λ_ _ h=>h) g);have l:=I d;go_enter func259,ntmps259;go_wp2_with fail
 go_region_law (first|(go_simp;go_at_call 260;refine j.mono ?_;rintro e s ⟨rfl,rfl⟩))
 all_goals go_wp2
 all_goals go_ret
 all_goals(
  exact⟨rfl,heap_setCell_same w.drew a 0 _ 41 aW l,(Out.refl (λk=>k=a) w).drew.setCell (p:=R a 0) (λ_=>rfl) _⟩)
theorem FF(D K b c:Nat)(A:DA)(v:Dv)(a:Nat)(u:QC)(f:aQ)(w:M)(h:c_ w D K A v)(j:v.d.failed=false)(k:a<v.d.n)(l:v.d.cn<1000000000000)(g:lW w u 128 f)(m:a_ w b (N #[Y a] 3))(n:a_ w c (N #[u] 41)):
  aE 81 #[H D,H b,H c] w λe o=>aK e (aG 0)/\mn D K A {v with d:=v.d.wr a f} w o:=by
 obtain⟨B,f1,C⟩:=cr h.aL;obtain⟨E,f2,F⟩:=cr m;obtain⟨G,f3,z3⟩:=cr n;have i:c_ w.drew D K A v:=h.out (S:=λ_=>False) (Out.refl _ _).drew λ_ _ h=>h;have p:=I (Ld K A v.d a u f w.drew i.so j k g l);have q:=I i;obtain⟨L,O,rfl,-⟩:=g;go_enter func81,ntmps81;go_wp2_with fail
 go_region_law (first|(go_simp;go_at_call 82;refine p.mono ?_;rintro e P ⟨rfl,r⟩;have s:=I r))
 all_goals go_wp2
 all_goals go_ret
 all_goals(
  obtain⟨t,x,y,z⟩:=q.Cf s;exact⟨rfl,t,x,(Out.refl _ w).drew.tr y,z⟩)
theorem t'(D K b c:Nat)(A:DA)(v:Dv)(a:Nat)(d:Option SZ)(f g:Nat)(w:M)(h:c_ w D K A v)(i:v.d.failed=true)(j:a_ w b (N #[Y a] 3))(k:a_ w c (N #[.slice d f g] 41)):
  aE 81 #[H D,H b,H c] w λe l=>aK e (aG 2)/\∃q,l=w.drewN q:=by
 obtain⟨o,f1,p⟩:=cr h.aL;obtain⟨r,f2,s⟩:=cr j;obtain⟨t,f3,z3⟩:=cr k;have m:c_ w.drew D K A v:=h.out (S:=λ_=>False) (Out.refl _ _).drew λ_ _ h=>h;have n:=I (zE K A v.d a (.slice d f g) w.drew m.so i);go_enter func81,ntmps81;go_wp2_with fail
 go_region_law (first|(go_simp;go_at_call 82;refine n.mono ?_;rintro e u ⟨rfl,rfl⟩))
 all_goals go_wp2
 all_goals go_ret
 all_goals(exact⟨rfl,1,rfl⟩)
theorem FG(D K:Nat)(A:DA)(v:Dv)(w:M)(h:c_ w D K A v)(a:v.d.failed=false):
  aE 90 #[H D] w λe b=>aK e (aG 0)/\mn D K A {v with d:=v.d.settled λ_=>true} w b:=by
 obtain⟨j,f1,k⟩:=cr h.aL;have c:=I (Cd K A v.d w h.so a);have f:=I h;go_enter func90,ntmps90;go_wp2_with(first|(go_at_call 91;refine c.mono ?_;rintro e l ⟨rfl,g⟩;have i:=I g));go_ret;exact⟨rfl,f.Cf i⟩
theorem ua(D K:Nat)(A:DA)(v:Dv)(w:M)(h:c_ w D K A v)(a:v.d.failed=true):
  aE 90 #[H D] w λe b=>aK e (aG 2)/\w=b:=by
 obtain⟨d,f1,f⟩:=cr h.aL;have c:=I (sn K A v.d w h.so a);go_enter func90,ntmps90;go_wp2_with(first|(go_at_call 91;refine c.mono ?_;rintro e g ⟨rfl,rfl⟩));go_ret;exact⟨rfl,rfl⟩
structure By where
 N:Nat
 dv:Nat->Option Dv
 br:Bool
 aZ:Option Nat
variable {b:By}
def By.put(b:By)(k:Nat)(v:Dv):By:={b with dv:=λj=>if j=k then some v else b.dv j}
def eO:Option Nat->Int
 |none=> -1
 |some t=>(t:Nat)
structure vV where
 D:Nat
 K:Nat
 A:DA
def vV.Z(s:vV)(b:Nat):Prop:=VZ s.D s.K s.A b
def oF(b:By)(a:Nat->vV)(k:Nat):Option SZ:=if(b.dv k).isSome then some ⟨(a k).D,0,none⟩else none
def dA(N:Nat)(p q:Nat->Option SZ):Array QC:=((TT (3*N)).map λj=>Value.pointer (if j%3=0 then p (j/3)else if j%3=1 then q (j/3)else none)).toArray
theorem gi(N:Nat)(p q:Nat->Option SZ)(a:k<N):(dA N p q)[k*3]?=some (.pointer (p k)):=by have h:k*3<3*N:=J;simp only[dA,XA,RL,SF h,QY];rw[ao J,show k*3/3=k by omega]
theorem jK(N:Nat)(p q:Nat->Option SZ)(a:k<N):(dA N p q)[k*3+2]?=some (.pointer none):=by have h:k*3+2<3*N:=J;simp only[dA,XA,RL,SF h,QY];rw[aq J,aq J]
theorem lh(N:Nat){p a q b:Nat->Option SZ}(h:∀k,k<N->p k=a k)(g:∀k,k<N->q k=b k):dA N p q=dA N a b:=by unfold dA;congr 1;apply UX;intro j c;have c:=UA.1 c;rw[h (j/3) J,g (j/3) J]
theorem wD(N:Nat)(p q:Nat->Option SZ)(k:Nat)(x:Option SZ)(_:k<N):(dA N p q).setIfInBounds (k*3) (.pointer x)=dA N (λj=>if j=k then x else p j) q:=by
 apply Array.ext
 .simp [dA]
 .intro i f b;have c:i<3*N:=by simpa[dA]using b
  rw[Array.getElem_setIfInBounds (by simpa[dA]using c)];simp only[dA,QI,VE,List.getElem_range];by_cases e:k*3=i
  .subst e;rw[ao rfl,ao J,show k*3/3=k by omega,ao rfl]
  .rw [aq e];by_cases a:i%3=0
   .rw [ao a,ao a,aq J]
   .rw [aq a,aq a]
structure ej[Lo](w:M)(B S cap:Nat)(sa:Nat->vV)(sd:Nat->Option SZ)(r wc f:Int)(b:By):Prop where
 aL:w.heap[B]? =some (al #[a' S b.N cap,.bool b.br,Y (eO b.aZ),Y r,Y wc,Y f] 100)
 de:w.heap[S]? =some (al (dA b.N (oF b sa) sd) 108)
 dev:∀k v,k<b.N->b.dv k=some v->c_ w (sa k).D (sa k).K (sa k).A v
 apart:∀k j,k<b.N->j<b.N->k≠j->(b.dv k).isSome=true->(b.dv j).isSome=true->∀x,(sa k).Z x->¬(sa j).Z x
 low:∀t,b.aZ=some t->t<=1000000
 top:b.N<=17
 lo:Lo.lo<=B/\Lo.lo<=S
 KH:∀k v,k<b.N->b.dv k=some v->∀x,(sa k).Z x->Lo.lo<=x
def aC[Lo](w:M)(B:Nat)(b:By):Prop:=∃S a c d r wc f,ej w B S a c d r wc f b
def TB:List Nat:= [100,106,108,142,217,219,1000000]
theorem sp(h:MK n=true):TB.contains n=true:=by simp only[MK,MU,Bool.or_eq_true,beq_iff_eq]at h;rcases h with h|((h|h)|h)|h<;>(subst h;rfl)
theorem Fr.Lh[Lo](h:Fr T S w W):Out (λk=>(∃o,w.heap[k]?=some o/\T.contains (ty o)=true)\/S k) w W:=
 ⟨h.os,h.tape,h.output,h.size,λk c b=>by
  obtain⟨o,a⟩:∃o,a_ w k o:=⟨_,SB c⟩;rw[a];refine h.block k o a (.inl ?_) λe=>b (.inr e);cases d:T.contains (ty o)with
  |false=>rfl
  |true=>exact absurd (.inl ⟨o,a,d⟩) b⟩
theorem Out.FH[Lo](h:Out S w W)(f:∀k,k<w.heap.size->S k->(∃o,w.heap[k]?=some o/\T.contains (ty o)=true)/\Lo.lo<=k):Fr T aF w W:=
 ⟨h.os,h.tape,h.output,h.size,λk o b a _=>h.heap b λe=>by
  obtain⟨⟨g,c,d⟩,i⟩:=f k (Z_ b) e;rw[b]at c;cases c;rcases a with a|a
  .rw [a]at d;cases d
  .omega⟩
theorem wE(h:TB.all (λn=> !T.contains n)=true)(a:TB.contains n=true):T.contains n=false:=by have:=WD.1 h n (List.contains_iff_mem.1 a);simpa using this
theorem aC.fr[Lo](h:aC w n b)(g:Fr T S w W)(i:TB.all (λt=> !T.contains t)=true)(s:∀k o,S k->w.heap[k]?=some o->TB.contains (ty o)=false):aC W n b:=by
 obtain⟨u,j,x,y,r,wc,f,h⟩:=h;have a:∀k o,w.heap[k]?=some o->TB.contains (ty o)=true->¬S k:=λk o d c e=>by rw[s k o e d]at c;cases c
 refine⟨u,j,x,y,r,wc,f,g.heap h.aL (wE i rfl) (a _ _ h.aL rfl),g.heap h.de (wE i rfl) (a _ _ h.de rfl),λk v l m=>?_,h.apart,h.low,h.top,h.lo,h.KH⟩;refine(h.dev k v l m).out g.Lh λb z e=>?_;obtain⟨o,d,c⟩:=(h.dev k v l m).ty z;rcases e with⟨A,p,q⟩|e
 .rw [d]at p;cases p;rw[wE i (sp c)]at q;cases q
 .exact a _ _ d (sp c) e
theorem aC.fn[Lo](h:aC w n b)(a:Fr T aF w W)(c:TB.all (λt=> !T.contains t)=true):aC W n b:=h.fr a c λ_ _ e=>e.elim
theorem aC.below[Lo]{B:Nat}(h:aC w B b)(a:au w W):aC W B b:=h.fn (T:= []) (Fr.af a) rfl
theorem aC.lt[Lo](h:aC w n b):n<w.heap.size:=by obtain⟨c,a,d,e,r,wc,f,h⟩:=h;exact Z_ h.aL
theorem aC.lo[Lo](h:aC w n b):Lo.lo<=n:=by obtain⟨c,a,d,e,r,wc,f,h⟩:=h;exact h.lo.1
theorem ej.OR[Lo]{a:Nat->vV}{c:Nat->Option SZ}{r wc f:Int}(h:ej w n m k a c r wc f b):n≠m:=λe=>by have:=h.aL;rw[e,h.de]at this;simp at this
theorem ej.MY[Lo]{c:Nat->vV}{g:Nat->Option SZ}{r wc f:Int}(h:ej w n m i c g r wc f b)(l:k<b.N)(p:b.dv k=some U)(q:(c k).Z j):j≠n/\j≠m:=by
 obtain⟨o,a,d⟩:=(h.dev k U l p).ty q;refine⟨λe=>?_,λe=>?_⟩
 .rw [e,h.aL]at a;cases a;cases d
 .rw [e,h.de]at a;cases a;cases d
def lj(S:Nat->Prop)(D K:Nat)(A:DA)(v:Dv)(w a:M):Prop:=∃c,c_ a D K c v/\Out (λx=>VZ D K A x\/S x) w a/\∀b,VZ D K c b->VZ D K A b\/w.heap.size<=b
theorem mn.q{A:DA}(h:mn n m A U w W):lj S n m A U w W:=by obtain⟨a,b,c,d⟩:=h;exact⟨a,b,c.mono λ_ _ e=>.inl e,d⟩
theorem ej.wF[Lo]{d:Nat->vV}{Z:Nat->Option SZ}{r wc f:Int}(h:ej w n m C d Z r wc f b){v H:Dv}(G:k<b.N)(y:b.dv k=some v)(R:∀x o,Q x->w.heap[x]?=some o->TB.contains (ty o)=false)(I:lj Q (d k).D (d k).K (d k).A H w W):
  ∃T,ej W n m C T Z r wc f (b.put k H)/\Fr TB Q w W:=by
 obtain⟨Y,J,z,U⟩:=I;have A:∀x o,w.heap[x]?=some o->TB.contains (ty o)=true->¬Q x:=λx o E F e=>by rw[R x o e E]at F;cases F
 have N:∀x,VZ (d k).D (d k).K (d k).A x->x≠n/\x≠m:=λx a=>h.MY G y a;have V:Fr TB Q w W:=⟨z.os,z.tape,z.output,z.size,λx o a K B=>z.heap a λe=>by
  rcases e with e|e
  .rcases K with K|K
   .obtain ⟨a2,E,F⟩:=(h.dev k v G y).ty e;rw[a]at E;cases E;rw[sp F]at K;cases K
   .have:=h.KH k v G y x e;omega
  .exact B e⟩
 refine⟨λj=>if j=k then⟨(d k).D,(d k).K,Y⟩else d j,⟨z.heap h.aL λe=>e.elim (λe=>(N _ e).1 rfl) (A _ _ h.aL rfl),?_,λj u l c=>?_,λi j a0 l q P L x a=>?_,h.low,h.top,h.lo,λj u l c x a=>?_⟩,V⟩
 .have B:=z.heap h.de λe=>e.elim (λe=>(N _ e).2 rfl) (A _ _ h.de rfl);rw[B];congr 2;apply lh
  .intro j l;unfold oF By.put;by_cases e:j=k
   .subst e;simp[y]
   .simp [e]
  .intros;rfl
 .by_cases e:j=k
  .subst e;simp only[By.put,if_true,SO]at c|-;subst c;exact J
  .simp only[By.put,aq e]at c|-;refine(h.dev j u l c).out z λx a p=>p.elim (λp=>h.apart k j G l (λa1=>e a1.symm) (by rw[y];rfl) (by rw[c];rfl) x p a) λp=>?_;obtain⟨o,E,F⟩:=(h.dev j u l c).ty a;exact A _ _ E (sp F) p
 .have X:∀x,(d j).Z x->(b.dv j).isSome=true->j<b.N->x<w.heap.size:=λx a B l=>by
   obtain⟨u,c⟩:=WB.1 B;exact(h.dev j u l c).lt a
  have O:∀x,(d i).Z x->(b.dv i).isSome=true->i<b.N->x<w.heap.size:=λx a B l=>by obtain⟨u,c⟩:=WB.1 B;exact(h.dev i u l c).lt a
  have s:i<b.N:=a0;have t:j<b.N:=l;intro D;by_cases M:i=k
  .subst M;have S:¬j=i:=λe=>q e.symm;simp only[By.put,aq S]at L D;simp only[if_true]at a;rcases U x a with g|g
   .exact h.apart i j s t q (by rw[y];rfl) L x g D
   .have:=X x D L t;omega
  .simp only[By.put,aq M]at P a;by_cases S:j=k
   .subst S;simp only[if_true]at D;rcases U x D with g|g
    .exact h.apart i j s t q P (by rw[y];rfl) x a g
    .have:=O x a P s;omega
   .simp only[By.put,aq S]at L D;exact h.apart i j s t q P L x a D
 .by_cases e:j=k
  .subst e;simp only[if_true,vV.Z]at a;rcases U x a with g|g
   .exact h.KH j v G y x g
   .have:=Z_ h.aL;have:=h.lo.1;omega
  .simp only[By.put,aq e]at c;simp only[aq e,vV.Z]at a;exact h.KH j u l c x a
theorem ej.sr[Lo]{w w':M}{a:Nat->vV}{d:Nat->Option SZ}{r wc f:Int}(h:ej w n m i a d r wc f b){v v':Dv}(g:k<b.N)(j:b.dv k=some v)(l:mn (a k).D (a k).K (a k).A v' w w'):
  ∃c,ej w' n m i c d r wc f (b.put k v')/\Fr TB aF w w':=h.wF g j (λ_ _ e=>e.elim) l.q
theorem ej.nI[Lo]{w w':M}{d:Nat->vV}{g:Nat->Option SZ}{r wc f j a l:Int}{dk:Bool}{tr:Option Nat}(h:ej w n m i d g r wc f b)(c:Out (λk=>k=n) w w')(q:a_ w' n (al #[a' m b.N i,.bool dk,Y (eO tr),Y j,Y a,Y l] 100))(s:∀t,tr=some t->t<=1000000):
  ej w' n m i d g j a l {b with br:=dk,aZ:=tr}/\Fr TB aF w w':=
 ⟨⟨q,c.heap h.de (λe=>h.OR e.symm),λk v o p=>(h.dev k v o p).out c λx u e=>(h.MY o p u).1 e,h.apart,s,h.top,h.lo,h.KH⟩,c.FH λk _ e=>by subst e;exact⟨⟨_,h.aL,rfl⟩,h.lo.1⟩⟩
section
section
variable {w:QA} {B S cap:Nat} {sa:Nat->vV} {sd:Nat->Option SZ} {r wc f:Int} {b:By}
theorem ll[Lo](h:ej w B S cap sa sd r wc f b):aE 49 #[H B] w λe a=>aK e (Y b.N)/\w=a:=by obtain⟨c,f1,d⟩:=cr h.aL;go_enter func49,ntmps49;go_wp2;go_ret;exact⟨rfl,rfl⟩
theorem oG[Lo](h:ej w B S cap sa sd r wc f b)(k:Nat)(a:k<b.N):aE 140 #[H B,Y k] w λe c=>aK e (.pointer (some ⟨S,k*3,none⟩))/\w=c:=by obtain⟨d,f1,j⟩:=cr h.aL;have g:=h.top;obtain⟨N,i⟩:=ah b.N;rw[i]at d a g;have d1:decide ((k:Int)<0)=false:=aJ;have d2:decide ((N:Int)<=k)=false:=aR;go_enter func140,ntmps140;go_wp2;go_ret;exact⟨rfl,rfl⟩
theorem yp[Lo](h:ej w B S cap sa sd r wc f b)(k:Nat)(a:k<b.N):aE 76 #[H B,Y k] w λe c=>aK e (.pointer (oF b sa k))/\w=c:=by
 have d:=I (oG h k a);have g:w.cell? ⟨S,k*3,none⟩=some (.pointer (oF b sa k)):=by rw[(cr h.de).1,gi _ _ _ a]
 obtain⟨p,i⟩:=ah (oF b sa k);rw[i]at g|-;go_enter func76,ntmps76;go_wp2_with(first|(go_at_call 140;refine d.mono ?_;rintro e c ⟨rfl,rfl⟩));go_ret;exact⟨rfl,rfl⟩
theorem fB[Lo](h:ej w B S cap sa sd r wc f b)(k:Nat)(c:k<b.N)(v:Dv)(g:b.dv k=some v):aE 115 #[H B,Y k] w λe a=>aK e (.tuple #[.pointer (some ⟨(sa k).D,0,none⟩),aG 0])/\w=a:=by have i:=I (oG h k c);have d:=yp h k c;rw[show oF b sa k=some ⟨(sa k).D,0,none⟩by simp[oF,g]]at d;have j:=I d;go_enter func115,ntmps115;go_wp2_with(first|(go_at_call 140;refine i.mono ?_;rintro e a ⟨rfl,rfl⟩)|(go_at_call 76;refine j.mono ?_;rintro e a ⟨rfl,rfl⟩));go_ret2;exact⟨rfl,rfl⟩
theorem eH[Lo](h:ej w B S cap sa sd r wc f b)(k:Nat)(c:k<b.N)(g:b.dv k=none):aE 115 #[H B,Y k] w λe a=>aK e (.tuple #[.pointer none,aG 51])/\w=a:=by have i:=I (oG h k c);have d:=yp h k c;rw[show oF b sa k=none by simp[oF,g]]at d;have j:=I d;go_enter func115,ntmps115;go_wp2_with(first|(go_at_call 140;refine i.mono ?_;rintro e a ⟨rfl,rfl⟩)|(go_at_call 76;refine j.mono ?_;rintro e a ⟨rfl,rfl⟩));go_ret2;exact⟨rfl,rfl⟩
theorem Cg[Lo](h:ej w B S cap sa sd r wc f b)(k:Nat)(a:k<b.N)(v:Dv)(c:b.dv k=some v):aE 50 #[H B,Y k] w λe d=>aK e (.bool (!v.d.failed))/\∃q,d=w.drewN q:=by have g:=yp h k a;rw[show oF b sa k=some ⟨(sa k).D,0,none⟩by simp[oF,c]]at g;have i:=I g;have j:=I (oD _ _ _ w (h.dev k v a c).so);obtain⟨l,f1,m⟩:=cr (h.dev k v a c).aL;go_enter func50,ntmps50;go_wp2_with(first|(go_at_call 77;refine j.mono ?_;rintro e d ⟨rfl,rfl⟩)|(go_at_call 76;refine i.mono ?_;rintro e d ⟨rfl,rfl⟩));go_ret;exact⟨rfl,0,rfl⟩
theorem ss[Lo](h:ej w B S cap sa sd r wc f b)(k:Nat)(a:k<b.N)(v:Dv)(c:b.dv k=some v):aE 51 #[H B,Y k] w λe d=>aK e (Y v.d.n)/\w=d:=by have g:=yp h k a;rw[show oF b sa k=some ⟨(sa k).D,0,none⟩by simp[oF,c]]at g;have i:=I g;have j:=I (wu _ _ _ w (h.dev k v a c).so);obtain⟨l,f1,m⟩:=cr (h.dev k v a c).aL;go_enter func51,ntmps51;go_wp2_with(first|(go_at_call 78;refine j.mono ?_;rintro e d ⟨rfl,rfl⟩)|(go_at_call 76;refine i.mono ?_;rintro e d ⟨rfl,rfl⟩));go_ret;exact⟨rfl,rfl⟩
end
theorem qF(B o:Nat)(w:M):aE 258 #[.pointer (some (R B o))] w λe a=>aK e (.pointer (some (R B o)))/\w=a:=by go_enter func258,ntmps258;go_wp2;go_ret;exact⟨aJ,rfl⟩
theorem oH(B o:Nat)(w:M):aE 80 #[.pointer (some (R B o))] w λe a=>aK e (.pointer (some ⟨B,o+1,none⟩))/\w=a:=by go_enter func80,ntmps80;go_wp2;go_ret;exact⟨aJ,rfl⟩
theorem nb(B o:Nat)(w:M):aE 89 #[.pointer (some (R B o))] w λe a=>aK e (.pointer (some ⟨B,o+2,none⟩))/\w=a:=by go_enter func89,ntmps89;go_wp2;go_ret;exact⟨aJ,rfl⟩
end
def By.out(b:By):Bool:=b.br||b.aZ==some 0
def By.off(b:By):By:=if b.aZ=some 0 then{b with br:=true,aZ:=none}else b
def By.tick(b:By):By:={b with aZ:=b.aZ.map (· -1)}
def By.op(b:By)(k:Nat)(a:Dv->Dv × Nat):By × Nat:=
 if b.out then(b.off,50)else match b.dv k with|none=>(b.tick,51)|some v=>(b.tick.put k (a v.use).1,(a v.use).2)
def bT(v:Dv):Dv × Nat:=(v,if v.d.failed then 2 else 0)
def aN(a:Nat)(f:aQ)(v:Dv):Dv × Nat:=if v.d.failed then(v,2)else({v with d:=v.d.wr a f},0)
def bc(v:Dv):Dv × Nat:=if v.d.failed then(v,2)else({v with d:=v.d.settled λ_=>true},0)
def qg[Lo](Q:Nat->Prop)(B:Nat)(b:By)(k:Nat)(a:Dv->Dv × Nat)(X:Dv->M->Prop)(w:M)(e:RW)(c:M):Prop:=
 aK e (.int .u16 ((b.op k a).2:Nat))/\aC c B (b.op k a).1/\Fr TB Q w c/\(∀v,b.out=false->b.dv k=some v->X v.use c)/\(b.out=true\/b.dv k=none->Fr TB aF w c)
theorem lj.after{A b:DA}(c:Out (VZ n m A) w W)(d:∀k,VZ n m b k->VZ n m A k\/w.heap.size<=k)(h:lj Q n m b U W z):lj Q n m A U w z:=by
 obtain⟨i,j,l,o⟩:=h;refine⟨i,j,(c.mono λ_ _ e=>.inl e).trans l λk f a=>a.elim (λa=>.inl ((d k a).resolve_right J)) .inr,λk f=>?_⟩;rcases o k f with g|g
 .exact d k g
 .exact .inr (by have:=c.size;omega)
theorem Li[Lo](Q:Nat->Prop)(B k:Nat)(b:By)(c:Dv->Dv × Nat)(X:Dv->QA->Prop)(a7 a8:Nat)(w:QA)(h:aC w B b)(m:k<b.N)(a9:∀x o,Q x->w.heap[x]?=some o->TB.contains (ty o)=false)(N:∀(D K:Nat) (A:DA) (v:Dv) W,b.dv k=some v->c_ W D K A v.use->Fr TB aF w W->aE 259 #[ar D,ar a7,ar a8] W λe w'=>aK e (.int .u16 ((c v.use).2:Nat))/\lj Q D K A (c v.use).1 W w'/\X v.use w'):
  aE 79 #[ar B,ae k,.func (.func 258) #[] #[],.func (.func 259) #[] #[ar a7,ar a8]] w (qg Q B b k c X w):=by
 obtain⟨S,M,b0,b1,r,wc,f,h⟩:=h;have a0:=ad (oG h k m);have H:=ad h;have R:=h.low;obtain⟨C,f1,z1⟩:=cr h.aL;by_cases F:b.aZ=some 0
 .have d:b.op k c=(b.off,50):=by simp[By.op,By.out,F]
  have e2:b.off={b with br:=true,aZ:=none}:=by simp[By.off,F]
  have G:b.out=true:=by simp[By.out,F]
  have a2:=heap_setCell_same _ B 2 _ 100 (ae (-1)) (heap_setCell_same w B 1 _ 100 ed h.aL);have j:=h.nI (w':=(w.setCell (ag B 1) ed).setCell (ag B 2) (ae (-1))) (dk:=true) (tr:=none) (((Out.refl (λk=>k=B) w).setCell (p:=ag B 1) (λ_=>rfl) _).setCell (p:=ag B 2) (λ_=>rfl) _) a2 (λt j=>by cases j);have n:QX (qg Q B b k c X w (.returned (aG 50)) ((w.setCell (ag B 1) ed).setCell (ag B 2) (ae (-1)))):=by refine⟨by rw[d];rfl,?_,j.2.any,λv g=>(by rw[G]at g;cases g),λ_=>j.2⟩;rw[d];show aC _ B b.off;rw[e2];exact⟨_,_,_,_,_,_,_,j.1⟩
  rw[F]at C;go_enter func79,ntmps79;go_wp2_with(first|(go_at_call 140;refine a0.mono ?_;rintro e w' ⟨rfl,rfl⟩));go_ret;exact n
 .have t0:((eO b.aZ)==0)=false:=by
   cases j:b.aZ with
   |none=>rfl
   |some t=>have:t≠0:=λe=>F (by rw[j,e]);simp[eO];omega
  cases a1:b.br with
  |true=>
   have G:b.out=true:=by simp[By.out,a1]
   have d:b.op k c=(b.off,50):=by simp[By.op,G]
   have e2:b.off=b:=by simp[By.off,F]
   have n:QX (qg Q B b k c X w (.returned (aG 50)) w):=by refine⟨by rw[d];rfl,?_,Fr.refl _ _ _,λv g=>(by rw[G]at g;cases g),λ_=>Fr.refl _ _ _⟩;rw[d];show aC _ B b.off;rw[e2];exact⟨_,_,_,_,_,_,_,h⟩
   rw[a1]at C;obtain⟨T,b2⟩:=ah (eO b.aZ);rw[b2]at C t0;go_enter func79,ntmps79;go_wp2_with(first|(go_at_call 140;refine a0.mono ?_;rintro e w' ⟨rfl,rfl⟩));go_ret;exact n
  |false=>
   have G:b.out=false:=by simp[By.out,a1,F]
   rw[a1]at C;cases j:b.aZ with
   |none=>
    rw[j]at C;have l:=ad j;have L:=ad G;have a3:=ad a9;have O:=ad N;simp only[eO]at C;go_enter func79,ntmps79;go_wp2_with(first|(go_at_call 140;refine a0.mono ?_;rintro e w' ⟨rfl,rfl⟩)|(go_at_call 258;refine(qF _ _ _).mono ?_;rintro e w' ⟨rfl,rfl⟩));obtain⟨q,s⟩:=ah (w.setCell (ag B 3) (ae (WV (r+1))));rw[s];have a:QX ((ej q B S M b0 b1 (WV (r+1)) wc f b.tick/\Fr TB aF w q)/\q.heap.size=w.heap.size):=by rw[<-s];refine⟨H.nI (dk:=b.br) (tr:=b.tick.aZ) ((Out.refl (λk=>k=B) w).setCell (p:=ag B 3) (λ_=>rfl) _) (by have:=heap_setCell_same w B 3 _ 100 (ae (WV (r+1))) H.aL;simp only[By.tick,l.out,VF]at this|-;exact this) ?_,by simp only[RS]⟩;intro t2 E;have h7:=H.low;simp only[By.tick,l.out,VF]at E;cases E
    cases g:b.dv k with
    |none=>
     have n:QX (qg Q B b k c X w (.returned (aG 51)) q):=by
      have d:b.op k c=(b.tick,51):=by simp[By.op,L.out,g]
      refine⟨by rw[d];rfl,?_,a.out.1.2.any,λv _ h=>(by rw[g]at h;cases h),λ_=>a.out.1.2⟩;rw[d];exact⟨_,_,_,_,_,_,_,a.out.1.1⟩
     refine(eH a.out.1.1 k m g).mono ?_;rintro e w' ⟨rfl,rfl⟩;go_wp2;go_ret;exact n
    |some v=>
     have i:=ad g;refine(fB a.out.1.1 k m v g).mono ?_;rintro e w' ⟨rfl,rfl⟩;go_wp2_with fail;refine(jJ _ _ _ v q (a.out.1.1.dev k v m i)).mono ?_;rintro e w3 ⟨rfl,a4⟩;have I:=ad a4;obtain⟨A3,g1,g2,g3⟩:=I.out;have G1:=ad g1;have G2:=ad g2;have G3:=ad g3;go_wp2_with fail;refine(O _ _ A3 v w3 i G1 (a.out.1.2.tr ((a.out.1.1.sr m i I).choose_spec.2))).mono ?_;rintro e w4 ⟨rfl,P,V⟩;have n:QX (qg Q B b k c X w (.returned (.int .u16 ((c v.use).2:Nat))) w4):=by
      have d:b.op k c=(b.tick.put k (c v.use).1,(c v.use).2):=by simp[By.op,L.out,i.out]
      obtain⟨a5,g5,g6⟩:=a.out.1.1.wF (Q:=Q) m i (λx o Z Y=>by have y:=Z_ Y;rw[a.out.2]at y;have J:w.heap[x]?=some w.heap[x]:=SB y;have h9:=a3.out x _ Z J;have z:=a.out.1.2.hp J h9;rw[Y]at z;cases z;exact h9) (lj.after G2 G3 P);refine⟨by rw[d],?_,a.out.1.2.any.tr g6,λb3 _ h=>(by rw[i.out]at h;cases h;exact V),λh=>h.elim (λh=>by rw[L.out]at h;cases h) λh=>by rw[i.out]at h;cases h⟩;rw[d];exact⟨_,_,_,_,_,_,_,g5⟩
     go_wp2;go_ret;exact n
   |some t=>
    obtain⟨u,rfl⟩:∃u,t=u+1:=⟨t-1,by have:t≠0:=λe=>F (by rw[j,e]);omega⟩;rw[j]at C;have b4:QK.wrap (((u+1:Nat):Int)-1)=(u:Nat):=by have:=R _ j;go_arith
    have b5:(0:Int)<((u+1:Nat):Int):=aa;have a6:(((u+1:Nat):Int)==0)=false:=aR;simp only[eO]at C;obtain⟨U,b6⟩:=ah (u+1);rw[b6]at C b4 b5 a6;have l:=ad j;have L:=ad G;have a3:=ad a9;have O:=ad N;go_enter func79,ntmps79;go_wp2_with(first|(go_at_call 140;refine a0.mono ?_;rintro e w' ⟨rfl,rfl⟩)|(go_at_call 258;refine(qF _ _ _).mono ?_;rintro e w' ⟨rfl,rfl⟩));obtain⟨q,s⟩:=ah ((w.setCell (ag B 2) (ae u)).setCell (ag B 3) (ae (WV (r+1))));rw[s];have a:QX ((ej q B S M b0 b1 (WV (r+1)) wc f b.tick/\Fr TB aF w q)/\q.heap.size=w.heap.size):=by rw[<-s];refine⟨H.nI (dk:=b.br) (tr:=b.tick.aZ) (((Out.refl (λk=>k=B) w).setCell (p:=ag B 2) (λ_=>rfl) _).setCell (p:=ag B 3) (λ_=>rfl) _) (by have:=heap_setCell_same _ B 3 _ 100 (ae (WV (r+1))) (heap_setCell_same w B 2 _ 100 (ae u) H.aL);simp only[By.tick,l.out,QY,VP,eO]at this|-;exact this) ?_,by simp only[RS]⟩;intro t2 E;have h7:=H.low;simp only[By.tick,l.out,QY,VP,SO]at E;have:=h7 _ l;omega
    cases g:b.dv k with
    |none=>
     have n:QX (qg Q B b k c X w (.returned (aG 51)) q):=by
      have d:b.op k c=(b.tick,51):=by simp[By.op,L.out,g]
      refine⟨by rw[d];rfl,?_,a.out.1.2.any,λv _ h=>(by rw[g]at h;cases h),λ_=>a.out.1.2⟩;rw[d];exact⟨_,_,_,_,_,_,_,a.out.1.1⟩
     refine(eH a.out.1.1 k m g).mono ?_;rintro e w' ⟨rfl,rfl⟩;go_wp2;go_ret;exact n
    |some v=>
     have i:=ad g;refine(fB a.out.1.1 k m v g).mono ?_;rintro e w' ⟨rfl,rfl⟩;go_wp2_with fail;refine(jJ _ _ _ v q (a.out.1.1.dev k v m i)).mono ?_;rintro e w3 ⟨rfl,a4⟩;have I:=ad a4;obtain⟨A3,g1,g2,g3⟩:=I.out;have G1:=ad g1;have G2:=ad g2;have G3:=ad g3;go_wp2_with fail;refine(O _ _ A3 v w3 i G1 (a.out.1.2.tr ((a.out.1.1.sr m i I).choose_spec.2))).mono ?_;rintro e w4 ⟨rfl,P,V⟩;have n:QX (qg Q B b k c X w (.returned (.int .u16 ((c v.use).2:Nat))) w4):=by
      have d:b.op k c=(b.tick.put k (c v.use).1,(c v.use).2):=by simp[By.op,L.out,i.out]
      obtain⟨a5,g5,g6⟩:=a.out.1.1.wF (Q:=Q) m i (λx o Z Y=>by have y:=Z_ Y;rw[a.out.2]at y;have J:w.heap[x]?=some w.heap[x]:=SB y;have h9:=a3.out x _ Z J;have z:=a.out.1.2.hp J h9;rw[Y]at z;cases z;exact h9) (lj.after G2 G3 P);refine⟨by rw[d],?_,a.out.1.2.any.tr g6,λb3 _ h=>(by rw[i.out]at h;cases h;exact V),λh=>h.elim (λh=>by rw[L.out]at h;cases h) λh=>by rw[i.out]at h;cases h⟩;rw[d];exact⟨_,_,_,_,_,_,_,g5⟩
     go_wp2;go_ret;exact n
theorem Lj[Lo](Q:Nat->Prop)(B k:Nat)(b:By)(c:Dv->Dv × Nat)(X:Dv->QA->Prop)(a7 a8:Nat)(w:QA)(h:aC w B b)(m:k<b.N)(a9:∀x o,Q x->w.heap[x]?=some o->TB.contains (ty o)=false)(N:∀(D K:Nat) (A:DA) (v:Dv) W,b.dv k=some v->c_ W D K A v.use->Fr TB aF w W->aE 81 #[ar D,ar a7,ar a8] W λe w'=>aK e (.int .u16 ((c v.use).2:Nat))/\lj Q D K A (c v.use).1 W w'/\X v.use w'):
  aE 79 #[ar B,ae k,.func (.func 80) #[] #[],.func (.func 81) #[] #[ar a7,ar a8]] w (qg Q B b k c X w):=by
 obtain⟨S,M,b0,b1,r,wc,f,h⟩:=h;have a0:=ad (oG h k m);have H:=ad h;have R:=h.low;obtain⟨C,f1,z1⟩:=cr h.aL;by_cases F:b.aZ=some 0
 .have d:b.op k c=(b.off,50):=by simp[By.op,By.out,F]
  have e2:b.off={b with br:=true,aZ:=none}:=by simp[By.off,F]
  have G:b.out=true:=by simp[By.out,F]
  have a2:=heap_setCell_same _ B 2 _ 100 (ae (-1)) (heap_setCell_same w B 1 _ 100 ed h.aL);have j:=h.nI (w':=(w.setCell (ag B 1) ed).setCell (ag B 2) (ae (-1))) (dk:=true) (tr:=none) (((Out.refl (λk=>k=B) w).setCell (p:=ag B 1) (λ_=>rfl) _).setCell (p:=ag B 2) (λ_=>rfl) _) a2 (λt j=>by cases j);have n:QX (qg Q B b k c X w (.returned (aG 50)) ((w.setCell (ag B 1) ed).setCell (ag B 2) (ae (-1)))):=by refine⟨by rw[d];rfl,?_,j.2.any,λv g=>(by rw[G]at g;cases g),λ_=>j.2⟩;rw[d];show aC _ B b.off;rw[e2];exact⟨_,_,_,_,_,_,_,j.1⟩
  rw[F]at C;go_enter func79,ntmps79;go_wp2_with(first|(go_at_call 140;refine a0.mono ?_;rintro e w' ⟨rfl,rfl⟩));go_ret;exact n
 .have t0:((eO b.aZ)==0)=false:=by
   cases j:b.aZ with
   |none=>rfl
   |some t=>have:t≠0:=λe=>F (by rw[j,e]);simp[eO];omega
  cases a1:b.br with
  |true=>
   have G:b.out=true:=by simp[By.out,a1]
   have d:b.op k c=(b.off,50):=by simp[By.op,G]
   have e2:b.off=b:=by simp[By.off,F]
   have n:QX (qg Q B b k c X w (.returned (aG 50)) w):=by refine⟨by rw[d];rfl,?_,Fr.refl _ _ _,λv g=>(by rw[G]at g;cases g),λ_=>Fr.refl _ _ _⟩;rw[d];show aC _ B b.off;rw[e2];exact⟨_,_,_,_,_,_,_,h⟩
   rw[a1]at C;obtain⟨T,b2⟩:=ah (eO b.aZ);rw[b2]at C t0;go_enter func79,ntmps79;go_wp2_with(first|(go_at_call 140;refine a0.mono ?_;rintro e w' ⟨rfl,rfl⟩));go_ret;exact n
  |false=>
   have G:b.out=false:=by simp[By.out,a1,F]
   rw[a1]at C;cases j:b.aZ with
   |none=>
    rw[j]at C;have l:=ad j;have L:=ad G;have a3:=ad a9;have O:=ad N;simp only[eO]at C;go_enter func79,ntmps79;go_wp2_with(first|(go_at_call 140;refine a0.mono ?_;rintro e w' ⟨rfl,rfl⟩)|(go_at_call 80;refine(oH _ _ _).mono ?_;rintro e w' ⟨rfl,rfl⟩));obtain⟨q,s⟩:=ah (w.setCell (ag B 4) (ae (WV (wc+1))));rw[s];have a:QX ((ej q B S M b0 b1 r (WV (wc+1)) f b.tick/\Fr TB aF w q)/\q.heap.size=w.heap.size):=by rw[<-s];refine⟨H.nI (dk:=b.br) (tr:=b.tick.aZ) ((Out.refl (λk=>k=B) w).setCell (p:=ag B 4) (λ_=>rfl) _) (by have:=heap_setCell_same w B 4 _ 100 (ae (WV (wc+1))) H.aL;simp only[By.tick,l.out,VF]at this|-;exact this) ?_,by simp only[RS]⟩;intro t2 E;have h7:=H.low;simp only[By.tick,l.out,VF]at E;cases E
    cases g:b.dv k with
    |none=>
     have n:QX (qg Q B b k c X w (.returned (aG 51)) q):=by
      have d:b.op k c=(b.tick,51):=by simp[By.op,L.out,g]
      refine⟨by rw[d];rfl,?_,a.out.1.2.any,λv _ h=>(by rw[g]at h;cases h),λ_=>a.out.1.2⟩;rw[d];exact⟨_,_,_,_,_,_,_,a.out.1.1⟩
     refine(eH a.out.1.1 k m g).mono ?_;rintro e w' ⟨rfl,rfl⟩;go_wp2;go_ret;exact n
    |some v=>
     have i:=ad g;refine(fB a.out.1.1 k m v g).mono ?_;rintro e w' ⟨rfl,rfl⟩;go_wp2_with fail;refine(jJ _ _ _ v q (a.out.1.1.dev k v m i)).mono ?_;rintro e w3 ⟨rfl,a4⟩;have I:=ad a4;obtain⟨A3,g1,g2,g3⟩:=I.out;have G1:=ad g1;have G2:=ad g2;have G3:=ad g3;go_wp2_with fail;refine(O _ _ A3 v w3 i G1 (a.out.1.2.tr ((a.out.1.1.sr m i I).choose_spec.2))).mono ?_;rintro e w4 ⟨rfl,P,V⟩;have n:QX (qg Q B b k c X w (.returned (.int .u16 ((c v.use).2:Nat))) w4):=by
      have d:b.op k c=(b.tick.put k (c v.use).1,(c v.use).2):=by simp[By.op,L.out,i.out]
      obtain⟨a5,g5,g6⟩:=a.out.1.1.wF (Q:=Q) m i (λx o Z Y=>by have y:=Z_ Y;rw[a.out.2]at y;have J:w.heap[x]?=some w.heap[x]:=SB y;have h9:=a3.out x _ Z J;have z:=a.out.1.2.hp J h9;rw[Y]at z;cases z;exact h9) (lj.after G2 G3 P);refine⟨by rw[d],?_,a.out.1.2.any.tr g6,λb3 _ h=>(by rw[i.out]at h;cases h;exact V),λh=>h.elim (λh=>by rw[L.out]at h;cases h) λh=>by rw[i.out]at h;cases h⟩;rw[d];exact⟨_,_,_,_,_,_,_,g5⟩
     go_wp2;go_ret;exact n
   |some t=>
    obtain⟨u,rfl⟩:∃u,t=u+1:=⟨t-1,by have:t≠0:=λe=>F (by rw[j,e]);omega⟩;rw[j]at C;have b4:QK.wrap (((u+1:Nat):Int)-1)=(u:Nat):=by have:=R _ j;go_arith
    have b5:(0:Int)<((u+1:Nat):Int):=aa;have a6:(((u+1:Nat):Int)==0)=false:=aR;simp only[eO]at C;obtain⟨U,b6⟩:=ah (u+1);rw[b6]at C b4 b5 a6;have l:=ad j;have L:=ad G;have a3:=ad a9;have O:=ad N;go_enter func79,ntmps79;go_wp2_with(first|(go_at_call 140;refine a0.mono ?_;rintro e w' ⟨rfl,rfl⟩)|(go_at_call 80;refine(oH _ _ _).mono ?_;rintro e w' ⟨rfl,rfl⟩));obtain⟨q,s⟩:=ah ((w.setCell (ag B 2) (ae u)).setCell (ag B 4) (ae (WV (wc+1))));rw[s];have a:QX ((ej q B S M b0 b1 r (WV (wc+1)) f b.tick/\Fr TB aF w q)/\q.heap.size=w.heap.size):=by rw[<-s];refine⟨H.nI (dk:=b.br) (tr:=b.tick.aZ) (((Out.refl (λk=>k=B) w).setCell (p:=ag B 2) (λ_=>rfl) _).setCell (p:=ag B 4) (λ_=>rfl) _) (by have:=heap_setCell_same _ B 4 _ 100 (ae (WV (wc+1))) (heap_setCell_same w B 2 _ 100 (ae u) H.aL);simp only[By.tick,l.out,QY,VP,eO]at this|-;exact this) ?_,by simp only[RS]⟩;intro t2 E;have h7:=H.low;simp only[By.tick,l.out,QY,VP,SO]at E;have:=h7 _ l;omega
    cases g:b.dv k with
    |none=>
     have n:QX (qg Q B b k c X w (.returned (aG 51)) q):=by
      have d:b.op k c=(b.tick,51):=by simp[By.op,L.out,g]
      refine⟨by rw[d];rfl,?_,a.out.1.2.any,λv _ h=>(by rw[g]at h;cases h),λ_=>a.out.1.2⟩;rw[d];exact⟨_,_,_,_,_,_,_,a.out.1.1⟩
     refine(eH a.out.1.1 k m g).mono ?_;rintro e w' ⟨rfl,rfl⟩;go_wp2;go_ret;exact n
    |some v=>
     have i:=ad g;refine(fB a.out.1.1 k m v g).mono ?_;rintro e w' ⟨rfl,rfl⟩;go_wp2_with fail;refine(jJ _ _ _ v q (a.out.1.1.dev k v m i)).mono ?_;rintro e w3 ⟨rfl,a4⟩;have I:=ad a4;obtain⟨A3,g1,g2,g3⟩:=I.out;have G1:=ad g1;have G2:=ad g2;have G3:=ad g3;go_wp2_with fail;refine(O _ _ A3 v w3 i G1 (a.out.1.2.tr ((a.out.1.1.sr m i I).choose_spec.2))).mono ?_;rintro e w4 ⟨rfl,P,V⟩;have n:QX (qg Q B b k c X w (.returned (.int .u16 ((c v.use).2:Nat))) w4):=by
      have d:b.op k c=(b.tick.put k (c v.use).1,(c v.use).2):=by simp[By.op,L.out,i.out]
      obtain⟨a5,g5,g6⟩:=a.out.1.1.wF (Q:=Q) m i (λx o Z Y=>by have y:=Z_ Y;rw[a.out.2]at y;have J:w.heap[x]?=some w.heap[x]:=SB y;have h9:=a3.out x _ Z J;have z:=a.out.1.2.hp J h9;rw[Y]at z;cases z;exact h9) (lj.after G2 G3 P);refine⟨by rw[d],?_,a.out.1.2.any.tr g6,λb3 _ h=>(by rw[i.out]at h;cases h;exact V),λh=>h.elim (λh=>by rw[L.out]at h;cases h) λh=>by rw[i.out]at h;cases h⟩;rw[d];exact⟨_,_,_,_,_,_,_,g5⟩
     go_wp2;go_ret;exact n
theorem Lk[Lo](Q:Nat->Prop)(B k:Nat)(b:By)(c:Dv->Dv × Nat)(X:Dv->QA->Prop)(w:QA)(h:aC w B b)(m:k<b.N)(a7:∀x o,Q x->w.heap[x]?=some o->TB.contains (ty o)=false)(N:∀(D K:Nat) (A:DA) (v:Dv) W,b.dv k=some v->c_ W D K A v.use->Fr TB aF w W->aE 90 #[ar D] W λe w'=>aK e (.int .u16 ((c v.use).2:Nat))/\lj Q D K A (c v.use).1 W w'/\X v.use w'):
  aE 79 #[ar B,ae k,.func (.func 89) #[] #[],.func (.func 90) #[] #[]] w (qg Q B b k c X w):=by
 obtain⟨S,M,a8,a9,r,wc,f,h⟩:=h;have a0:=ad (oG h k m);have H:=ad h;have R:=h.low;obtain⟨C,f1,z1⟩:=cr h.aL;by_cases F:b.aZ=some 0
 .have d:b.op k c=(b.off,50):=by simp[By.op,By.out,F]
  have e2:b.off={b with br:=true,aZ:=none}:=by simp[By.off,F]
  have G:b.out=true:=by simp[By.out,F]
  have a2:=heap_setCell_same _ B 2 _ 100 (ae (-1)) (heap_setCell_same w B 1 _ 100 ed h.aL);have j:=h.nI (w':=(w.setCell (ag B 1) ed).setCell (ag B 2) (ae (-1))) (dk:=true) (tr:=none) (((Out.refl (λk=>k=B) w).setCell (p:=ag B 1) (λ_=>rfl) _).setCell (p:=ag B 2) (λ_=>rfl) _) a2 (λt j=>by cases j);have n:QX (qg Q B b k c X w (.returned (aG 50)) ((w.setCell (ag B 1) ed).setCell (ag B 2) (ae (-1)))):=by refine⟨by rw[d];rfl,?_,j.2.any,λv g=>(by rw[G]at g;cases g),λ_=>j.2⟩;rw[d];show aC _ B b.off;rw[e2];exact⟨_,_,_,_,_,_,_,j.1⟩
  rw[F]at C;go_enter func79,ntmps79;go_wp2_with(first|(go_at_call 140;refine a0.mono ?_;rintro e w' ⟨rfl,rfl⟩));go_ret;exact n
 .have t0:((eO b.aZ)==0)=false:=by
   cases j:b.aZ with
   |none=>rfl
   |some t=>have:t≠0:=λe=>F (by rw[j,e]);simp[eO];omega
  cases a1:b.br with
  |true=>
   have G:b.out=true:=by simp[By.out,a1]
   have d:b.op k c=(b.off,50):=by simp[By.op,G]
   have e2:b.off=b:=by simp[By.off,F]
   have n:QX (qg Q B b k c X w (.returned (aG 50)) w):=by refine⟨by rw[d];rfl,?_,Fr.refl _ _ _,λv g=>(by rw[G]at g;cases g),λ_=>Fr.refl _ _ _⟩;rw[d];show aC _ B b.off;rw[e2];exact⟨_,_,_,_,_,_,_,h⟩
   rw[a1]at C;obtain⟨T,b0⟩:=ah (eO b.aZ);rw[b0]at C t0;go_enter func79,ntmps79;go_wp2_with(first|(go_at_call 140;refine a0.mono ?_;rintro e w' ⟨rfl,rfl⟩));go_ret;exact n
  |false=>
   have G:b.out=false:=by simp[By.out,a1,F]
   rw[a1]at C;cases j:b.aZ with
   |none=>
    rw[j]at C;have l:=ad j;have L:=ad G;have a3:=ad a7;have O:=ad N;simp only[eO]at C;go_enter func79,ntmps79;go_wp2_with(first|(go_at_call 140;refine a0.mono ?_;rintro e w' ⟨rfl,rfl⟩)|(go_at_call 89;refine(nb _ _ _).mono ?_;rintro e w' ⟨rfl,rfl⟩));obtain⟨q,s⟩:=ah (w.setCell (ag B 5) (ae (WV (f+1))));rw[s];have a:QX ((ej q B S M a8 a9 r wc (WV (f+1)) b.tick/\Fr TB aF w q)/\q.heap.size=w.heap.size):=by rw[<-s];refine⟨H.nI (dk:=b.br) (tr:=b.tick.aZ) ((Out.refl (λk=>k=B) w).setCell (p:=ag B 5) (λ_=>rfl) _) (by have:=heap_setCell_same w B 5 _ 100 (ae (WV (f+1))) H.aL;simp only[By.tick,l.out,VF]at this|-;exact this) ?_,by simp only[RS]⟩;intro t2 E;have h7:=H.low;simp only[By.tick,l.out,VF]at E;cases E
    cases g:b.dv k with
    |none=>
     have n:QX (qg Q B b k c X w (.returned (aG 51)) q):=by
      have d:b.op k c=(b.tick,51):=by simp[By.op,L.out,g]
      refine⟨by rw[d];rfl,?_,a.out.1.2.any,λv _ h=>(by rw[g]at h;cases h),λ_=>a.out.1.2⟩;rw[d];exact⟨_,_,_,_,_,_,_,a.out.1.1⟩
     refine(eH a.out.1.1 k m g).mono ?_;rintro e w' ⟨rfl,rfl⟩;go_wp2;go_ret;exact n
    |some v=>
     have i:=ad g;refine(fB a.out.1.1 k m v g).mono ?_;rintro e w' ⟨rfl,rfl⟩;go_wp2_with fail;refine(jJ _ _ _ v q (a.out.1.1.dev k v m i)).mono ?_;rintro e w3 ⟨rfl,a4⟩;have I:=ad a4;obtain⟨A3,g1,g2,g3⟩:=I.out;have G1:=ad g1;have G2:=ad g2;have G3:=ad g3;go_wp2_with fail;refine(O _ _ A3 v w3 i G1 (a.out.1.2.tr ((a.out.1.1.sr m i I).choose_spec.2))).mono ?_;rintro e w4 ⟨rfl,P,V⟩;have n:QX (qg Q B b k c X w (.returned (.int .u16 ((c v.use).2:Nat))) w4):=by
      have d:b.op k c=(b.tick.put k (c v.use).1,(c v.use).2):=by simp[By.op,L.out,i.out]
      obtain⟨a5,g5,g6⟩:=a.out.1.1.wF (Q:=Q) m i (λx o Z Y=>by have y:=Z_ Y;rw[a.out.2]at y;have J:w.heap[x]?=some w.heap[x]:=SB y;have h9:=a3.out x _ Z J;have z:=a.out.1.2.hp J h9;rw[Y]at z;cases z;exact h9) (lj.after G2 G3 P);refine⟨by rw[d],?_,a.out.1.2.any.tr g6,λb1 _ h=>(by rw[i.out]at h;cases h;exact V),λh=>h.elim (λh=>by rw[L.out]at h;cases h) λh=>by rw[i.out]at h;cases h⟩;rw[d];exact⟨_,_,_,_,_,_,_,g5⟩
     go_wp2;go_ret;exact n
   |some t=>
    obtain⟨u,rfl⟩:∃u,t=u+1:=⟨t-1,by have:t≠0:=λe=>F (by rw[j,e]);omega⟩;rw[j]at C;have b2:QK.wrap (((u+1:Nat):Int)-1)=(u:Nat):=by have:=R _ j;go_arith
    have b3:(0:Int)<((u+1:Nat):Int):=aa;have a6:(((u+1:Nat):Int)==0)=false:=aR;simp only[eO]at C;obtain⟨U,b4⟩:=ah (u+1);rw[b4]at C b2 b3 a6;have l:=ad j;have L:=ad G;have a3:=ad a7;have O:=ad N;go_enter func79,ntmps79;go_wp2_with(first|(go_at_call 140;refine a0.mono ?_;rintro e w' ⟨rfl,rfl⟩)|(go_at_call 89;refine(nb _ _ _).mono ?_;rintro e w' ⟨rfl,rfl⟩));obtain⟨q,s⟩:=ah ((w.setCell (ag B 2) (ae u)).setCell (ag B 5) (ae (WV (f+1))));rw[s];have a:QX ((ej q B S M a8 a9 r wc (WV (f+1)) b.tick/\Fr TB aF w q)/\q.heap.size=w.heap.size):=by rw[<-s];refine⟨H.nI (dk:=b.br) (tr:=b.tick.aZ) (((Out.refl (λk=>k=B) w).setCell (p:=ag B 2) (λ_=>rfl) _).setCell (p:=ag B 5) (λ_=>rfl) _) (by have:=heap_setCell_same _ B 5 _ 100 (ae (WV (f+1))) (heap_setCell_same w B 2 _ 100 (ae u) H.aL);simp only[By.tick,l.out,QY,VP,eO]at this|-;exact this) ?_,by simp only[RS]⟩;intro t2 E;have h7:=H.low;simp only[By.tick,l.out,QY,VP,SO]at E;have:=h7 _ l;omega
    cases g:b.dv k with
    |none=>
     have n:QX (qg Q B b k c X w (.returned (aG 51)) q):=by
      have d:b.op k c=(b.tick,51):=by simp[By.op,L.out,g]
      refine⟨by rw[d];rfl,?_,a.out.1.2.any,λv _ h=>(by rw[g]at h;cases h),λ_=>a.out.1.2⟩;rw[d];exact⟨_,_,_,_,_,_,_,a.out.1.1⟩
     refine(eH a.out.1.1 k m g).mono ?_;rintro e w' ⟨rfl,rfl⟩;go_wp2;go_ret;exact n
    |some v=>
     have i:=ad g;refine(fB a.out.1.1 k m v g).mono ?_;rintro e w' ⟨rfl,rfl⟩;go_wp2_with fail;refine(jJ _ _ _ v q (a.out.1.1.dev k v m i)).mono ?_;rintro e w3 ⟨rfl,a4⟩;have I:=ad a4;obtain⟨A3,g1,g2,g3⟩:=I.out;have G1:=ad g1;have G2:=ad g2;have G3:=ad g3;go_wp2_with fail;refine(O _ _ A3 v w3 i G1 (a.out.1.2.tr ((a.out.1.1.sr m i I).choose_spec.2))).mono ?_;rintro e w4 ⟨rfl,P,V⟩;have n:QX (qg Q B b k c X w (.returned (.int .u16 ((c v.use).2:Nat))) w4):=by
      have d:b.op k c=(b.tick.put k (c v.use).1,(c v.use).2):=by simp[By.op,L.out,i.out]
      obtain⟨a5,g5,g6⟩:=a.out.1.1.wF (Q:=Q) m i (λx o Z Y=>by have y:=Z_ Y;rw[a.out.2]at y;have J:w.heap[x]?=some w.heap[x]:=SB y;have h9:=a3.out x _ Z J;have z:=a.out.1.2.hp J h9;rw[Y]at z;cases z;exact h9) (lj.after G2 G3 P);refine⟨by rw[d],?_,a.out.1.2.any.tr g6,λb1 _ h=>(by rw[i.out]at h;cases h;exact V),λh=>h.elim (λh=>by rw[L.out]at h;cases h) λh=>by rw[i.out]at h;cases h⟩;rw[d];exact⟨_,_,_,_,_,_,_,g5⟩
     go_wp2;go_ret;exact n
theorem Dv.Ch(v:Dv):v.use.d.n=v.d.n:=by
 unfold Dv.use;split
 .split<;>rfl
 .rfl
theorem Dv.Ci(v:Dv):v.use.d.cn<=v.d.cn:=by
 unfold Dv.use;split
 .split
  .exact QN _
  .exact QH _
 .exact QH _
def OS[Lo](B:Nat)(b:By)(k d:Nat)(w:M)(e:RW)(f:M):Prop:=
 ∃a n c,aK e (.tuple #[.slice a n c,.int .u16 ((b.op k bT).2:Nat)])/\aC f B (b.op k bT).1/\Fr TB aF w f/\((b.op k bT).2=0->∃v,b.dv k=some v/\v.use.d.failed=false/\cR f (.slice a n c) 128 (v.use.d.view d)/\n<=c)
def RX(e b:Nat)(v:Dv)(d:M):Prop:=∃a n c,d.heap[e]?=some (N #[.slice a n c] 41)/\(v.d.failed=false->cR d (.slice a n c) 128 (v.d.view b)/\n<=c)
theorem mo[Lo](B k d:Nat)(b:By)(w:QA)(h:aC w B b)(a2:k<b.N)(a3:∀v,b.dv k=some v->d<v.d.n):aE 185 #[ar B,ae k,ae d] w (OS B b k d w):=by
 obtain⟨W,z⟩:=ah ((w.alloc (al #[ae d] 3)).alloc (al #[aW] 41));have N:au w W:=by rw[<-z];exact aI (aI ak _) _
 have a9:W.heap.size=w.heap.size+2:=by rw[<-z];simp
 have h1:W.heap[w.heap.size]?=some (al #[ae d] 3):=by rw[<-z];exact gb _ _ _
 have F:W.heap[w.heap.size+1]?=some (al #[aW] 41):=by rw[<-z];exact fe _ _ _
 have G:=Li (λx=>x=w.heap.size+1) B k b bT (RX (w.heap.size+1) d) w.heap.size (w.heap.size+1) W (h.below N) a2 (λx o i j=>by subst i;rw[F]at j;cases j;rfl) (by
  intro D K A v M q r R;have I:=R.hp h1 rfl;have C:=R.hp F rfl;have L:d<v.use.d.n:=by rw[Dv.Ch];exact a3 v q
  cases f:v.use.d.failed with
  |true=>
   have O:bT v.use=(v.use,2):=by simp[bT,f]
   rw[O];refine(t_ D K _ _ A v.use d M r f I C).mono ?_;rintro e a4 ⟨rfl,l,g⟩;exact⟨rfl,⟨A,r.out g (λx i e=>by subst e;obtain⟨o,m,t⟩:=r.ty i;rw[C]at m;cases m;cases t),g.mono λ_ _ e=>.inr e,λ_ h=>.inl h⟩,_,_,_,l,λh=>by rw[f]at h;cases h⟩
  |false=>
   have O:bT v.use=(v.use,0):=by simp[bT,f]
   rw[O];refine(FE D K _ _ A v.use d M r f L I C).mono ?_;rintro e a4 ⟨u,rfl,l,Y,g,q4⟩;obtain⟨b0,b1,rfl⟩:=Y.form;exact⟨rfl,⟨A,r.out g (λx i e=>by subst e;obtain⟨o,m,t⟩:=r.ty i;rw[C]at m;cases m;cases t),g.mono λ_ _ e=>.inr e,λ_ h=>.inl h⟩,_,_,_,l,λ_=>⟨Y,q4⟩⟩)
 have P:=ad G;have a5:=ad N;have J:=ad F;have Q:Lo.lo<=w.heap.size+1:=by have:=h.lo;have:=h.lt;omega
 go_enter func185,ntmps185;go_wp2_with fail;refine P.mono ?_;rintro e s ⟨rfl,S,T,i,a0⟩;have U:∃a n c,s.heap[w.heap.size+1]?=some (al #[.slice a n c] 41)/\((b.op k bT).2=0->∃v,b.dv k=some v/\v.use.d.failed=false/\cR s (.slice a n c) 128 (v.use.d.view d)/\n<=c):=by
  cases j:b.out with
  |true=>exact⟨_,_,_,(a0 (.inl j)).hp J rfl,λh=>by simp[By.op,j]at h⟩
  |false=>
   cases q:b.dv k with
   |none=>exact⟨_,_,_,(a0 (.inr q)).hp J rfl,λh=>by simp[By.op,j,q]at h⟩
   |some v=>
    obtain⟨a,n,c,l,g⟩:=i v j q;refine⟨a,n,c,l,λh=>⟨v,rfl,?_⟩⟩;have f:v.use.d.failed=false:=by
     cases a6:v.use.d.failed with
     |false=>rfl
     |true=>simp[By.op,j,q,bT,a6]at h
    exact⟨f,g f⟩
 obtain⟨a,n,c,l,g⟩:=U;obtain⟨E,a1⟩:=ah ((b.op k bT).2);obtain⟨k1,f1,z1⟩:=cr l;have V:QX (Fr TB aF w s):=(Fr.af a5).trans (T.mono (λ_ h=>h) λ_ _ e=>e) λx i e=>aa;have X:=ad S;have Z:=ad g;have H:=ad l;have a7:=ad a1;rw[a1];go_wp2;refine QR (v:=.tuple #[.slice a n c,aG E]) (by simp[RM,results185,go_sem,k1]) rfl ?_;have a8:Fr TB aF w (s.setCell ⟨w.heap.size+1,0,none⟩ (.slice a n c)):=V.new (p:=⟨w.heap.size+1,0,none⟩) (by show w.heap.size<=w.heap.size+1;omega) _;have y:Fr [41] aF s (s.setCell ⟨w.heap.size+1,0,none⟩ (.slice a n c)):=(Fr.refl _ _ _).set (p:=⟨w.heap.size+1,0,none⟩) H rfl Q _;refine⟨a,n,c,by rw[a7.out],X.fn y rfl,a8,λh0=>?_⟩;obtain⟨v,m,t,r3,r4⟩:=Z.out h0;exact⟨v,m,t,r3.fr y rfl,r4⟩
def zH[Lo](B:Nat)(b:By)(k:Nat)(a:Dv->Dv × Nat)(w:M)(e:RW)(c:M):Prop:=
 aK e (.int .u16 ((b.op k a).2:Nat))/\aC c B (b.op k a).1/\Fr TB aF w c
theorem cR.fn[Lo](h:cR w v n f)(a:Fr TB aF w W):cR W v n f:=h.fr a rfl
theorem fo[Lo](B k a:Nat)(u:QC)(f:aQ)(b:By)(w:M)(h:aC w B b)(S:k<b.N)(E:cR w u 128 f)(F:∀v,b.dv k=some v->a<v.d.n/\v.d.cn<1000000000000):aE 52 #[ar B,Y k,Y a,u] w (zH B b k (aN a f) w):=by
 obtain⟨G,L,rfl⟩:=E.form;obtain⟨W,g⟩:=ah ((w.alloc (al #[Y a] 3)).alloc (al #[.slice G 128 L] 41));have i:au w W:=by rw[<-g];exact aI (aI ak _) _
 have T:a_ W w.heap.size (al #[Y a] 3):=by rw[<-g];exact gb _ _ _
 have U:a_ W (w.heap.size+1) (al #[.slice G 128 L] 41):=by rw[<-g];exact fe _ _ _
 have j:=E.below i;have l:=Lj aF B k b (aN a f) (λ_ _=>True) w.heap.size (w.heap.size+1) W (h.below i) S (λx o V _=>V.elim) (by
  intro D K A v m O n p;have P:=p.hp T rfl;have Q:=p.hp U rfl;have r:a<v.use.d.n:=by rw[Dv.Ch];exact(F v O).1
  have s:v.use.d.cn<1000000000000:=Nat.lt_of_le_of_lt (Dv.Ci v) (F v O).2;cases c:v.use.d.failed with
  |true=>
   have t:aN a f v.use=(v.use,2):=by simp[aN,c]
   rw[t];refine(t' D K _ _ A v.use a _ _ _ m n c P Q).mono ?_;rintro e X ⟨rfl,q,rfl⟩;exact⟨rfl,⟨A,n.out ((Out.refl aF m).drewN q) λ_ _ e=>e,(Out.refl _ _).drewN q,λ_ h=>.inl h⟩,trivial⟩
  |false=>
   have t:aN a f v.use=({v.use with d:=v.use.d.wr a f},0):=by simp[aN,c]
   rw[t];refine(FF D K _ _ A v.use a _ f m n c r s (j.fn p).Bz P Q).mono ?_;rintro e X ⟨rfl,Z⟩;exact⟨rfl,Z.q,trivial⟩)
 have y:=I l;have H:=I i;go_enter func52,ntmps52;go_wp2_with(first|(go_at_call 79;refine y.mono ?_;rintro e N ⟨rfl,z,C,-,-⟩));go_ret;exact⟨rfl,z,(Fr.af H).tr C⟩
theorem gq[Lo](B k:Nat)(b:By)(w:M)(h:aC w B b)(n:k<b.N):aE 56 #[H B,Y k] w (zH B b k bc w):=by
 have c:=Lk aF B k b bc (λ_ _=>True) w h n (λx o p _=>p.elim) (by
  intro D K A v m s f t;cases a:v.use.d.failed with
  |true=>
   have g:bc v.use=(v.use,2):=by simp[bc,a]
   rw[g];refine(ua D K A v.use m f a).mono ?_;rintro e q ⟨rfl,rfl⟩;exact⟨rfl,(mn.refl f).q,trivial⟩
  |false=>
   have g:bc v.use=({v.use with d:=v.use.d.settled λ_=>true},0):=by simp[bc,a]
   rw[g];refine(FG D K A v.use m f a).mono ?_;rintro e q ⟨rfl,r⟩;exact⟨rfl,r.q,trivial⟩)
 have i:=I c;go_enter func56,ntmps56;go_wp2_with(first|(go_at_call 79;refine i.mono ?_;rintro e u ⟨rfl,j,l,-,-⟩));go_ret;exact⟨rfl,j,l⟩
def zI[Lo](B:Nat)(b:By)(c:Nat)(w:M)(e:RW)(a:M):Prop:=aK e (aG c)/\aC a B b/\Fr TB aF w a
theorem Cj[Lo](B k:Nat)(b:By)(v:Dv)(w:M)(h:aC w B b)(g:k<b.N)(i:b.dv k=some v):aE 62 #[H B,Y k] w (zI B (b.put k {v with d:=v.d.dead}) 0 w):=by
 obtain⟨S,o,n,y,r,wc,f,h⟩:=h;have p:=I (fB h k g v i);have j:=h.dev k v g i;obtain⟨z,f1,A⟩:=cr j.aL;have q:=I (tZ _ _ _ w j.so);have c:∀a,k' (n k).K (n k).A v.d.dead w a->aC a B (b.put k {v with d:=v.d.dead})/\Fr TB aF w a:=λa l=>by obtain⟨s,t,u⟩:=h.sr g i (j.Cf l);exact⟨⟨_,_,_,_,_,_,_,t⟩,u⟩
 have m:=I c;go_enter func62,ntmps62;go_wp2_with(first|(go_at_call 115;refine p.mono ?_;rintro e a ⟨rfl,rfl⟩)|(go_at_call 116;refine q.mono ?_;rintro e a ⟨rfl,l⟩;have x:=I l));go_ret;exact⟨rfl,m _ x⟩
theorem wG[Lo](B k:Nat)(b:By)(w:M)(h:aC w B b)(a:k<b.N)(c:b.dv k=none):aE 62 #[H B,Y k] w (zI B b 51 w):=by have d:=I h;obtain⟨S,g,j,l,r,wc,f,h⟩:=h;have i:=I (eH h k a c);go_enter func62,ntmps62;go_wp2_with(first|(go_at_call 115;refine i.mono ?_;rintro e m ⟨rfl,rfl⟩));go_ret;exact⟨rfl,d,Fr.refl _ _ _⟩
theorem Cl[Lo](B k n:Nat)(b:By)(v:Dv)(w:M)(h:aC w B b)(d:k<b.N)(g:b.dv k=some v)(l:n<=1000000):aE 70 #[H B,Y k,Y n] w (zI B (b.put k {v with fN:=true,left:=n}) 0 w):=by obtain⟨S,m,a,z,r,wc,f,h⟩:=h;have o:=I (fB h k d v g);have c:=h.dev k v d g;obtain⟨A,f1,C⟩:=cr c.aL;have q:=heap_setCell_same _ (a k).D 2 _ 106 (Y n) (heap_setCell_same w (a k).D 1 _ 106 ed c.aL);have j:Out (λx=>x=(a k).D) w ((w.setCell ⟨(a k).D,1,none⟩ ed).setCell ⟨(a k).D,2,none⟩ (Y n)):=((Out.refl (λx=>x=(a k).D) w).setCell (p:=⟨(a k).D,1,none⟩) (λ_=>rfl) _).setCell (p:=⟨(a k).D,2,none⟩) (λ_=>rfl) _;obtain⟨s,t,u⟩:=h.sr (v':={v with fN:=true,left:=n}) d g (w':=(w.setCell ⟨(a k).D,1,none⟩ ed).setCell ⟨(a k).D,2,none⟩ (Y n)) ⟨(a k).A,⟨q,c.so.out j λx y e=>c.ne y e,l⟩,j.mono λ_ _ e=>.inl e,λ_ h=>.inl h⟩;have i:QX (zI B (b.put k {v with fN:=true,left:=n}) 0 w (.returned (aG 0)) ((w.setCell ⟨(a k).D,1,none⟩ ed).setCell ⟨(a k).D,2,none⟩ (Y n))):=⟨rfl,⟨_,_,_,_,_,_,_,t⟩,u⟩;have d1:decide ((n:Int)<0)=false:=aJ;go_enter func70,ntmps70;go_wp2_with(first|(go_at_call 115;refine o.mono ?_;rintro e w' ⟨rfl,rfl⟩));go_ret;exact i
def MZ(w:M)(e:RW)(a:M):Prop:=∃r wc f:Int,aK e (.agg #[Y r,Y wc,Y f])/\au w a
theorem ub[Lo](B:Nat)(b:By)(w:M)(h:aC w B b):aE 43 #[H B] w (MZ w):=by obtain⟨S,a,c,d,r,wc,f,h⟩:=h;obtain⟨e,f1,g⟩:=cr h.aL;go_enter func43,ntmps43;go_wp2;refine QR (v:=.agg #[Y r,Y wc,Y f]) (by simp[RM,results43,go_sem]) rfl ⟨r,wc,f,rfl,?_⟩;exact aI ak _
theorem ej.swap[Lo]{B:Nat->vV}{L:Nat->Option SZ}{r wc f:Int}(h:ej w n m C B L r wc f b){k D K:Nat}{A:DA}(S:k<b.N)(O:au w W)(T:c_ W D K A U)(v:∀x,VZ D K A x->w.heap.size<=x):
  (∃E,ej (W.setCell ⟨m,k*3,none⟩ (H D)) n m C E L r wc f (b.put k U))/\Fr TB aF w (W.setCell ⟨m,k*3,none⟩ (H D)):=by
 have F:=(O.block m (Z_ h.de)).trans h.de;have P:Out (λx=>x=m) W (W.setCell ⟨m,k*3,none⟩ (H D)):=(Out.refl (λx=>x=m) W).setCell (p:=⟨m,k*3,none⟩) (λ_=>rfl) _;have g:Out (λx=>x=m) w (W.setCell ⟨m,k*3,none⟩ (H D)):=(Out.af O).tr P;have V:=Z_ h.de;refine⟨⟨λj=>if j=k then⟨D,K,A⟩else B j,g.heap h.aL h.OR,?_,λj u d c=>?_,λi j X d o G y x a l=>?_,h.low,h.top,h.lo,λj u d c x a=>?_⟩,g.FH λx _ e=>by subst e;exact⟨⟨_,h.de,rfl⟩,h.lo.2⟩⟩
 .rw [heap_setCell_same W m (k*3) _ 108 _ F,wD _ _ _ _ _ S];congr 2;apply lh
  .intro j d;unfold oF By.put;by_cases e:j=k
   .subst e;simp
   .simp [e]
  .intros;rfl
 .by_cases e:j=k
  .subst e;simp only[By.put,if_true,SO]at c|-;subst c;exact T.out P λx a e=>by have:=v x a;omega
  .simp only[By.put,aq e]at c|-;exact(h.dev j u d c).out g λx a e=>(h.MY d c a).2 e
 .have q:i<b.N:=X;have s:j<b.N:=d;have t:∀i x,(B i).Z x->(b.dv i).isSome=true->i<b.N->x<w.heap.size:=λi x a Z d=>by obtain⟨u,c⟩:=WB.1 Z;exact(h.dev i u d c).lt a
  by_cases Q:i=k
  .subst Q;have z:¬j=i:=λe=>o e.symm;simp only[By.put,aq z]at y l;simp only[if_true]at a;have:=v x a;have:=t j x l y s;omega
  .simp only[By.put,aq Q]at G a;by_cases z:j=k
   .subst z;simp only[if_true]at l;have:=v x l;have:=t i x a G q;omega
   .simp only[By.put,aq z]at y l;exact h.apart i j q s o G y x a l
 .by_cases e:j=k
  .subst e;simp only[if_true,vV.Z]at a;have:=v x a;have:=Z_ h.aL;have:=h.lo.1;omega
  .simp only[By.put,aq e]at c;simp only[aq e]at a;exact h.KH j u d c x a
theorem Cn[Lo]{d:Nat->vV}{o:Nat->Option SZ}{r wc f:Int}(h:ej w n m i d o r wc f b)(k:Nat)(c:k<b.N)(v:Dv)(g:b.dv k=some v)(p:v.d.failed=true):aE 141 #[.pointer (some ⟨m,k*3,none⟩)] w λe j=>aK e iG/\w=j:=by
 have t:w.cell? ⟨m,k*3,none⟩=some (.pointer (some ⟨(d k).D,0,none⟩)):=by rw[(cr h.de).1,gi _ _ _ c];simp[oF,g]
 have q:w.cell? ⟨m,k*3+2,none⟩=some (.pointer none):=by rw[(cr h.de).1,jK _ _ _ c]
 have l:=h.dev k v c g;have a:=oD _ _ _ w l.so;rw[p]at a;have s:=I a;obtain⟨u,f1,x⟩:=cr l.aL;go_enter func141,ntmps141;go_wp2_with(first|(go_at_call 77;refine s.mono ?_;rintro e j ⟨rfl,rfl⟩));go_ret;exact⟨rfl,rfl⟩
theorem zJ[Lo]{d:Nat->vV}{g:Nat->Option SZ}{r wc f:Int}(h:ej w n m i d g r wc f b)(k:Nat)(a:k<b.N)(j:∀v,b.dv k=some v->v.d.failed=true):aE 141 #[.pointer (some ⟨m,k*3,none⟩)] w λe l=>aK e iG/\w=l:=by
 cases c:b.dv k with
 |some v=>exact Cn h k a v c (j v c)
 |none=>
  have p:w.cell? ⟨m,k*3,none⟩=some (.pointer none):=by rw[(cr h.de).1,gi _ _ _ a];simp[oF,c]
  have o:w.cell? ⟨m,k*3+2,none⟩=some (.pointer none):=by rw[(cr h.de).1,jK _ _ _ a]
  go_enter func141,ntmps141;go_wp2;go_ret;exact⟨rfl,rfl⟩
theorem Co(g n:Nat)(w:M)(h:a_ w g (N #[Y n] 3))(b:1<=n)(a:n<=8192):aE 119 #[H g] w (Lg n w):=by obtain⟨l,f1,m⟩:=cr h;have c:=I (yo n w b a);go_enter func119,ntmps119;go_wp2_with(first|(go_at_call 48;refine c.mono ?_;rintro e o ⟨K,A,rfl,a,d,f⟩;have i:=I a;have j:=I d;have k:=I f));go_ret2;exact⟨K,A,rfl,i,j,k⟩
theorem Cq[Lo](B k n:Nat)(b:By)(w:QA)(h:aC w B b)(d:k<b.N)(D:∀v,b.dv k=some v->v.d.failed=true)(E:1<=n)(i:n<=8192):aE 66 #[ar B,ae k,ae n] w (zI B (b.put k ⟨Dk.fresh n,false,0⟩) 0 w):=by
 have j:∀g (W:QA),aC W B b->a_ W g (al #[ae n] 3)->aE 118 #[ar B,ae k,.func (.func 119) #[] #[ar g]] W (zI B (b.put k ⟨Dk.fresh n,false,0⟩) 0 W):=by intro g W h F;obtain⟨S,G,L,a2,r,wc,f,h⟩:=h;have O:=ad (oG h k d);have P:=ad (zJ h k d D);have Q:=ad (Co g n W F E i);have T:=ad h;obtain⟨U,f1,l⟩:=cr h.de;have u:=U (k*3);rw[gi _ _ _ d]at u;have m:=f1 (k*3);go_enter func118,ntmps118;go_wp2_with(first|(go_at_call 140;refine O.mono ?_;rintro e V ⟨rfl,rfl⟩)|(go_at_call 141;refine P.mono ?_;rintro e V ⟨rfl,rfl⟩)|(go_at_call 119;refine Q.mono ?_;rintro e a ⟨K,A,rfl,i,X,Z⟩;have H:=ad i;have N:=ad X;have c:=ad Z;have M:a.cell? ⟨S,k*3,none⟩=some (.pointer (oF b L k)):=(c.cell (p:=⟨S,k*3,none⟩) l).trans u;have R:a.frozen? ⟨S,k*3,none⟩=false:=(c.frozen (p:=⟨S,k*3,none⟩) l).trans m;have o:S<a.heap.size:=RJ l c.size));go_ret;have q:au W (a.alloc (al #[ar K,.bool false,ae 0] 106)):=aI c _;have I:c_ (a.alloc (al #[ar K,.bool false,ae 0] 106)) a.heap.size K A ⟨Dk.fresh n,false,0⟩:=⟨QB _ _,H.below (aI ak _),QN _⟩;obtain⟨⟨Y,y⟩,z⟩:=T.swap d q I (λx J=>J.elim (λe=>by subst e;exact c.size) (N x));rw[World.setCell_alloc_past _ _ _ _ o]at y z;exact⟨rfl,⟨_,_,_,_,_,_,_,y⟩,z⟩
 have C:au w (w.alloc (al #[ae n] 3)):=aI ak _;have a0:=ad (j w.heap.size _ (h.below C) (QB w _));have a1:=ad C;have d1:decide ((n:Int)<0)=false:=aJ;go_enter func66,ntmps66;go_wp2_with(first|(go_at_call 118;refine a0.mono ?_;rintro e a ⟨rfl,s,t⟩));go_ret;exact⟨rfl,s,(Fr.af a1).tr t⟩
def Ints(w:M)(v:QC)(n:Nat)(f:aQ):Prop:=
 ∃a c,v=.slice a n c/\(n=0\/∃b o d e,a=some (R b o)/\w.heap[b]?=some (.cells d 3 e)/\∀k,k<n->d[o+k]?=some (Y (f k:Nat)))
theorem FI(n:Nat):TQ #[.pointer none,.pointer none,.pointer none] (n*3)=dA n (λ_=>none) λ_=>none:=by
 apply Array.ext
 .simp [TQ,dA];omega
 .intro i b c;simp only[TQ,dA,Array.getElem_map,Array.getElem_range,QI,VE];have a:i%3<3:=RT _ J;have:∀j,j<3->(#[Value.pointer none,.pointer none,.pointer none]:Array QC)[j]! =.pointer none:=λj d=>by
   rcases j with _|_|_|j
   .rfl
   .rfl
   .rfl
   .omega
  rw[show(#[Value.pointer none,.pointer none,.pointer none]:Array QC).size=3 from rfl,this _ a];split<;>simp
theorem M_:(prog.info? 108).map (λi=>(i.zero,i.size,i.bytes))=some (some (.agg #[.pointer none,.pointer none,.pointer none]),3,24):=ai
theorem FJ(w:M)(n:Nat)(h:n<=17):(TC 98 (Y (n:Int)) (Y (n:Int))).run prog w=.ok (a' w.heap.size n n) (w.alloc (N (dA n (λ_=>none) λ_=>none) 108)):=by obtain⟨d,e,a,b,c⟩:=SD M_;have:=run_make (P:=prog) w 98 108 d (.agg #[.pointer none,.pointer none,.pointer none]) underlying98 e a .i64 .i64 n n J J (by rw[c];omega) J;rw[this,b];show YT _ (w.alloc (N (TQ #[.pointer none,.pointer none,.pointer none] (n*3)) 108))=_;rw[FI];rfl
def By.part(n:Nat)(a:aQ)(k:Nat):By:=⟨n,λj=>if j<k then some ⟨Dk.fresh (a j),false,0⟩else none,false,none⟩
theorem By.zK(n:Nat)(a:aQ)(k:Nat):(By.part n a k).put k ⟨Dk.fresh (a k),false,0⟩=By.part n a (k+1):=by
 unfold By.part By.put;congr 1;funext j;by_cases e:j=k
 .subst e;simp
 .by_cases h:j<k
  .simp [e,h,show j<k+1 by omega]
  .simp [e,h,show¬j<k+1 by omega]
def HR[Lo](n:Nat)(b:aQ)(w:M)(e:RW)(a:M):Prop:=∃B,aK e (.tuple #[H B,aG 0])/\aC a B (By.part n b n)/\au w a
structure Ll[Lo](n:Nat)(sz:aQ)(B S:Nat)(w:M)(k:Nat)(wr:M):Prop where
 cj:∃sa,ej wr B S n sa (fun _=>none) 0 0 0 (By.part n sz k)
 dw:au w wr
theorem FK[Lo](v:QC)(n:Nat)(c:aQ)(w:QA)(q:Ints w v n c)(r:Lo.lo<=w.heap.size)(T:1<=n)(s:n<=17)(W:∀k,k<n->1<=c k/\c k<=8192):aE 28 #[v] w (HR n c w):=by
 obtain⟨a,X,rfl,H⟩:=q;obtain⟨b,o,y,B,rfl,N,M⟩:∃b o y B,a=some (ag b o)/\w.heap[b]?=some (.cells y 3 B)/\∀k,k<n->y[o+k]?=some (ae (c k:Nat)):=H.resolve_left aa;have a6:=FJ w n s;have d1:decide ((n:Int)<1)=false:=aR;have d2:decide (17<(n:Int))=false:=aR;have C:Ll n c (w.heap.size+1) w.heap.size w 0 ((w.alloc (al (dA n (λ_=>none) λ_=>none) 108)).alloc (al #[a' w.heap.size n n,.bool false,ae (-1),ae 0,ae 0,ae 0] 100)):=by
  refine⟨⟨λ_=>⟨0,0,⟨0,0,aW,0⟩⟩,fe _ _ _,?_,λk v _ q=>by simp[By.part]at q,λk j _ _ _ h=>by simp[By.part]at h,λt R=>(by cases R),s,⟨Nat.le_succ_of_le r,r⟩,λk v _ q=>by simp[By.part]at q⟩,aI (aI ak _) _⟩;rw[gb];have:oF (By.part n c 0) (λ_=>⟨0,0,⟨0,0,aW,0⟩⟩)=λ_=>none:=by funext j;simp[oF,By.part]
  rw[this];rfl
 have D:=ad C;have u:=ad N;have I:=ad M;have Y:=ad W;go_enter func28,ntmps28;go_wp2;go_loopw [24] (λi wr=>∃k:Nat,i= ae k/\k<=n/\QX (Ll n c (w.heap.size+1) w.heap.size w k wr)) (λi _=>n-(intOf i).toNat)
 case atStart=>exact⟨0,rfl,QN _,D⟩
 case round=>
  obtain⟨k,rfl,a7,m⟩:=hrel;by_cases d:k<n
  .obtain ⟨J,f⟩:=m.cj;have a0:=ad f;have g:wr.cell? ⟨b,o+k,none⟩=some (ae (c k:Nat)):=by rw[QT wr b (o+k) y 3 B ((m.dw.block b (Z_ u.out)).trans u.out)];exact I k d
   obtain⟨s1,s2⟩:=Y.out k d;have U:=ad (yo (c k) wr s1 s2);have E:((c k:Nat):Int)≠0:=aa;obtain⟨q1,q2,q3⟩:=cr f.aL;obtain⟨r1,r2,F⟩:=cr f.de;have G:=(r1 (k*3)).trans (gi _ _ _ (show k<(By.part n c k).N from d));have L:=r2 (k*3);obtain⟨Z,V⟩:=ah (c k);have a1:=ad V;rw[V]at g E U;have a2:(k:Int)<(n:Int):=aa;go_wp2_with(first|(go_at_call 48;refine U.mono ?_;rintro e z ⟨K,A,rfl,T,h2,h3⟩;have H1:=ad T;have H2:=ad h2;have l:=ad h3;have a3:=(l.cell (p:=⟨w.heap.size,k*3,none⟩) F).trans G;have a4:=(l.frozen (p:=⟨w.heap.size,k*3,none⟩) F).trans L;obtain⟨p1,p2,p3⟩:=kp l (w.heap.size+1) q3;have O:w.heap.size<z.heap.size:=RJ F l.size));have P:au wr (z.alloc (al #[ar K,.bool false,ae 0] 106)):=aI l _;have a5:c_ (z.alloc (al #[ar K,.bool false,ae 0] 106)) z.heap.size K A ⟨Dk.fresh Z,false,0⟩:=⟨QB _ _,H1.below (aI ak _),QN _⟩;obtain⟨⟨Q,S⟩,g2⟩:=a0.swap (show k<(By.part n c k).N from d) P a5 (λx f=>f.elim (λe=>by subst e;exact l.size) (H2 x));rw[World.setCell_alloc_past _ _ _ _ O]at S g2;rw[<-a1.out,By.zK]at S;refine⟨⟨k+1,by go_num,d,⟨⟨Q,S⟩,?_⟩⟩,by simp[intOf];omega⟩;exact(m.dw.trans (l.mono m.dw.size)).setCell (p:=⟨w.heap.size,k*3,none⟩) (QH _) _|>λh=>aI h _
  .obtain rfl:k=n:=aa;go_wp2;go_ret2;obtain⟨J,f⟩:=m.cj;exact⟨_,rfl,⟨_,_,_,_,_,_,_,f⟩,m.dw⟩
def qG(w:M)(v:QC)(L:Nat)(n:aQ)(f:Nat->Nat->Bool):Prop:=
 ∃a d,v=.slice a L d/\(L=0\/∃b o g m,a=some (R b o)/\w.heap[b]?=some (.cells g 56 m)/\∀j,j<L->∃h p,g[o+j]?=some (.slice h (n j) p)/\
  (n j=0\/∃k l c e,h=some (R k l)/\w.heap[k]?=some (.cells c 4 e)/\∀i,i<n j->c[l+i]?=some (.bool (f j i))))
theorem qG.fr[Lo]{n:aQ}{f:Nat->Nat->Bool}(h:qG w v m n f)(i:Fr T aF w W)(k:T.contains 56=false)(l:T.contains 4=false):qG W v m n f:=by obtain⟨a,c,rfl,h⟩:=h;refine⟨a,c,rfl,h.imp id ?_⟩;rintro⟨b,o,p,q,rfl,r,h⟩;refine⟨b,o,p,q,rfl,i.hp r k,λj s=>?_⟩;obtain⟨t,u,x,h⟩:=h j s;refine⟨t,u,x,h.imp id ?_⟩;rintro⟨y,z,d,e,rfl,g,h⟩;exact⟨y,z,d,e,rfl,i.hp g l,h⟩
def cK(L:Nat)(n:aQ)(f:Nat->Nat->Bool)(j i:Nat):Bool:=decide (j<L)&&ja (n j) (f j) i
def Dv.nc(kp:Nat->Bool)(v:Dv):Dv:={v with d:=v.d.settled kp}
def By.fC(b:By)(kp:Nat->Nat->Bool)(k:Nat):By:={b with dv:=λj=>if j<k then(b.dv j).map (Dv.nc (kp j))else b.dv j}
def By.cut(b:By)(kp:Nat->Nat->Bool):By:={b with dv:=λj=>if j<b.N then(b.dv j).map (Dv.nc (kp j))else b.dv j,br:=false,aZ:=none}
theorem By.wH{kp:Nat->Nat->Bool}(h:b.dv k=none):b.fC kp (k+1)=b.fC kp k:=by
 unfold By.fC;congr 1;funext j;by_cases e:j=k
 .subst e;simp[h]
 .by_cases h:j<k
  .simp [h,show j<k+1 by omega]
  .simp [h,show¬j<k+1 by omega]
theorem By.wI{kp:Nat->Nat->Bool}(h:b.dv k=some U):(b.fC kp k).put k (U.nc (kp k))=b.fC kp (k+1):=by
 unfold By.fC By.put;congr 1;funext j;by_cases e:j=k
 .subst e;simp[h]
 .by_cases h:j<k
  .simp [e,h,show j<k+1 by omega]
  .simp [e,h,show¬j<k+1 by omega]
structure FL[Lo](B S cap:Nat)(sd:Nat->Option SZ)(r wc f:Int)(b:By)(kp:Nat->Nat->Bool)(w:M)(k:Nat)(wr:M):Prop where
 cj:∃sa,ej wr B S cap sa sd r wc f (b.fC kp k)
 bV:Fr TB aF w wr
theorem FM[Lo](B:Nat)(b:By)(v:QC)(L:Nat)(n:aQ)(c:Nat->Nat->Bool)(w:QA)(h:aC w B b)(a4:qG w v L n c)(b6:L<=1000000):aE 71 #[ar B,v] w λe w'=>aK e (.tuple #[])/\aC w' B (b.cut (cK L n c))/\Fr TB aF w w':=by
 have a9:=ad a4;obtain⟨b7,b8,rfl,-⟩:=a4;obtain⟨S,m,b0,G,r,wc,f,h⟩:=h;have R:=h.top;obtain⟨N,M⟩:=ah b.N;rw[M]at R;obtain⟨k1,f1,z1⟩:=cr h.aL;rw[M]at k1;have I:QX (FL B S m G r wc f b (cK L n c) w 0 w):=by
  refine⟨⟨b0,?_⟩,Fr.refl _ _ _⟩;have:b.fC (cK L n c) 0=b:=by simp[By.fC]
  rw[this];exact h
 have Y:=ad M;clear h M;go_enter func71,ntmps71;go_wp2;go_loopw [12] (λi wr=>∃k:Nat,i= ae k/\k<=N/\QX (FL B S m G r wc f b (cK L n c) w k wr)) (λi _=>N-(intOf i).toNat)
 case atStart=>exact⟨0,rfl,QN _,I⟩
 case round=>
  obtain⟨k,rfl,b9,K⟩:=hrel;obtain⟨j,o⟩:=K.cj;have a5:=ad o;by_cases y:k<N
  .have g:k<(b.fC (cK L n c) k).N:=by show k<b.N;rw[Y.out];exact y
   obtain⟨q1,q2,q3⟩:=cr o.aL;rw[show(b.fC (cK L n c) k).N=N from Y.out]at q1;obtain⟨O,r2,r3⟩:=cr o.de;have P:=(O (k*3)).trans (gi _ _ _ g);have b2:=(O (k*3+2)).trans (jK _ _ _ g);have b3:(k:Int)<(N:Int):=aa;have a:(b.fC (cK L n c) k).dv k=b.dv k:=by simp[By.fC]
   cases d:b.dv k with
   |none=>rw[show oF (b.fC (cK L n c) k) j k=none by simp[oF,a,d]]at P;have q:QX (FL B S m G r wc f b (cK L n c) w (k+1) wr):=⟨⟨j,by rw[By.wH d];exact a5⟩,K.bV⟩;clear o O a d g;go_wp2;refine⟨⟨k+1,by go_num,y,q⟩,by simp[intOf];omega⟩
   |some v=>
    rw[show oF (b.fC (cK L n c) k) j k=some ⟨(j k).D,0,none⟩by simp[oF,a,d]]at P;have Q:=o.dev k v g (a.trans d);obtain⟨p1,p2,p3⟩:=cr Q.aL;have s:=a9.fr K.bV rfl rfl;have u:∀F,k' (j k).K (j k).A (v.d.settled (cK L n c k)) wr F->QX (FL B S m G r wc f b (cK L n c) w (k+1) F)/\F.cell? ⟨S,k*3+2,none⟩=some (.pointer none):=λF C=>by
     obtain⟨J,g1,g2⟩:=a5.sr g (a.trans d) (Q.Cf C);refine⟨⟨⟨J,?_⟩,K.bV.tr g2⟩,?_⟩
     .have:=By.wI (kp:=cK L n c) d;rw[<-this];exact g1
     .exact ((cr g1.de).1 (k*3+2)).trans (jK _ _ _ g)
    have z:=ad u;have a6:=ad Q;by_cases D:k<L
    .obtain ⟨c0,c1,b4,T⟩:=s;cases b4;obtain⟨b1,o1,a0,a1,rfl,U,A⟩:=T.resolve_left aa;obtain⟨a7,a8,V,x⟩:=A k D;have a2:wr.cell? ⟨b1,o1+k,none⟩=some (.slice a7 (n k) a8):=by rw[QT wr b1 (o1+k) a0 56 a1 U];exact V
     have W:cK L n c k=ja (n k) (c k):=by funext i;simp[cK,D]
     have l:=qE _ _ _ a7 (n k) a8 (c k) wr a6.so x;rw[<-W]at l;have E:=ad l;have X:(k:Int)<(L:Int):=aa;clear o O a d Q u T A x U V W l g;go_wp2_with(first|(go_at_call 126;refine E.mono ?_;rintro e F ⟨rfl,C⟩;obtain⟨q,a3⟩:=z.out _ C;clear C));refine⟨⟨k+1,by go_num,y,q⟩,by simp[intOf];omega⟩
    .have W:cK L n c k=ja 0 (λ_=>false):=by funext i;simp[cK,ja,D]
     have l:=qE _ _ _ none 0 0 (λ_=>false) wr a6.so (.inl rfl);rw[<-W]at l;have E:=ad l;have X:¬(k:Int)<(L:Int):=aa;clear o O a d Q u s W l g;go_wp2_with(first|(go_at_call 126;refine E.mono ?_;rintro e F ⟨rfl,C⟩;obtain⟨q,a3⟩:=z.out _ C;clear C));refine⟨⟨k+1,by go_num,y,q⟩,by simp[intOf];omega⟩
  .obtain rfl:k=N:=aa;obtain⟨q1,q2,q3⟩:=cr o.aL;have Z:=heap_setCell_same _ B 2 _ 100 (ae (-1)) (heap_setCell_same wr B 1 _ 100 iG o.aL);have H:=o.nI (w':=(wr.setCell (ag B 1) iG).setCell (ag B 2) (ae (-1))) (dk:=false) (tr:=none) (((Out.refl (λk=>k=B) wr).setCell (p:=ag B 1) (λ_=>rfl) _).setCell (p:=ag B 2) (λ_=>rfl) _) Z (λt H=>by cases H);have b5:QX (aC ((wr.setCell (ag B 1) iG).setCell (ag B 2) (ae (-1))) B (b.cut (cK L n c))/\Fr TB aF w ((wr.setCell (ag B 1) iG).setCell (ag B 2) (ae (-1)))):=by
    refine⟨⟨S,m,j,G,r,wc,f,?_⟩,K.bV.tr H.2⟩;have e:b.cut (cK L n c)={b.fC (cK L n c) k with br:=false,aZ:=none}:=by simp only[By.cut,By.fC,Y.out]
    rw[e];exact H.1
   clear o Z H;go_wp2;go_end0;exact⟨rfl,b5⟩
def zL(w:M)(v:QC)(n:Nat)(f:Nat->Bool):Prop:=
 ∃a c,v=.slice a n c/\(n=0\/∃b o d e,a=some (R b o)/\w.heap[b]?=some (.cells d 4 e)/\∀k,k<n->d[o+k]?=some (.bool (f k)))
theorem zL.below{f:Nat->Bool}(h:zL w v n f)(g:au w W):zL W v n f:=by obtain⟨a,c,e,h⟩:=h;refine⟨a,c,e,h.imp id ?_⟩;rintro⟨b,o,i,j,e,d,k⟩;exact⟨b,o,i,j,e,(g.block b (Z_ d)).trans d,k⟩
theorem zL.fr[Lo]{f:Nat->Bool}(h:zL w v n f)(d:Fr T aF w W)(g:T.contains 4=false):zL W v n f:=by obtain⟨a,c,e,h⟩:=h;refine⟨a,c,e,h.imp id ?_⟩;rintro⟨b,o,i,j,e,k,l⟩;exact⟨b,o,i,j,e,d.hp k g,l⟩
def yq(w:QA)(b:Nat)(g:az)(c:Nat->Bool)(l:List Pt)(par:Nat):Prop:=
 ∃a pv,w.heap[b]?=some (N #[Y g.M,Y g.c,Y g.s,a,pv,Y par] 427)/\zL w a g.M c/\ff w pv l
theorem yq.below{b:Nat->Bool}(h:yq w n g b l m)(a:au w W):yq W n g b l m:=by obtain⟨d,pv,c,e,f⟩:=h;exact⟨d,pv,(a.block _ (Z_ c)).trans c,e.below a,f.below a⟩
def zM(l:List Pt)(m:Nat):Bool:=l.any λp=>decide (p.1=m)
theorem oI(d:Nat)(g:az)(j:Nat->Bool)(l:List Pt)(par m:Nat)(w:M)(h:yq w d g j l par)(n:l.length<=1000000):aE 360 #[H d,Y m] w λe o=>aK e (.bool (zM l m))/\au w o:=by
 obtain⟨A,pv,q,B,i⟩:=h;obtain⟨k,f,z⟩:=cr q;obtain⟨C,D,a,-⟩:=id i;have r:=I (λ(W:M) (b:au w W) (x:a_ W w.heap.size (N #[Y m] 3))=>kZ 376 #[H w.heap.size] (RF func376 ai rfl) l (λp=>decide (p.1=m)) pv W (i.below b) n
  (λs c p E u t=>IT p u w.heap.size m s t ((c.block _ (Z_ x)).trans x)))
 subst a;have v:QX (zM l m=l.any λp=>decide (p.1=m)):=rfl;go_enter func360,ntmps360;go_wp2_with(go_at_call 357;refine(r _ (aI ak _) (QB _ _)).mono ?_;rintro e F ⟨rfl,b⟩;have y:=I b);go_ret;exact⟨by rw[v.out];rfl,(aI ak _).trans (y.mono aJ)⟩
theorem FN(a:Nat)(w:M):aE 327 #[H a] w λe b=>aK e aW/\au w b:=by go_enter func327,ntmps327;go_wp2;go_ret;exact⟨rfl,ak⟩
theorem Lm:(prog.info? 3).map (λi=>(i.zero,i.size,i.bytes))=some (some (Y 0),1,8):=ai
theorem zN(l:List Nat)(m:Nat):(l.map λa=>.int .i64 (a:Nat))++ [Y m] =(l++ [m]).map λa=>.int .i64 (a:Nat):=aJ
theorem qH(F:Nat)(G:Array QC)(a4:∀f w,(UN F f).run prog w=.ok (.enter F f) w)(b:Nat->Bool)(V:Nat)(g:az)(J:Nat->Bool)(l:List Pt)(par:Nat)(w:QA)(h:yq w V g J l par)(a0:g.M<=16)(X:∀W,au w W->∀m,m<g.M->aE F (#[ae m] ++G) W λe z=>aK e (.bool (b m))/\au W z):
  aE 358 #[ar V,.func (.func F) #[] G] w (iu (bQ g.M b) w):=by
 obtain⟨a5,pv,h1,h2,h3⟩:=h;obtain⟨k1,f1,z1⟩:=cr h1;obtain⟨M,Z⟩:=ah g.M;rw[Z]at k1 a0 X;rw[Z];have a1:=ad X;obtain⟨a2,K,O,P,Q⟩:=SD Lm;go_enter func358,ntmps358;go_wp2;go_loopw [5,12] (λv i wr=>∃k:Nat,i= ae k/\k<=M/\QX (au w wr)/\QX (wr.ownsRow w.heap.size 3 1 v (bQ k b).length ((bQ k b).map λa=>.int .i64 (a:Nat)))) (λ_ i _=>M-(intOf i).toNat)
 case atStart=>exact⟨0,rfl,QN _,ak,SJ _ _ _ _⟩
 case round=>
  obtain⟨k,rfl,H,y,p⟩:=hrel;by_cases q:k<M
  .have d:=ad (a1 wr y k q);have j:=fv k b;have A:=ad (dH k b);obtain⟨L,a3⟩:=ah (bQ k b);rw[a3]at p A j;obtain⟨n,N⟩:=ah L.length;rw[N]at p j;have R:=ad N;obtain⟨S,T,rfl,-⟩:=av p;cases I:b k with
   |true=>
    rw[I]at d A;go_wp2_with fail;refine d.mono ?_;rintro e r ⟨rfl,c⟩;have B:=ad (aP c p);have C:=ad (y.trans (c.mono y.size));go_wp2_with(first|(at_builtin;refine aU _ rfl _ _ 82 rfl w.heap.size 3 a2 (ae 0) 1 8 YD K O P Q rfl aj (.slice S n T) n _ rfl (aP (aI ak _) B) (ag r.heap.size 0) 1 1 [ae k] rfl rfl (RY (cs:= #[ae k]) (t:=3) (fr:=(0,0)) (QB r _)) (by intro u Y;simp at Y;rw[Y];rfl) aa (by unfold UI;omega) aa (by have:=C.size;simp;omega) ?_));intro a6 z o D;have E:au w (r.alloc (al #[ae k] 3)):=aI C _;have s:QX (au w z):=D.below E E.size λk H=>(bo B H).2;obtain⟨G,U,rfl,-⟩:=av o;have x:QX (z.ownsRow w.heap.size 3 1 (.slice G (n+1) U) (bQ (k+1) b).length ((bQ (k+1) b).map λa=>.int .i64 (a:Nat))):=by show z.ownsRow _ _ _ _ _ _;rw[A.out];simp only[if_true];rw[<-zN,QU,R.out];exact o
    go_wp2;exact⟨⟨k+1,by go_num,q,s,x⟩,by simp[intOf];omega⟩
   |false=>
    rw[I]at d A;go_wp2_with fail;refine d.mono ?_;rintro e r ⟨rfl,c⟩;have s:QX (au w r):=y.trans (c.mono y.size);have x:QX (r.ownsRow w.heap.size 3 1 (.slice S n T) (bQ (k+1) b).length ((bQ (k+1) b).map λa=>.int .i64 (a:Nat))):=by show r.ownsRow _ _ _ _ _ _;rw[A.out];simp only[SM,if_false];rw[UB,R.out];exact aP c p
    go_wp2;exact⟨⟨k+1,by go_num,q,s,x⟩,by simp[intOf];omega⟩
  .obtain rfl:k=M:=aa;obtain⟨S,T,rfl,-⟩:=av p;go_wp2;go_ret;exact⟨_,rfl,p,y⟩
def qI(par:Nat)(l:List Pt)(m:Nat):Bool:=decide (m≠par)&& !zM l m
def zO(par:Nat)(l:List Pt)(m:Nat):Bool:=decide (m=par)||zM l m
theorem Cr(a q:Nat)(g:az)(i:Nat->Bool)(l:List Pt)(par m:Nat)(w:M)(h:yq w a g i l par)(k:l.length<=1000000)(n:a_ w q (N #[H a] 420)):
  aE 359 (#[Y m] ++ #[H q]) w λe o=>aK e (.bool (qI par l m))/\au w o:=by
 have b:=I (oI a g i l par m w h k);have c:QX (qI par l m=(decide (m≠par)&& !zM l m)):=rfl;obtain⟨t,pv,p,u,v⟩:=h;obtain⟨x,f1,z⟩:=cr p;obtain⟨A,f2,B⟩:=cr n;obtain⟨y,r⟩:=ah (zM l m);rw[r]at b c;by_cases e:m=par
 .have d1:((m:Int)==(par:Int))=true:=by simp[e]
  have d2:((m:Int) !=(par:Int))=false:=by simp[e]
  have d:=I e;go_enter func359,ntmps359;go_wp2_with(go_at_call 360;refine b.mono ?_;rintro e s ⟨rfl,f⟩;have j:=I f);go_ret;exact⟨by rw[c.out];simp[d.out],ak⟩
 .have d1:((m:Int)==(par:Int))=false:=by rw[sj];simp[e]
  have d2:((m:Int) !=(par:Int))=true:=by rw[bne,sj];simp[e]
  have d:=I e;go_enter func359,ntmps359;go_wp2_with(go_at_call 360;refine b.mono ?_;rintro e s ⟨rfl,f⟩;have j:=I f);go_ret;exact⟨by rw[c.out];simp[d.out],j⟩
theorem FO(a q:Nat)(g:az)(i:Nat->Bool)(l:List Pt)(par m:Nat)(w:M)(h:yq w a g i l par)(k:l.length<=1000000)(n:a_ w q (N #[H a] 420)):
  aE 361 (#[Y m] ++ #[H q]) w λe o=>aK e (.bool (zO par l m))/\au w o:=by
 have b:=I (oI a g i l par m w h k);have c:QX (zO par l m=(decide (m=par)||zM l m)):=rfl;obtain⟨t,pv,p,u,v⟩:=h;obtain⟨x,f1,z⟩:=cr p;obtain⟨A,f2,B⟩:=cr n;obtain⟨y,r⟩:=ah (zM l m);rw[r]at b c;by_cases e:m=par
 .have d1:((m:Int)==(par:Int))=true:=by simp[e]
  have d:=I e;go_enter func361,ntmps361;go_wp2_with(go_at_call 360;refine b.mono ?_;rintro e s ⟨rfl,f⟩;have j:=I f);go_ret;exact⟨by rw[c.out];simp[d.out],ak⟩
 .have d1:((m:Int)==(par:Int))=false:=by rw[sj];simp[e]
  have d:=I e;go_enter func361,ntmps361;go_wp2_with(go_at_call 360;refine b.mono ?_;rintro e s ⟨rfl,f⟩;have j:=I f);go_ret;exact⟨by rw[c.out];simp[d.out],j⟩
theorem iu.pre{e:RW}(h:iu T W e z)(a:au w W):iu T w e z:=by
 obtain⟨v,f,d,i⟩:=h;refine⟨v,f,?_,a.trans (i.mono a.size)⟩;refine⟨d.1,?_⟩;rcases d.2 with h|⟨g,b,c,e,j,r⟩
 .exact .inl h
 .exact .inr ⟨g,b,c,e,QE a.size j,r⟩
theorem FP(a:Nat)(g:az)(c:Nat->Bool)(l:List Pt)(par:Nat)(w:QA)(h:yq w a g c l par)(j:l.length<=1000000)(k:g.M<=16):
  aE 328 #[H a] w (iu (bQ g.M (qI par l)) w):=by
 have n:=I (λ(W:QA) (d:au w W) (x:a_ W w.heap.size (N #[H a] 420))=>qH 359 #[H w.heap.size] (RF func359 ai rfl) (qI par l) a g c l par W (h.below d) k λo b m r=>Cr a w.heap.size g c l par m o ((h.below d).below b) j ((b.block _ (Z_ x)).trans x));go_enter func328,ntmps328;go_wp2_with(go_at_call 358;refine(n _ (aI ak _) (QB _ _)).mono ?_;rintro e s f;have i:=I (iu.pre f (aI ak _));obtain⟨v,rfl,gb,fe⟩:=f);obtain⟨t,p,q⟩:=i.out;cases p;obtain⟨u,y,rfl,-⟩:=av q.1;go_ret;exact i
theorem IW(a:Nat)(g:az)(c:Nat->Bool)(l:List Pt)(par:Nat)(w:QA)(h:yq w a g c l par)(j:l.length<=1000000)(k:g.M<=16):
  aE 329 #[H a] w (iu (bQ g.M (zO par l)) w):=by
 have n:=I (λ(W:QA) (d:au w W) (x:a_ W w.heap.size (N #[H a] 420))=>qH 361 #[H w.heap.size] (RF func361 ai rfl) (zO par l) a g c l par W (h.below d) k λo b m r=>FO a w.heap.size g c l par m o ((h.below d).below b) j ((b.block _ (Z_ x)).trans x));go_enter func329,ntmps329;go_wp2_with(go_at_call 358;refine(n _ (aI ak _) (QB _ _)).mono ?_;rintro e s f;have i:=I (iu.pre f (aI ak _));obtain⟨v,rfl,gb,fe⟩:=f);obtain⟨t,p,q⟩:=i.out;cases p;obtain⟨u,y,rfl,-⟩:=av q.1;go_ret;exact i
def gone(a:Nat->Bool):Nat->Option Nat
 |0=>none
 |n+1=>match gone a n with|some k=>some k|none=>if a n then some n else none
def eP(a:Nat->Bool)(n:Nat):Int:=match gone a n with|some k=>(k:Nat)|none=> -1
theorem eQ{c:Nat->Bool}:∀{n k:Nat},gone c n=some k->k<n/\c k=true
 |0,_,h=>by cases h
 |n+1,k,h=>by
  unfold gone at h;cases d:gone c n with
  |some j=>rw[d]at h;cases h;obtain⟨a,b⟩:=eQ d;exact⟨J,b⟩
  |none=>
   rw[d]at h;simp only at h;split at h
   .cases h;exact⟨J,by assumption⟩
   .cases h
theorem qJ{a:Nat->Bool}:∀{n:Nat},gone a n=none->∀k,k<n->a k=false
 |0,_,_,h=>J
 |n+1,h,k,c=>by
  unfold gone at h;cases b:gone a n with
  |some j=>rw[b]at h;cases h
  |none=>
   rw[b]at h;simp only at h;split at h
   .cases h
   .by_cases e:k=n
    .rw [e];simpa using(by assumption:¬a n=true)
    .exact qJ b k J
theorem kz{dn:Nat->Bool}(d:k<n)(h:dn k=true)(f:∀j,j<k->dn j=false):gone dn n=some k:=by
 cases c:gone dn n with
 |none=>rw[qJ c k d]at h;cases h
 |some j=>
  obtain⟨a,b⟩:=eQ c;by_cases e:j<k
  .rw [f j e]at b;cases b
  .by_cases g:j=k
   .rw [g]
   .exfalso;have:∀m,k<m->gone dn m=some k:=λm=>by
     induction m with
     |zero=>intro h;omega
     |succ m i=>
      intro p;unfold gone;by_cases l:k<m
      .rw [i l]
      .have:k=m:=J;subst this;have:gone dn k=none:=by
        cases o:gone dn k with
        |none=>rfl
        |some q=>obtain⟨x,y⟩:=eQ o;rw[f q x]at y;cases y
       rw[this];simp[h]
    rw[this n d]at c;cases c;exact g rfl
theorem wJ(v:QC)(n:Nat)(c:Nat->Bool)(w:M)(h:zL w v n c)(F:n<=1000000):aE 362 #[v,.bool true] w λe r=>aK e (Y (eP c n))/\w=r:=by
 obtain⟨a,s,rfl,t⟩:=h;have u:=I t;go_enter func362,ntmps362;go_wp2;go_loop [8] (λi=>∃k:Nat,i= Y k/\k<=n/\QX (∀j,j<k->c j=false)) (λi=>n-(intOf i).toNat)
 case atStart=>exact⟨0,rfl,QN _,λj z=>J⟩
 case round=>
  obtain⟨k,rfl,G,g⟩:=hrel;by_cases d:k<n
  .obtain ⟨b,o,A,B,rfl,C,D⟩:=u.resolve_left J;have p:=(QT w b (o+k) A 4 B C).trans (D k d);cases f:c k with
   |true=>
    rw[f]at p;have l:QX (eP c n=(k:Nat)):=by show _=_;unfold eP;rw[kz d f g.out]
    go_wp2;go_ret;exact⟨by rw[l.out];rfl,rfl⟩
   |false=>
    rw[f]at p;have m:QX (∀j,j<k+1->c j=false):=λj z=>by
     by_cases e:j=k
     .rw [e];exact f
     .exact g j J
    go_wp2;go_round
    case rel=>exact⟨k+1,by go_num,d,m⟩
    case measure=>simp[intOf];omega
  .obtain rfl:k=n:=J;have l:QX (eP c k= -1):=by
    show _=_;unfold eP;have:gone c k=none:=by
     cases E:gone c k with
     |none=>rfl
     |some q=>obtain⟨x,y⟩:=eQ E;rw[g.out q x]at y;cases y
    rw[this]
   go_wp2;go_ret;exact⟨by rw[l.out];rfl,rfl⟩
def dV(M:Nat)(a:Nat->Bool)(l:List Pt)(par:Nat):Nat:=
 if M-1-l.length=0 then 1 else match gone a M with
  |some k=>if k=par then 4 else if zM l k=true then 3 else 2
  |none=>if M-1-l.length<l.length+1 then 3 else 2
theorem FQ(u:Nat)(g:az)(c:Nat->Bool)(l:List Pt)(par:Nat)(w:QA)(h:yq w u g c l par)(A:g.ok)(D:l.length<=g.M-1):
  aE 330 #[ar u] w λe E=>aK e (.int .u8 (dV g.M c l par:Nat))/\au w E:=by
 have F:=A.m16;have v:=A.m3;have t:=I (λ(W:QA) (b:au w W) (m:Nat)=>oI u g c l par m W (h.below b) J);obtain⟨G,pv,K,p,L⟩:=h;obtain⟨O,f1,Q⟩:=cr K;have d:=I (λ(W:QA) (b:au w W)=>wJ G g.M c W (p.below b) J);obtain⟨S,T,rfl,-⟩:=p;obtain⟨U,V,rfl,-⟩:=L;have a:QX (dV g.M c l par=if g.M-1-l.length=0 then 1 else match gone c g.M with
  |some k=>if k=par then 4 else if zM l k=true then 3 else 2
  |none=>if g.M-1-l.length<l.length+1 then 3 else 2):=rfl
 obtain⟨M,x⟩:=ah g.M;obtain⟨n,B⟩:=ah l.length;obtain⟨X,r⟩:=ah (dV g.M c l par);rw[r,x,B]at a;rw[x,B]at O D;rw[x]at F v d;rw[r];have i:QX (eP c M=match gone c M with|some k=>(k:Nat)|none=> -1):=rfl;have Z:QK.wrap ((M:Int)-1)=(M:Int)-1:=bj;have H:QK.wrap ((M:Int)-1-(n:Int))=(M:Int)-1-(n:Int):=bj;by_cases C:M-1-n=0
 .have d0:((M:Int)-1-(n:Int)==0)=true:=by rw[beq_iff_eq];omega
  rw[ao C]at a;obtain⟨N,z⟩:=ah (eP c M);rw[z]at d;go_enter func330,ntmps330;go_wp2;go_quiet(fail);go_wp2_with(go_at_call 362;refine(d _ (cE ak _)).mono ?_;rintro e f ⟨rfl,rfl⟩);go_ret;exact⟨by rw[a.out];rfl,cE ak _⟩
 .have d0:((M:Int)-1-(n:Int)==0)=false:=by rw[beq_eq_false_iff_ne];omega
  rw[aq C]at a;cases s:gone c M with
  |none=>
   rw[s]at a i;rw[i.out]at d;have d1:((-1:Int)==(par:Int))=false:=by rw[beq_eq_false_iff_ne];omega
   simp only at a;by_cases p:M-1-n<n+1
   .have d2:decide ((M:Int)-1-(n:Int)<(n:Int)+1)=true:=aR;rw[ao p]at a;go_enter func330,ntmps330;go_wp2;go_quiet(fail);go_wp2_with(first|(go_at_call 362;refine(d _ (cE ak _)).mono ?_;rintro e f ⟨rfl,rfl⟩)|(go_at_call 360;refine(t _ (cE ak _) _).mono ?_;rintro e f ⟨rfl,b⟩;have o:=I b));go_ret;exact⟨by rw[a.out];rfl,cE ak _⟩
   .have d2:decide ((M:Int)-1-(n:Int)<(n:Int)+1)=false:=aR;rw[aq p]at a;go_enter func330,ntmps330;go_wp2;go_quiet(fail);go_wp2_with(first|(go_at_call 362;refine(d _ (cE ak _)).mono ?_;rintro e f ⟨rfl,rfl⟩)|(go_at_call 360;refine(t _ (cE ak _) _).mono ?_;rintro e f ⟨rfl,b⟩;have o:=I b));go_ret;exact⟨by rw[a.out];rfl,cE ak _⟩
  |some q=>
   rw[s]at a i;rw[i.out]at d;simp only at a d;by_cases e:q=par
   .have d1:((q:Int)==(par:Int))=true:=by simp[e]
    rw[ao e]at a;go_enter func330,ntmps330;go_wp2;go_quiet(fail);go_wp2_with(first|(go_at_call 362;refine(d _ (cE ak _)).mono ?_;rintro e f ⟨rfl,rfl⟩)|(go_at_call 360;refine(t _ (cE ak _) _).mono ?_;rintro e f ⟨rfl,b⟩;have o:=I b));go_ret;exact⟨by rw[a.out];rfl,cE ak _⟩
   .have d1:((q:Int)==(par:Int))=false:=by rw[sj];simp[e]
    rw[aq e]at a;have d4:decide ((q:Int)<0)=false:=aJ;have j:=I (λ(W:QA) (b:au w W)=>t.out W b q);obtain⟨y,P⟩:=ah (zM l q);rw[P]at j a;cases y with
    |true=>simp only[if_true]at a;go_enter func330,ntmps330;go_wp2;go_quiet(fail);go_wp2_with(first|(go_at_call 362;refine(d _ (cE ak _)).mono ?_;rintro e f ⟨rfl,rfl⟩)|(go_at_call 360;refine(j _ (cE ak _)).mono ?_;rintro e f ⟨rfl,b⟩;have o:=I b));go_ret;exact⟨by rw[a.out];rfl,(cE ak _).trans o⟩
    |false=>simp only[SM,if_false]at a;go_enter func330,ntmps330;go_wp2;go_quiet(fail);go_wp2_with(first|(go_at_call 362;refine(d _ (cE ak _)).mono ?_;rintro e f ⟨rfl,rfl⟩)|(go_at_call 360;refine(j _ (cE ak _)).mono ?_;rintro e f ⟨rfl,b⟩;have o:=I b));go_ret;exact⟨by rw[a.out];rfl,(cE ak _).trans o⟩
structure jV(g:az)(B:bq)(w:M)(Ms:Nat)(i:Nat)(inn:aQ)(cv:Nat->QC)(wr:M):Prop where
 dw:au w wr
 OT:w.heap.size<=Ms
 outer:KM wr Ms i fun r=>if aY g B i r=true then some (.map (some (inn r))) else none
 inner:∀r,aY g B i r=true->w.heap.size<=inn r/\inn r≠Ms/\KM wr (inn r) i fun m=>(cO g B i m r).map fun j=> .agg #[Y m,Y r,cv j]
 apart:∀r r',aY g B i r=true->aY g B i r'=true->r≠r'->inn r≠inn r'
 iQ:∀j,j<i->dT wr (cv j) (B.da j)
theorem jV.next{w wr q B C:QA}{s:Nat->QC}(h:jV g K w n i f s wr){a:aQ}(M:i<=1000000)(t:au w q)(P:KM q n (i+1) λr=>if aY g K (i+1) r=true then some (.map (some (a r)))else none)(u:∀r,aY g K (i+1) r=true->w.heap.size<=a r/\a r≠n/\KM q (a r) i λm=>(cO g K i m r).map λj=>.agg #[ae m,ae r,s j])(x:∀r E,aY g K (i+1) r=true->aY g K (i+1) E=true->r≠E->a r≠a E)(Q:∀j,j<i->dT q (s j) (K.da j))(c:au q B)(T:dT B v (K.da i)){b p F:Nat}(U:K.aL i=b/\g.row b=p/\g.mem b=F)(d:Out (λk=>k=a p) B C)(y:KM C (a p) (i+1) λm=>if m=F then some (.agg #[ae F,ae p,v])else(cO g K i m p).map λj=>.agg #[ae m,ae p,s j]):
  jV g K w n (i+1) a (λj=>if j=i then v else s j) C:=by
 obtain⟨rfl,rfl,rfl⟩:=U;have z:aY g K (i+1) (g.row (K.aL i))=true:=dh.2 ⟨i,aa,rfl⟩;obtain⟨R,V,W⟩:=u _ z;have l:∀k o,k=a (g.row (K.aL i))->B.heap[k]?=some o->ty o≠5:=by intro k o y A;obtain⟨D,⟨I,Y,X,_⟩,_⟩:=(W.below c).own;rw[y,X]at A;cases A;exact hO _ _
 refine⟨?_,h.OT,?_,λr O=>?_,x,λj J=>?_⟩
 .exact (Out.trans (S:=λk=>w.heap.size<=k) (Out.af (t.trans (c.mono t.size))) d λk y e=>aa).below (λk y Z=>Z) (QH _)
 .exact (P.below c).out d λe=>V e.symm
 .obtain ⟨H,N,c3⟩:=u r O;refine⟨H,N,?_⟩;by_cases e:r=g.row (K.aL i)
  .subst e;refine y.congr λm=>?_;by_cases e:m=g.mem (K.aL i)
   .subst e;simp[cO]
   .rw [aq e];have G:¬(g.mem (K.aL i)=m/\g.row (K.aL i)=g.row (K.aL i)):=λh=>e h.1.symm;rw[show cO g K (i+1) m (g.row (K.aL i))=cO g K i m (g.row (K.aL i))from aq G];cases L:cO g K i m (g.row (K.aL i))with
    |none=>rfl
    |some j=>have:=(dz L).1;simp only[QY];rw[aq aa]
  .refine (((c3.below c).out d (x _ _ O z e)).mono (US _)).congr λm=>?_;have G:¬(g.mem (K.aL i)=m/\g.row (K.aL i)=r):=λh=>e h.2.symm;rw[show cO g K (i+1) m r=cO g K i m r from aq G];cases L:cO g K i m r with
   |none=>rfl
   |some j=>have:=(dz L).1;simp only[QY];rw[aq aa]
 .by_cases e:j=i
  .subst e;simp only[if_true];exact T.out d l
  .simp only[aq e];exact((Q j aa).below c).out d l
theorem jV.vW{o:Nat->QC}(h:jV g K w n i f o z){b q s:Nat}(t:K.aL i=b/\g.row b=q/\g.mem b=s)(p:au z W)(u:aY g K i q=true):
  (KM W n (i+1) λr=>if aY g K (i+1) r=true then some (.map (some (f r)))else none)/\
  (∀r,aY g K (i+1) r=true->w.heap.size<=f r/\f r≠n/\KM W (f r) i λm=>(cO g K i m r).map λj=>.agg #[Y m,Y r,o j])/\
  (∀r d,aY g K (i+1) r=true->aY g K (i+1) d=true->r≠d->f r≠f d)/\(∀j,j<i->dT W (o j) (K.da j)):=by
 obtain⟨rfl,rfl,rfl⟩:=t;have e:∀r,aY g K (i+1) r=aY g K i r:=λr=>by
  show(g.row (K.aL i)==r||aY g K i r)=aY g K i r;by_cases e:g.row (K.aL i)=r
  .rw [<-e,u];simp
  .simp [e]
 refine⟨((h.outer.below p).mono (US _)).congr λr=>by rw[e r],λr k=>?_,λr d k l=>?_,λj v=>(h.iQ j v).below p⟩
 .rw [e r]at k;obtain⟨a,b,c⟩:=h.inner r k;exact⟨a,b,c.below p⟩
 .rw [e r]at k;rw[e d]at l;exact h.apart r d k l
theorem jV.fresh{w wr W t:QA}{B:Nat->QC}(h:jV g K w n i f B wr){b q O:Nat}(P:K.aL i=b/\g.row b=q/\g.mem b=O)(F:au wr W)(G:aY g K i q=false)(z:Out (λk=>k=n) (W.alloc (.map #[] 0)) t)(C:KM t n (i+1) λr=>if r=q then some (.map (some W.heap.size))else if aY g K i r=true then some (.map (some (f r)))else none):
  (KM t n (i+1) λr=>if aY g K (i+1) r=true then some (.map (some (if r=q then W.heap.size else f r)))else none)/\
  (∀r,aY g K (i+1) r=true->w.heap.size<=(if r=q then W.heap.size else f r)/\(if r=q then W.heap.size else f r)≠n/\KM t (if r=q then W.heap.size else f r) i λm=>(cO g K i m r).map λj=>.agg #[Y m,Y r,B j])/\
  (∀r l,aY g K (i+1) r=true->aY g K (i+1) l=true->r≠l->(if r=q then W.heap.size else f r)≠(if l=q then W.heap.size else f l))/\(∀j,j<i->dT t (B j) (K.da j))/\au w t:=by
 obtain⟨rfl,rfl,rfl⟩:=P;have e:∀r,aY g K (i+1) r=(decide (r=g.row (K.aL i))||aY g K i r):=λr=>by
  show(g.row (K.aL i)==r||aY g K i r)=_;congr 1;by_cases e:r=g.row (K.aL i)
  .simp [e]
  .simp [e,Ne.symm e]
 have Q:=h.outer.lt;have T:=F.size;have U:=h.dw.size;have s:au wr (W.alloc (.map #[] 0)):=aI F _;have v:∀r,aY g K i r=true->f r<wr.heap.size:=λr p=>(h.inner r p).2.2.lt;refine⟨C.congr λr=>?_,λr p=>?_,λr l p d x=>?_,λj V=>((h.iQ j V).below s).out z ?_,?_⟩
 .rw [e r];by_cases e:r=g.row (K.aL i)
  .simp [e]
  .simp [e]
 .rw [e r]at p;by_cases e:r=g.row (K.aL i)
  .rw [ao e];refine⟨J,J,?_⟩;refine(((KM.made W).out z J).mono (QN _)).congr λm=>?_;cases X:cO g K i m r with
   |none=>rfl
   |some j=>obtain⟨Z,N,L⟩:=dz X;rw[e]at L;rw[dh.2 ⟨j,Z,L⟩]at G;cases G
  .rw [aq e];simp[e]at p;obtain⟨a,b,c⟩:=h.inner r p;exact⟨a,b,(c.below s).out z b⟩
 .rw [e r]at p;rw[e l]at d;by_cases A:r=g.row (K.aL i)
  .have u:¬l=g.row (K.aL i):=λh=>x (by rw[A,h]);simp[u]at d;rw[ao A,aq u];have:=v l d;omega
  .simp [A]at p;rw[aq A];by_cases u:l=g.row (K.aL i)
   .rw [ao u];have:=v r p;omega
   .simp [u]at d;rw[aq u];exact h.apart r l p d x
 .intro k o C y;subst C;obtain⟨D,⟨M,R,H,_⟩,_⟩:=(h.outer.below s).own;rw[H]at y;cases y;exact hO _ _
 .have E:au w (W.alloc (.map #[] 0)):=h.dw.trans (s.mono h.dw.size);exact(Out.trans (S:=λk=>w.heap.size<=k) (Out.af E) z λk _ e=>by rw[e];exact h.OT).below (λ_ _ h=>h) (QH _)
def bq.bU(g:az)(B:bq)(r:Nat):List Pt:=(B.nG g r).map λm=>(m,r,B.iQ g m r)
def bq.fD(g:az)(B:bq):List (List Pt):=(B.eR g).map (B.bU g)
def Na(g:az)(B:bq)(w:M)(e:RW)(a:M):Prop:=∃v,aK e (.tuple #[v,aG 0])/\IS a v (B.fD g)/\au w a
theorem jV.rows{b:Nat->QC}(c:g.ok)(d:K.ok g)(_:jV g K w n K.n f b W):(∀a,g.R<=a->(if aY g K K.n a=true then some (Value.map (some (f a)))else none)=none)/\(bQ g.R λa=>(if aY g K K.n a=true then some (Value.map (some (f a)))else none).isSome)=K.eR g:=by
 refine⟨λa j=>?_,?_⟩
 .rw [aq];intro h;obtain⟨i,e,rfl⟩:=dh.1 h;have:=az.iN c (d.aL i e);omega
 .unfold bq.eR;congr 1;funext a;cases aY g K K.n a<;>rfl
theorem jV.Nb{b:Nat->QC}(c:g.ok)(_:jV g K w n K.n f b W)(r:Nat):(∀a,g.M<=a->((cO g K K.n a r).map λj=>Value.agg #[Y a,Y r,b j])=none)/\(bQ g.M λa=>((cO g K K.n a r).map λj=>Value.agg #[Y a,Y r,b j]).isSome)=K.nG g r:=by
 refine⟨λa e=>?_,?_⟩
 .cases d:cO g K K.n a r with
  |none=>rfl
  |some i=>obtain⟨_,h,_⟩:=dz d;have:=az.kt c (K.aL i);omega
 .unfold bq.nG;congr 1;funext a;unfold bq.gd;rw[Option.isSome_map]
theorem zP:(prog.info? 206).map (λi=>(i.zero,i.size,i.bytes))=some (some (.agg #[Y 0,Y 0,aW]),3,40):=ai
theorem Nc:(prog.info? 162).map (λi=>(i.zero,i.size,i.bytes))=some (some aW,1,24):=ai
end Go.Proofs.YtbimjlmclegaeaaGreat
