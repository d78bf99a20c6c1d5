/- TopWhole: a member replaced and rebuilt is whole, and any other may fail then; part 1 of 6. Conditions: none. -/
import Derived.Test.YtbimjlmclegaeaaGreatProg
import Derived.Handy
import Derived.Lib.Hide
import Derived.OneCell
import Derived.Laws.CopyOwn
import Derived.Lib.Bytes
import Derived.WalkSpells
import Derived.WalkLawsBesides
import Derived.StillTailTactics
import Derived.Deep.RegionHeld3
import Derived.Deep.DeepCutAuto
import Derived.Deep.CutBlock
import Derived.Deep.AppendLies
import Derived.Deep.WholeRow
import Derived.Lib.AppendZeros
import Derived.Shelf.SlIterI.Nil
import Derived.Shelf.SortM.Plain
import Derived.Shelf.SortM.SortNone
import Derived.Great.Walk
import Derived.Shelf.SlSortCmp.WholeK
import Derived.RangeFuncNested
import Derived.Laws.EntriesVeiled
import Derived.Test.YtbimjlmclegaeaaGreatRows
import Derived.Lib.SmallJoins
import Derived.Deep.SlicePairs
import Derived.Lib.BufferWrite
namespace Go.Proofs.YtbimjlmclegaeaaGreat
set_option linter.all false
set_option maxRecDepth 1000000
set_option maxHeartbeats 8000000
open Go.RowKit Go.Proofs.Tryz
open Go renaming World->QL,World->M,Value->QN,results->RV,Ending->SG,Addr->TF,run_underlying->TH,TypeId->TI,MapEntry->TO,madeCells->UB,maxLen->UT,callFunc->UY,splice->YQ
open Go.IntKind renaming i64->QQ,u64->VY
open List renaming getElem_cons_zero->QS,getElem_cons_succ->QT,getElem_toArray->QU,length_append->RE,length_map->RL,getElem?_map->RU,mem_map->SA,getElem?_range->SP,length_cons->SQ,mem_singleton->TC,append_assoc->TK,getElem?_take->TT,map_cons->UC,range->UD,mem_range->UJ,append_nil->UK,mem_cons->UR,range_succ->UW,cons_append->VB,nil_append->VE,getElem_map->VO,length->WD,size_toArray->WJ,getElem?_toArray->XK,replicate->XZ,map_nil->YA,modify_zero_cons->ZA,modify_succ_cons->ZB,length_replicate->ZD
open Go.RowKit renaming Hid->RH,Below->SM,wrap64->XE
open Option renaming map_some->RJ,getD_some->TQ,map_none->VP,map_map->YY
open Nat renaming zero_add->RQ,mod_eq_of_lt->SL,mul_one->UI,add_assoc->UZ,add_zero->VU,add_sub_cancel->WB,xor_assoc->XV,mod_eq_sub_mod->YD,mod_one->YP
open Go.Result renaming andThen_ok->RR,ok->ZE
open Go.Act renaming put->SC,eval->WH
open Go.World renaming size_setCell->SE
open Go.Value renaming slice->SF,int->SU,ownBlock->XA
open Go.Sem renaming run_bind->SJ,run_pure->VK
open Bool renaming false_eq_true->SX,and_eq_true->VX
open Option.some renaming injEq->SZ
open Go.IntWalk renaming i64_in->TD
open Go.Instr renaming makeSlice->TL,mapUpdate->TN,lookup->VJ,checkKey->VM,keyThatStays->WT,findNow->XL,findKey->XO,sameBits->XW
open Go.Fence renaming wide->UF
open List.cons renaming injEq->UO
open BitVec renaming ofInt->UU
open Go.Proofs.Tryz renaming underlying41->UX,prog->VW
open Go.Region renaming wanted->VT
open _root_.Array renaming toList_modify->VV
open Int renaming emod_lt_of_pos->WC,emod_nonneg->WY,ediv_nonneg->ZT
open UInt8 renaming ofNat->WK
open Go.DataW renaming insert->XT
open Go.WideElems renaming rg->YU
open Go.Shelf renaming Ren->ZP
def QM:=@heap_alloc_new
def QO:=@Nat.le_trans
def QP:=@Nat.le_refl
def QX:=@Nat.zero_le
def QY:=@World.block_lt_of_cell?
def QZ:=@World.cell?_of_block
def RA:=@List.getElem?_eq_getElem
def RB:=@bodyPost_ret
def RC:=@List.getElem?_eq_some_iff
def RD:=@cell_of_row
def RF:=@List.mem_of_getElem?
def RG:=@Below.heap_alloc
def RI:=@Go.Lib.hid
def RK:=@List.getElem?_append_right
def RM:=@_root_.Array.getElem?_eq_some_iff
def RN:=@List.getElem?_append_left
def RO:=@List.getElem?_eq_none
def RP:=@enters_of
def RS:=@Nat.lt_of_lt_of_le
def RZ:=@Below.heap_setCell
def SB:=@Nat.mod_lt
def SD:=@Nat.not_lt_zero
def SH:=@_root_.Array.getElem?_eq_getElem
def SI:=@World.news_of_block
def SN:=@info_parts
def SO:=@List.mem_cons_self
def SR:=@List.map_append
def SS:=@World.ownsRow_nil
def SV:=@Below.refl
def SY:=@List.mem_cons_of_mem
def TE:=@World.putObj_heap_same
def TG:=@World.size_alloc
def TJ:=@Nat.mul_le_mul
def TS:=@Int.natCast_mul
def TU:=@World.putObj_heap_other
def TZ:=@List.ext_getElem?
def UE:=@List.eq_nil_of_length_eq_zero
def UH:=@List.mem_iff_getElem?
def UL:=@underlying5
def US:=@Int.tmod_eq_emod_of_nonneg
def VA:=@callsIn_wide
def VC:=@Nat.le_succ
def VH:=@List.map_congr_left
def VI:=@List.flatMap_append
def VL:=@Nat.mul_comm
def VN:=@List.length_take
def VR:=@Int.tdiv_eq_ediv_of_nonneg
def VS:=@List.length_filter_le
def WM:=@Option.isSome_iff_exists
def WN:=@Nat.mul_le_mul_right
def WO:=@List.all_eq_true
def WV:=@Nat.min_eq_left
def WW:=@Nat.div_add_mod
def WZ:=@World.putObj_size
def XF:=@BitVec.ofInt_natCast
def XN:=@List.any_eq_true
def XP:=@underlying3
def XU:=@BitVec.toNat_ofNat
def YB:=@ownsRow_setCell_other
def YC:=@Nat.xor_lt_two_pow
def YF:=@List.findIdx?_eq_none_iff
def YJ:=@List.pairwise_map
def YM:=@underlying82
def YR:=@List.take_of_length_le
def YT:=@List.getElem_mem
def ZF:=@underlying338
def ZG:=@World.cell?_alloc_lt
def ZK:=@Nat.add_comm
def ZL:=@List.mem_iff_getElem
def ZS:=@Nat.min_le_left
variable {w W z:World}{n m k i j r C:Nat}{c:Int}{v x y:Value}{T:List Nat}{p:Addr}{P:Option Addr}{A:Array Value}{d:Bool}{S Q X:Nat->Prop}{t:TypeId}{L:List Value}{O:Obj}
theorem aa{p:Prop}(h:p:=by omega):p:=h
theorem ai{p:Prop}(h:p:=by decide):p:=h
theorem aE{p:Prop}(h:p:=by kernel_rfl):p:=h
theorem aJ{p:Prop}(h:p:=by simp):p:=h
theorem aQ{p:Prop}(h:p:=by simp;omega):p:=h
theorem bf{p:Prop}(h:p:=by go_arith):p:=h
theorem bC{p:Prop}(h:p:=by go_grown):p:=h
theorem dI{p:Prop}(h:p:=by go_size):p:=h
theorem OS{p:Prop}(h:p:=by simp[*,go_sem];done):p:=h
theorem ak{c:Prop}{h:Decidable c}(a:c){α:Sort _}{t e:α}:ite c t e=t:=if_pos a
theorem al{c:Prop}{h:Decidable c}(a:¬c){α:Sort _}{t e:α}:ite c t e=e:=if_neg a
theorem ad{p:Prop}(h:p):Hid p:=h
theorem ah{α:Sort _}(a:α):∃x,a=x:=⟨a,rfl⟩
abbrev ae(n:Int):Value:=.int .i64 n
abbrev aG(n:Int):Value:=.int .u16 n
abbrev bs(n:Int):Value:=.int .u8 n
abbrev bj(n:Int):Value:=.int .u64 n
abbrev ao(a:Array Value)(T:TypeId):Obj:=.cells a T (0,0)
abbrev aU:Value:=.slice none 0 0
abbrev dU:Value:=.bool true
abbrev iD:Value:=.bool false
abbrev aZ(w:World)(b:Nat)(o:Obj):Prop:=w.heap[b]?=some o
abbrev aK(e:Ending)(v:Value):Prop:=e=.returned v
abbrev aq(b:Nat):Value:=.pointer (some ⟨b,0,none⟩)
abbrev a_(b n c:Nat):Value:=.slice (some ⟨b,0,none⟩) n c
abbrev ag(b i:Nat):Addr:=⟨b,i,none⟩
abbrev ar(w v:World):Prop:=Below w.heap.size w v
theorem aj{B:Nat}{w:World}:Below B w w:=.refl _ _
abbrev aD:=Calls Tryz.prog
theorem nH(w:World)(X:Obj):∃u,w.alloc X=u/\Below w.heap.size w u/\u.heap[w.heap.size]?=some X:=⟨_,rfl,aj.alloc (Nat.le_refl _) _,heap_alloc_new _ _⟩
theorem dQ(w:World)(X:Obj):∃u G,w.alloc X=u/\w.heap.size=G/\Below w.heap.size w u/\u.heap[G]?=some X:=⟨_,_,rfl,rfl,aj.alloc (Nat.le_refl _) _,heap_alloc_new _ _⟩
abbrev aO:=Nat->Nat
variable {f:aO}
abbrev dj:=Nat->Nat->Nat
variable {F:dj}
abbrev bW:=Nat->Nat->Nat->Nat
theorem aA{a b:Prop}(c:a)(d:b):Hid (a/\b):=⟨c,d⟩
theorem aM{a b c:Prop}(d:a)(e:b)(f:c):Hid (a/\b/\c):=⟨d,e,f⟩
theorem aS{a b c d:Prop}(e:a)(f:b)(g:c)(h:d):Hid (a/\b/\c/\d):=⟨e,f,g,h⟩
theorem bX{a b c d e:Prop}(f:a)(g:b)(h:c)(i:d)(x4:e):Hid (a/\b/\c/\d/\e):=⟨f,g,h,i,x4⟩
theorem eM{a b c d e f:Prop}(g:a)(h:b)(i:c)(j:d)(x4:e)(k:f):Hid (a/\b/\c/\d/\e/\f):=⟨g,h,i,j,x4,k⟩
theorem jY{a b c d e f g:Prop}(h:a)(i:b)(j:c)(k:d)(x4:e)(l:f)(m:g):Hid (a/\b/\c/\d/\e/\f/\g):=⟨h,i,j,k,x4,l,m⟩
theorem HP{a b c d e f g h:Prop}(i:a)(j:b)(k:c)(l:d)(x4:e)(m:f)(n:g)(o:h):Hid (a/\b/\c/\d/\e/\f/\g/\h):=⟨i,j,k,l,x4,m,n,o⟩
theorem HQ{a b c d e f g h i:Prop}(j:a)(k:b)(l:c)(m:d)(x4:e)(n:f)(o:g)(p:h)(q:i):Hid (a/\b/\c/\d/\e/\f/\g/\h/\i):=⟨j,k,l,m,x4,n,o,p,q⟩
theorem II{a b c d e f g h i j:Prop}(k:a)(l:b)(m:c)(n:d)(x4:e)(o:f)(p:g)(q:h)(r:i)(s:j):Hid (a/\b/\c/\d/\e/\f/\g/\h/\i/\j):=⟨k,l,m,n,x4,o,p,q,r,s⟩
theorem MT{a b c d e f g h i j k:Prop}(m:a)(n:b)(o:c)(p:d)(x4:e)(q:f)(r:g)(s:h)(t:i)(u:j)(l:k):Hid (a/\b/\c/\d/\e/\f/\g/\h/\i/\j/\k):=⟨m,n,o,p,x4,q,r,s,t,u,l⟩
theorem MU{a b c d e f g h i j k l:Prop}(o:a)(p:b)(q:c)(r:d)(x4:e)(s:f)(t:g)(u:h)(v:i)(w:j)(m:k)(n:l):Hid (a/\b/\c/\d/\e/\f/\g/\h/\i/\j/\k/\l):=⟨o,p,q,r,x4,s,t,u,v,w,m,n⟩
theorem J{p:Prop}(h:p:=by omega):p:=h
theorem I{p:Prop}(h:p):Hid p:=h
abbrev Y(n:Int):Value:=.int .i64 n
abbrev N(a:Array Value)(T:TypeId):Obj:=.cells a T (0,0)
abbrev H(b:Nat):Value:=.pointer (some ⟨b,0,none⟩)
abbrev R(b i:Nat):Addr:=⟨b,i,none⟩
section
theorem cr{w:M}{b:Nat}{a:Array QN}{T:TI}(h:aZ w b (.cells a T (0,0))):(∀o,w.cell? (R b o)=a[o]?)/\(∀o,w.frozen? (R b o)=false)/\b<w.heap.size:=
 ⟨λo=>RD w b o a T (0,0) h,λo=>frozen_of_row w b o a T h,(RM.1 h).1⟩
theorem via{w W a:M}(h:ar w W)(b:ar W a):ar w a:=h.trans (b.mono h.size)
theorem aI{w W:M}(h:ar w W)(o:Obj):ar w (W.alloc o):=h.alloc h.size o
theorem ct{B:Nat}{w W:M}(h:SM B w W)(n:Nat):SM B w (W.drewN n):=h.trans ⟨rfl,rfl,rfl,QP _,λ_ _=>rfl⟩
theorem kp{W a:M}(b:ar W a)(B:Nat)(h:B<W.heap.size):(∀o,a.cell? (R B o)=W.cell? (R B o))/\(∀o,a.frozen? (R B o)=W.frozen? (R B o))/\B<a.heap.size:=
 ⟨λo=>b.cell (p:=R B o) h,λo=>b.frozen (p:=R B o) h,RS h b.size⟩
theorem fg(w:M)(A B:Obj):((w.alloc A).alloc B).heap[w.heap.size+1]?=some B:=
 (congrArg (λi=>((w.alloc A).alloc B).heap[i]?) (TG _ _).symm).trans (QM _ _)
theorem fX(w:M)(A B:Obj):((w.alloc A).alloc B).heap[w.heap.size]?=some A:=
 (RG (w.alloc A) B _ aJ).trans (QM _ _)
def cB(L:Nat)(f:aO):Array QN:=((UD L).map λk=>SU .u8 (f k)).toArray
theorem eu(L:Nat)(f:aO)(k:Nat)(h:k<L):(cB L f)[k]?=some (.int .u8 (f k)):=by simp[cB,h]
theorem gi(L:Nat)(f:aO):(cB L f).size=L:=by simp[cB]
theorem ko(L:Nat)(g a:aO)(h:∀x,x<L->g x=a x):cB L g=cB L a:=by unfold cB;congr 1;apply VH;intro x b;rw[h x (by simpa using b)]
theorem tE(L:Nat)(g:aO)(x v:Nat):(cB L g).setIfInBounds x (.int .u8 v)=cB L (λy=>if y=x then v else g y):=by
 apply Array.ext
 .simp [cB]
 .intro i b c;by_cases h:x=i
  .subst h;simp[cB]
  .have a:¬i=x:=λe=>h e.symm;simp[cB,h,a]
def lX(w:M)(v:QN)(n:Nat)(f:aO):Prop:=
 ∃a c,v=.slice a n c/\(n=0\/∃b o,a=some (R b o)/\∀k,k<n->w.cell? ⟨b,o+k,none⟩=some (.int .u8 (f k)))
theorem lX.cS{w d:M}{v:QN}{n:Nat}{f:aO}(h:lX w v n f)(i:ar w d):lX d v n f:=by
 obtain⟨a,c,j,h⟩:=h;refine⟨a,c,j,?_⟩;rcases h with h|⟨b,o,l,e⟩
 .exact .inl h
 .refine .inr ⟨b,o,l,λk g=>?_⟩;rw[i.cell (p:=⟨b,o+k,none⟩) (QY w _ (e k g))];exact e k g
structure Out(S:Nat->Prop)(w w1:M):Prop where
 os:w1.os=w.os
 tape:w1.tape=w.tape
 output:w1.output=w.output
 size:w.heap.size<=w1.heap.size
 block:∀k,k<w.heap.size->¬S k->w1.heap[k]? =w.heap[k]?
theorem Out.refl(S:Nat->Prop)(w:M):Out S w w:=⟨rfl,rfl,rfl,QP _,λ_ _ _=>rfl⟩
theorem Out.mono{S T:Nat->Prop}{a b:M}(h:Out S a b)(d:∀k,k<a.heap.size->S k->T k):Out T a b:=
 ⟨h.os,h.tape,h.output,h.size,λk c e=>h.block k c λf=>e (d k c f)⟩
theorem Out.trans{S T:Nat->Prop}{a b c:M}(h:Out S a b)(k:Out T b c)(f:∀k,k<a.heap.size->T k->S k):Out S a c:=
 ⟨k.os.trans h.os,k.tape.trans h.tape,k.output.trans h.output,QO h.size k.size,λi d e=>(k.block i (RS d h.size) λg=>e (f i d g)).trans (h.block i d e)⟩
theorem Out.tr{S:Nat->Prop}{a b c:M}(h:Out S a b)(k:Out S b c):Out S a c:=h.trans k λ_ _ h=>h
theorem Out.af{S:Nat->Prop}{w a:M}(h:ar w a):Out S w a:=⟨h.os,h.tape,h.output,h.size,λk b _=>h.block k b⟩
theorem Out.then{S:Nat->Prop}{a b c:M}(h:Out S a b)(k:ar b c):Out S a c:=h.tr (Out.af k)
theorem Out.below{S:Nat->Prop}{B:Nat}{w a:M}(h:Out S w a)(b:∀k,k<w.heap.size->S k->B<=k)(d:B<=w.heap.size):SM B w a:=
 ⟨h.os,h.tape,h.output,h.size,λk e=>h.block k J λc=>by have:=b k J c;omega⟩
theorem Out.alloc{S:Nat->Prop}{a w:M}(h:Out S a w)(o:Obj):Out S a (w.alloc o):=
 h.tr ⟨rfl,rfl,rfl,aJ,λk b _=>RG _ _ _ b⟩
theorem Out.drewN{S:Nat->Prop}{a w:M}(h:Out S a w)(n:Nat):Out S a (w.drewN n):=h.tr ⟨rfl,rfl,rfl,QP _,λ_ _ _=>rfl⟩
theorem Out.drew{S:Nat->Prop}{a w:M}(h:Out S a w):Out S a w.drew:=h.tr ⟨rfl,rfl,rfl,QP _,λ_ _ _=>rfl⟩
theorem Out.setCell{S:Nat->Prop}{a w:M}(h:Out S a w){p:TF}(d:p.block<a.heap.size->S p.block)(u:QN):Out S a (w.setCell p u):=
 ⟨h.os,h.tape,h.output,by simp only[SE];exact h.size,λk b c=>(RZ _ _ _ _ λe=>by subst e;exact c (d b)).trans (h.block k b c)⟩
theorem Out.grown{S:Nat->Prop}{a w f:M}{b:Option Nat}(h:Out S a w)(c:w.grownBy f b)(i:∀k,b=some k->k<a.heap.size->S k):Out S a f:=
 ⟨c.os.trans h.os,c.tape.trans h.tape,c.output.trans h.output,QO h.size c.size,λk d g=>(c.block k (RS d h.size) λe=>g (i k e.symm d)).trans (h.block k d g)⟩
theorem Out.heap{S:Nat->Prop}{w a:M}(h:Out S w a){b:Nat}{o:Obj}(c:aZ w b o)(d:¬S b):a.heap[b]?=some o:=
 (h.block b (RM.1 c).1 d).trans c
theorem Out.own{S:Nat->Prop}{w d:M}(h:Out S w d){a:Nat}{e:TI}{size:Nat}{v:QN}{n:Nat}{xs:List QN}(f:w.ownsRow a e size v n xs)(i:∀k,v.ownBlock=some k->¬S k):d.ownsRow a e size v n xs:=by
 refine⟨f.1,?_⟩;rcases f.2 with j|⟨g,b,c,rfl,l,m,r⟩
 .exact .inl j
 .exact .inr ⟨g,b,c,rfl,l,h.heap m (i g rfl),r⟩
theorem aP{w b:M}(h:ar w b){a:Nat}{e:TI}{size:Nat}{v:QN}{n:Nat}{xs:List QN}(c:w.ownsRow a e size v n xs):b.ownsRow a e size v n xs:=
 (Out.af (S:=λ_=>False) h).own c λ_ _ h=>h
theorem Fy{w:M}{a:Nat}{e:TI}{g n b:Nat}{xs:List QN}(h:w.ownsRow a e 1 (a_ g n b) n xs)(k:Nat)(u:QN):(w.setCell (R g k) u).ownsRow a e 1 (a_ g n b) n (xs.set k u):=by
 refine⟨by rw[List.length_set];exact h.1,?_⟩;rcases h.2 with⟨c,_⟩|⟨q,f,d,c,i,j,l,m,o,p⟩
 .cases c
 .cases c;refine .inr ⟨g,b,_,rfl,i,heap_setCell_same w g k d e u j,l,m,by simpa using o,?_⟩;rw[<-p];simp[List.take_set]
theorem oj{w:M}{a:Nat}{e:TI}{g n c:Nat}{xs:List QN}(h:w.ownsRow a e 1 (a_ g n c) n xs){k:Nat}{u:QN}(f:xs[k]?=some u):w.cell? (R g k)=some u/\w.frozen? (R g k)=false:=by
 rcases h.2 with⟨d,_⟩|⟨m,i,b,d,o,j,p,q,r,l⟩
 .cases d
 .cases d;refine⟨?_,frozen_of_row w g k b e j⟩;rw[RD w g k b e (0,0) j,<-f,<-l,TT,ak]
  .simp
  .have:=(RC.1 f).1;rw[h.1]at this;exact this
def nI(s:Nat)(W:M)(v:QN)(n m:Nat)(b:QN)(c:M):Prop:=
 (∃g a,v= a_ g n a/\b= a_ g (n+m) a/\W.grownBy c (some g))\/((∃a,b= a_ s (n+m) a)/\W.grownBy c none)
theorem nI.cS{s:Nat}{W f:M}{h a:QN}{N q:Nat}(l:nI s W h N q a f){b:Nat}{e:TI}{i m:Nat}{y:QN}{xs:List QN}(j:W.ownsRow b e i y m xs)(c:∀k,y.ownBlock=some k->h.ownBlock≠some k):f.ownsRow b e i y m xs:=by
 rcases l with⟨g,cap,rfl,rfl,d⟩|⟨⟨cap,rfl⟩,d⟩
 .exact j.kept d (.inr λe=>c g e rfl)
 .exact j.kept d (by cases y.ownBlock<;>simp)
theorem nI.block{s:Nat}{W d:M}{c a:QN}{N q:Nat}(e:nI s W c N q a d){k:Nat}(b:a.ownBlock=some k):c.ownBlock=some k\/k=s:=by
 rcases e with⟨g,cap,rfl,rfl,f⟩|⟨⟨cap,rfl⟩,f⟩
 .exact .inl (by simpa[XA]using b)
 .simp [XA]at b;exact .inr b.symm
theorem nI.out{s:Nat}{a W e:M}{f b:QN}{N q:Nat}{S:Nat->Prop}(i:nI s W f N q b e)(h:Out S a W)(j:∀k,f.ownBlock=some k->k<a.heap.size->S k):Out S a e:=by
 rcases i with⟨g,cap,rfl,rfl,c⟩|⟨⟨cap,rfl⟩,c⟩
 .exact h.grown c λk d=>by cases d;exact j _ rfl
 .exact h.grown c λk d=>by cases d
theorem nI.heap{s:Nat}{W d:M}{a b:QN}{N q:Nat}(e:nI s W a N q b d){p:Nat}{o:Obj}(h:aZ W p o)(c:a.ownBlock≠some p):d.heap[p]?=some o:=
 (e.out (S:=λk=>a.ownBlock=some k) (Out.refl _ _) λ_ h _=>h).heap h c
theorem nI.below{s B:Nat}{a W e:M}{f b:QN}{N q:Nat}(j:nI s W f N q b e)(h:SM B a W)(i:B<=W.heap.size)(l:∀k,f.ownBlock=some k->B<=k):SM B a e:=by
 rcases j with⟨g,cap,rfl,rfl,c⟩|⟨⟨cap,rfl⟩,c⟩
 .exact h.grown c i λk d=>by cases d;exact l _ rfl
 .exact h.grown c i λk d=>by cases d
section
variable {P:Program} (w:QL)
theorem iJ(l:Nat)(t ty e:TI)(i:TypeInfo)(z:QN)(size bytes:Nat)(L:P.underlying t=some (.slice e))(O:P.info? e=some i)(S:i.zero=some z)(q:i.size=size)(D:i.bytes=bytes)(T:z.cells.size=size)(U:0<size)(v:QN)(n:Nat)(xs:List QN)(p:w.ownsRow l e size v n xs)(a:TF)(m c:Nat)(b:List QN)(E:b.length=m*size)(d:∀j u,b[j]?=some u->w.cell? (a.add j)=some u)(Z:∀u∈b,u.oneCell'=true)(H:0<m)(F:n+m<=UT)(f:(n+m)*bytes<=140737488355328)(x:l<=w.heap.size):
  ∃B C,(Builtin.append_ #[t,t] ty #[v,.slice (some a) m c]).run P w=.ok B C/\C.ownsRow l e size B (n+m) (xs++b)/\
   ((∃g h,v= a_ g n h/\B= a_ g (n+m) h/\w.grownBy C (some g))\/((∃h,B= a_ w.heap.size (n+m) h)/\w.grownBy C none)):=by
 obtain⟨B,C,y,N,M,-⟩:=run_append_own (P:=P) w l t ty e i z size bytes L O S q D T U v n xs p a m c b E d Z F f x;refine⟨B,C,y,N,?_⟩;subst q;subst D;have Q:n+m<=9223372036854775807:=by simp only[UT]at F;omega
 have r:∀o,w.grownBy (w.drew.alloc o) none:=λo=>⟨rfl,rfl,rfl,aJ,λk R _=>RG w.drew o k R⟩;rcases p.2 with⟨rfl,rfl⟩|⟨g,h,G,rfl,I,V,Y,J,W,X⟩
 .have:=run_append_nil (P:=P) w t ty e i z L O S a m c b E d H aa (by have a0:=f;simp only[RQ]at a0;omega);rw[this]at y;cases y;exact .inr ⟨⟨_,by rw[RQ]⟩,r _⟩
 .by_cases s:n+m<=h
  .have K:n*i.size+b.length<=G.size:=by rw[E,W,<-Nat.add_mul];exact WN _ s
   have:=run_append_room (P:=P) w t ty e i L O g n h G V a m c b E d Z s K;rw[this]at y;cases y;exact .inl ⟨g,h,rfl,rfl,M⟩
  .have A:∀j u,xs[j]?=some u->w.cell? (((ag g 0):TF).add j)=some u:=p.cells (g:=g) rfl;have:=run_append_grow (P:=P) w t ty e i z L O S (ag g 0) n h xs p.1 A a m c b E d aa aa (growslice_fits aa f);rw[this]at y;cases y;exact .inr ⟨⟨_,rfl⟩,r _⟩
theorem aT{q:Array Oper}{g:List Oper}{o:Oper}{a:Act}{Q:Exit->Act->QL->Prop}(B:o.guard=none)(s x:Operand)(t:TI)(L:o.op=.call {callee:=.builtin .append,args:= #[s,x],argTypes:= #[t,t]})(d:Nat)(e:TI)(i:TypeInfo)(z:QN)(size bytes:Nat)(O:P.underlying t=some (.slice e))(S:P.info? e=some i)(T:i.zero=some z)(k:i.size=size)(C:i.bytes=bytes)(D:z.cells.size=size)(E:0<size)(v:QN)(n:Nat)(xs:List QN)(U:a.eval s=v)(r:w.ownsRow d e size v n xs)(F:TF)(m c:Nat)(b:List QN)(V:a.eval x=.slice (some F) m c)(W:b.length=m*size)(l:∀j u,b[j]?=some u->w.cell? (F.add j)=some u)(X:∀u∈b,u.oneCell'=true)(Z:0<m)(G:n+m<=UT)(f:(n+m)*bytes<=140737488355328)(p:d<=w.heap.size)(h:∀y A,A.ownsRow d e size y (n+m) (xs++b)->nI w.heap.size w v n m y A->wpList P q Q g (a.put o.dst y) A):wpList P q Q (o::g) a w:=
 wpList_plain B λK H=>by obtain⟨y,A,N,M,R⟩:=iJ (P:=P) w d t o.type e i z size bytes O S T k C D E v n xs r F m c b W l X Z G f p;unfold Oper.wp execOp;simp only[L,resolve,invoke,builtin,SJ,VK,RR,List.map_toArray,UC,YA,U,V,N];exact H _ _ (h y A M R)
end
theorem eX{w:M}{c:Nat}{e:TI}{v:QN}{n:Nat}{xs:List QN}(h:w.ownsRow c e 1 v n xs):∃a b,v=.slice a n b/\n<=b/\(n=0\/∃g,a=some (R g 0)):=by
 rcases h.2 with⟨rfl,rfl⟩|⟨g,b,d,rfl,_,_,f,_⟩
 .exact ⟨none,0,rfl,QP _,.inl rfl⟩
 .exact ⟨_,_,rfl,f,.inr ⟨g,rfl⟩⟩
def az(L:Nat)(f:aO):List QN:=(UD L).map λk=>SU .u8 (f k)
theorem aH(L:Nat)(f:aO):(az L f).length=L:=by simp[az]
theorem a'(L:Nat)(f:aO)(k:Nat)(h:k<L):(az L f)[k]?=some (.int .u8 (f k)):=by simp[az,h]
theorem df(L:Nat)(f:aO):∀u∈az L f,u.oneCell'=true:=by intro u a;simp only[az,SA]at a;obtain⟨q,_,rfl⟩:=a;rfl
theorem ee{L:Nat}{f g:aO}(h:∀k,k<L->f k=g k):az L f=az L g:=by unfold az;apply VH;intro x a;rw[h x (by simpa using a)]
theorem iK(b o q:Nat):((R b o):TF).add q=⟨b,o+q,none⟩:=by unfold Addr.add;split<;>simp_all
def PC(X:Nat->Prop)(w:M)(v:QN)(n:Nat)(f:aO):Prop:=
 ∃a c,v=.slice a n c/\(n=0\/∃b o,a=some (R b o)/\¬X b/\∀k,k<n->w.cell? ⟨b,o+k,none⟩=some (.int .u8 (f k)))
theorem Out.cell{S:Nat->Prop}{w a:M}(h:Out S w a){p:TF}{v:QN}(b:w.cell? p=some v)(c:¬S p.block):a.cell? p=some v:=by rw[QZ (h.block p.block (QY w _ b) c)];exact b
theorem tF{w:M}{a:Nat}{e:TI}{g n b f:Nat}{xs:List QN}(h:w.ownsRow a e f (a_ g n b) n xs)(k:Nat)(u:QN):(w.setCell (R g k) u).ownsRow a e f (a_ g n b) n (xs.set k u):=by
 refine⟨by rw[List.length_set];exact h.1,?_⟩;rcases h.2 with⟨c,_⟩|⟨r,i,d,c,j,l,m,o,p,q⟩
 .cases c
 .cases c;refine .inr ⟨g,b,_,rfl,j,heap_setCell_same w g k d e u l,m,o,by simpa using p,?_⟩;rw[<-q];simp[List.take_set]
theorem bx{w:M}{a:Nat}{e:TI}{g n c l:Nat}{xs:List QN}(h:w.ownsRow a e l (a_ g n c) n xs){k:Nat}{u:QN}(f:xs[k]?=some u):w.cell? (R g k)=some u/\w.frozen? (R g k)=false:=by
 rcases h.2 with⟨d,_⟩|⟨o,i,b,d,p,j,q,r,s,m⟩
 .cases d
 .cases d;refine⟨?_,frozen_of_row w g k b e j⟩;rw[RD w g k b e (0,0) j,<-f,<-m,TT,ak]
  .simp
  .have:=(RC.1 f).1;rw[h.1]at this;exact this
theorem av{w:M}{b:Nat}{e:TI}{d:Nat}{v:QN}{n:Nat}{xs:List QN}(h:w.ownsRow b e d v n xs):∃a c,v=.slice a n c/\(n=0\/∃g,a=some (R g 0)):=by
 rcases h.2 with⟨rfl,rfl⟩|⟨g,c,f,rfl,_⟩
 .exact ⟨none,0,rfl,.inl rfl⟩
 .exact ⟨_,_,rfl,.inr ⟨g,rfl⟩⟩
theorem cu{w:M}{b f:Nat}{e:TI}{i:Nat}{v:QN}{n:Nat}{xs:List QN}(h:w.ownsRow b e i v n xs)(j:f<=b):w.ownsRow f e i v n xs:=by
 obtain⟨k,a⟩:=h;refine⟨k,?_⟩;rcases a with a|⟨g,c,d,l,m,r⟩
 .exact .inl a
 .exact .inr ⟨g,c,d,l,QO j m,r⟩
theorem Out.setRow{S:Nat->Prop}{a w:M}(h:Out S a w){g:Nat}(f:g<a.heap.size->S g)(b:Array QN):Out S a (w.setRow g b):=
 ⟨h.os,h.tape,h.output,by simp only[World.setRow,Array.size_modify];exact h.size,λk c d=>(setRow_other w g k b λe=>by subst e;exact d (f c)).trans (h.block k c d)⟩
theorem fi{α:Type}(L b:List α)(a k:Nat)(h:a+b.length<=L.length):(YQ L a b)[k]?=if a<=k/\k<a+b.length then b[k-a]? else L[k]?:=by
 unfold YQ;rw[List.getElem?_append,VN,WV J];by_cases c:k<a
 .rw [ak c,al J,TT,ak c]
 .rw [al c,List.getElem?_append];by_cases d:k-a<b.length
  .rw [ak d,ak J]
  .rw [al d,al J,List.getElem?_drop];congr 1;omega
theorem iL{α:Type}(L b:List α)(a n:Nat)(h:a+b.length<=n)(d:n<=L.length):(YQ L a b).take n=YQ (L.take n) a b:=by
 apply TZ;intro k;have e:(L.take n).length=n:=by rw[VN];omega
 rw[TT,fi _ _ _ _ J,fi _ _ _ _ J];by_cases c:k<n
 .simp [c]
 .rw [al c,al J,TT,al c]
section
variable {P:Program} (w:QL)
theorem jZ(q u ty a:TI)(k g n o c f l:Nat)(xs:List QN)(h:w.ownsRow k a 1 (a_ g n o) n xs)(r:TF)(i m:Nat)(e:List QN)(A:P.underlying q=some (.slice a))(B:(P.info? a).map (·.size)=some 1)(C:e.length=Nat.min i f)(x:c+e.length<=n)(p:∀j v,e[j]?=some v->w.cell? (r.add j)=some v)(D:∀v∈e,v.oneCell'=true):
  ∃s,(Builtin.copy_ #[q,u] ty #[.slice (some (R g c)) f l,.slice (some r) i m]).run P w=.ok (goInt e.length) s/\
   s.ownsRow k a 1 (a_ g n o) n (YQ xs c e)/\Out (λb=>b=g) w s:=by
 rcases h.2 with⟨t,_⟩|⟨T,y,d,t,E,z,F,G,K,L⟩
 .cases t
 cases t;refine⟨_,run_copy_row P w q u ty a g c f l r i m d a e A B z C p J D,?_,Out.setRow (S:=λb=>b=g) (Out.refl _ _) (g:=g) (λ_=>rfl) _⟩;have O:c+e.length<=d.toList.length:=aQ;have Q:d.toList.take c++e++d.toList.drop (c+e.length)=YQ d.toList c e:=by rw[TK];rfl
 rw[Q];refine⟨by rw[length_splice _ _ _ (by have:=h.1;omega)];exact h.1,.inr ⟨g,o,_,rfl,E,setRow_heap w g d _ a _ z,F,G,?_,?_⟩⟩
 .show (YQ d.toList c e).toArray.size=_;rw[WJ,length_splice _ _ _ O];simpa using K
 .show (YQ d.toList c e).take _=_;rw[iL _ _ _ _ J aQ,L]
theorem ef{t:Array Oper}{l:List Oper}{o:Oper}{a:Act}{Q:Exit->Act->M->Prop}(A:o.guard=none)(d s:Operand)(B D:TI)(E:o.op=.call {callee:=.builtin .copy,args:= #[d,s],argTypes:= #[B,D]})(c:TI)(e g n q k f m:Nat)(xs:List QN)(u:w.ownsRow e c 1 (a_ g n q) n xs)(C:TF)(i p:Nat)(r:List QN)(F:P.underlying B=some (.slice c))(G:(P.info? c).map (·.size)=some 1)(L:a.eval d=.slice (some (R g k)) f m)(O:a.eval s=.slice (some C) i p)(S:r.length=Nat.min i f)(x:k+r.length<=n)(y:∀j v,r[j]?=some v->w.cell? (C.add j)=some v)(T:∀v∈r,v.oneCell'=true)(h:∀z,z.ownsRow e c 1 (a_ g n q) n (YQ xs k r)->Out (λb=>b=g) w z->wpList P t Q l (a.put o.dst (goInt r.length)) z):wpList P t Q (o::l) a w:=
 wpList_plain A λK U=>by obtain⟨z,V,W,X⟩:=jZ (P:=P) w B D o.type c e g n q k f m xs u C i p r F G S x y T;unfold Oper.wp execOp;simp only[E,resolve,invoke,builtin,SJ,VK,RR,List.map_toArray,UC,YA,L,O,V];exact U _ _ (h z W X)
theorem gq{r:Array Oper}{o:Oper}{a:Act}{K:Act->M->Prop}{Q:Exit->Act->M->Prop}{E:Prop}(z:o.guard=none)(d s:Operand)(A C:TI)(D:o.op=.call {callee:=.builtin .copy,args:= #[d,s],argTypes:= #[A,C]})(c:TI)(e g n p k f l:Nat)(xs:List QN)(t:w.ownsRow e c 1 (a_ g n p) n xs)(B:TF)(i m:Nat)(q:List QN)(F:P.underlying A=some (.slice c))(G:(P.info? c).map (·.size)=some 1)(L:a.eval d=.slice (some (R g k)) f l)(O:a.eval s=.slice (some B) i m)(S:q.length=Nat.min i f)(u:k+q.length<=n)(x:∀j v,q[j]?=some v->w.cell? (B.add j)=some v)(T:∀v∈q,v.oneCell'=true)(h:∀y,y.ownsRow e c 1 (a_ g n p) n (YQ xs k q)->Out (λb=>b=g) w y->K (a.put o.dst (goInt q.length)) y):
  if VT o (yielded r a.tmps)=true then Oper.wp P o a w K Q else E:=by
 have U:VT o (yielded r a.tmps)=true:=by simp[VT,z]
 rw[ak U];obtain⟨y,V,W,X⟩:=jZ (P:=P) w A C o.type c e g n p k f l xs t B i m q F G S u x T;unfold Oper.wp execOp;simp only[D,resolve,invoke,builtin,SJ,VK,RR,List.map_toArray,UC,YA,L,O,V];exact h y W X
end
section
variable {P:Program} (w:QL)
end
section
variable {P:Program} (w:QL)
theorem db{p:Array Oper}{o:Oper}{a:Act}{K:Act->QL->Prop}{Q:Exit->Act->QL->Prop}{E:Prop}(A:o.guard=none)(s x:Operand)(t:TI)(L:o.op=.call {callee:=.builtin .append,args:= #[s,x],argTypes:= #[t,t]})(d:Nat)(e:TI)(i:TypeInfo)(z:QN)(size bytes:Nat)(O:P.underlying t=some (.slice e))(S:P.info? e=some i)(T:i.zero=some z)(g:i.size=size)(B:i.bytes=bytes)(C:z.cells.size=size)(D:0<size)(v:QN)(n:Nat)(xs:List QN)(U:a.eval s=v)(q:w.ownsRow d e size v n xs)(F:TF)(m c:Nat)(b:List QN)(V:a.eval x=.slice (some F) m c)(W:b.length=m*size)(k:∀j u,b[j]?=some u->w.cell? (F.add j)=some u)(X:∀u∈b,u.oneCell'=true)(Z:0<m)(G:n+m<=UT)(f:(n+m)*bytes<=140737488355328)(l:d<=w.heap.size)(h:∀r y,y.ownsRow d e size r (n+m) (xs++b)->nI w.heap.size w v n m r y->K (a.put o.dst r) y):
  if VT o (yielded p a.tmps)=true then Oper.wp P o a w K Q else E:=by
 have H:VT o (yielded p a.tmps)=true:=by simp[VT,A]
 rw[ak H];obtain⟨r,y,N,M,R⟩:=iJ (P:=P) w d t o.type e i z size bytes O S T g B C D v n xs q F m c b W k X Z G f l;unfold Oper.wp execOp;simp only[L,resolve,invoke,builtin,SJ,VK,RR,List.map_toArray,UC,YA,U,V,N];exact h r y M R
end
end
def isAgg:QN->Bool
 | .agg _=>true
 |_=>false
def ty:Obj->Nat
 | .cells _ e _=>e
 | .map es _=>if es.toList.any (λe=>isAgg e.key)then 1000002 else 1000000
 |_=>1000001
theorem hQ(a:Array TO)(c:Nat):ty (.map a c)≠5:=by simp only[ty];split<;>decide
class Lo where
 lo:Nat
structure Fr[Lo](T:List Nat)(S:Nat->Prop)(w w1:M):Prop where
 os:w1.os=w.os
 tape:w1.tape=w.tape
 output:w1.output=w.output
 size:w.heap.size<=w1.heap.size
 block:∀k o,w.heap[k]? =some o->(T.contains (ty o)=false\/k<Lo.lo)->¬S k->w1.heap[k]? =some o
def aF(_:Nat):Prop:=False
theorem Z_(h:aZ w n O):n<w.heap.size:=(RM.1 h).1
theorem Fr.refl[Lo](T:List Nat)(S:Nat->Prop)(w:M):Fr T S w w:=⟨rfl,rfl,rfl,QP _,λ_ _ h _ _=>h⟩
theorem Fr.mono[Lo]{T a:List Nat}(h:Fr T S w W)(c:∀t,a.contains t=false->T.contains t=false)(d:∀k,k<w.heap.size->S k->Q k):Fr a Q w W:=
 ⟨h.os,h.tape,h.output,h.size,λk o b f g=>h.block k o b (f.imp (c _) id) λe=>g (d k (Z_ b) e)⟩
theorem IJ{T a:List Nat}(h:T.all (λt=>a.contains t)=true):∀t,a.contains t=false->T.contains t=false:=by
 intro t b;cases c:T.contains t with
 |false=>rfl
 |true=>have:=WO.1 h t (List.contains_iff_mem.1 c);rw[b]at this;cases this
theorem Fr.wide[Lo](a:List Nat)(h:Fr T S w W)(b:T.all (λt=>a.contains t)=true):Fr a S w W:=h.mono (IJ b) λ_ _ h=>h
theorem Fr.any[Lo](h:Fr T aF w W):Fr T S w W:=h.mono (λ_ h=>h) λ_ _ h=>h.elim
theorem Fr.trans[Lo](h:Fr T S w W)(k:Fr T Q W z)(d:∀k,k<w.heap.size->Q k->S k):Fr T S w z:=
 ⟨k.os.trans h.os,k.tape.trans h.tape,k.output.trans h.output,QO h.size k.size,λi o a b c=>k.block i o (h.block i o a b c) b λe=>c (d i (Z_ a) e)⟩
theorem Fr.tr[Lo](h:Fr T S w W)(k:Fr T S W z):Fr T S w z:=h.trans k λ_ _ h=>h
theorem Fr.heap[Lo](h:Fr T S w W)(a:aZ w n O)(b:T.contains (ty O)=false)(c:¬S n):W.heap[n]?=some O:=h.block n O a (.inl b) c
theorem Fr.hp[Lo](h:Fr T aF w W)(a:aZ w n O)(b:T.contains (ty O)=false):W.heap[n]?=some O:=h.block n O a (.inl b) id
theorem Fr.fN[Lo](h:Fr T aF w W)(d:Lo.lo<=w.heap.size)(b:p.block<Lo.lo)(c:w.cell? p=some v):W.cell? p=some v:=by obtain⟨o,a⟩:∃o,aZ w p.block o:=⟨_,SH J⟩;rw[QZ ((h.block _ o a (.inr b) id).trans a.symm)];exact c
theorem Fr.lt[Lo](h:Fr T S w W){b:Nat}(a:b<w.heap.size):b<W.heap.size:=RS a h.size
theorem Fr.out[Lo](h:Fr T S w W)(k:Out Q W z)(c:∀k,k<w.heap.size->Q k->S k):Fr T S w z:=
 ⟨k.os.trans h.os,k.tape.trans h.tape,k.output.trans h.output,QO h.size k.size,λi o a d b=>k.heap (h.block i o a d b) λe=>b (c i (Z_ a) e)⟩
theorem Fr.wi[Lo](h:Out S w W):Fr T S w W:=(Fr.refl T S w).out h λ_ _ h=>h
theorem Fr.af[Lo](h:ar w W):Fr T S w W:=(Fr.refl T S w).out (Out.af (S:=λ_=>False) h) λ_ _ h=>h.elim
theorem Fr.then[Lo](h:Fr T S w W)(k:ar W z):Fr T S w z:=h.out (Out.af (S:=λ_=>False) k) λ_ _ h=>h.elim
theorem Fr.low[Lo](h:Fr T S w W)(k:SM n W z)(b:w.heap.size<=n):Fr T S w z:=
 ⟨k.os.trans h.os,k.tape.trans h.tape,k.output.trans h.output,QO h.size k.size,λi o a c d=>(k.block i (RS (Z_ a) b)).trans (h.block i o a c d)⟩
theorem Fr.alloc[Lo](h:Fr T S W w)(o:Obj):Fr T S W (w.alloc o):=h.then (aI aj o)
theorem Fr.drewN[Lo](h:Fr T S W w)(n:Nat):Fr T S W (w.drewN n):=h.out ((Out.refl (λ_=>False) _).drewN n) λ_ _ h=>h.elim
theorem Fr.drew[Lo](h:Fr T S W w):Fr T S W w.drew:=h.out ((Out.refl (λ_=>False) _).drew) λ_ _ h=>h.elim
theorem Fr.set[Lo](h:Fr T S W w)(d:w.heap[p.block]?=some O)(f:T.contains (ty O)=true)(g:Lo.lo<=p.block)(u:QN):Fr T S W (w.setCell p u):=
 ⟨h.os,h.tape,h.output,by rw[SE];exact h.size,λi j k a l=>by
  have b:=h.block i j k a l;refine(RZ _ _ _ _ λe=>?_).trans b;subst e;rw[d]at b;cases b;rcases a with a|c
  .rw [f]at a;cases a
  .exact absurd g (Nat.not_le_of_lt c)⟩
theorem Fr.new[Lo](h:Fr T S W w)(a:W.heap.size<=p.block)(u:QN):Fr T S W (w.setCell p u):=
 h.out ((Out.refl (λk=>k=p.block) w).setCell (λ_=>rfl) u) λk b e=>absurd e J
theorem Fr.own[Lo](h:Fr T S w W)(c:w.ownsRow m t i v n L)(d:T.contains t=false)(e:∀k,v.ownBlock=some k->¬S k):W.ownsRow m t i v n L:=by
 refine⟨c.1,?_⟩;rcases c.2 with f|⟨g,a,b,rfl,j,l,r⟩
 .exact .inl f
 .exact .inr ⟨g,a,b,rfl,j,h.heap l d (e g rfl),r⟩
def cN(w:M)(v:QN)(n:Nat)(f:aO):Prop:=
 ∃a c,v=.slice a n c/\(n=0\/∃b o d e,a=some (R b o)/\w.heap[b]?=some (.cells d 5 e)/\∀k,k<n->d[o+k]?=some (.int .u8 (f k)))
theorem cN.BH(h:cN w v n f):lX w v n f:=by
 obtain⟨a,c,d,h⟩:=h;refine⟨a,c,d,?_⟩;rcases h with h|⟨b,o,e,g,i,j,h⟩
 .exact .inl h
 .exact .inr ⟨b,o,i,λk l=>(RD w b (o+k) e 5 g j).trans (h k l)⟩
theorem cN.fr[Lo](h:cN w v n f)(d:Fr T aF w W)(e:T.contains 5=false):cN W v n f:=by
 obtain⟨a,c,g,h⟩:=h;refine⟨a,c,g,?_⟩;rcases h with h|⟨b,o,i,j,k,l,h⟩
 .exact .inl h
 .exact .inr ⟨b,o,i,j,k,d.hp l e,h⟩
theorem cN.below(h:cN w v n f)(a:ar w W):cN W v n f:=by
 letI:Lo:=⟨0⟩
 exact h.fr (T:= []) (Fr.af a) rfl
theorem cN.congr{f g:aO}(h:cN w v n f)(e:∀k,k<n->f k=g k):cN w v n g:=by
 obtain⟨a,c,rfl,h⟩:=h;refine⟨a,c,rfl,?_⟩;rcases h with h|⟨b,o,i,j,rfl,l,h⟩
 .exact .inl h
 .exact .inr ⟨b,o,i,j,rfl,l,λk d=>by rw[h k d,e k d]⟩
theorem fY(h:w.ownsRow m 5 1 v n (az n f)):cN w v n f:=by
 rcases h.2 with⟨rfl,rfl⟩|⟨g,c,a,rfl,i,d,j,o,p,e⟩
 .exact ⟨none,0,rfl,.inl rfl⟩
 .refine ⟨_,_,rfl,.inr ⟨g,0,a,_,rfl,d,λk b=>?_⟩⟩;have:=congrArg (λl=>l[k]?) e;simp only[TT,UI,a' n f k b,ak b]at this;rw[RQ];simpa using this
abbrev G(m c s:Int):QN:=.agg #[Y m,Y c,Y s]
abbrev Sh(m c s d:Int):QN:=.agg #[Y m,Y c,Y s,Y d]
theorem HR(a:ar W w):(∀b o,b<W.heap.size->w.cell? (R b o)=W.cell? (R b o))/\(∀b o,b<W.heap.size->w.frozen? (R b o)=W.frozen? (R b o)):=
 ⟨λb o h=>a.cell (p:=R b o) h,λb o h=>a.frozen (p:=R b o) h⟩
theorem ws(m:Int)(h:3<=m/\m<=16):XE (m-1)=m-1:=IntWalk.wrap64_in _ ⟨J,J⟩
theorem tG(m c s:Int)(w:M)(h:3<=m/\m<=16/\1<=c/\c<=16/\1<=s/\s<=256):
  aD 26 #[G m c s] w λe a=>aK e (aG 0)/\ar w a:=by
 obtain⟨b,d,f,g,i,j⟩:=h;go_enter func26,ntmps26;go_wp2;go_ret;exact⟨rfl,aj.alloc (QP _) _⟩
theorem IK(m c s k:Int)(w:M)(b:∀w,aD 26 #[G m c s] w λe a=>aK e (.int .u16 k)/\ar w a):
  aD 46 #[G m c s] w λe a=>aK e (.tuple #[Sh m c s (XE (m-1)),.int .u16 k])/\ar w a:=by
 have H:=I b;go_enter func46,ntmps46;go_wp2;go_region_held3(λa=>a.cell? (R w.heap.size 0)=some (Y m)/\a.cell? (R w.heap.size 1)=some (Y c)/\a.cell? (R w.heap.size 2)=some (Y s)) (first|go_keep|(simp[b,go_sem];done))
  (first|(go_at_call 26;refine(H _).mono ?_;rintro e g ⟨rfl,d⟩;obtain⟨b,h⟩:=HR d))
 rename_i g d _;go_wp2;obtain⟨b,h⟩:=HR d;refine RB (v:=.tuple #[Sh m c s (XE (m-1)),.int .u16 k]) (by simp[RV,results46,go_sem,b,IntWalk.i64_left]) rfl ⟨rfl,?_⟩;have f:=((((SV w.heap.size w).alloc (QP _) (N #[Y m,Y c,Y s] 39)).alloc aJ (N #[Y 0,Y 0,Y 0,Y 0] 95)).drew).trans (d.mono (by simp[go_sem];omega));exact(((f.setCell (p:=⟨w.heap.size+1,0,none⟩) aJ _).setCell aJ _).setCell aJ _).setCell aJ _
theorem tH(m c s:Int)(w:M)(h:3<=m/\m<=16/\1<=c/\c<=16/\1<=s/\s<=256):
  aD 46 #[G m c s] w λe a=>aK e (.tuple #[Sh m c s (m-1),aG 0])/\ar w a:=by
 have:=IK m c s 0 w (λw=>tG m c s w h);rw[ws m J]at this;exact this
theorem bce(a:ar W w):(∀b o,(W.cell? (R b o)).isSome=true->w.cell? (R b o)=W.cell? (R b o))/\(∀b o,(W.cell? (R b o)).isSome=true->w.frozen? (R b o)=W.frozen? (R b o)):=by
 refine⟨λb o h=>?_,λb o h=>?_⟩
 all_goals obtain⟨v,c⟩:=WM.1 h
 all_goals have:=QY W _ c
 .exact a.cell (p:=R b o) this
 .exact a.frozen (p:=R b o) this
structure ZY(m c s:Int):Prop where
 m3:3<=m
 m16:m<=16
 c1:1<=c
 qd:c<=16
 s1:1<=s
 gP:s<=256
theorem ZY.iff(m c s:Int):ZY m c s↔(3<=m/\m<=16/\1<=c/\c<=16/\1<=s/\s<=256):=⟨λh=>⟨h.1,h.2,h.3,h.4,h.5,h.6⟩,λ⟨a,b,c,d,e,f⟩=>⟨a,b,c,d,e,f⟩⟩
theorem ma{a b A B:Int}(d:0<=a)(e:a<=A)(c:0<=b)(f:b<=B):0<=a*b/\a*b<=A*B:=
 ⟨Int.mul_nonneg d c,Int.mul_le_mul e f c J⟩
theorem ZY.rows{m c s:Int}(h:ZY m c s):0<=s*c/\s*c<=4096:=by have:=ma (a:=s) (b:=c) (A:=256) (B:=16) (by have:=h.s1;omega) h.gP (by have:=h.c1;omega) h.qd;omega
theorem ZY.blocks{m c s:Int}(h:ZY m c s):0<=s*c*(m-1)/\s*c*(m-1)<=61440:=by have:=ma (a:=s*c) (b:=m-1) (A:=4096) (B:=15) h.rows.1 h.rows.2 (by have:=h.m3;omega) (by have:=h.m16;omega);omega
theorem iM(m c s d:Int)(w:M)(h:0<=s*c)(b:s*c<=4096):
  aD 47 #[Sh m c s d] w λe a=>aK e (Y (s*c))/\ar w a:=by
 go_enter func47,ntmps47;go_wp2;go_ret;exact⟨rfl,aj.alloc (QP _) _⟩
def par(m n:Int):Int:=m-1-n%m
def mem(m n i:Int):Int:=(par m n+1+i)%m
theorem IL(n:Int)(h:3<=c):0<=par c n/\par c n<c:=by unfold par;have:=WY n (show c≠0 by omega);have:=WC n (show 0<c by omega);omega
theorem kq(m c s d n:Int)(w:M)(h:0<=n)(f:3<=m)(a:m<=16):
  aD 248 #[Sh m c s d,Y n] w λe b=>aK e (Y (par m n))/\ar w b:=by
 have g:=WY n (show m≠0 by omega);have i:=WC n (show 0<m by omega);go_enter func248,ntmps248;go_wp2;go_quiet(fail);go_wp2;go_ret;exact⟨rfl,(aj.alloc (QP _) _).trans ⟨rfl,rfl,rfl,QP _,λ_ _=>rfl⟩⟩
theorem Fz{k:IntKind}{a b:Int}(h:a=b):Ending.returned (.int k a)=.returned (.int k b):=by rw[h]
theorem kr(m c s d n i:Int)(w:M)(h:0<=n)(g:3<=m)(f:m<=16)(t:0<=i)(j:i<m):
  aD 195 #[Sh m c s d,Y n,Y i] w λe b=>aK e (Y (mem m n i))/\ar w b:=by
 have k:=IL n g;obtain⟨l,o⟩:=k;have p:QQ.wrap (par m n+1)=par m n+1:=TD _ J;have u:QQ.wrap (par m n+1+i)=par m n+1+i:=TD _ J;have q:0<=par m n+1+i:=J;have v:¬m=0:=J;go_enter func195,ntmps195;go_wp2;go_region_held3(λb=>b.cell? (R w.heap.size 0)=some (Y m)/\b.cell? (R w.heap.size 1)=some (Y c)/\b.cell? (R w.heap.size 2)=some (Y s)/\b.cell? (R w.heap.size 3)=some (Y d)) ((simp[*,go_sem];done))
  (first|(go_at_call 248;refine(kq _ _ _ _ _ _ h g f).mono ?_;rintro e p ⟨rfl,r⟩;obtain⟨x,y⟩:=bce r))
 all_goals go_wp2
 go_ret;exact⟨Fz (a:=(par m n+1+i).tmod m) (US q),via (aI aj _).drew (by assumption)⟩
theorem ho(m c s:Int)(w:M)(h:ZY m c s):
  aD 27 #[G m c s] w λe f=>aK e (Y (s*c))/\ar w f:=by
 have b:=h.rows;have g:=I ((ZY.iff m c s).1 h);go_enter func27,ntmps27;go_wp2_with(first|(go_at_call 46;refine(tH _ _ _ _ g).mono ?_;rintro e i ⟨rfl,d⟩;obtain⟨j,k⟩:=bce d)|(go_at_call 47;refine(iM _ _ _ _ _ b.1 b.2).mono ?_;rintro e l ⟨rfl,a⟩));go_ret;exact⟨rfl,via (aI (via (aI aj _) d) _) a⟩
theorem wj(m c s:Int)(w:M)(h:ZY m c s):
  aD 164 #[G m c s] w λe a=>aK e (Y (s*c*(m-1)))/\ar w a:=by
 obtain⟨b,d⟩:=h.blocks;have f:=h.m3;have g:=h.m16;have i:=I h;have k:QQ.wrap (m-1)=m-1:=TD _ J;have l:QQ.wrap (s*c*(m-1))=s*c*(m-1):=TD _ J;go_enter func164,ntmps164;go_wp2;go_region_held3(λa=>a.cell? (R w.heap.size 0)=some (Y m)/\a.cell? (R w.heap.size 1)=some (Y c)/\a.cell? (R w.heap.size 2)=some (Y s)) ((simp[*,go_sem];done))
  (first|(go_at_call 27;refine(ho _ _ _ _ i).mono ?_;rintro e n ⟨rfl,j⟩;obtain⟨o,p⟩:=bce j))
 all_goals go_wp2
 go_ret;exact⟨rfl,via (aI aj _).drew (by assumption)⟩
theorem wk(m c s r:Int)(w:M)(h:ZY m c s)(a:0<=r)(q:r<s*c):
  aD 355 #[G m c s,Y r] w λe b=>aK e (.tuple #[Y (par m (r/c)),aG 0])/\ar w b:=by
 obtain⟨g,i⟩:=h.rows;have j:=h.m3;have k:=h.m16;have t:=h.c1;have l:0<=r/c:=ZT a J;have o:r/c<=r:=Int.ediv_le_self _ a;have B:r.tdiv c=r/c:=VR a;have u:QQ.wrap (r/c)=r/c:=TD _ J;have C:¬c=0:=J;have v:=I ((ZY.iff m c s).1 h);go_enter func355,ntmps355;go_wp2_with(first|(go_at_call 46;refine(tH _ _ _ _ v).mono ?_;rintro e f ⟨rfl,p⟩;obtain⟨D,E⟩:=bce p)|(go_at_call 47;refine(iM _ _ _ _ _ g i).mono ?_;rintro e F ⟨rfl,d⟩;obtain⟨x,y⟩:=bce d));go_region_held3(λb=>b.cell? (R f.heap.size 0)=some (Y m)/\b.cell? (R f.heap.size 1)=some (Y c)/\b.cell? (R f.heap.size 2)=some (Y s)/\b.cell? (R f.heap.size 3)=some (Y (m-1))) ((simp[*,go_sem];done))
  (first|(go_at_call 248;refine(kq _ _ _ _ _ _ l j k).mono ?_;rintro e K ⟨rfl,n⟩;obtain⟨z,A⟩:=bce n))
 go_wp2;go_ret2;exact⟨rfl,via (via (aI (via (aI aj _) p) _) d).drew (by assumption)⟩
def Pl(a b c d:Int):QN:=.agg #[Y a,Y b,Y c,Y d]
theorem IN(m c s b:Int)(w:QL)(h:ZY m c s)(q:0<=b)(I:b<s*c*(m-1)):
  Calls VW 165 #[G m c s,.int .i64 b] w λe d=>e=.returned (.tuple #[Pl (b/((m-1)*c)) (b/((m-1)*c)*c+b%((m-1)*c)%c) (mem m (b/((m-1)*c)) (b%((m-1)*c)/c)) (par m (b/((m-1)*c))),.int .u16 0])/\SM w.heap.size w d:=by
 obtain⟨r,t⟩:=h.rows;obtain⟨Y,J⟩:=h.blocks;have j:=h.m3;have k:=h.m16;have a4:=h.c1;have a5:=h.qd;have a6:=h.s1;have a7:=h.gP;have a8:=RI ((ZY.iff m c s).1 h);obtain⟨u,x⟩:=ma (a:=m-1) (b:=c) (A:=15) (B:=16) (by omega) (by omega) (by omega) (by omega);have y:1<=(m-1)*c:=Int.mul_pos (by omega) (by omega);obtain⟨E,l⟩:∃E,E=(m-1)*c:=⟨_,rfl⟩;rw[<-l]at u x y|-;have f:0<=b/E:=ZT q (by omega);have a0:b/E<s:=by apply Int.ediv_lt_of_lt_mul (by omega);rw[l,Int.mul_comm (m-1) c,<-Int.mul_assoc];exact I
 have i:0<=b%E:=WY _ (by omega);have z:b%E<E:=WC _ (by omega);have a9:0<=b%E%c:=WY _ (by omega);have b0:b%E%c<c:=WC _ (by omega);have C:0<=b%E/c:=ZT i (by omega);have b1:b%E/c<m-1:=by apply Int.ediv_lt_of_lt_mul (by omega);rw[<-l];exact z
 obtain⟨b2,b3⟩:=ma (a:=b/E) (b:=c) (A:=256) (B:=16) f (by omega) (by omega) (by omega);have d0:decide (b<0)=false:=by simpa using q
 have d1:decide (s*c*(m-1)<=b)=false:=by simpa using I
 have b4:(m-1)*c=E:=l.symm;have w0:QQ.wrap E=E:=TD _ (by omega);have w3:QQ.wrap (s*c*(m-1))=s*c*(m-1):=TD _ (by omega);have q1:b.tdiv E=b/E:=VR q;have q2:b.tmod E=b%E:=US q;have q3:QQ.wrap (b/E)=b/E:=TD _ (by omega);have q4:(b%E).tmod c=b%E%c:=US i;have q5:(b%E).tdiv c=b%E/c:=VR i;have q6:QQ.wrap (b%E/c)=b%E/c:=TD _ (by omega);have q7:QQ.wrap (b/E*c)=b/E*c:=TD _ (by omega);have q8:QQ.wrap (b/E*c+b%E%c)=b/E*c+b%E%c:=TD _ (by omega);have E0:¬E=0:=by omega
 have c0:¬c=0:=by omega
 clear l;go_enter Tryz.func165,Tryz.ntmps165;go_wp2_with(first|(go_at_call 46;refine(tH _ _ _ _ a8.out).mono ?_;rintro e g ⟨rfl,b5⟩;obtain⟨a1,a2,a3⟩:=kp b5 (w.heap.size+1) (by go_size)));go_region_held3(λd=>d.cell? ⟨g.heap.size,0,none⟩=some (.int .i64 m)/\d.cell? ⟨g.heap.size,1,none⟩=some (.int .i64 c)/\d.cell? ⟨g.heap.size,2,none⟩=some (.int .i64 s)/\d.cell? ⟨g.heap.size,3,none⟩=some (.int .i64 (m-1))) ((simp[*,go_sem];done))
  (first|(go_at_call 47;refine(iM _ _ _ _ _ r t).mono ?_;rintro e w2 ⟨rfl,n⟩;obtain⟨D,F,K⟩:=kp n (g.heap.size) (by go_size);obtain⟨L,O,P⟩:=kp n (w.heap.size+1) (by go_size)))
 go_wp2;go_quiet(fail);go_wp2;go_region_held3(λd=>d.cell? ⟨g.heap.size,0,none⟩=some (.int .i64 m)/\d.cell? ⟨g.heap.size,1,none⟩=some (.int .i64 c)/\d.cell? ⟨g.heap.size,2,none⟩=some (.int .i64 s)/\d.cell? ⟨g.heap.size,3,none⟩=some (.int .i64 (m-1))) ((simp[*,go_sem];done))
  (first|(go_at_call 195;refine(kr _ _ _ _ _ _ _ f j k C (by omega)).mono ?_;rintro e w3 ⟨rfl,o⟩;obtain⟨Q,S,T⟩:=kp o (g.heap.size) (by go_size);obtain⟨U,V,W⟩:=kp o (w.heap.size+1) (by go_size))|(go_at_call 248;refine(kq _ _ _ _ _ _ f j k).mono ?_;rintro e w4 ⟨rfl,p⟩;obtain⟨X,Z,H⟩:=kp p (g.heap.size) (by go_size);obtain⟨N,M,R⟩:=kp p (w.heap.size+1) (by go_size)))
 go_wp2;refine RB (v:=.tuple #[Pl (b/E) (b/E*c+b%E%c) (mem m (b/E) (b%E/c)) (par m (b/E)),.int .u16 0]) (by simp[RV,Tryz.results165,go_sem,Pl, *]) rfl ⟨rfl,?_⟩
 (repeat'(first|(with_reducible exact SV _ _)|(with_reducible refine Below.setCell ?_ (by go_size) _)|(with_reducible refine aI ?_ _)|(with_reducible refine Below.drew ?_)|(with_reducible refine ct ?_ _)|(with_reducible refine via ?_ (by with_reducible assumption))))
def tA(m c a r:Int):Int:=(a-mem m (r/c) 0+m)%m
theorem BI(n i:Int)(h:3<=c):0<=mem c n i/\mem c n i<c:=
 ⟨WY _ J,WC _ J⟩
theorem yd(m c s a r:Int)(w:QL)(h:ZY m c s)(A:0<=a)(B:a<m)(i:0<=r)(y:r<s*c)(C:tA m c a r=m-1):
  aD 131 #[G m c s,Y a,Y r] w λe b=>aK e (.tuple #[Y 0,.bool true,aG 0])/\ar w b:=by
 obtain⟨j,k⟩:=h.rows;have f:=h.m3;have l:=h.m16;have D:=h.c1;have E:=h.qd;have F:=h.s1;have K:=h.gP;have L:=I ((ZY.iff m c s).1 h);have g:0<=r/c:=ZT i J;have z:r/c<s:=Int.ediv_lt_of_lt_mul J y;obtain⟨O,P⟩:=BI (r/c) 0 f;have d0:decide (a<0)=false:=by simpa using A
 have d1:decide (m<=a)=false:=by simpa using B
 have d2:decide (r<0)=false:=by simpa using i
 have d3:decide (s*c<=r)=false:=by simpa using y
 have S:r.tdiv c=r/c:=VR i;have T:QQ.wrap (r/c)=r/c:=TD _ J;have U:QQ.wrap (a-mem m (r/c) 0)=a-mem m (r/c) 0:=TD _ J;have V:QQ.wrap (a-mem m (r/c) 0+m)=a-mem m (r/c) 0+m:=TD _ J;have W:(a-mem m (r/c) 0+m).tmod m=tA m c a r:=US J;have X:¬c=0:=J;have Z:¬m=0:=J;have Q:(tA m c a r==m-1)=true:=by simpa using C
 go_enter func131,ntmps131;go_wp2_with(first|(go_at_call 46;refine(tH _ _ _ _ L).mono ?_;rintro e d ⟨rfl,H⟩)|(go_at_call 47;refine(iM _ _ _ _ _ j k).mono ?_;rintro e N ⟨rfl,n⟩;obtain⟨o,p,q⟩:=kp n (d.heap.size) dI));go_region_held3(λb=>b.cell? (R d.heap.size 0)=some (Y m)/\b.cell? (R d.heap.size 1)=some (Y c)/\b.cell? (R d.heap.size 2)=some (Y s)/\b.cell? (R d.heap.size 3)=some (Y (m-1))) ((simp[*,go_sem];done))
  (first|(go_at_call 195;refine(kr _ _ _ _ _ _ _ g f l J J).mono ?_;rintro e M ⟨rfl,t⟩;obtain⟨u,v,x⟩:=kp t (d.heap.size) dI))
 go_wp2
 go_returns
 refine⟨rfl,?_⟩
 (repeat'(first|(with_reducible exact aj)|(with_reducible refine Below.setCell ?_ dI _)|(with_reducible refine aI ?_ _)|(with_reducible refine Below.drew ?_)|(with_reducible refine ct ?_ _)|(with_reducible refine via ?_ (by with_reducible assumption))))
theorem ye(m c s a r:Int)(w:QL)(h:ZY m c s)(D:0<=a)(E:a<m)(j:0<=r)(z:r<s*c)(F:¬tA m c a r=m-1):
  aD 131 #[G m c s,ae a,ae r] w λe f=>aK e (.tuple #[ae ((r/c*(m-1)+tA m c a r)*c+r%c),.bool false,aG 0])/\ar w f:=by
 obtain⟨k,l⟩:=h.rows;have i:=h.m3;have n:=h.m16;have K:=h.c1;have L:=h.qd;have O:=h.s1;have P:=h.gP;have Q:=ad ((ZY.iff m c s).1 h);have d:0<=r/c:=ZT j aa;have C:r/c<s:=Int.ediv_lt_of_lt_mul aa z;obtain⟨S,T⟩:=BI (r/c) 0 i;have U:0<=tA m c a r:=WY _ aa;have V:tA m c a r<m:=WC _ aa;have W:0<=r%c:=WY _ aa;have X:r%c<c:=WC _ aa;have d0:decide (a<0)=false:=by simpa using D
 have d1:decide (m<=a)=false:=by simpa using E
 have d2:decide (r<0)=false:=by simpa using j
 have d3:decide (s*c<=r)=false:=by simpa using z
 have H:r.tdiv c=r/c:=VR j;have N:r.tmod c=r%c:=US j;have M:QQ.wrap (r/c)=r/c:=TD _ aa;have R:QQ.wrap (a-mem m (r/c) 0)=a-mem m (r/c) 0:=TD _ aa;have I:QQ.wrap (a-mem m (r/c) 0+m)=a-mem m (r/c) 0+m:=TD _ aa;have Y:(a-mem m (r/c) 0+m).tmod m=tA m c a r:=US aa;have J:¬c=0:=aa;have m0:¬m=0:=aa;have Z:(tA m c a r==m-1)=false:=by simpa using F
 obtain⟨x1,x2⟩:=ma (a:=r/c) (b:=m-1) (A:=256) (B:=15) d aa aa aa;obtain⟨x3,x4⟩:=ma (a:=r/c*(m-1)+tA m c a r) (b:=c) (A:=3860) (B:=16) aa aa aa aa;have y1:QQ.wrap (r/c*(m-1))=r/c*(m-1):=TD _ aa;have y2:QQ.wrap (r/c*(m-1)+tA m c a r)=r/c*(m-1)+tA m c a r:=TD _ aa;have y3:QQ.wrap ((r/c*(m-1)+tA m c a r)*c)=(r/c*(m-1)+tA m c a r)*c:=TD _ aa;have y4:QQ.wrap ((r/c*(m-1)+tA m c a r)*c+r%c)=(r/c*(m-1)+tA m c a r)*c+r%c:=TD _ aa;go_enter func131,ntmps131;go_wp2_with(first|(go_at_call 46;refine(tH _ _ _ _ Q).mono ?_;rintro e g ⟨rfl,a0⟩)|(go_at_call 47;refine(iM _ _ _ _ _ k l).mono ?_;rintro e w2 ⟨rfl,o⟩;obtain⟨p,q,t⟩:=kp o (g.heap.size) dI));go_region_held3(λf=>f.cell? (ag g.heap.size 0)=some (ae m)/\f.cell? (ag g.heap.size 1)=some (ae c)/\f.cell? (ag g.heap.size 2)=some (ae s)/\f.cell? (ag g.heap.size 3)=some (ae (m-1))) ((simp[*,go_sem];done))
  (first|(go_at_call 195;refine(kr _ _ _ _ _ _ _ d i n aa aa).mono ?_;rintro e w3 ⟨rfl,u⟩;obtain⟨v,x,y⟩:=kp u (g.heap.size) dI))
 go_wp2;go_quiet(fail);go_wp2
 go_returns
 refine⟨rfl,?_⟩
 (repeat'(first|(with_reducible exact aj)|(with_reducible refine Below.setCell ?_ dI _)|(with_reducible refine aI ?_ _)|(with_reducible refine Below.drew ?_)|(with_reducible refine ct ?_ _)|(with_reducible refine via ?_ (by with_reducible assumption))))
structure au where
 M:Nat
 c:Nat
 s:Nat
variable {g:au}
structure au.ok(g:au):Prop where
 m3:3<=g.M
 m16:g.M<=16
 c1:1<=g.c
 qd:g.c<=16
 s1:1<=g.s
 gP:g.s<=256
def au.R(g:au):Nat:=g.s*g.c
def au.E(g:au):Nat:=(g.M-1)*g.c
def au.B(g:au):Nat:=g.s*g.E
def au.row(g:au)(b:Nat):Nat:=b/g.E*g.c+b%g.E%g.c
def au.par(g:au)(r:Nat):Nat:=g.M-1-(r/g.c)%g.M
def au.mem(g:au)(b:Nat):Nat:=(g.M-1-(b/g.E)%g.M+1+b%g.E/g.c)%g.M
abbrev au.V(g:au):QN:=.agg #[Y g.M,Y g.c,Y g.s]
theorem au.fZ(h:g.ok):ZY (g.M:Nat) (g.c:Nat) (g.s:Nat):=by obtain⟨a,b,c,d,e,f⟩:=h;constructor<;>omega
theorem au.g_(h:g.ok):g.R<=4096:=by unfold au.R;exact TJ h.gP h.qd
theorem au.K_(h:g.ok):0<g.E:=Nat.mul_pos (by have:=h.m3;omega) h.c1
theorem au.nU(h:g.ok)(b:Nat):g.row b/g.c=b/g.E:=by unfold au.row;rw[ZK,Nat.add_mul_div_right _ _ h.c1,Nat.div_eq_of_lt (SB _ h.c1),RQ]
theorem au.yf(h:g.ok)(b:Nat):g.row b%g.c=b%g.E%g.c:=by unfold au.row;rw[ZK,Nat.add_mul_mod_self_right,SL (SB _ h.c1)]
theorem au.iN(h:g.ok)(a:n<g.B):g.row n<g.R:=by have b:n/g.E<g.s:=Nat.div_lt_of_lt_mul (by rw[VL];exact a);have d:n%g.E%g.c<g.c:=SB _ h.c1;have c:(n/g.E+1)*g.c<=g.s*g.c:=WN _ b;rw[Nat.add_mul,Nat.one_mul]at c;unfold au.row au.R;omega
theorem au.ks(h:g.ok)(b:Nat):g.mem b<g.M:=SB _ (by have:=h.m3;omega)
theorem au.iO(h:g.ok)(r:Nat):g.par r<g.M:=by unfold au.par;have:=h.m3;omega
theorem au.wm(h:g.ok)(b:Nat):b%g.E/g.c<g.M-1:=
 Nat.div_lt_of_lt_mul (by rw[VL];exact SB _ (au.K_ h))
theorem au.BJ(h:g.ok)(b:Nat):g.mem b≠g.par (g.row b):=by
 have c:=au.wm h b;have f:=h.m3;unfold au.mem au.par;rw[au.nU h b];have d:b/g.E%g.M<g.M:=SB _ J;generalize b/g.E%g.M=S at d|-;generalize b%g.E/g.c=i at c|-;intro e;by_cases a:g.M-1-S+1+i<g.M
 .rw [SL a]at e;omega
 .rw [YD J,SL J]at e;omega
theorem au.inj(h:g.ok)(d:g.row n=g.row m)(a:g.mem n=g.mem m):n=m:=by
 have r:=h.m3;have b:n/g.E=m/g.E:=by rw[<-au.nU h n,<-au.nU h m,d]
 have k:n%g.E%g.c=m%g.E%g.c:=by rw[<-au.yf h n,<-au.yf h m,d]
 have l:=au.wm h n;have c:=au.wm h m;have o:n%g.E/g.c=m%g.E/g.c:=by
  unfold au.mem at a;rw[b]at a;have b:m/g.E%g.M<g.M:=SB _ J;generalize m/g.E%g.M=S at b a;generalize n%g.E/g.c=i at l a|-;generalize m%g.E/g.c=j at c a|-;by_cases e:g.M-1-S+1+i<g.M<;>by_cases f:g.M-1-S+1+j<g.M
  .rw [SL e,SL f]at a;omega
  .rw [SL e,YD J,SL J]at a;omega
  .rw [SL f,YD J,SL J]at a;omega
  .rw [YD J,SL J,YD J,SL J]at a;omega
 have p:=WW n g.E;have s:=WW m g.E;have q:=WW (n%g.E) g.c;have t:=WW (m%g.E) g.c;rw[b]at p;rw[o,k]at q;omega
theorem om(g:au)(h:g.ok)(n:Nat):par (g.M:Nat) (n:Nat)=((g.M-1-n%g.M:Nat):Int):=by unfold par;have:=SB n (show 0<g.M by have:=h.m3;omega);have:=h.m3;omega
theorem yh(h:g.ok)(l:n<g.B)(w:QL):
  aD 165 #[g.V,Y n] w λe b=>aK e (.tuple #[.agg #[Y (n/g.E:Nat),Y (g.row n:Nat),Y (g.mem n:Nat),Y (g.par (g.row n):Nat)],aG 0])/\ar w b:=by
 have m:=h.m3;have c:(((g.M:Nat):Int)-1)*(g.c:Nat)=((g.E:Nat):Int):=by unfold au.E;rw[TS,Int.ofNat_sub J];rfl
 have d:((g.s:Nat):Int)*(g.c:Nat)*(((g.M:Nat):Int)-1)=((g.B:Nat):Int):=by unfold au.B;rw[TS,<-c,Int.mul_assoc,Int.mul_comm ((g.c:Nat):Int)]
 refine(IN (g.M:Nat) (g.c:Nat) (g.s:Nat) (n:Nat) w (au.fZ h) J (by rw[d];omega)).mono ?_;rintro e b ⟨rfl,a⟩;refine⟨?_,a⟩;rw[c];have f:((n:Nat):Int)/((g.E:Nat):Int)=((n/g.E:Nat):Int):=rfl;have i:((n:Nat):Int)%((g.E:Nat):Int)=((n%g.E:Nat):Int):=rfl;rw[f,i];have j:par (g.M:Nat) ((n/g.E:Nat):Int)=((g.par (g.row n):Nat):Int):=by rw[om g h];unfold au.par;rw[au.nU h]
 have k:mem (g.M:Nat) ((n/g.E:Nat):Int) (((n%g.E:Nat):Int)/(g.c:Nat))=((g.mem n:Nat):Int):=by unfold mem;rw[om g h];rfl
 rw[j,k];rfl
def xs(p:Nat->Bool)(f:aO):Nat->Nat
 |0=>0
 |n+1=>xs p f n^^^(if p n then f n else 0)
theorem dA{p q:Nat->Bool}{f g:aO}:∀{n:Nat},(∀m,m<n->p m=q m/\(p m=true->f m=g m))->xs p f n=xs q g n
 |0,_=>rfl
 |n+1,h=>by
  obtain⟨a,b⟩:=h n J;simp only[xs];rw[dA λm d=>h m J,<-a];cases c:p n with
  |false=>rfl
  |true=>simp only[if_true];rw[b c]
theorem x4(a b c d:Nat):(a^^^b)^^^(c^^^d)=(a^^^c)^^^(b^^^d):=by rw[XV,<-XV b,Nat.xor_comm b c,XV c,<-XV]
theorem qC{p q:Nat->Bool}{f:aO}:∀{n:Nat},(∀m,m<n->(p m&&q m)=false)->xs (λm=>p m||q m) f n=xs p f n^^^xs q f n
 |0,_=>by simp[xs]
 |n+1,h=>by
  have a:=h n J;simp only[xs];rw[qC λm c=>h m J,x4];congr 1;by_cases b:p n=true
  .rw [b]at a;simp only[Bool.true_and]at a;simp[b,a]
  .simp [b]
theorem rS{p:Nat->Bool}{f:aO}:∀{n:Nat},(∀m,m<n->p m=true->f m=0)->xs p f n=0
 |0,_=>rfl
 |n+1,h=>by
  simp only[xs];rw[rS λm b=>h m J];cases a:p n with
  |false=>simp
  |true=>simp[h n J a]
theorem rT{p:Nat->Bool}{f:aO}{a:Nat}:∀{n:Nat},a<n->(∀m,m<n->p m=decide (m=a))->xs p f n=f a
 |0,h,_=>J
 |n+1,h,b=>by
  simp only[xs];rw[b n J];by_cases e:n=a
  .subst e;rw[show xs p f n=0 from rS λm d c=>by rw[b m J]at c;simp at c;omega];simp
  .rw [rT (a:=a) J λm d=>b m J];simp[e]
theorem BK{p:Nat->Bool}{f:aO}:∀{n:Nat},(∀m,m<n->p m=true->f m<256)->xs p f n<256
 |0,_=>by simp[xs]
 |n+1,h=>by
  simp only[xs];refine YC (n:=8) (BK λm b=>h m J) ?_;cases a:p n with
  |false=>simp
  |true=>simpa using h n J a
def bP(n:Nat)(p:Nat->Bool):List Nat:=(UD n).filter p
theorem dG(n:Nat)(p:Nat->Bool):bP (n+1) p=bP n p++(if p n then[n]else[]):=by unfold bP;rw[UW,List.filter_append];cases a:p n<;>simp[a]
theorem bz{p:Nat->Bool}:m∈bP n p↔m<n/\p m=true:=by unfold bP;simp
theorem oo(p:Nat->Bool)(f:aO)(a:Nat):∀n,(bP n p).foldl (λx m=>x^^^f m) a=a^^^xs p f n
 |0=>by simp[bP,xs]
 |n+1=>by rw[dG,List.foldl_append,oo];simp only[xs];cases p n<;>simp[XV]
theorem wo(n:Nat)(p:Nat->Bool):(bP n p).Nodup:=List.Pairwise.filter _ List.nodup_range
theorem iP(n:Nat)(p:Nat->Bool):(bP n p).Pairwise (· <·):=List.Pairwise.filter _ List.pairwise_lt_range
theorem fv(n:Nat)(p:Nat->Bool):(bP n p).length<=n:=by unfold bP;exact QO (VS _ _) aJ
structure bp where
 n:Nat
 aL:Nat->Nat
 da:Nat->Nat->Nat
variable {K:bp}
structure bp.ok(g:au)(B:bp):Prop where
 aL:∀i,i<B.n->B.aL i<g.B
 da:∀i,i<B.n->∀k,k<128->B.da i k<256
def cO(g:au)(B:bp):Nat->Nat->Nat->Option Nat
 |0,_,_=>none
 |n+1,m,r=>if g.mem (B.aL n)=m/\g.row (B.aL n)=r then some n else cO g B n m r
def aX(g:au)(B:bp):Nat->Nat->Bool
 |0,_=>false
 |n+1,r=>g.row (B.aL n)==r||aX g B n r
theorem dy{g:au}{B:bp}:∀{n m r i:Nat},cO g B n m r=some i->i<n/\g.mem (B.aL i)=m/\g.row (B.aL i)=r
 |0,_,_,_,h=>by cases h
 |n+1,m,r,i,h=>by
  unfold cO at h;split at h
  .cases h;rename_i c;exact⟨J,c⟩
  .obtain ⟨a,b⟩:=dy h;exact⟨J,b⟩
theorem oq{g:au}{B:bp}:∀{n m r:Nat},cO g B n m r=none->∀i,i<n->¬(g.mem (B.aL i)=m/\g.row (B.aL i)=r)
 |0,_,_,_,_,h=>J
 |n+1,m,r,h,i,b=>by
  unfold cO at h;split at h
  .cases h
  .rename_i a;by_cases e:i=n
   .rw [e];exact a
   .exact oq h i J
theorem dg{g:au}{B:bp}:∀{n r:Nat},aX g B n r=true↔∃i,i<n/\g.row (B.aL i)=r
 |0,r=>by simp[aX]
 |n+1,r=>by
  unfold aX;rw[Bool.or_eq_true,dg,beq_iff_eq];constructor
  .rintro (h|⟨i,a,h⟩)
   .exact ⟨n,J,h⟩
   .exact ⟨i,J,h⟩
  .rintro ⟨i,a,h⟩;by_cases e:i=n
   .rw [e]at h;exact .inl h
   .exact .inr ⟨i,J,h⟩
def bp.gd(g:au)(B:bp)(m r:Nat):Bool:=(cO g B B.n m r).isSome
def bp.iQ(g:au)(B:bp)(m r:Nat):Nat->Nat:=match cO g B B.n m r with|some i=>B.da i|none=>λ_=>0
def bp.eR(g:au)(B:bp):List Nat:=bP g.R (aX g B B.n)
def bp.nJ(g:au)(B:bp)(r:Nat):List Nat:=bP g.M λm=>B.gd g m r
theorem bp.iR(h:g.ok):K.gd g (g.par r) r=false:=by
 unfold bp.gd;cases a:cO g K K.n (g.par r) r with
 |none=>rfl
 |some i=>obtain⟨_,b,c⟩:=dy a;have:=au.BJ h (K.aL i);rw[b,c]at this;exact absurd rfl this
theorem bp.BL(h:K.gd g m r=true):aX g K K.n r=true:=by
 unfold bp.gd at h;cases a:cO g K K.n m r with
 |none=>rw[a]at h;cases h
 |some i=>obtain⟨b,d,c⟩:=dy a;exact dg.2 ⟨i,b,c⟩
theorem bp.K'(h:i<K.n):K.gd g (g.mem (K.aL i)) (g.row (K.aL i))=true:=by
 unfold bp.gd;cases a:cO g K K.n (g.mem (K.aL i)) (g.row (K.aL i))with
 |none=>exact absurd ⟨rfl,rfl⟩ (oq a i h)
 |some i=>rfl
theorem bp.BM(a:K.ok g)(b:k<128):K.iQ g m r k<256:=by
 unfold bp.iQ;cases c:cO g K K.n m r with
 |none=>simp
 |some i=>exact a.da i (dy c).1 k b
def bp.base(g:au)(B:bp)(V:bW)(m r:Nat):Nat->Nat:=if B.gd g m r then B.iQ g m r else V m r
def bp.dR(g:au)(B:bp)(V:bW)(m r:Nat):Nat->Nat:=
 if m=g.par r/\aX g B B.n r=true thenλk=>xs (λa=>decide (a≠g.par r)) (λa=>B.base g V a r k) g.M else B.base g V m r
structure BN(g:au)(V:bW):Prop where
 lt:∀m r k,m<g.M->r<g.R->k<128->V m r k<256
 even:∀r k,r<g.R->k<128->xs (fun _=>true) (fun m=>V m r k) g.M=0
theorem tI(h:g.ok)(r:Nat)(f:aO):xs (λ_=>true) f g.M=xs (λm=>decide (m≠g.par r)) f g.M^^^f (g.par r):=by have:=qC (p:=λm=>decide (m≠g.par r)) (q:=λm=>decide (m=g.par r)) (f:=f) (n:=g.M) (λm _=>by by_cases e:m=g.par r<;>simp[e]);rw[<-rT (f:=f) (au.iO h r) (λm _=>rfl),<-this];exact dA λm _=>⟨by by_cases e:m=g.par r<;>simp[e],λ_=>rfl⟩
theorem BN.par(h:g.ok){V:bW}(hV:BN g V)(c:r<g.R)(d:k<128):V (g.par r) r k=xs (λm=>decide (m≠g.par r)) (λm=>V m r k) g.M:=by
 have:=hV.even r k c d;rw[tI h r]at this;have e:∀a b:Nat,a^^^b=0->b=a:=λa b h=>by
  have:(a^^^b)^^^b=0^^^b:=by rw[h]
  rw[XV,Nat.xor_self,Nat.xor_zero,Nat.zero_xor]at this;exact this.symm
 exact e _ _ this
theorem bp.yi(b:K.ok g){V:bW}(hV:BN g V)(c:m<g.M)(d:r<g.R)(a:k<128):K.base g V m r k<256:=by
 unfold bp.base;split
 .exact bp.BM b a
 .exact hV.lt m r k c d a
theorem bp.yj(h:g.ok)(j:K.ok g){V:bW}(hV:BN g V):BN g (K.dR g V):=by
 constructor
 .intro m r k b c d;unfold bp.dR;split
  .exact BK λa f _=>bp.yi j hV f c d
  .exact bp.yi j hV b c d
 .intro r k c d;by_cases i:aX g K K.n r=true
  .rw [tI h r];have l:K.dR g V (g.par r) r k=xs (λa=>decide (a≠g.par r)) (λa=>K.base g V a r k) g.M:=by unfold bp.dR;rw[ak ⟨rfl,i⟩]
   rw[l];rw[show xs (λm=>decide (m≠g.par r)) (λm=>K.dR g V m r k) g.M=xs (λa=>decide (a≠g.par r)) (λa=>K.base g V a r k) g.M from dA λm _=>⟨rfl,λb=>by unfold bp.dR;rw[al λe=>by simp at b;exact b e.1]⟩];exact Nat.xor_self _
  .rw [<-hV.even r k c d];refine dA λm _=>⟨rfl,λ_=>?_⟩;unfold bp.dR;rw[al λe=>i e.2];unfold bp.base;rw[al λe=>i (bp.BL e)]
theorem bp.ot(h:g.ok){V:bW}(b:aX g K K.n r=true):
  xs (λm=>decide (m≠g.par r)&& !K.gd g m r) (λm=>V m r k) g.M^^^xs (λm=>K.gd g m r) (λm=>K.iQ g m r k) g.M=K.dR g V (g.par r) r k:=by
 unfold bp.dR;rw[ak ⟨rfl,b⟩];rw[show xs (λm=>decide (m≠g.par r)&& !K.gd g m r) (λm=>V m r k) g.M=xs (λm=>decide (m≠g.par r)&& !K.gd g m r) (λm=>K.base g V m r k) g.M from dA λm _=>⟨rfl,λa=>by unfold bp.base;rw[al];intro e;rw[e]at a;simp at a⟩];rw[show xs (λm=>K.gd g m r) (λm=>K.iQ g m r k) g.M=xs (λm=>K.gd g m r) (λm=>K.base g V m r k) g.M from dA λm _=>⟨rfl,λa=>by unfold bp.base;rw[ak a]⟩];rw[<-qC λm _=>by cases K.gd g m r<;>simp];refine dA λm _=>⟨?_,λ_=>rfl⟩;by_cases e:m=g.par r
 .subst e;rw[bp.iR h];simp
 .cases K.gd g m r<;>simp[e]
theorem bp.FA(h:g.ok){V:bW}(hV:BN g V)(b:aX g K K.n r=true)(a:r<g.R)(c:k<128):
  xs (λm=>decide (m=g.par r)||K.gd g m r) (λm=>V m r k) g.M^^^xs (λm=>K.gd g m r) (λm=>K.iQ g m r k) g.M=K.dR g V (g.par r) r k:=by
 rw[<-bp.ot h (V:=V) b];congr 1;rw[qC λm _=>by
  by_cases e:m=g.par r
  .subst e;rw[bp.iR h];simp
  .simp [e]]
 rw[rT (f:=λm=>V m r k) (au.iO h r) λm _=>rfl];show V (g.par r) r k^^^_=_;rw[hV.par h a c];rw[show xs (λm=>decide (m≠g.par r)) (λm=>V m r k) g.M=xs (λm=>decide (m≠g.par r)&& !K.gd g m r) (λm=>V m r k) g.M^^^xs (λm=>K.gd g m r) (λm=>V m r k) g.M from by
  rw[<-qC λm _=>by cases K.gd g m r<;>simp];refine dA λm _=>⟨?_,λ_=>rfl⟩;by_cases e:m=g.par r
  .subst e;rw[bp.iR h];simp
  .cases K.gd g m r<;>simp[e]]
 rw[XV,Nat.xor_self,Nat.xor_zero]
section
def hq(a:Int)(e:TO):Bool:=match e.key with| .int .i64 b=>a==b|_=>false
def dC(a:Int):List TO->Nat->Option (Nat × QN)
 | [],_=>none
 |e::b,i=>if hq a e then some (i,e.val)else dC a b (i+1)
def jB(b:List TO):Prop:=∀e∈b,∃a,e.key= Y a
theorem BO{b:Array TO}{c:Nat}(h:jB b.toList):ty (.map b c)=1000000:=by simp only[ty];rw[al];rw[XN];rintro⟨e,f,d⟩;obtain⟨a,g⟩:=h e f;rw[g]at d;cases d
theorem tJ{a b:Int}{e:TO}(h:e.key= Y b):hq a e=(a==b):=by simp[hq,h]
theorem m_(a:Int):∀(c:List TO) (i:Nat),jB c->XL (.int .i64) (Y a) c i=some (dC a c i)
 | [],i,_=>rfl
 |e::c,i,h=>by obtain⟨b,d⟩:=h e SO;have f:=m_ a c (i+1) λg j=>h g (SY _ j);simp only[XL,dC,d,Instr.sameNow,if_true,tJ d];cases k:(a==b)<;>simp[f]
theorem gS(a:Int):∀(b:List TO) (i:Nat),dC a b i=(dC a b 0).map λp=>(p.1+i,p.2)
 | [],_=>rfl
 |e::b,i=>by
  simp only[dC];split
  .simp
  .rw [gS a b (i+1),gS a b (0+1),YY];congr 1;funext p;simp;omega
theorem tK(a:Int):∀(b:List TO) (i:Nat) (v:QN),dC a b 0=some (i,v)->∃e,b[i]?=some e/\hq a e=true/\e.val=v
 | [],_,_,h=>by cases h
 |e::b,i,v,h=>by
  simp only[dC]at h;split at h
  .rename_i d;cases h;exact⟨e,rfl,d,rfl⟩
  .rw [gS]at h;cases c:dC a b 0 with
   |none=>rw[c]at h;cases h
   |some p=>obtain⟨j,u⟩:=p;rw[c]at h;simp at h;obtain⟨rfl,rfl⟩:=h;obtain⟨f,g,k,l⟩:=tK a b j u c;exact⟨f,by simpa using g,k,l⟩
def IM(w:M)(d:Nat)(f:Int->Option QN):Prop:=
 ∃c b,w.heap[d]?=some (.map c b)/\jB c.toList/\∀a,(dC a c.toList 0).map (·.2)=f a
theorem IM.out{S:Nat->Prop}{w w1:M}{a:Nat}{f:Int->Option QN}(h:IM w a f)(b:Out S w w1)(d:¬S a):IM w1 a f:=by obtain⟨e,c,g,i,j⟩:=h;exact⟨e,c,b.heap g d,i,j⟩
theorem IM.lt{w:M}{a:Nat}{f:Int->Option QN}(h:IM w a f):a<w.heap.size:=by obtain⟨d,c,b,e,g⟩:=h;exact Z_ b
theorem IM.made(w:M):IM (w.alloc (.map #[] 0)) w.heap.size λ_=>none:=⟨#[],0,QM _ _,λ_ h=>by simp at h,λ_=>rfl⟩
theorem IM.congr{w:M}{b:Nat}{f g:Int->Option QN}(h:IM w b f)(e:∀a,f a=g a):IM w b g:=by obtain⟨d,c,i,j,k⟩:=h;exact⟨d,c,i,j,λa=>(k a).trans (e a)⟩
section
variable {P:Program}
theorem ht(b:Bool)(k:TI)(a:Int)(w:M)(c:P.underlying k=some (.int .i64)):(VM b 10000 k (Y a)).run P w=.ok () w:=by unfold VM;simp[TH c]
theorem iu(k:TI)(a:Int)(b:List TO)(w:M)(c:P.underlying k=some (.int .i64))(h:jB b):(XO k (Y a) b).run P w=.ok (dC a b 0) w:=by unfold XO;simp[TH c,m_ a b 0 h]
theorem ca{w:M}{r:Nat}{b:Array TO}{a:Nat}(c:aZ w r (.map b a)):(getObj r).run P w=.ok (.map b a) w:=by simp[getObj,Sem.run,c]
theorem cd{w:M}{r:Nat}{b:Array TO}{a:Nat}(o:Obj)(c:aZ w r (.map b a)):(setObj r o).run P w=.ok () (w.putObj r o):=by simp[setObj,Sem.run,c,World.putObj]
theorem fw{w:M}{d:Nat}{f:Int->Option QN}(h:IM w d f)(t k e:TI)(z:QN)(c:Bool)(j:P.underlying t=some (.map k e))(g:P.underlying k=some (.int .i64))(l:(zeroValue e).run P w=.ok z w)(a:Int):
  (VJ t (.map (some d)) (Y a) c).run P w=.ok (if c then .tuple #[(f a).getD z,.bool (f a).isSome]else(f a).getD z) w:=by
 obtain⟨m,r,n,o,q⟩:=h;have b:=q a;unfold VJ;simp only[SJ,TH j,RR,VK,ht _ _ _ _ g,iu _ _ _ _ g o,ca n];cases i:dC a m.toList 0 with
 |none=>rw[i]at b;simp only[VP]at b;rw[<-b];simp[l]
 |some p=>rw[i]at b;simp only[RJ]at b;rw[<-b];simp
theorem Out.wq{S:Nat->Prop}{a w:M}(h:Out S a w){l:Nat}(d:l<a.heap.size->S l)(o:Obj):Out S a (w.putObj l o):=
 ⟨h.os,h.tape,h.output,by rw[WZ];exact h.size,λk b c=>(TU (λe=>by subst e;exact c (d b))).trans (h.block k b c)⟩
theorem ou(a:Int)(v:QN)(x:TO):∀(c:List TO) (i:Nat),(∀b,hq b x=(b==a))->x.val=v->dC a c i=none->∀b,(dC b (c++ [x]) i).map (·.2)=if b=a then some v else(dC b c i).map (·.2)
 | [],i,g,h,_,b=>by
  simp only[VE,dC,g b];by_cases e:b=a
  .simp [e,h]
  .simp [e]
 |y::c,i,g,h,f,b=>by
  simp only[VB,dC]at f|-;split at f
  .cases f
  .rename_i j;have k:=ou a v x c (i+1) g h f b;by_cases d:hq b y=true
   .rw [ak d,ak d,al];intro e;subst e;exact j d
   .rw [al d,al d,k]
theorem qD(a:Int)(v:QN):∀(c:List TO) (i j:Nat) (u:QN),dC a c i=some (i+j,u)->∀b,(dC b (c.modify j λe=>{e with key:= Y a,val:=v}) i).map (·.2)=if b=a then some v else(dC b c i).map (·.2)
 | [],_,_,_,h,_=>by cases h
 |y::c,i,j,u,h,b=>by
  simp only[dC]at h;split at h
  .rename_i d;simp at h;obtain⟨rfl,rfl⟩:=h;have g:hq b y=(b==a):=by unfold hq at d|-;cases l:y.key<;>simp[l]at d|-;rename_i m q;cases m<;>simp at d|-;rw[d]
   simp only[ZA,dC,g];by_cases e:b=a
   .subst e;simp[hq]
   .have:hq b {y with key:= Y a,val:=v}=false:=by simp[hq,e]
    simp[e,this]
  .rename_i d;cases j with
   |zero=>
    have:=gS a c (i+1);rw[h]at this;cases k:dC a c 0 with
    |none=>rw[k]at this;cases this
    |some p=>rw[k]at this;simp at this;omega
   |succ j=>
    have n:=qD a v c (i+1) j u (by rw[h];congr 2;omega) b;simp only[ZB,dC];by_cases f:hq b y=true
    .rw [ak f,ak f,al];intro e;subst e;exact d f
    .rw [al f,al f,n]
theorem j_{w:M}{m:Nat}{f:Int->Option QN}(h:IM w m f)(t k e:TI)(U:P.underlying t=some (.map k e))(O:P.underlying k=some (.int .i64))(a:Int)(v:QN):
  ∃D,(TN t (.map (some m)) (Y a) v).run P w=.ok () D/\IM D m (λb=>if b=a then some v else f b)/\(∃o,ty o=1000000/\D=w.putObj m o):=by
 obtain⟨g,s,A,B,Q⟩:=h;have q:=Z_ A;unfold TN;simp only[SJ,TH U,RR,ht _ _ _ _ O,iu _ _ _ _ O B,ca A];cases E:dC a g.toList 0 with
 |none=>
  have d:jB (g.push {key:= Y a,val:=v,born:=s}).toList:=by
   intro x C;simp at C;rcases C with C|rfl
   .exact B x (by simpa using C)
   .exact ⟨a,rfl⟩
  refine⟨w.putObj m (.map (g.push {key:= Y a,val:=v,born:=s}) (s+1)),cd _ A,⟨_,_,TE q,d,λb=>?_⟩,_,BO d,rfl⟩
  .rw [Array.toList_push,ou a v _ _ _ (λb=>by simp[hq]) rfl E b,Q b]
 |some p=>
  obtain⟨i,u⟩:=p;obtain⟨x,r,l,V⟩:=tK a _ i u E;have F:g[i]?=some x:=by simpa using r
  have G:x.key= Y a:=by obtain⟨c,S⟩:=B x (RF r);rw[tJ S]at l;rw[S];simp at l;rw[l]
  have K:(WT (((g[i]?).map (·.key)).getD (Y a)) (Y a)).run P w=.ok (Y a) w:=by rw[F];simp[G,WT,XW]
  simp only[SJ,K,RR];have d:jB (g.modify i λe=>{e with key:= Y a,val:=v}).toList:=by
   intro y T;rw[VV,UH]at T;obtain⟨j,n⟩:=T;rw[List.getElem?_modify]at n;cases L:g.toList[j]? with
   |none=>rw[L]at n;simp at n
   |some z=>
    rw[L]at n;simp at n;subst n;split
    .exact ⟨a,rfl⟩
    .exact B z (RF L)
  refine⟨w.putObj m (.map (g.modify i λe=>{e with key:= Y a,val:=v}) s),cd _ A,⟨_,_,TE q,d,λb=>?_⟩,_,BO d,rfl⟩
  .rw [VV,qD a v _ 0 i u (by rw[E,RQ]) b,Q b]
theorem hS{w:M}{a:Nat}{f:Int->Option QN}(h:IM w a f)(t b k e:TI)(i:P.underlying t=some (.map k e)):
  ∃c,(Builtin.clear_ #[t] b #[.map (some a)]).run P w=.ok (.tuple #[]) c/\IM c a (λ_=>none)/\(∃o,ty o=1000000/\c=w.putObj a o):=by
 obtain⟨l,j,d,m,n⟩:=h;have g:=Z_ d;refine⟨w.putObj a (.map #[] j),?_,⟨_,_,TE g,λ_ h=>by simp at h,λ_=>rfl⟩,_,rfl,rfl⟩;unfold Builtin.clear_;simp[TH i,ca d,cd _ d]
end
end
section
open Go.Maps
def R0(_:QN):Option (DataW Unit × List MemPlace):=some (.lit (.bool true),[])
def nK(f:Nat->Option QN)(a:Int):Option QN:=if 0<=a then f a.toNat else none
structure KM(w:M)(ms n:Nat)(f:Nat->Option QN):Prop where
 im:IM w ms (nK f)
 own:∃D:DataW Unit,w.ownsMap prog 3 R0 ms n D/\Tidy D/\∀a:Int,has D (.int .i64 a)=(nK f a).isSome
theorem KM.lt{f:Nat->Option QN}(h:KM w m n f):m<w.heap.size:=h.im.lt
theorem KM.out{w w1:M}{f:Nat->Option QN}(h:KM w m n f)(a:Out S w w1)(b:¬S m):KM w1 m n f:=by obtain⟨D,⟨c,d,e,g⟩,i⟩:=h.own;exact⟨h.im.out a b,D,⟨c,d,a.heap e b,g⟩,i⟩
theorem KM.below{f:Nat->Option QN}(h:KM w m n f)(a:ar w W):KM W m n f:=h.out (Out.af (S:=λ_=>False) a) id
theorem KM.congr{f g:Nat->Option QN}(h:KM w m n f)(e:∀a,f a=g a):KM w m n g:=by have:f=g:=funext e;rw[<-this];exact h
theorem KM.mono{f:Nat->Option QN}(h:KM w m n f)(a:n<=k):KM w m k f:=by obtain⟨D,b,c⟩:=h.own;exact⟨h.im,D,b.mono a,c⟩
theorem KM.made(w:M):KM (w.alloc (.map #[] 0)) w.heap.size 0 λ_=>none:=by
 refine⟨(IM.made w).congr λa=>?_,.map [],World.ownsMap_made w _ _ _,tidy_empty,λa=>?_⟩
 .unfold nK;split<;>rfl
 .unfold nK;split<;>rfl
theorem IP(h:n<=1000000):(Lit.int .i64 (n:Nat)).wf=true:=by simp only[Lit.wf,VX,decide_eq_true_eq];have a:QQ.min<=(0:Int):=ai;have b:(1000000:Int)<=QQ.max:=ai;have c:(0:Int)<=(n:Nat):=Int.natCast_nonneg n;have d:((n:Nat):Int)<=1000000:=J;exact⟨Int.le_trans a c,Int.le_trans d b⟩
theorem dh{f:Nat->Option QN}(h:KM w m n f)(t e:TI)(z:QN)(c:Bool)(b:prog.underlying t=some (.map 3 e))(d:(zeroValue e).run prog w=.ok z w)(a:Nat):
  (VJ t (.map (some m)) (Y a) c).run prog w=.ok (if c then .tuple #[(f a).getD z,.bool (f a).isSome]else(f a).getD z) w:=by
 have:=fw h.im t 3 e z c b XP d (a:Nat);have e:nK f (a:Nat)=f a:=by simp[nK]
 rw[e]at this;exact this
theorem tL(f:Nat->Option QN)(a:Nat)(v:QN)(b:Int):(if b=(a:Nat)then some v else nK f b)=nK (λc=>if c=a then some v else f c) b:=by
 unfold nK;by_cases h:0<=b
 .rw [ak h,ak h];by_cases e:b=(a:Nat)
  .subst e;simp
  .rw [al e];show f b.toNat=if b.toNat=a then some v else f b.toNat
   rw[al];omega
 .rw [al h,al h,al];omega
theorem g'{f:Nat->Option QN}(h:KM w m n f)(B:n<=1000000)(t e:TI)(g:prog.underlying t=some (.map 3 e))(q:i<=1000000)(v:QN):
  ∃c,(TN t (.map (some m)) (.int .i64 (i:Nat)) v).run prog w=.ok () c/\KM c m (n+1) (λb=>if b=i then some v else f b)/\Out (λk=>k=m) w c:=by
 obtain⟨D,r,j,s⟩:=h.own;obtain⟨u,l,x,o,_,C⟩:=j_ h.im t 3 e g XP (i:Nat) v;obtain⟨E,p,y,a⟩:=r.update (int_keyed XP) g (by simp[UT];omega) (keyOf_int_mk XP (IP q)) (val:=v) (d:=.lit (.bool true)) (ps:= []) rfl;rw[l]at p;cases p;refine⟨u,l,⟨x.congr λb=>tL f i v b,_,y,j.put (k:=.int .i64 (i:Nat)) (by trivial) _,λb=>?_⟩,⟨a.os,a.tape,a.output,a.size,λk z A=>a.block k z λe=>A (by cases e;rfl)⟩⟩;by_cases e:b=(i:Nat)
 .subst e;rw[has_put_same (k:=.int .i64 (i:Nat)) j.isMap (by trivial)];simp[nK]
 .rw [has_put_other (λh=>e (by cases h;rfl)),s b,<-tL f i v b,al e]
theorem KM.keys{f:Nat->Option QN}(h:KM w m n f)(u:∀a,k<=a->f a=none):∃D:DataW Unit,w.ownsMap prog 3 R0 m n D/\((bP k λa=>(f a).isSome).map λa=>((a:Nat):Int)).Perm (intKeys D):=by
 obtain⟨D,s,⟨G,rfl,j⟩,v⟩:=h.own;refine⟨_,s,perm_intKeys j ?_ ?_ λx=>?_⟩
 .intro p j;obtain⟨d,K,L,A,O,B⟩:=s;have g:p∈(d.toList.map (YU prog 3 R0)).foldr XT []:=by cases B;exact j
  have:∀(l:List (Lit × DataW Unit)),p∈l.foldr XT []->p∈l:=λl=>by
   induction l with
   |nil=>exact id
   |cons x r o=>
    intro C;have i:∀(y:Lit × DataW Unit) (r:List (Lit × DataW Unit)),p∈XT y r->p=y\/p∈r:=λy r=>by
     induction r with
     |nil=>intro h;simpa[XT]using h
     |cons z r o=>
      intro h;unfold XT at h;split at h
      .simpa using h
      .rcases UR.1 h with h|h
       .exact .inr (by rw[h];exact SO)
       .exact (o h).imp id (SY _)
    rcases i _ _ C with h|h
    .rw [h];exact SO
    .exact SY _ (o h)
  obtain⟨x,c,rfl⟩:=SA.1 (this _ g);obtain⟨y,t⟩:=A.reads x c;have E:=Go.WideElems.rd_key t;obtain⟨a,_,q,_⟩:=Maps.keyOf_i64 XP E;refine⟨a,?_⟩;unfold YU;rw[t];exact q
 .exact YJ.2 ((wo _ _).imp λ{a b} h e=>h J)
 .rw [v x,SA];constructor
  .rintro ⟨a,q,rfl⟩;simp only[nK,Int.natCast_nonneg,if_true,Int.toNat_natCast];exact(bz.1 q).2
  .intro c;unfold nK at c;split at c
   .rename_i P;refine⟨x.toNat,bz.2 ⟨?_,c⟩,J⟩;by_cases F:x.toNat<k
    .exact F
    .rw [u _ J]at c;cases c
   .cases c
end
section
open Go.Maps Go.Sort Go.Shelf
def qE:ZP:=⟨fun|7=>252|10=>297|n=>n,fun|23=>338|26=>3|3=>339|28=>341|0=>0|27=>243|33=>109|4=>4|n=>n,fun|n=>n⟩
theorem HS:SlLaysZI.n7 prog qE:={
 mixed:=aE
 f7:=⟨Tryz.f252.name,ai,func252.trans (congrArg some aE)⟩
 f10:=⟨Tryz.f297.name,ai,func297.trans (congrArg some aE)⟩
 t0:=underlying0
 a0:=isAgg0
 z0:=sizeOf0
 v0:=zeroValue0
 t4:=underlying4
 a4:=isAgg4
 z4:=sizeOf4
 v4:=zeroValue4
 t23:=ZF
 a23:=isAgg338
 z23:=sizeOf338
 v23:=zeroValue338
 t26:=XP
 a26:=isAgg3
 z26:=sizeOf3
 v26:=zeroValue3
 t27:=underlying243
 a27:=isAgg243
 z27:=sizeOf243
 v27:=zeroValue243
 t28:=underlying341
 a28:=isAgg341
 z28:=sizeOf341
 v28:=zeroValue341
 t33:=underlying109
 a33:=isAgg109
 z33:=sizeOf109
 v33:=zeroValue109}
def qF:ZP:=⟨fun|7=>253|10=>298|n=>n,fun|23=>339|26=>3|3=>206|28=>341|0=>0|27=>243|33=>109|4=>4|n=>n,fun|n=>n⟩
theorem HT:SlLaysZI.n7 prog qF:={
 mixed:=aE
 f7:=⟨Tryz.f253.name,ai,func253.trans (congrArg some aE)⟩
 f10:=⟨Tryz.f298.name,ai,func298.trans (congrArg some aE)⟩
 t0:=underlying0
 a0:=isAgg0
 z0:=sizeOf0
 v0:=zeroValue0
 t4:=underlying4
 a4:=isAgg4
 z4:=sizeOf4
 v4:=zeroValue4
 t23:=underlying339
 a23:=isAgg339
 z23:=sizeOf339
 v23:=zeroValue339
 t26:=XP
 a26:=isAgg3
 z26:=sizeOf3
 v26:=zeroValue3
 t27:=underlying243
 a27:=isAgg243
 z27:=sizeOf243
 v27:=zeroValue243
 t28:=underlying341
 a28:=isAgg341
 z28:=sizeOf341
 v28:=zeroValue341
 t33:=underlying109
 a33:=isAgg109
 z33:=sizeOf109
 v33:=zeroValue109}
def m':ZP:=⟨fun|6=>251|8=>295|9=>296|11=>323|13=>325|12=>324|23=>353|24=>354|14=>344|15=>345|16=>346|17=>347|18=>348|19=>349|20=>350|21=>351|22=>352|25=>370|26=>371|27=>372|28=>373|29=>374|30=>375|31=>385|n=>n,fun|26=>3|28=>341|24=>82|0=>0|3=>3|37=>157|48=>224|50=>87|4=>4|40=>445|39=>444|45=>386|5=>5|9=>9|51=>460|55=>214|57=>469|58=>470|33=>109|n=>n,fun|n=>n⟩
theorem yk:SlLaysZI.n6 prog m':={
 mixed:=aE
 f6:=⟨Tryz.f251.name,ai,func251.trans (congrArg some aE)⟩
 f8:=⟨Tryz.f295.name,ai,func295.trans (congrArg some aE)⟩
 f11:=⟨Tryz.f323.name,ai,func323.trans (congrArg some aE)⟩
 t0:=underlying0
 a0:=isAgg0
 z0:=sizeOf0
 v0:=zeroValue0
 t24:=YM
 a24:=isAgg82
 z24:=sizeOf82
 v24:=zeroValue82
 t26:=XP
 a26:=isAgg3
 z26:=sizeOf3
 v26:=zeroValue3
 t28:=underlying341
 a28:=isAgg341
 z28:=sizeOf341
 v28:=zeroValue341
 i26:=by kernel_rfl}
def zs:ZP:=⟨fun|5=>296|8=>325|7=>324|19=>353|20=>354|10=>344|11=>345|12=>346|13=>347|14=>348|15=>349|16=>350|17=>351|18=>352|30=>370|31=>371|32=>372|33=>373|34=>374|35=>375|40=>385|n=>n,fun|23=>82|25=>3|3=>3|32=>157|22=>82|0=>0|44=>224|46=>87|4=>4|36=>445|35=>444|41=>386|5=>5|9=>9|53=>460|57=>214|63=>469|64=>470|n=>n,fun|n=>n⟩
theorem HU:SlLaysM.n5 prog zs:={
 mixed:=aE
 f5:=⟨Tryz.f296.name,ai,func296.trans (congrArg some aE)⟩
 f7:=⟨Tryz.f324.name,ai,func324.trans (congrArg some aE)⟩
 f8:=func325.trans (congrArg some aE)
 f10:=⟨Tryz.f344.name,ai,func344.trans (congrArg some aE)⟩
 f11:=⟨Tryz.f345.name,ai,func345.trans (congrArg some aE)⟩
 f12:=⟨Tryz.f346.name,ai,func346.trans (congrArg some aE)⟩
 f13:=⟨Tryz.f347.name,ai,func347.trans (congrArg some aE)⟩
 f14:=⟨Tryz.f348.name,ai,func348.trans (congrArg some aE)⟩
 f15:=⟨Tryz.f349.name,ai,func349.trans (congrArg some aE)⟩
 f16:=⟨Tryz.f350.name,ai,func350.trans (congrArg some aE)⟩
 f17:=⟨Tryz.f351.name,ai,func351.trans (congrArg some aE)⟩
 f18:=⟨Tryz.f352.name,ai,func352.trans (congrArg some aE)⟩
 f19:=func353.trans (congrArg some aE)
 f20:=func354.trans (congrArg some aE)
 f30:=⟨Tryz.f370.name,ai,func370.trans (congrArg some aE)⟩
 f31:=func371.trans (congrArg some aE)
 f32:=func372.trans (congrArg some aE)
 f33:=⟨Tryz.f373.name,ai,func373.trans (congrArg some aE)⟩
 f34:=⟨Tryz.f374.name,ai,func374.trans (congrArg some aE)⟩
 f35:=⟨Tryz.f375.name,ai,func375.trans (congrArg some aE)⟩
 f40:=⟨Tryz.f385.name,ai,func385.trans (congrArg some aE)⟩
 t0:=underlying0
 a0:=isAgg0
 z0:=sizeOf0
 v0:=zeroValue0
 t3:=XP
 a3:=isAgg3
 z3:=sizeOf3
 v3:=zeroValue3
 t4:=underlying4
 a4:=isAgg4
 z4:=sizeOf4
 v4:=zeroValue4
 t5:=UL
 a5:=isAgg5
 z5:=sizeOf5
 v5:=zeroValue5
 t9:=underlying9
 a9:=isAgg9
 z9:=sizeOf9
 v9:=zeroValue9
 t22:=YM
 a22:=isAgg82
 z22:=sizeOf82
 v22:=zeroValue82
 t23:=YM
 a23:=isAgg82
 z23:=sizeOf82
 v23:=zeroValue82
 t25:=XP
 a25:=isAgg3
 z25:=sizeOf3
 v25:=zeroValue3
 t32:=underlying157
 a32:=isAgg157
 z32:=sizeOf157
 v32:=zeroValue157
 t35:=underlying444
 a35:=isAgg444
 z35:=sizeOf444
 v35:=zeroValue444
 t36:=underlying445
 a36:=isAgg445
 z36:=sizeOf445
 v36:=zeroValue445
 t41:=underlying386
 a41:=isAgg386
 z41:=sizeOf386
 v41:=zeroValue386
 t44:=underlying224
 a44:=isAgg224
 z44:=sizeOf224
 v44:=zeroValue224
 t46:=underlying87
 a46:=isAgg87
 z46:=sizeOf87
 v46:=zeroValue87
 t53:=underlying460
 a53:=isAgg460
 z53:=sizeOf460
 v53:=zeroValue460
 t57:=underlying214
 a57:=isAgg214
 z57:=sizeOf214
 v57:=zeroValue214
 t63:=underlying469
 a63:=isAgg469
 z63:=sizeOf469
 v63:=zeroValue469
 t64:=underlying470
 a64:=isAgg470
 z64:=sizeOf470
 v64:=zeroValue470}
theorem BP(m:Nat):AnyZI.SortsIn prog m' UF m:=
 ⟨λc d a f W g b e=>VA.2 (AnyM.slices_Sort_int HU c d a f W g b e),
  λp a W=>VA.2 (AnyM.slices_Sort_int_none HU p a W)⟩
def iv(l:List Nat)(w:M)(e:SG)(b:M):Prop:=
 ∃v,aK e v/\b.ownsRow w.heap.size 3 1 v l.length (l.map λa=>SU .i64 (a:Nat))/\ar w b
theorem zt(a:Option Nat)(W:M):aD 252 #[.map a] W λe b=>aK e (.func (.func 297) #[] #[H W.heap.size])/\b=W.alloc (N #[.map a] 338):=
 (VA (n:=5)).1 (AnyZI.keys_in HS UF 5 trivial rfl a W)
theorem zu(a:Option Nat)(W:M):aD 253 #[.map a] W λe b=>aK e (.func (.func 298) #[] #[H W.heap.size])/\b=W.alloc (N #[.map a] 339):=
 (VA (n:=5)).1 (AnyZI.keys_in HT UF 5 trivial rfl a W)
theorem na{f:List Int}{D:DataW Unit}{p:Nat->Bool}(d:f.Perm (intKeys D))(e:((bP n p).map λa=>((a:Nat):Int)).Perm (intKeys D)):f.mergeSort (λx y=>decide (x<=y))=(bP n p).map λa=>((a:Nat):Int):=by
 have h:=d.trans e.symm;have i:∀a b c:Int,decide (a<=b)=true->decide (b<=c)=true->decide (a<=c)=true:=λa b c d e=>by simp only[decide_eq_true_eq]at*;exact Int.le_trans d e
 have g:∀a b:Int,(decide (a<=b)||decide (b<=a))=true:=λa b=>by simp only[Bool.or_eq_true,decide_eq_true_eq];exact Int.le_total a b
 refine List.Perm.eq_of_pairwise (le:=λa b=>decide (a<=b)=true) (λa b _ _ d e=>?_) (List.pairwise_mergeSort i g f) ?_ ((List.mergeSort_perm f _).trans h)
 .simp only[decide_eq_true_eq]at d e;exact Int.le_antisymm d e
 .refine YJ.2 ((iP n p).imp λ{a b} h=>?_);simp only[decide_eq_true_eq];omega
theorem tM(g b n L:Nat)(f:Nat->Option QN)(w:M)(j:aZ w g (N #[.map (some b)] 338))(h:KM w b n f)(x:n<=1000000)(p:∀a,L<=a->f a=none):
  aD 251 #[.func (.func 297) #[] #[H g]] w (iv (bP L λa=>(f a).isSome) w):=by
 refine(VA (n:=5)).1 ?_;obtain⟨D,k,l⟩:=h.keys p;have q:Maps.size D<=n:=by obtain⟨r,y,_,_,s,rfl⟩:=k;show((r.toList.map (YU prog 3 R0)).foldr XT []).length<=n;rw[length_sorted];simpa using s
 have d:SeqGives UF 2 prog 297 #[H g] encZ (λi=>i.Perm (intKeys D)) (Maps.size D) w:=
  AnyZI.keys_gives (ρ:=qE) {HS with} UF _ trivial rfl J g b n D w (Z_ j) ((cr j).1 0) k
 have m:=AnyZI.sorted_in yk UF 5 trivial trivial trivial trivial rfl J (BP _) (RP func296 aE rfl) 297 #[H g] trivial (RP func297 aE rfl) _ _ (by simp[UT];omega) J _ d;change CallsIn _ _ prog 251 _ _ _ at m;refine m.mono ?_;rintro e z ⟨v,i,rfl,o,c,-,t⟩;have u:i.length=(bP L λa=>(f a).isSome).length:=by have:=(o.trans l.symm).length_eq;rw[this,RL]
 rw[na o l,List.map_map,u]at c;exact⟨v,rfl,c,t⟩
theorem tO(g b n L:Nat)(f:Nat->Option QN)(w:M)(j:aZ w g (N #[.map (some b)] 339))(h:KM w b n f)(x:n<=1000000)(p:∀a,L<=a->f a=none):
  aD 251 #[.func (.func 298) #[] #[H g]] w (iv (bP L λa=>(f a).isSome) w):=by
 refine(VA (n:=5)).1 ?_;obtain⟨D,k,l⟩:=h.keys p;have q:Maps.size D<=n:=by obtain⟨r,y,_,_,s,rfl⟩:=k;show((r.toList.map (YU prog 3 R0)).foldr XT []).length<=n;rw[length_sorted];simpa using s
 have d:SeqGives UF 2 prog 298 #[H g] encZ (λi=>i.Perm (intKeys D)) (Maps.size D) w:=
  AnyZI.keys_gives (ρ:=qF) {HT with} UF _ trivial rfl J g b n D w (Z_ j) ((cr j).1 0) k
 have m:=AnyZI.sorted_in yk UF 5 trivial trivial trivial trivial rfl J (BP _) (RP func296 aE rfl) 298 #[H g] trivial (RP func298 aE rfl) _ _ (by simp[UT];omega) J _ d;change CallsIn _ _ prog 251 _ _ _ at m;refine m.mono ?_;rintro e z ⟨v,i,rfl,o,c,-,t⟩;have u:i.length=(bP L λa=>(f a).isSome).length:=by have:=(o.trans l.symm).length_eq;rw[this,RL]
 rw[na o l,List.map_map,u]at c;exact⟨v,rfl,c,t⟩
end
theorem ZX(n:Nat)(h:n<4294967296):(UU 32 (n:Int)).toNat=n:=by rw[XF,XU];exact SL J
theorem nV(a b:Nat)(c:a<4294967296)(d:b<4294967296):bits .xor .u32 (a:Int) (b:Int)=((a^^^b:Nat):Int):=by have e:a^^^b<2^32:=YC J J;show IntKind.u32.wrap ((UU 32 (a:Int)^^^UU 32 (b:Int)).toNat:Int)=_;rw[BitVec.toNat_xor,ZX a c,ZX b d,IntKind.wrap_u32];omega
theorem rU(a b:Nat)(c:a<4294967296)(d:b<4294967296):bits .and .u32 (a:Int) (b:Int)=((a&&&b:Nat):Int):=by have e:a&&&b<2^32:=Nat.and_lt_two_pow _ J;show IntKind.u32.wrap ((UU 32 (a:Int)&&&UU 32 (b:Int)).toNat:Int)=_;rw[BitVec.toNat_and,ZX a c,ZX b d,IntKind.wrap_u32];omega
def IQ(n:Nat):Nat:=(n/2)^^^(2197175160*(n&&&1)%4294967296)
def nb(n:Nat):Nat->Nat
 |0=>n
 |k+1=>IQ (nb n k)
def zv(i:Nat):Nat:=nb i 4
def wu(n:Nat):Nat:=(n/16)^^^zv (n&&&15)
def iw(n:Nat)(f:aO):Nat->Nat
 |0=>n
 |k+1=>wu (wu (iw n f k^^^f k))
def ov(n:Nat):Nat:=4294967295^^^n
def dD(s L:Nat)(f:aO):Nat:=ov (iw (ov s) f L)
theorem La(a:m<4294967296)(b:k<4294967296):m^^^k<4294967296:=YC (n:=32) J J
theorem FB(n:Nat)(h:n<4294967296):IQ n<4294967296:=La J (SB _ J)
theorem tP(n k:Nat)(h:n<4294967296):nb n k<4294967296:=by
 induction k with
 |zero=>exact h
 |succ k a=>exact FB _ a
theorem tQ(n:Nat):n&&&15<16:=Nat.lt_succ_of_le Nat.and_le_right
theorem ym(n:Nat):zv (n&&&15)<4294967296:=tP _ _ (by have:=tQ n;omega)
theorem rV(n:Nat)(h:n<4294967296):wu n<4294967296:=La J (ym n)
theorem ow(n:Nat)(f:aO)(L:Nat)(h:n<4294967296)(a:∀k,k<L->f k<256):iw n f L<4294967296:=by
 induction L with
 |zero=>exact h
 |succ k b=>exact rV _ (rV _ (La (b λj c=>a j J) (by have:=a k J;omega)))
theorem rW(n:Nat)(h:n<4294967296):ov n<4294967296:=La J h
theorem gT(s L:Nat)(f:aO)(h:s<4294967296)(a:∀k,k<L->f k<256):dD s L f<4294967296:=rW _ (ow _ f L (rW _ h) a)
theorem IS(n:Nat)(h:n<4294967296):bits .xor .u32 ((n:Int)/2) (2197175160*bits .and .u32 (n:Int) 1%4294967296)=((IQ n:Nat):Int):=by have a:bits .and .u32 (n:Int) 1=((n&&&1:Nat):Int):=rU n 1 h J;rw[a];exact nV (n/2) (2197175160*(n&&&1)%4294967296) J (SB _ J)
def br(n:Nat)(f:Nat->QN):Array QN:=((UD n).map f).toArray
theorem zw(n:Nat)(f:Nat->QN):(br n f).size=n:=by simp[br]
theorem cf(n:Nat)(f:Nat->QN)(k:Nat)(h:k<n):(br n f)[k]?=some (f k):=by simp[br,h]
theorem kU{f g:Nat->QN}(h:∀k,k<n->f k=g k):br n f=br n g:=by unfold br;congr 1;exact VH λx a=>h x (by simpa using a)
theorem eY(n:Nat)(f:Nat->QN)(i:Nat)(v:QN):(br n f).setIfInBounds i v=br n λk=>if k=i then v else f k:=by
 apply Array.ext
 .simp [br]
 .intro k b c;by_cases h:i=k
  .subst h;simp[br]
  .have a:¬k=i:=λe=>h e.symm;simp[br,h,a]
def qi(k i:Nat):QN:=.int .u32 (if i<k then zv i else 0)
theorem BQ(k:Nat):(br 16 (qi k)).setIfInBounds k (.int .u32 (nb k 4:Nat))=br 16 (qi (k+1)):=by
 rw[eY];refine kU λi _=>?_;unfold qi zv;by_cases h:i=k
 .subst h;simp
 .rw [al h];by_cases a:i<k
  .rw [ak a,ak J]
  .rw [al a,al J]
def kt:Array QN:=br 16 (qi 16)
theorem rX:(prog.info? 369).map (·.size)=some 16:=aE
theorem tR{f:Nat->QN}(h:∀i,i<n->(f i).oneCell'=true):∀v∈(br n f).toList,v.oneCell'=true:=by intro x a;simp only[br,SA,UJ]at a;obtain⟨i,b,rfl⟩:=a;exact h i b
theorem PD(h:SM n w W)(b:n<=m)(a:Array QN):SM n w (W.setRow m a):=
 h.trans ⟨rfl,rfl,rfl,aJ,λk c=>setRow_other W m k a J⟩
theorem BS(w:M):aD 291 #[] w λe s=>aK e (.agg kt)/\SM w.heap.size w s:=by
 go_enter func291,ntmps291;go_wp2;obtain⟨W,c⟩:=ah (w.alloc (N #[.int .u32 0,.int .u32 0,.int .u32 0,.int .u32 0,.int .u32 0,.int .u32 0,.int .u32 0,.int .u32 0,.int .u32 0,.int .u32 0,.int .u32 0,.int .u32 0,.int .u32 0,.int .u32 0,.int .u32 0,.int .u32 0] 369));have m:RH (aZ W w.heap.size (N (br 16 (qi 0)) 369)/\SM w.heap.size w W):=by rw[<-c];exact⟨QM w _,aI aj _⟩
 rw[c];clear c;obtain⟨g,b⟩:=ah w.heap.size;have t:=I b;rw[b];rw[b]at m;clear b;go_loopw [3] (λd wr=>∃k:Nat,k<=16/\d= Y k/\RH (aZ wr g (N (br 16 (qi k)) 369)/\SM g w wr)) (λd _=>16-(intOf d).toNat)
 case atStart=>exact⟨0,J,rfl,m⟩
 case round=>
  obtain⟨k,C,rfl,a⟩:=hrel;by_cases f:k<16
  .have u:(k:Int)%4294967296=k:=J;go_wp2;go_loop [2,8] (λv h=>∃j:Nat,j<=4/\h= Y j/\v=.int .u32 (nb k j:Nat)) (λ_ h=>4-(intOf h).toNat)
   case atStart=>exact⟨0,J,rfl,rfl⟩
   case round=>
    obtain⟨j,D,rfl,rfl⟩:=hrel;by_cases x:j<4
    .have o:=I (IS (nb k j) (tP _ _ J));obtain⟨n,i⟩:=ah (nb k j);have y:=I i;rw[i]at o|-;clear i;go_wp2;rw[o.out];go_round
     case rel=>exact⟨j+1,J,by go_num,by rw[<-y.out];rfl⟩
     case measure=>simp[intOf];omega
    .obtain rfl:j=4:=J;obtain⟨q,E,c3⟩:=cr a.1;have c4:wr.cell? (R g k)=some (qi k k):=by rw[q];exact cf _ _ _ f
     have F:(0:Int)<=k:=J;clear q;go_wp2;go_roundw
     case rel=>refine⟨k+1,J,by go_num,?_,a.2.setCell (p:=R g k) (QP _) _⟩;have r:=heap_setCell_same wr g k _ _ (.int .u32 (nb k 4:Nat)) a.1;rw[BQ]at r;exact r
     case measure=>simp[intOf];omega
  .obtain rfl:k=16:=J;have l:=a.1;have z:(storeCells (R g 0) kt.toList).run prog wr=.ok () (wr.setRow g kt):=by have:=run_storeCells_from (P:=prog) g 369 kt.toList 0 kt wr l aJ (tR λ_ _=>rfl);simpa using this
   go_wp2_with(refine wpList_load_row rfl 369 _ rfl g rfl 369 kt (0,0) _ l underlying369 rfl (by rw[rX];rfl) ?_);have A:=setRow_heap wr g _ kt _ _ l;have B:SM g w (wr.setRow g kt):=PD a.2 (QP _) _;exact RB (results_cell_row rfl _ _ g 369 kt (0,0) _ rfl A underlying369 rfl (by rw[rX];rfl)) rfl ⟨rfl,t▸B⟩
theorem BU(n:Nat)(h:n<4294967296):bits .xor .u32 IntKind.u32.max (n:Int)=((ov n:Nat):Int):=nV 4294967295 n J h
theorem BV(n:Nat)(h:n<4294967296):bits .xor .u32 ((n:Int)/16) ((zv (n&&&15):Nat):Int)=((wu n:Nat):Int):=nV (n/16) _ J (ym n)
theorem tS(s L:Nat)(v:QN)(f:aO)(w:QL)(F:s<4294967296)(h:lX w v L f)(Z:∀k,k<L->f k<256)(a3:L<=140737488355328):
  aD 247 #[.int .u32 s,v] w λe H=>aK e (.int .u32 (dD s L f:Nat))/\ar w H:=by
 obtain⟨a,N,rfl,h⟩:=h;have M:=ad h;have y:=ad Z;go_enter func247,ntmps247;go_wp2_with fail;refine(BS w).mono ?_;rintro e c ⟨rfl,R⟩;have q:=ad R;have I:(storeCells (ag c.heap.size 0) kt.toList 0).run prog (c.alloc (ao #[.int .u32 0,.int .u32 0,.int .u32 0,.int .u32 0,.int .u32 0,.int .u32 0,.int .u32 0,.int .u32 0,.int .u32 0,.int .u32 0,.int .u32 0,.int .u32 0,.int .u32 0,.int .u32 0,.int .u32 0,.int .u32 0] 369))=.ok () (c.alloc (ao kt 369)):=
  run_storeCells_new c 369 _ kt (by rw[rX];rfl) rfl (by rw[Array.all_eq_true_iff_forall_mem];intro x z;exact tR (n:=16) (f:=qi 16) (λ_ _=>rfl) x (by rw[Array.mem_toList_iff];exact z))
 go_wp2;obtain⟨W,G⟩:=ah (c.alloc (ao kt 369));have t:RH (aZ W c.heap.size (ao kt 369)/\ar w W/\∀k,k<L->∃b o,a=some (ag b o)/\W.cell? ⟨b,o+k,none⟩=some (.int .u8 (f k))):=by
  rw[<-G];refine⟨QM c _,aI q _,λk A=>?_⟩;rcases M.out with K|⟨b,o,e,O⟩
  .omega
  .exact ⟨b,o,e,by rw[(aI q.out _).cell (p:=⟨b,o+k,none⟩) (QY w _ (O k A))];exact O k A⟩
 rw[G];obtain⟨g,Y⟩:=ah c.heap.size;rw[Y]at t|-;have P:RH (∀i,i<16->W.cell? (ag g i)=some (.int .u32 (zv i:Nat))):=λi Q=>by rw[(cr t.1).1,show kt=br 16 (qi 16)from rfl,cf _ _ _ Q];unfold qi;rw[ak Q]
 rw[BU s F];have S:=rW s F;go_loop [6,14] (λJ l=>∃k:Nat,k<=L/\l= ae k/\J=.int .u32 (iw (ov s) f k:Nat)) (λ_ l=>L-(intOf l).toNat)
 case atStart=>exact⟨0,QX _,rfl,rfl⟩
 case round=>
  obtain⟨k,A,rfl,rfl⟩:=hrel;by_cases r:k<L
  .obtain ⟨b,o,rfl,c1⟩:=t.2.2 k r;have z:=y.out k r;have T:=ow (ov s) f k S λj a4=>y.out j aa;have u:RH (iw (ov s) f (k+1)=wu (wu (iw (ov s) f k^^^f k))):=rfl;have B:=nV (iw (ov s) f k) (f k) T aa;have fX:=La T (show f k<4294967296 by omega);have fg:=rV _ fX;obtain⟨n0,K⟩:=ah (iw (ov s) f k);rw[K]at u B fX fg|-;obtain⟨d,h1⟩:=ah (n0^^^f k);rw[h1]at u B fX fg;obtain⟨x,C⟩:=ah (f k);rw[C]at c1 B z;have U:=rU d 15 fX aa;have c2:=P.out (d&&&15) (tQ d);have V:=BV d fX;obtain⟨m,h2⟩:=ah (wu d);rw[h2]at u V fg;have X:=rU m 15 fg aa;have c3:=P.out (m&&&15) (tQ m);have e5:=BV m fg;have j1:=tQ d;have j2:=tQ m;obtain⟨q1,D⟩:=ah (d&&&15);obtain⟨q2,E⟩:=ah (m&&&15);rw[D]at U c2 V j1;rw[E]at X c3 e5 j2;have a0:bits .and .u32 (d:Int) 15=(q1:Int):=U;have a1:bits .and .u32 (m:Int) 15=(q2:Int):=X;have i1:(0:Int)<=k:=aa;have i2:(k:Int)<L:=aa;go_wp2;go_round
   case rel=>exact⟨k+1,aa,by go_num,by rw[u.out]⟩
   case measure=>simp[intOf];omega
  .obtain rfl:k=L:=aa;have a2:=ad (BU (iw (ov s) f k) (ow _ f k S y));go_wp2;go_ret;exact⟨by rw[a2.out];rfl,t.2.1⟩
theorem jC(L:Nat)(v:QN)(f:aO)(w:M)(h:lX w v L f)(a:∀k,k<L->f k<256)(b:L<=140737488355328):
  aD 160 #[v] w λe c=>aK e (.int .u32 (dD 0 L f:Nat))/\ar w c:=by
 have d:=I (tS 0 L v f w J h a b);go_enter func160,ntmps160;go_wp2_with fail;refine d.mono ?_;rintro e j ⟨rfl,g⟩;have i:=I g;go_wp2;go_ret;exact⟨rfl,i⟩
def FC(w:M)(d s m:Nat):Prop:=w.heap[d]?=some (N #[.int .u32 (s:Int),Y (m:Int)] 436)
theorem FD(w:M):aD 308 #[] w λe a=>aK e (H w.heap.size)/\FC a w.heap.size 0 0/\ar w a:=by go_enter func308,ntmps308;go_wp2;go_ret;exact⟨rfl,QM _ _,aI aj _⟩
theorem yn(w:M)(d s m:Nat)(h:FC w d s m):aD 311 #[H d] w λe a=>aK e (.int .u32 s)/\w=a:=by obtain⟨b,f1,c⟩:=cr h;go_enter func311,ntmps311;go_wp2;go_ret;exact⟨rfl,rfl⟩
theorem rY(w:M)(d s m L:Nat)(v:QN)(f:aO)(h:FC w d s m)(q:s<4294967296)(l:lX w v L f)(r:∀k,k<L->f k<256)(A:L<=1000000)(B:m<=1000000000):
  aD 313 #[H d,v] w λe n=>aK e (Y (m+L:Nat))/\FC n d (dD s L f) (m+L)/\Out (λk=>k=d) w n:=by
 obtain⟨a,t,rfl,-⟩:=id l;have u:=I h;have x:=I (λ(W:M) (i:ar w W)=>tS s L _ f W q (lX.cS l i) r J);obtain⟨y,f1,o⟩:=cr h;have C:QQ.wrap ((m:Int)+L)=((m+L:Nat):Int):=bf;go_enter func313,ntmps313;go_wp2
 go_region_with (first|(go_at_call 247;refine(x _ bC).mono ?_;rintro e g ⟨rfl,b⟩;obtain⟨D,f3,z3⟩:=kp b d dI))
 all_goals(
  have c:ar w g:=⟨b.os,b.tape,b.output,b.size,b.block⟩;have i:=(c.block d o).trans u;have j:RH (((g.setCell (R d 0) (.int .u32 (dD s L f:Nat))).setCell (R d 1) (Y ((m:Int)+L))).heap[d]?=some (N #[.int .u32 (dD s L f:Nat),Y ((m:Int)+L)] 436)/\Out (λk=>k=d) w ((g.setCell (R d 0) (.int .u32 (dD s L f:Nat))).setCell (R d 1) (Y ((m:Int)+L)))):=
   ⟨heap_setCell_same _ d 1 _ 436 _ (heap_setCell_same _ d 0 _ 436 _ i),((Out.af (S:=λk=>k=d) c).setCell (p:=R d 0) (λ_=>rfl) _).setCell (p:=R d 1) (λ_=>rfl) _⟩
  obtain⟨W,z⟩:=ah ((g.setCell (R d 0) (.int .u32 (dD s L f:Nat))).setCell (R d 1) (Y ((m:Int)+L)));rw[z]at j|-;obtain⟨y,f1,o⟩:=cr j.1;go_wp2;go_ret;exact⟨aJ,j⟩)
structure iE(Z:Nat->Prop)(w w':M)(Z':Nat->Prop):Prop where
 out:Out Z w w'
 new:∀k,Z' k->Z k\/w.heap.size<=k
theorem iE.trans(h:iE S w W Q)(k:iE Q W z X):iE S w z X:=
 ⟨h.out.trans k.out λi a e=>(h.new i e).elim id λe=>absurd a J,λi e=>(k.new i e).elim (h.new i) λe=>.inr (by have:=h.out.size;omega)⟩
theorem iE.same(h:ar w W):iE S w W S:=⟨Out.af h,λ_ h=>.inl h⟩
theorem iE.pre(h:ar w W)(k:iE S W z Q):iE S w z Q:=(iE.same h).trans k
theorem iE.refl(Z:Nat->Prop)(w:M):iE Z w w Z:=iE.same aj
def cat(N:Nat)(f g:aO)(k:Nat):Nat:=if k<N then f k else g (k-N)
def leB(v j:Nat):Nat:=v/256^j%256
theorem j':(prog.info? 5).map (λi=>(i.zero,i.size,i.bytes))=some (some (.int .u8 0),1,1):=aE
def Pk(Z:Nat->Prop)(w:M)(p size N:Nat)(f:aO):Prop:=
 ∃a,w.heap[p]?=some (ao #[Y size,a,aG 0] 309)/\w.ownsRow 0 5 1 a N (az N f)/\a.ownBlock≠some p/\Z=λk=>k=p\/a.ownBlock=some k
theorem Pk.out{w w1:M}{p size N:Nat}(h:Pk Q w p size N f)(a:Out S w w1)(b:∀k,k<w.heap.size->S k->¬Q k):Pk Q w1 p size N f:=by obtain⟨i,c,d,j,rfl⟩:=h;exact⟨i,a.heap c (λe=>b p (RM.1 c).1 e (.inl rfl)),a.own d (λk g e=>b k (d.lt k g).2 e (.inr g)),j,rfl⟩
theorem Pk.cS(h:Pk Q w n m k f)(a:ar w W):Pk Q W n m k f:=h.out (S:=λ_=>False) (Out.af a) λ_ _ h=>h.elim
theorem tT(N:Nat)(f g:aO)(j:Nat):az (N+j) (cat N f g)++ [.int .u8 (g j:Nat)] =az (N+(j+1)) (cat N f g):=by
 have e:[SU .u8 (g j:Nat)] = [j+N].map λk=>SU .u8 (cat N f g k):=by simp only[UC,YA,cat];rw[al J,WB]
 rw[e];unfold az;rw[<-UZ,UW,SR,ZK j N]
theorem jD(N L:Nat)(f g:aO):az N f++az L g=az (N+L) (cat N f g):=by
 induction L with
 |zero=>rw[VU];simp only[az,List.range_zero,YA,UK];exact VH λk a=>by unfold cat;rw[ak (UJ.1 a)]
 |succ j b=>rw[<-tT,<-b,TK];congr 1;simp[az,UW]
theorem Pk.put(g:aZ w n (N #[Y m,v,aG 0] 309))(h:v.ownBlock≠some n)(a:ar w W)(l:z.ownsRow 0 5 1 x j (az j f))(c:nI C W v i r x z)(q:w.heap.size<=C):
  Pk (λk=>k=n\/x.ownBlock=some k) (z.setCell (R n 1) x) n m j f/\iE (λk=>k=n\/v.ownBlock=some k) w (z.setCell (R n 1) x) (λk=>k=n\/x.ownBlock=some k):=by
 have o:=(RM.1 g).1;have d:=c.heap ((a.block n o).trans g) h;have b:x.ownBlock≠some n:=λe=>(c.block e).elim h λe=>J;refine⟨⟨x,heap_setCell_same z n 1 _ 309 x d,YB l b _,b,rfl⟩,(c.out (Out.af a) λk hk _=>.inr hk).setCell (p:=R n 1) (λ_=>.inl rfl) x,λk hk=>?_⟩;rcases hk with hk|hk
 .exact .inl (.inl hk)
 .exact (c.block hk).elim (λe=>.inl (.inr e)) λe=>.inr J
def ox(Z:Nat->Prop)(w:M)(p size N:Nat)(f:aO)(e:SG)(a:M):Prop:=
 aK e (.tuple #[])/\∃b,Pk b a p size N f/\iE Z w a b
theorem oy(Z:Nat->Prop)(w:M)(p size N n:Nat)(f:aO)(h:Pk Z w p size N f)(d:size<=4096)(g:N+n<=size):
  aD 244 #[H p,Y n] w λe a=>aK e dU/\ar w a:=by
 obtain⟨i,b,c,-,-⟩:=h;obtain⟨j,k,rfl,-⟩:=av c;obtain⟨l,f1,m⟩:=cr b;have o:QQ.wrap ((size:Int)-N)=((size-N:Nat):Int):=bf;have q:¬((size-N:Nat):Int)<(n:Int):=J;go_enter func244,ntmps244;go_wp2;go_quiet(fail);go_wp2;go_ret;exact⟨rfl,ct aj _⟩
theorem hT(Z:Nat->Prop)(w:QL)(p size N v L:Nat)(f:aO)(h:Pk Z w p size N f)(G:size<=4096)(K:N+L<=size):
  aD 246 #[aq p,.int .u64 v,ae L] w (ox Z w p size (N+L) (cat N f (leB v))):=by
 have O:=ad h;have P:=ad (oy Z w p size N L f h G K);obtain⟨Q,S,o,q,r⟩:=SN j';go_enter func246,ntmps246;go_wp2_with fail;refine P.mono ?_;rintro e w1 ⟨rfl,T⟩;have y:=ad T;go_wp2_with fail;go_loopw [1,11] (λU k wr=>∃(j:Nat) (n:Nat->Prop),j<=L/\k= ae j/\U=.int .u64 (v/256^j:Nat)/\RH (Pk n wr p size (N+j) (cat N f (leB v))/\iE Z w wr n)) (λ_ k _=>L-(intOf k).toNat)
 case atStart=>
  have l:=O.cS y;have e:az (N+0) (cat N f (leB v))=az N f:=by rw[<-jD];simp[az]
  exact⟨0,Z,QX _,rfl,aJ,by obtain⟨z,a,b,c,d⟩:=l;exact⟨z,a,by rw[e];exact b,c,d⟩,iE.same y⟩
 case round=>
  obtain⟨j,n,a5,rfl,rfl,s⟩:=hrel;by_cases V:j<L
  .obtain ⟨z,A,B,W,X⟩:=s.1;obtain⟨H,M,rfl,-⟩:=av B;obtain⟨R,f1,C⟩:=cr A;have D:=ad A;have I:=ad B;have E:=ad W;have Y:=ad X;have J:N+(j+1)<=4096:=aa;have F:RH (v/256^j/256=v/256^(j+1)):=by show _=_;rw[Nat.pow_succ,Nat.div_div_eq_div_mul]
   have m:RH (((v/256^j:Nat):Int)%256=((leB v j:Nat):Int)):=by show _=_;unfold leB;omega
   obtain⟨x,a0⟩:=ah (v/256^j);rw[a0]at F m|-;go_wp2_with(first|(at_builtin;refine aT _ rfl _ _ 41 rfl 0 5 Q (.int .u8 0) 1 1 UX S o q r rfl ai (.slice H (N+j) M) (N+j) (az (N+j) (cat N f (leB v))) rfl (I.alloc _) (ag wr.heap.size 0) 1 1 [.int .u8 ((x:Int)%256)] rfl rfl (SI (cs:= #[.int .u8 ((x:Int)%256)]) (t:=5) (fr:=(0,0)) (QM wr _)) (by intro u a1;rw[TC.1 a1];rfl) aa (by unfold UT;omega) aa (QX _) ?_));intro a6 a7 g i;rw[m.out,tT]at g;obtain⟨a8,a2,rfl,-⟩:=av g;have a3:=ad (Pk.put D E (aI aj _) g i (VC _));have a4:=i.heap ((RG _ _ _ C).trans D) E;obtain⟨R,f1,C⟩:=cr a4;go_wp2;go_roundw
   case rel=>have l:=a3.out;rw[<-Y.out]at l;exact⟨j+1,_,aa,by go_num,by rw[<-F.out];rfl,l.1,s.2.trans l.2⟩
   case measure=>simp[intOf];omega
  .obtain rfl:j=L:=aa;go_wp2;go_end0;exact⟨rfl,n,s⟩
theorem fx(Z:Nat->Prop)(w:M)(p size N v:Nat)(f:aO)(h:Pk Z w p size N f)(a:size<=4096)(b:N+4<=size)(i:v<4294967296):
  aD 159 #[H p,.int .u32 v] w (ox Z w p size (N+4) (cat N f (leB v))):=by
 have c:=I (hT Z w p size N v 4 f h a b);go_enter func159,ntmps159;go_wp2_with fail;refine c.mono ?_;rintro e j ⟨rfl,d⟩;have g:=I d;go_wp2;go_end0;exact⟨rfl,g⟩
theorem rZ(Z:Nat->Prop)(w:M)(p size N v:Nat)(f:aO)(h:Pk Z w p size N f)(a:size<=4096)(b:N+8<=size):
  aD 219 #[H p,.int .u64 v] w (ox Z w p size (N+8) (cat N f (leB v))):=by
 have c:=I (hT Z w p size N v 8 f h a b);go_enter func219,ntmps219;go_wp2_with fail;refine c.mono ?_;rintro e i ⟨rfl,d⟩;have g:=I d;go_wp2;go_end0;exact⟨rfl,g⟩
theorem FE(a b:Nat)(c:a<18446744073709551616)(d:b<18446744073709551616):bits .and .u64 (a:Int) (b:Int)=((a&&&b:Nat):Int):=by
 have f:a&&&b<2^64:=Nat.and_lt_two_pow _ J;have e:∀n:Nat,n<18446744073709551616->(UU 64 (n:Int)).toNat=n:=λn h=>by rw[XF,XU];exact SL J
 show VY.wrap ((UU 64 (a:Int)&&&UU 64 (b:Int)).toNat:Int)=_;rw[BitVec.toNat_and,e a c,e b d,IntKind.wrap_u64];omega
theorem wy(n:Nat)(h:n<4294967296):bits .and .u64 (n:Int) 4294967295=n:=by have:=FE n 4294967295 J J;rw[show n&&&4294967295=n from(Nat.and_two_pow_sub_one_eq_mod n 32).trans (SL h)]at this;exact this
theorem mul_one(n:Nat)(w:M)(h:n<4294967296):aD 87 #[.int .u64 1,.int .u64 n] w λe a=>aK e (.tuple #[.int .u64 0,.int .u64 n])/\w=a:=by have b:=wy n h;have c:bits .and .u64 1 4294967295=1:=wy 1 J;have d:bits .and .u64 0 4294967295=0:=wy 0 J;have f:(n:Int)/4294967296=0:=J;go_enter func87,ntmps87;go_wp2;go_ret2;exact⟨rfl,rfl⟩
def bM(n:Nat)(f:Nat->QN):List QN:=(UD n).map f
theorem bF(n:Nat)(f:Nat->QN):(bM n f).length=n:=by simp[bM]
theorem cc(n:Nat)(f:Nat->QN)(k:Nat)(h:k<n):(bM n f)[k]?=some (f k):=by simp[bM,h]
theorem oz{f g:Nat->QN}(h:∀k,k<n->f k=g k):bM n f=bM n g:=VH λx a=>h x (by simpa using a)
theorem oA{f:Nat->QN}(h:∀i,i<n->(f i).oneCell'=true):∀v∈bM n f,v.oneCell'=true:=by intro x a;simp only[bM,SA,UJ]at a;obtain⟨i,b,rfl⟩:=a;exact h i b
theorem iS{K:IntKind}(N:Nat):UB (SU K 0).cells N=br N λ_=>.int K 0:=by simp[UB,br,Value.cells];apply Array.ext<;>simp[YP]
theorem iT{g L B:Nat}{f:Nat->QN}(h:aZ w g (.cells (br L f) t (0,0)))(a:B<=g)(b:L<=UT):w.ownsRow B t 1 (a_ g L L) L (bM L f):=by refine⟨by rw[bF,UI],.inr ⟨g,L,_,rfl,a,h,QP _,b,by rw[zw,UI],?_⟩⟩;rw[UI,YR (by simp[br])];simp[br,bM]
theorem hU(n m q:Nat)(x y:QN)(h:m+q<=n):YQ (bM n λk=>if k<m then x else y) m (bM q λ_=>x)=bM n λk=>if k<m+q then x else y:=by
 apply TZ;intro k;rw[fi _ _ _ _ (by rw[bF,bF];omega),bF];by_cases b:k<n
 .rw [cc _ _ _ b,cc _ _ _ b];by_cases a:m<=k/\k<m+q
  .rw [ak a,cc _ _ _ J,ak a.2]
  .rw [al a];by_cases c:k<m
   .rw [ak c,ak J]
   .rw [al c,al J]
 .have e:∀f:Nat->QN,(bM n f)[k]?=none:=λf=>RO (by rw[bF];omega);rw[al J,e,e]
theorem ku(n:Nat)(x y:QN)(h:1<=n):YQ (bM n λ_=>y) 0 [x] =bM n λk=>if k<1 then x else y:=by have:=hU n 0 1 x y J;rw[RQ]at this;rw[<-this];congr 1
theorem aV(h:SM n w W):SM n w W.drew:=h.trans ⟨rfl,rfl,rfl,QP _,λ_ _=>rfl⟩
def MV(E n:Nat)(v:QN)(w:M)(e:SG)(a:M):Prop:=
 ∃g c,aK e (a_ g n c)/\a.ownsRow w.heap.size E 1 (a_ g n c) n (bM n λ_=>v)/\ar w a
theorem IT:(prog.info? 5).map (λi=>(i.zero,i.size,i.bytes))=some (some (.int .u8 0),1,1):=aE
theorem r_:(prog.info? 5).map (·.size)=some 1:=aE
theorem zx(n b:Nat)(c:Int)(w:QL)(h0:0<n)(a2:n<=4096)(o:w.cell? (ag b 0)=some (.int .u8 c)):
  aD 245 #[a_ b 1 1,ae n] w (MV 5 n (.int .u8 c) w):=by
 obtain⟨U,V,x,y,z⟩:=SN IT;have A:∀w,(TL 41 (ae (n:Int)) (ae (n:Int))).run prog w=.ok (a_ w.heap.size n n) (w.alloc (ao (br n λ_=>.int .u8 0) 5)):=λw=>by have:=run_make (P:=prog) w 41 5 U (.int .u8 0) UX V x .i64 .i64 n n aa aa (by rw[z];omega) aa;rw[this,y,UI,iS];simp
 have e2:(n:Int)%18446744073709551616=n:=aa;have e3:¬(9223372036854775807:Int)<n:=aa;have e4:¬(n:Int)<0:=aa;have W:=ad (λw=>mul_one n w aa);have C:=QY w _ o;go_enter func245,ntmps245;go_wp2_with fail;refine(W _).mono ?_;rintro e r ⟨rfl,rfl⟩;have s:=ad (iT (w:=w.alloc (ao (br n λ_=>.int .u8 0) 5)) (B:=w.heap.size) (QM w _) (QP _) (by unfold UT;omega));have G:(w.alloc (ao (br n λ_=>.int .u8 0) 5)).cell? (ag b 0)=some (.int .u8 c):=by rw[(aI aj _).cell (p:=ag b 0) C];exact o
 go_wp2_with(refine ef _ rfl (.tmp 31) (.tmp 32) 41 41 rfl 5 w.heap.size w.heap.size n n 0 n n (bM n λ_=>.int .u8 0) s (ag b 0) 1 1 [.int .u8 c] UX r_ rfl rfl (by show 1=Nat.min 1 n;exact(WV aa).symm) aQ (λj v d=>by cases j with|zero=>simp at d;subst d;rw[iK];exact G|succ j=>simp at d) (by simp[Value.oneCell']) ?_);intro K t a;have L:RH (K.ownsRow w.heap.size 5 1 (a_ w.heap.size n n) n (bM n λk=>if k<1 then .int .u8 c else .int .u8 0)/\SM w.heap.size w K):=by refine⟨?_,((Out.af (S:=λk=>k=w.heap.size) (aI (SV w.heap.size w) _)).tr a).below (λk _ e=>aa) (QP _)⟩;rw[ku _ _ _ aa]at t;exact t
 obtain⟨g,D⟩:=ah w.heap.size;have O:=ad D;rw[D]at L|-;clear s G D A;go_wp2;go_loopw [8] (λE wr=>∃m:Nat,1<=m/\m<=n/\E= ae m/\RH (wr.ownsRow g 5 1 (a_ g n n) n (bM n λk=>if k<m then .int .u8 c else .int .u8 0)/\SM g w wr)) (λE _=>n-(intOf E).toNat)
 case atStart=>exact⟨1,aa,aa,rfl,L⟩
 case round=>
  obtain⟨m,X,Z,rfl,f⟩:=hrel;by_cases H:m<n
  .obtain ⟨q,h⟩:=ah (Nat.min m (n-m));have N:1<=q:=by subst h;exact Nat.le_min.2 ⟨aa,aa⟩
   have M:q<=m:=by subst h;exact ZS _ _
   have R:q<=n-m:=by subst h;exact Nat.min_le_right _ _
   have I:=ad h;have Y:RH (YQ (bM n λk=>if k<m then SU .u8 c else .int .u8 0) m (bM q λ_=>.int .u8 c)=bM n λk=>if k<m+q then .int .u8 c else .int .u8 0):=hU n m q _ _ aa;have J:RH (∀r,SM wr.heap.size wr r->∀j u,(bM q λ_=>SU .u8 c)[j]?=some u->r.cell? (((ag g 0):TF).add j)=some u):=λr o j u d=>by
    by_cases F:j<q
    .rw [cc _ _ _ F]at d;rw[iK,RQ];have i:=(bx f.1 (k:=j) (u:=.int .u8 c) (by rw[cc _ _ _ aa,ak aa])).1;rw[o.cell (p:=ag g j) (QY wr _ i),i,d]
    .rw [RO (by rw[bF];omega)]at d;cases d
   have a0:QQ.wrap ((m:Int)+q)=((m+q:Nat):Int):=bf;have j1:¬n=m:=aa;have i1:(0:Int)<=m:=aa;have i2:(m:Int)<=n:=aa;clear h;go_wp2
   go_region_law (refine gq _ rfl (.tmp 41) (.tmp 44) 41 41 rfl 5 g g n n m (n-m) (n-m) (bM n λk=>if k<m then .int .u8 c else .int .u8 0) (aP (w:=wr) bC f.1) (ag g 0) m n (bM q λ_=>.int .u8 c) UX r_ (by simp[WH,SC, *]) (by simp[WH,SC, *]) (by rw[bF];exact I.symm) (by rw[bF];omega) (J _ bC) (oA λ_ _=>rfl) ?_;intro Q t a;rw[bF];have s:=ad t;have l:=ad a)
   all_goals(try simp only[QU,QS,QT])
   all_goals go_frame
   all_goals go_roundw
   all_goals(
    have T:RH (Q.ownsRow g 5 1 (a_ g n n) n (bM n λk=>if k<m+q then .int .u8 c else .int .u8 0)/\SM g w Q):=by refine⟨by rw[<-Y.out];exact s,f.2.trans (((Out.af (S:=λk=>k=g) (aV (SV wr.heap.size wr))).tr l).below (λk _ e=>aa) ?_)⟩;have:=(f.1.lt g rfl).2;omega)
   all_goals first
    |exact⟨m+q,aa,aa,by go_num,T⟩
    |((repeat apply Exists.intro);exact⟨⟨m+q,aa,aa,by go_num,T⟩,rfl⟩)
    |(simp[intOf];omega)
  .obtain rfl:m=n:=aa;go_wp2;go_ret;refine⟨_,_,rfl,?_,(O▸f.2:SM w.heap.size w wr)⟩;have i:=f.1;rw[oz (g:=λ_=>.int .u8 c) λk a1=>ak a1]at i;exact O▸i
theorem wz:(prog.info? 3).map (λi=>(i.zero,i.size,i.bytes))=some (some (Y 0),1,8):=aE
theorem BW:(prog.info? 3).map (·.size)=some 1:=aE
theorem oB:(prog.info? 122).map (λi=>(i.zero,i.size,i.bytes))=some (some (.int .u8 0),1,1):=aE
theorem tU:(prog.info? 122).map (·.size)=some 1:=aE
def PF(size:Nat)(w:M)(e:SG)(a:M):Prop:=∃p Z,aK e (.tuple #[H p,aG 0])/\Pk Z a p size 0 (λ_=>0)/\(∀k,Z k->w.heap.size<=k)/\ar w a
theorem wB(size:Nat)(w:M)(h:size<=4096):aD 154 #[Y size] w (PF size w):=by
 have a:¬(size:Int)<0:=J;have b:¬(4096:Int)<size:=J;go_enter func154,ntmps154;go_wp2;go_ret2;refine⟨w.heap.size,_,rfl,⟨aU,QM _ _,SS _ _ _ _,(by simp[XA]),rfl⟩,?_,aI aj _⟩;rintro k (rfl|hk)
 .exact QP _
 .cases hk
theorem sc(Z:Nat->Prop)(w:QL)(p size N L:Nat)(v:QN)(f g:Nat->Nat)(h:Pk Z w p size N f)(P:lX w v L g)(Q:0<L)(S:size<=4096)(T:N+L<=size):
  Calls VW 214 #[.pointer (some ⟨p,0,none⟩),v] w (ox Z w p size (N+L) (cat N f g)):=by
 have U:=RI h;have z:=RI (oy Z w p size N L f h S T);obtain⟨a,m,rfl,A⟩:=P;obtain⟨b,o,rfl,k⟩:=A.resolve_left (by omega);have B:=RI k;obtain⟨V,W,n,q,r⟩:=SN j';clear h A k;go_enter Tryz.func214,Tryz.ntmps214;go_wp2_with fail;refine z.out.mono ?_;rintro e X ⟨rfl,C⟩;have s:=RI C;clear C z;obtain⟨a2,t,x,D,E⟩:=U.out.cS s.out;obtain⟨H,M,rfl,-⟩:=av x;obtain⟨F,f1,R⟩:=cr t;have G:=RI t;have I:=RI x;have K:=RI D;have Y:=RI E;have J:RH (∀j u,(az L g)[j]?=some u->X.cell? ((⟨b,o,none⟩:TF).add j)=some u):=λj u l=>by
  by_cases i:j<L
  .rw [a' _ _ _ i]at l;rw[iK,s.out.cell (p:=⟨b,o+j,none⟩) (QY w _ (B.out j i)),B.out j i,l]
  .rw [RO (by rw[aH];omega)]at l;cases l
 clear t x D E;go_wp2_with(first|(at_builtin;refine aT _ rfl _ _ 41 rfl 0 5 V (.int .u8 0) 1 1 Tryz.underlying41 W n q r rfl (by decide) (.slice H N M) N (az N f) rfl I.out ⟨b,o,none⟩ L m (az L g) rfl (by rw[aH,UI]) J.out (df _ _) Q (by unfold UT;omega) (by omega) (QX _) ?_));intro a3 a4 c d;rw[jD]at c;obtain⟨a5,a0,rfl,-⟩:=av c;have a1:=RI (Pk.put G.out K.out (SV _ _) c d (QP _));have O:=d.heap G.out K.out;clear c d F f1;obtain⟨F,f1,R⟩:=cr O;clear O;go_wp2;go_end0;have y:=a1.out;rw[<-Y.out]at y;exact⟨rfl,_,y.1,iE.pre s.out y.2⟩
theorem BX(Z:Nat->Prop)(w:QL)(p size N L c:Nat)(f:aO)(h:Pk Z w p size N f)(v:0<L)(D:size<=4096)(E:N+L<=size):
  aD 156 #[aq p,ae L,.int .u8 c] w (ox Z w p size (N+L) (cat N f λ_=>c)):=by
 have F:=ad h;have G:=ad (oy Z w p size N L f h D E);obtain⟨K,O,l,m,n⟩:=SN j';go_enter func156,ntmps156;go_wp2_with fail;refine G.mono ?_;rintro e d ⟨rfl,P⟩;have x:=ad P;obtain⟨a0,y,z,Q,S⟩:=F.cS x;obtain⟨T,U,rfl,-⟩:=av z;obtain⟨k1,f1,V⟩:=cr y;have A:=ad y;have X:=ad z;have B:=ad Q;have H:=ad S;go_wp2_with fail;have o:L<=4096:=aa;have i:p<d.heap.size:=V;have q:RH (∀W:QL,W.heap=(d.alloc (ao #[.int .u8 (c:Int)] 5)).heap->W.cell? (ag d.heap.size 0)=some (.int .u8 c)):=λW e=>
  (QZ (congrArg (λh=>h[d.heap.size]?) e)).trans ((cr (QM d (ao #[.int .u8 (c:Int)] 5))).1 0)
 go_region_law (first|(refine db _ rfl (.tmp 17) (.tmp 21) 41 rfl 0 5 K (.int .u8 0) 1 1 UX O l m n rfl ai (.slice T N U) N (az N f) (by simp[WH]) (aP (w:=d) a X) (ag C 0) L M (az L λ_=>c) (by simp[WH]) (by rw[aH,UI]) (λj u R=>r.cells (g:=C) rfl j u R) (df _ _) v (by unfold UT;omega) aa (QX _) ?_;intro a1 a2 b k;obtain⟨I,Y,rfl,-⟩:=av b;obtain⟨a3,a4,a5⟩:=cr (k.heap ((a.block p i).trans A) B))|(go_simp;go_at_call 245;refine(zx L d.heap.size c _ v o (q _ (by rfl))).mono ?_;rintro e J ⟨C,M,rfl,r,s⟩;have a:ar d J:=(show ar d _ by go_grown).trans (s.mono aJ);obtain⟨a6,a7,a8⟩:=kp a p i))
 all_goals(
  go_end0;rw[jD]at b;have t:=Pk.put A B a b k a.size;rw[<-H.out]at t;exact⟨rfl,_,t.1,iE.pre x t.2⟩)
def se(n:Nat)(f:aO)(w:M)(e:SG)(a:M):Prop:=
 ∃g c,aK e (.tuple #[a_ g n c,aG 0])/\a.ownsRow w.heap.size 5 1 (a_ g n c) n (az n f)/\ar w a
theorem jE(Z:Nat->Prop)(w:M)(p size N:Nat)(f:aO)(h:Pk Z w p size N f)(q:0<N)(D:size<=4096)(E:N<=size):
  aD 158 #[H p] w (se size (cat N f λ_=>0) w):=by
 obtain⟨r,s,c,d,i⟩:=SN j';have t:∀w,(TL 41 (Y (size:Int)) (Y (size:Int))).run prog w=.ok (a_ w.heap.size size size) (w.alloc (ao (br size λ_=>.int .u8 0) 5)):=λw=>by have:=run_make (P:=prog) w 41 5 r (.int .u8 0) UX s c .i64 .i64 size size J J (by rw[i];omega) J;rw[this,d,UI,iS];simp
 obtain⟨F,a,l,G,-⟩:=h;obtain⟨K,v,rfl,x⟩:=av l;obtain⟨g,rfl⟩:=x.resolve_left J;obtain⟨L,f1,O⟩:=cr a;have y:=I (iT (w:=w.alloc (ao (br size λ_=>.int .u8 0) 5)) (B:=w.heap.size) (QM w _) (QP _) (by unfold UT;omega));have z:=I (aP (aI aj (ao (br size λ_=>.int .u8 0) 5)) l);go_enter func158,ntmps158;go_wp2_with(refine ef _ rfl (.tmp 19) (.tmp 23) 41 41 rfl 5 w.heap.size w.heap.size size size 0 size size (bM size λ_=>.int .u8 0) y (R g 0) N v (az N f) UX r_ rfl rfl (by rw[aH];exact(WV J).symm) (by rw[aH];omega) (λj u A=>z.cells (g:=g) rfl j u A) (df _ _) ?_);intro m n b;have C:RH (m.ownsRow w.heap.size 5 1 (a_ w.heap.size size size) size (az size (cat N f λ_=>0))/\ar w m):=by
  refine⟨?_,((Out.af (S:=λk=>k=w.heap.size) (aI (SV w.heap.size w) _)).tr b).below (λk _ e=>J) (QP _)⟩;have e:YQ (bM size λ_=>SU .u8 0) 0 (az N f)=az size (cat N f λ_=>0):=by
   apply TZ;intro k;rw[fi _ _ _ _ (by rw[aH,bF];omega),aH];by_cases o:k<size
   .rw [a' _ _ _ o,cc _ _ _ o];unfold cat;by_cases a:k<N
    .rw [ak J,Nat.sub_zero,a' _ _ _ a,ak a]
    .rw [al J,al a];rfl
   .rw [al J,RO (by rw[bF];omega),RO (by rw[aH];omega)]
  rw[e]at n;exact n
 go_wp2;go_ret2;exact⟨_,_,rfl,C⟩
theorem wC(Z:Nat->Prop)(w:M)(p size N v:Nat)(f:aO)(h:Pk Z w p size N f)(a:size<=4096)(b:N+1<=size)(i:v<256):
  aD 225 #[H p,.int .u8 v] w (ox Z w p size (N+1) (cat N f (leB v))):=by
 have c:=I (hT Z w p size N v 1 f h a b);go_enter func225,ntmps225;go_wp2_with fail;refine c.mono ?_;rintro e j ⟨rfl,d⟩;have g:=I d;go_wp2;go_end0;exact⟨rfl,g⟩
theorem yo(Z:Nat->Prop)(w:M)(p size N v:Nat)(f:aO)(h:Pk Z w p size N f)(a:size<=4096)(b:N+2<=size)(i:v<65536):
  aD 234 #[H p,.int .u16 v] w (ox Z w p size (N+2) (cat N f (leB v))):=by
 have c:=I (hT Z w p size N v 2 f h a b);go_enter func234,ntmps234;go_wp2_with fail;refine c.mono ?_;rintro e j ⟨rfl,d⟩;have g:=I d;go_wp2;go_end0;exact⟨rfl,g⟩
theorem IU(Z:Nat->Prop)(w:M)(p size N:Nat)(f:aO)(h:Pk Z w p size N f):aD 157 #[H p] w λe a=>aK e (Y N)/\w=a:=by obtain⟨d,b,c,-,-⟩:=h;obtain⟨g,i,rfl,-⟩:=av c;obtain⟨j,f1,k⟩:=cr b;go_enter func157,ntmps157;go_wp2;go_ret;exact⟨rfl,rfl⟩
def zB:Nat->Nat:=λ_=>0
def iU(k:Nat):Nat:=if k=0 then 83 else if k=1 then 80 else if k=2 then 74 else 76
def KH(a b c:Nat):Nat->Nat:=cat 16 (cat 8 (cat 4 (cat 0 zB iU) (leB a)) (leB b)) (leB c)
def gU(a b c M:Nat)(g:aO):Nat->Nat:=cat (24+M) (cat 24 (KH a b c) g) zB
def iV(a b c M:Nat)(g:aO):Nat->Nat:=cat 128 (cat 124 (cat 0 zB (gU a b c M g)) (leB (dD 0 124 (gU a b c M g)))) zB
theorem cH(v j:Nat):leB v j<256:=SB _ J
theorem cU{f g:aO}(a:∀k,f k<256)(b:∀k,g k<256)(k:Nat):cat n f g k<256:=by
 unfold cat;split
 .exact a k
 .exact b _
theorem kV(a:∀k,f k<256)(k:Nat):gU n m i j f k<256:=
 cU (cU (cU (cU (cU (cU (λ_=>by show 0<256;omega) λk=>by unfold iU;(repeat' split)<;>omega) (cH _)) (cH _)) (cH _)) a) (λ_=>by show 0<256;omega) k
theorem oC(h:w.ownsRow m 5 1 (a_ i n j) n (az n f)):lX w (a_ i n j) n f:=
 ⟨_,_,rfl,.inr ⟨i,0,rfl,λk a=>by rw[RQ];exact(bx h (a' _ _ _ a)).1⟩⟩
theorem fj(h:ar w W)(a:∀k,S k->w.heap.size<=k)(b:iE S W z Q):ar w z/\∀k,Q k->w.heap.size<=k:=
 ⟨h.trans (b.out.below (λk _ e=>a k e) h.size),λk e=>(b.new k e).elim (a k) λe=>QO h.size e⟩
theorem iW(a i j M G:Nat)(a3:Array QN)(b4:∀m w,(UY G m).run prog w=.ok (.enter G m) w)(g:aO)(w:QL)(s:a<256)(b5:M<=100)(a8:∀k,g k<256)(o:∀W Z p f,ar w W->(∀k,Z k->w.heap.size<=k)->Pk Z W p 124 24 f->aD G (#[aq p] ++a3) W (ox Z W p 124 (24+M) (cat 24 f g))):
  aD 207 #[.int .u8 a,.int .u64 i,.int .u64 j,.func (.func G) #[] a3] w (se 128 (iV a i j M g) w):=by
 have a9:=ad o;have a4:=ad a8;have b6:=λ(w:QL) (C:Array QN) (n c:Nat)=>Lib.run_convert_bytes_const (P:=prog) w 41 5 C n c UX UL;go_enter func207,ntmps207;go_wp2_with fail;refine(wB 124 w aa).mono ?_;rintro e t ⟨p,Z1,rfl,b,L,h⟩;have O:=ad (b.cS (aI aj (.cells #[.int .u8 83,.int .u8 80,.int .u8 74,.int .u8 76] 5 (4,5))));have Q:RH (lX (t.alloc (.cells #[.int .u8 83,.int .u8 80,.int .u8 74,.int .u8 76] 5 (4,5))) (a_ t.heap.size 4 4) 4 iU):=⟨_,_,rfl,.inr ⟨t.heap.size,0,rfl,λk s=>by rw[RD _ _ _ _ _ _ (QM t _)];match k,s with|0,_=>rfl|1,_=>rfl|2,_=>rfl|3,_=>rfl⟩⟩;have u:RH (ar w (t.alloc (.cells #[.int .u8 83,.int .u8 80,.int .u8 74,.int .u8 76] 5 (4,5)))/\∀k,Z1 k->w.heap.size<=k):=⟨aI h _,L⟩;go_wp2_with fail;refine(sc Z1 _ p 124 0 4 _ zB iU O Q aa aa aa).mono ?_;rintro e w2 ⟨rfl,Z2,b,d⟩;have S:=ad b;have v:=ad (fj u.1 u.2 d);go_wp2_with fail;refine(fx Z2 w2 p 124 4 a _ S aa aa aa).mono ?_;rintro e w3 ⟨rfl,Z3,b,d⟩;have T:=ad b;have x:=ad (fj v.1 v.2 d);go_wp2_with fail;refine(rZ Z3 w3 p 124 8 i _ T aa aa).mono ?_;rintro e w4 ⟨rfl,Z4,b,d⟩;have U:=ad b;have y:=ad (fj x.1 x.2 d);go_wp2_with fail;refine(rZ Z4 w4 p 124 16 j _ U aa aa).mono ?_;rintro e w5 ⟨rfl,Z5,b,d⟩;have V:=ad b;have l:=ad (fj y.1 y.2 d);go_wp2_with fail;refine(a9 w5 Z5 p _ l.1 l.2 V).mono ?_;rintro e w6 ⟨rfl,Z6,b,d⟩;have X:=ad b;have z:=ad (fj l.1 l.2 d);go_wp2_with fail;refine(jE Z6 w6 p 124 (24+M) _ X aa aa aa).mono ?_;rintro e K ⟨H,c7,rfl,N,h⟩;have A:RH (K.ownsRow w6.heap.size 5 1 (a_ H 124 c7) 124 (az 124 (gU a i j M g))):=N;have b0:=(A.lt H rfl).2;have B:=ad (z.1.trans (h.mono z.1.size));go_wp2_with fail;refine(wB 128 K aa).mono ?_;rintro e w8 ⟨q,Z8,rfl,b,L,h⟩;have R:=ad b;have D:=ad (aP h A);have r:RH (ar K w8/\∀k,Z8 k->K.heap.size<=k):=⟨h,L⟩;go_wp2_with fail;refine(sc Z8 w8 q 128 0 124 _ zB (gU a i j M g) R (oC D) aa aa aa).mono ?_;rintro e w9 ⟨rfl,Z9,b,d⟩;have I:=ad b;have E:=ad (fj r.1 r.2 d);have Y:=ad (d.out.own D λk s e=>by have h1:=r.2 k e;have e2:H=k:=(by cases s;rfl);omega);go_wp2_with fail;refine(jC 124 _ (gU a i j M g) w9 (oC Y) (λk _=>kV a4 k) aa).mono ?_;rintro e b1 ⟨rfl,h⟩;have J:=ad (I.cS h);have a0:=ad (via E.1 h);have a1:=gT 0 124 (gU a i j M g) aa λk _=>kV a4 k;go_wp2_with fail;refine(fx Z9 b1 q 128 124 (dD 0 124 (gU a i j M g)) _ J aa aa a1).mono ?_;rintro e a5 ⟨rfl,b2,b,d⟩;have a2:=ad b;have F:=ad (fj a0 (λk s=>E.2 k s) d);go_wp2_with fail;refine(jE b2 a5 q 128 128 _ a2 aa aa aa).mono ?_;rintro e wc ⟨a6,a7,rfl,N,h⟩;have b3:RH (wc.ownsRow w.heap.size 5 1 (a_ a6 128 a7) 128 (az 128 (iV a i j M g))/\ar w wc):=by have h1:=B.size;have h2:=F.1.size;have h3:ar w a5:=B.trans (F.1.mono h1);exact⟨cu N aa,h3.trans (h.mono h3.size)⟩
 go_wp2;go_ret2;exact⟨a6,a7,rfl,b3⟩
theorem gj(N M:Nat)(f g h:aO):cat (N+M) (cat N f g) h=cat N f (cat M g h):=by
 funext k;unfold cat;by_cases a:k<N
 .rw [ak J,ak a,ak a]
 .by_cases b:k<N+M
  .rw [ak b,al a,al a,ak J]
  .rw [al b,al a,al J,Nat.sub_add_eq]
def mb(d a e b:Nat)(c:Bool)(f:Nat):Nat->Nat:=
 λk=>cat 20 (cat 16 (cat 12 (cat 8 (cat 4 (leB d) (leB a)) (leB e)) (leB b)) (leB (if c then 1 else 0))) (leB f) k
def cI(b a:Nat):Prop:=b<=4611686018427387904/\1<=a/\a<=4611686018427387904
def aW(a b tail:Nat):Nat->Nat:=iV 3 a b 4 (leB tail)
def eh(b c a d:Nat):Nat->Nat:=iV 2 b c 8 (cat 4 (leB a) (leB d))
def iX(d e f a g b:Nat)(c:Bool)(h:Nat):Nat->Nat:=iV 1 d e 24 (mb f a g b c h)
theorem kW(d a e b:Nat)(c:Bool)(f k:Nat):mb d a e b c f k<256:=
 cU (cU (cU (cU (cU (cH _) (cH _)) (cH _)) (cH _)) (cH _)) (cH _) k
theorem hW(b a:Nat)(w:M)(h:cI b a):aD 205 #[.int .u64 b,.int .u64 a] w λe c=>aK e dU/\w=c:=by obtain⟨d,f,g⟩:=h;have i:(b:Int)<=4611686018427387904:=J;have j:(1:Int)<=a:=J;have k:(a:Int)<=4611686018427387904:=J;go_enter func205,ntmps205;go_wp2;go_ret;exact⟨rfl,rfl⟩
theorem mc(n a b:Int)(w:M)(d:a<=n)(f:n<=b):aD 206 #[Y n,Y a,Y b] w λe c=>aK e dU/\w=c:=by go_enter func206,ntmps206;go_wp2;go_ret;exact⟨rfl,rfl⟩
theorem mf(a b tail:Nat)(w:M)(j:cI a b)(r:tail<=2047):aD 149 #[.agg #[.int .u64 a,.int .u64 b,Y tail]] w (se 128 (aW a b tail) w):=by have g:RH (ar w (w.alloc (N #[.int .u64 a,.int .u64 b,Y tail] 156))):=aI aj _;have k:=I (iW 3 a b 4 208 #[H w.heap.size] (λ_ _=>rfl) (leB tail) (w.alloc (N #[.int .u64 a,.int .u64 b,Y tail] 156)) J J (cH _) (λW Z p f d s l=>by obtain⟨t,f1,u⟩:=cr ((d.block w.heap.size aJ).trans (QM w _));have m:=I (fx Z W p 124 24 tail f l J J J);go_enter func208,ntmps208;go_wp2_with fail;refine m.mono ?_;rintro e h ⟨rfl,d⟩;have g:=I d;go_wp2;go_end0;exact⟨rfl,g⟩));go_enter func149,ntmps149;go_wp2_with fail;refine(hW a b _ j).mono ?_;rintro e n ⟨rfl,rfl⟩;go_wp2_with fail;refine(mc tail 0 2047 _ J J).mono ?_;rintro e n ⟨rfl,rfl⟩;go_wp2_with fail;refine k.mono ?_;rintro e h ⟨i,c,rfl,o,d⟩;have q:RH (h.ownsRow w.heap.size 5 1 (a_ i 128 c) 128 (az 128 (aW a b tail))/\ar w h):=⟨cu o aJ,g.trans (d.mono aJ)⟩;go_wp2;go_ret2;exact⟨i,c,rfl,q⟩
theorem oD(d g a b:Nat)(w:M)(t:cI d g)(L:1<=a)(O:a<=1023)(u:b<4294967296):aD 336 #[.agg #[.int .u64 d,.int .u64 g,Y a,.int .u32 b]] w (se 128 (eh d g a b) w):=by have v:RH (ar w (w.alloc (N #[.int .u64 d,.int .u64 g,Y a,.int .u32 b] 397))):=aI aj _;have x:=I (iW 2 d g 8 369 #[H w.heap.size] (λ_ _=>rfl) (cat 4 (leB a) (leB b)) (w.alloc (N #[.int .u64 d,.int .u64 g,Y a,.int .u32 b] 397)) J J (cU (cH _) (cH _)) (λW Z p f k y h=>by have q:=(k.block w.heap.size aJ).trans (QM w _);have z:=I q;have A:=I (show¬Z w.heap.size fromλe=>by have:=y _ e;simp at this;omega);obtain⟨B,f1,C⟩:=cr q;have l:=I (fx Z W p 124 24 a f h J J J);go_enter func369,ntmps369;go_wp2_with fail;refine l.mono ?_;rintro e j ⟨rfl,D,h,m⟩;have n:=I h;have i:=I m;obtain⟨B,f1,C⟩:=cr (i.out.out.heap z A);have l:=I (fx D j p 124 28 b _ n J J u);go_wp2_with fail;refine l.mono ?_;rintro e r ⟨rfl,o,h,m⟩;have E:RH (Pk o r p 124 (24+8) (cat 24 f (cat 4 (leB a) (leB b)))/\iE Z W r o):=⟨by rw[<-gj];exact h,i.trans m⟩;go_wp2;go_end0;exact⟨rfl,o,E⟩));go_enter func336,ntmps336;go_wp2_with fail;refine(hW d g _ t).mono ?_;rintro e F ⟨rfl,rfl⟩;go_wp2_with fail;refine(mc a 1 1023 _ J J).mono ?_;rintro e F ⟨rfl,rfl⟩;go_wp2_with fail;refine x.mono ?_;rintro e j ⟨s,c,rfl,G,k⟩;have K:RH (j.ownsRow w.heap.size 5 1 (a_ s 128 c) 128 (az 128 (eh d g a b))/\ar w j):=⟨cu G aJ,v.trans (k.mono aJ)⟩;go_wp2;go_ret2;exact⟨s,c,rfl,K⟩
def hV(c a d b j:Nat):Nat:=if j=0 then c else if j=1 then a else if j=2 then d else b
def hF(f:aO)(c a d b:Nat):Nat->Nat->Nat
 |0=>f
 |j+1=>cat (24+4*j) (hF f c a d b j) (leB (hV c a d b j))
theorem OT(f:aO)(d a e b:Nat)(c:Bool)(g:Nat):cat 44 (cat 40 (hF f d a e b 4) (leB (if c then 1 else 0))) (leB g)=cat 24 f (mb d a e b c g):=by show cat (24+20) (cat (24+16) (cat (24+12) (cat (24+8) (cat (24+4) (cat 24 f (leB d)) (leB a)) (leB e)) (leB b)) (leB (if c then 1 else 0))) (leB g)=_;rw[gj,gj,gj,gj,gj];rfl
def OU(Z:Nat->Prop)(W:M)(p:Nat)(F:aO)(N:Nat)(a:M):Prop:=∃b,Pk b a p 124 N F/\iE Z W a b
theorem tV(l m d a g b i:Nat)(h:Bool)(w:QL)(a5:cI l m)(h1:1<=a)(h2:a<=1023)(h3:d<a)(h4:g<=15)(h5:b<=4095)(a6:i<4294967296):aD 335 #[.agg #[.int .u64 l,.int .u64 m,ae d,ae a,ae g,ae b,.bool h,.int .u32 i]] w (se 128 (iX l m d a g b h i) w):=by
 have a7:RH (ar w (w.alloc (ao #[.int .u64 l,.int .u64 m,ae d,ae a,ae g,ae b,.bool h,.int .u32 i] 390))):=aI aj _;have a8:=ad (iW 1 l m 24 368 #[aq w.heap.size] (λ_ _=>rfl) (mb d a g b h i) (w.alloc (ao #[.int .u64 l,.int .u64 m,ae d,ae a,ae g,ae b,.bool h,.int .u32 i] 390)) aa aa (kW _ _ _ _ _ _) (λW Z p f O a9 n=>by
  have H:=(O.block w.heap.size aJ).trans (QM w _);have N:=ad H;have M:=ad (show¬Z w.heap.size fromλe=>by have:=a9 _ e;simp at this;omega);obtain⟨R,f1,I⟩:=cr H;have t:=ad n;go_enter func368,ntmps368;go_wp2;obtain⟨D,u⟩:=ah (W.alloc (ao #[ae d,ae a,ae g,ae b] 3));have o:RH (ar W D/\aZ D W.heap.size (ao #[ae d,ae a,ae g,ae b] 3)):=by rw[<-u];exact⟨aI aj _,QM _ _⟩
  rw[u];obtain⟨Y,v⟩:=ah W.heap.size;have y:=ad v;rw[v];have P:RH (¬Z Y):=λe=>by
   obtain⟨b5,a1,a2,a3,rfl⟩:=t.out;have:=y.out;rcases e with e|e
   .have:=(RM.1 a1).1;omega
   .have:=(a2.lt _ e).2;omega
  go_loopw [16] (λq wr=>∃j:Nat,j<=4/\q= ae j/\RH (OU Z D p (hF f d a g b j) (24+4*j) wr)) (λq _=>4-(intOf q).toNat)
  case atStart=>exact⟨0,aa,rfl,Z,t.cS o.1,iE.refl _ _⟩
  case round=>
   obtain⟨j,b6,rfl,b0⟩:=hrel;obtain⟨E,z,r⟩:=b0.out;by_cases Q:j<4
   .have s:wr.cell? (ag Y j)=some (ae (hV d a g b j:Nat)):=by
     have b1:=r.out.heap (y▸o.2) (P);rw[(cr b1).1]
     match j,Q with
     |0,_=>rfl
     |1,_=>rfl
     |2,_=>rfl
     |3,_=>rfl
    have J:hV d a g b j<4294967296:=by unfold hV;(repeat' split)<;>omega
    have F:=ad (fx E wr p 124 (24+4*j) (hV d a g b j) _ z aa aa J);have k:=ad r;obtain⟨x,a0⟩:=ah (hV d a g b j);have b2:=ad a0;rw[a0]at s J F;have i1:(0:Int)<=j:=aa;have i2:(j:Int)<4:=aa;go_wp2_with fail;refine F.mono ?_;rintro e G ⟨rfl,K,n,A⟩;have S:RH (OU Z D p (hF f d a g b (j+1)) (24+4*(j+1)) G):=⟨K,by show Pk K G p 124 (24+4*j+4) (cat (24+4*j) _ (leB (hV d a g b j)));rw[b2.out];exact n,k.trans A⟩;go_wp2;go_roundw
    case rel=>exact⟨j+1,aa,by go_num,S⟩
    case measure=>simp[intOf];omega
   .obtain rfl:j=4:=aa;have B:RH (Pk E wr p 124 40 (hF f d a g b 4)):=z;have k:=ad (iE.pre o.1 r);obtain⟨R,f1,I⟩:=cr (k.out.out.heap N M);have T:=ad (fx E wr p 124 40 0 _ B aa aa aa);have U:=ad (fx E wr p 124 40 1 _ B aa aa aa);cases h
    all_goals(
     go_wp2_with fail
     first|refine T.mono ?_|refine U.mono ?_
     rintro e G ⟨rfl,K,n,A⟩;have V:=ad n;have C:=ad (k.trans A);obtain⟨R,f1,I⟩:=cr (C.out.out.heap N M);have F:=ad (fx K G p 124 44 i _ V aa aa a6);go_wp2_with fail;refine F.mono ?_;rintro e w3 ⟨rfl,X,n,A⟩;have S:RH (Pk X w3 p 124 (24+24) (cat 24 f (mb d a g b _ i))/\iE Z W w3 X):=⟨by first|(rw[<-OT f d a g b true i];exact n)|(rw[<-OT f d a g b false i];exact n),C.trans A⟩;go_wp2;go_end0;exact⟨rfl,X,S⟩)))
 go_enter func335,ntmps335;go_wp2_with fail;refine(hW l m _ a5).mono ?_;rintro e L ⟨rfl,rfl⟩;go_wp2_with fail;refine(mc a 1 1023 _ aa aa).mono ?_;rintro e L ⟨rfl,rfl⟩;go_wp2_with fail;refine(mc d 0 ((a:Int)-1) _ aa aa).mono ?_;rintro e L ⟨rfl,rfl⟩;go_wp2_with fail;refine(mc g 0 15 _ aa aa).mono ?_;rintro e L ⟨rfl,rfl⟩;go_wp2_with fail;refine(mc b 0 4095 _ aa aa).mono ?_;rintro e L ⟨rfl,rfl⟩;go_wp2_with fail;refine a8.mono ?_;rintro e w1 ⟨a4,c,rfl,b3,O⟩;have b4:RH (w1.ownsRow w.heap.size 5 1 (a_ a4 128 c) 128 (az 128 (iX l m d a g b h i))/\ar w w1):=⟨cu b3 aJ,a7.trans (O.mono aJ)⟩;go_wp2;go_ret2;exact⟨a4,c,rfl,b4⟩
def Lt(n:Nat)(f:aO):Prop:=∀k,k<n->f k<256
def qG(n m:Nat)(f g:aO):Bool:=decide (n=m/\∀k,k<n->f k=g k)
def kx(n:Nat)(f:aO):ByteArray:=strOfNums ((UD n).map λk=>(f k:Int))
theorem hv(n:Nat)(f:aO):(kx n f).toList=(UD n).map λk=>WK (f k):=by unfold kx;rw[Lib.strOfNums_toList];simp[Lib.bytesOf]
theorem yp(n m:Nat)(f g:aO)(i:Lt n f)(j:Lt m g):((kx n f).toList==(kx m g).toList)=qG n m f g:=by
 have b:(kx n f).toList=(kx m g).toList↔(n=m/\∀k,k<n->f k=g k):=by
  constructor
  .intro h;have c:=h;simp only[hv]at c;have d:=congrArg WD c;simp only[RL,List.length_range]at d;refine⟨d,λk a=>?_⟩;have e:=congrArg (λl:List UInt8=>l[k]?) c;simp only[RU,SP a,SP (show k<m by omega),RJ,SZ]at e;have o:=congrArg UInt8.toNat e;simp only[UInt8.toNat_ofNat']at o;have:=i k a;have:=j k J;omega
  .rintro ⟨rfl,h⟩;rw[hv,hv];apply VH;intro k a;rw[h k (UJ.1 a)]
 rw[Bool.eq_iff_iff];simp only[beq_iff_eq,qG,decide_eq_true_eq];exact b
theorem iY(h:lX w v n f):∀c,ar w c->(convert 41 9 v).run prog c=.ok (.string (kx n f)) c:=by
 intro c m;obtain⟨a,d,rfl,h⟩:=h;by_cases q:n=0
 .subst q;cases a with
  |none=>exact run_convert_bytes_nil c 41 5 UX UL _ _ 9 underlying9
  |some p=>have e:=run_convert_bytes_string (P:=prog) c 41 9 5 (some p) 0 d UX UL underlying9;rw[e,run_bytesToString c p 0 d [] (run_loadCells_list (P:=prog) c p [] (λj v r=>by simp at r))];rfl
 .rcases h with h|⟨b,o,rfl,l⟩
  .omega
  .refine run_convert_bytes_arg (P:=prog) c 41 5 UX UL b o n d ((UD n).map λk=>(f k:Int)) aJ (λi g=>?_) 9 underlying9;rw[m.cell (p:=⟨b,o+i,none⟩) (QY w _ (l i g)),l i g];simp[List.getD,g]
theorem mg(c d:QN)(n m:Nat)(f g:aO)(w:M)(h:lX w c n f)(i:lX w d m g)(j:Lt n f)(k:Lt m g):
  aD 264 #[c,d] w λe l=>aK e (.bool (qG n m f g))/\l=w:=by
 have o:=iY h w aj;have p:=iY i w aj;rw[<-yp n m f g j k];obtain⟨q,a⟩:=ah (kx n f);obtain⟨r,b⟩:=ah (kx m g);rw[a]at o|-;rw[b]at p|-;go_enter func264,ntmps264;go_wp2;go_ret;exact⟨rfl,rfl⟩
theorem iZ{f g:aO}(h:∀k,k<n->f k=g k):qG n n f g=true:=by simp[qG];exact h
theorem FF{f g:aO}(h:n≠m):qG n m f g=false:=by simp[qG,h]
theorem IV{f g:aO}(k:Nat)(a:k<n)(h:f k≠g k):qG n m f g=false:=by simp only[qG,decide_eq_false_iff_not];rintro⟨_,b⟩;exact h (b k a)
theorem IW(v x:QN)(n m:Nat)(f g:aO)(w:M)(p:lX w v n f)(r:lX w x m g)(K:n<=140737488351232):
  aD 18 #[v,x] w λe B=>aK e (.bool (qG n m f g))/\∃q,B=w.drewN q:=by
 obtain⟨a,C,rfl,p⟩:=p;obtain⟨L,y,rfl,r⟩:=r;by_cases l:n=m
 .subst l;have D:=I p;have E:=I r;go_enter func18,ntmps18;go_wp2;go_loopw [5] (λi wr=>∃k q:Nat,k<=n/\i= Y k/\wr=w.drewN q/\RH (∀j,j<k->f j=g j)) (λi _=>n-(intOf i).toNat)
  case atStart=>exact⟨0,0,QX _,rfl,rfl,λ_ h=>absurd h (SD _)⟩
  case round=>
   obtain⟨k,q,O,rfl,rfl,z⟩:=hrel;by_cases c:k<n
   .rcases D.out with F|⟨b,o,rfl,s⟩
    .omega
    rcases E.out with F|⟨P,Q,rfl,t⟩
    .omega
    have S:=s k c;have T:=t k c;have U:(0:Int)<=(k:Int):=J;have V:(k:Int)<(n:Int):=J;by_cases d:f k=g k
    .have A:((f k:Int) !=(g k:Int))=false:=by simp[d]
     have u:=I d;go_wp2;go_quiet(fail);go_wp2;go_roundw
     case rel=>
      refine⟨k+1,_,J,by go_num,rfl,λj W=>?_⟩;by_cases e:j=k
      .subst e;exact u
      .exact z j J
     case measure=>simp[intOf];omega
    .have A:((f k:Int) !=(g k:Int))=true:=aQ;have u:=I d;go_wp2;go_quiet(fail);go_wp2
     go_returns
     exact⟨by rw[IV k c u.out];rfl,_,World.drewN_drewN _ _ _⟩
   .obtain rfl:k=n:=J;go_wp2
    go_returns
    exact⟨by rw[iZ z.out];rfl,_,rfl⟩
 .have A:((n:Int) !=(m:Int))=true:=aQ;have G:qG n m f g=false:=FF l;rw[G];go_enter func18,ntmps18;go_wp2
  go_returns
  exact⟨rfl,0,rfl⟩
theorem BY(a b:QN)(n m:Nat)(f g:aO)(w:M)(d:lX w a n f)(h:lX w b m g)(i:n<=140737488351232):
  aD 18 #[a,b] w λe c=>aK e (.bool (qG n m f g))/\ar w c:=by
 refine(IW a b n m f g w d h i).mono ?_;rintro e c ⟨rfl,q,rfl⟩;exact⟨rfl,ct aj _⟩
def sh(L:Nat)(f:aO)(w:M)(e:SG)(a:M):Prop:=
 ∃v,aK e v/\a.ownsRow w.heap.size 5 1 v L (az L f)/\ar w a
theorem eF(b o L a:Nat)(f:aO)(w:M)(p:∀k,k<L->w.cell? ⟨b,o+k,none⟩=some (.int .u8 (f k)))(x:L<=140737488355328):
  aD 199 #[.slice (some (R b o)) L a] w (sh L f w):=by
 have m:=I p;obtain⟨r,s,h,i,j⟩:=SN j';have n:=λw=>Lib.run_eql_slice_nil (P:=prog) w 41 5 (some (R b o)) L a 0 0 UX;go_enter func199,ntmps199;go_wp2_with(first|(at_builtin;refine wpList_append_own _ rfl _ _ 41 rfl w.heap.size 5 r (.int .u8 0) 1 1 UX s h i j rfl ai _ 0 [] rfl (World.ownsRow_made w #[] 0 (QP _) ai rfl) (R b o) L a (az L f) rfl (by rw[aH,UI]) ?c1 (df _ _) ?c3 ?c4 ?c5 ?_))
 case c1=>
  intro q u g;by_cases c:q<L
  .rw [a' _ _ _ c]at g;rw[iK,ZG _ _ _ (QY w _ (m.out q c)),m.out q c];exact g
  .rw [RO (by rw[aH];omega)]at g;cases g
 case c3=>unfold UT;omega
 case c4=>omega
 case c5=>simp
 intro y t d l _;have e:ar w t:=(aI aj _).grown l aJ (λk v=>by simp[XA]at v;omega);go_wp2;go_ret;exact⟨_,rfl,d,e⟩
def hz(f:aO):Bool:=decide (f 0=83/\f 1=80/\f 2=74/\f 3=76)
def ei(f:aO)(k:Nat):Nat:=if hz f=true/\k<4 then 0 else f k
theorem nW(h:Lt n f):Lt n (ei f):=λk a=>by
 unfold ei;split
 .omega
 .exact h k a
theorem wD(f:aO)(h:Lt 4 f):((kx 4 f).toList== [83,80,74,76])=hz f:=by
 rw[hv];have c:=h 0 J;have d:=h 1 J;have g:=h 2 J;have i:=h 3 J;have e:∀a b:Nat,a<256->b<256->(WK a=WK b↔a=b):=λa b j k=>by
  constructor
  .intro h;have:=congrArg UInt8.toNat h;simp only[UInt8.toNat_ofNat']at this;omega
  .rintro rfl;rfl
 rw[Bool.eq_iff_iff];unfold hz;simp only[beq_iff_eq,decide_eq_true_eq];show([WK (f 0),WK (f 1),WK (f 2),WK (f 3)] = [WK 83,WK 80,WK 74,WK 76])↔_;simp only[UO,and_true];rw[e _ _ c J,e _ _ d J,e _ _ g J,e _ _ i J]
def gr(X:Nat->Prop)(w:M)(v:QN)(f:aO):Prop:=∃b o a,v=.slice (some (R b o)) 128 a/\128<=a/\¬X b/\(∀k,k<128->w.cell? ⟨b,o+k,none⟩=some (.int .u8 (f k)))/\∃c d,w.heap[b]?=some (.cells c 5 d)
theorem gr.out{w w1:M}(h:gr X w v f)(e:Out S w w1)(g:∀k,k<w.heap.size->S k->X k):gr X w1 v f:=by obtain⟨b,o,a,l,m,c,h,n,p,i⟩:=h;exact⟨b,o,a,l,m,c,λk j=>e.cell (h k j) λd=>c (g _ (QY w _ (h k j)) d),n,p,e.heap i λd=>c (g _ (RM.1 i).1 d)⟩
theorem gr.cS(h:gr X w v f)(a:ar w W):gr X W v f:=h.out (S:=λ_=>False) (Out.af a) λ_ _ e=>e.elim
theorem gr.mono(h:gr X w v f)(c:∀k,k<w.heap.size->S k->X k):gr S w v f:=by obtain⟨b,o,a,d,g,i,h,j⟩:=h;exact⟨b,o,a,d,g,λe=>i (c _ (QY w _ (h 0 J)) e),h,j⟩
theorem gr.of(h:w.ownsRow n 5 1 (a_ m 128 i) 128 (az 128 f))(a:¬X m):gr X w (a_ m 128 i) f:=by
 refine⟨m,0,i,rfl,?_,a,λk b=>by rw[RQ];exact(bx h (a' _ _ _ b)).1,?_⟩
 .rcases h.2 with⟨h,_⟩|⟨_,_,_,h,_,_,c,_⟩
  .cases h
  .cases h;exact c
 .rcases h.2 with⟨h,_⟩|⟨_,_,_,h,_,d,_⟩
  .cases h
  .cases h;exact⟨_,_,d⟩
def Lb(f:aO)(w:M)(e:SG)(a:M):Prop:=
 ∃g c,aK e (.tuple #[a_ g 128 c,.bool (hz f),aG 0])/\a.ownsRow w.heap.size 5 1 (a_ g 128 c) 128 (az 128 (ei f))/\ar w a
theorem FG(f:aO)(h:hz f=true):YQ (az 128 f) 0 (XZ 4 (.int .u8 0))=az 128 (ei f):=by
 apply TZ;intro k;rw[fi _ _ _ _ (by simp[aH])];by_cases a:k<128
 .rw [a' _ _ _ a,a' _ _ _ a];unfold ei;rw[h,ZD];by_cases b:k<4
  .rw [ak J,ak ⟨rfl,b⟩,List.getElem?_replicate,ak J];rfl
  .rw [al J,al J]
 .rw [al (by rw[ZD];omega),RO (by rw[aH];omega),RO (by rw[aH];omega)]
theorem qj(w:M)(B g n b m c:Nat)(xs:List QN)(h:w.ownsRow B 5 1 (a_ g n b) n xs)(y:m<=n)(z:0<m):
  ∃f,(Builtin.clear_ #[41] 0 #[a_ g m c]).run prog w=.ok (.tuple #[]) f/\f.ownsRow B 5 1 (a_ g n b) n (YQ xs 0 (XZ m (.int .u8 0)))/\Out (λk=>k=g) w f:=by
 rcases h.2 with⟨d,_⟩|⟨A,j,a,d,p,l,q,r,s,t⟩
 .cases d
 cases d;have e:=run_storeCells_at (P:=prog) g 0 5 (XZ m (.int .u8 0)) 0 a w l aQ (λv d=>by rw[List.eq_of_mem_replicate d];rfl);have u:(Builtin.zeroCells (SU .u8 0).cells m).toList=XZ m (.int .u8 0):=by
  simp[Builtin.zeroCells,Value.cells];apply List.ext_getElem
  .simp
  .intro i C D;simp[YP]
 have x:0+(XZ m (SU .u8 0)).length<=a.toList.length:=aQ;refine⟨_,?_,?_,Out.setRow (S:=λk=>k=g) (Out.refl _ _) (g:=g) (λ_=>rfl) (YQ a.toList 0 (XZ m (.int .u8 0))).toArray⟩
 .obtain ⟨o,rfl⟩:∃o,m=o+1:=⟨m-1,J⟩;simp only[Builtin.clear_,XK,List.getElem?_cons_zero,SJ,TH UX,RR,zeroValue5,u];simp only[VU,RQ,ZD,List.take_zero,VE]at e;rw[e];simp[YQ]
 .refine ⟨by rw[length_splice _ _ _ (by have:=h.1;simp;omega)];exact h.1,.inr ⟨g,b,_,rfl,p,setRow_heap w g a _ 5 _ l,q,r,?_,?_⟩⟩
  .rw [WJ,length_splice _ _ _ x];simpa using s
  .show (YQ a.toList 0 _).take _=_;rw[iL _ _ _ _ aQ aQ,t]
theorem wE(X:Nat->Prop)(v:QN)(f:aO)(w:M)(h:gr X w v f)(K:Lt 128 f):aD 334 #[v] w (Lb f w):=by
 obtain⟨b,o,c,rfl,A,-,B,-⟩:=h;have C:=I B;have l:=I (eF b o 128 c f w B J);have D:=I (wD f λk L=>K k J);unfold Lb;obtain⟨m,E⟩:=ah (hz f);have d:=I E;rw[E]at D|-;go_enter func334,ntmps334;go_wp2_with fail;refine l.mono ?_;rintro e q ⟨Q,rfl,r,F⟩;obtain⟨S,i,rfl,O,s⟩:=eX r;obtain⟨j,rfl⟩:=s.resolve_left J;have G:=I r;have t:=I F;have u:=iY (w:=q) (v:=.slice (some (R b o)) 4 c) (n:=4) (f:=f) ⟨_,_,rfl,.inr ⟨b,o,rfl,λk L=>by rw[F.cell (p:=⟨b,o+k,none⟩) (QY w _ (C.out k J))];exact C k J⟩⟩ q aj;obtain⟨T,x⟩:=ah (kx 4 f);have y:=D.out;rw[x]at u y;obtain⟨U,P,z,a⟩:=qj q w.heap.size j 128 i 4 i _ r J J;have g:=aA z a;cases m
 .go_wp2;go_ret3;have e:az 128 (ei f)=az 128 f:=ee λk _=>by unfold ei;rw[d.out,al aJ]
  exact⟨j,i,rfl,by rw[e];exact G,t⟩
 .go_wp2;go_ret3;exact⟨j,i,rfl,by rw[<-FG f d.out];exact g.1,t.trans (g.2.below (λk _ e=>by have:=(G.lt j rfl).1;omega) t.size)⟩
structure bY where
 N:Nat
 me:Nat->Nat
 row:Nat->Nat
 da:Nat->Nat->Nat
structure bY.ok(P:bY):Prop where
 me:∀i,i<P.N->P.me i<=15
 row:∀i,i<P.N->P.row i<=4095
 da:∀i,i<P.N->Lt 128 (P.da i)
structure FH(X:Nat->Prop)(w:M)(a:Option TF)(P:bY)(dv:Nat->QN):Prop where
 l:P.N=0\/∃b o,a=some (R b o)/\¬X b/\∀i,i<P.N->w.cell? ⟨b,o+i*3,none⟩=some (Y (P.me i))/\w.cell? ⟨b,o+i*3+1,none⟩=some (Y (P.row i))/\w.cell? ⟨b,o+i*3+2,none⟩=some (dv i)
 d:∀i,i<P.N->gr X w (dv i) (P.da i)
def si(X:Nat->Prop)(w:M)(v:QN)(P:bY):Prop:=∃a b c,v=.slice a P.N b/\P.N<=b/\FH X w a P c
theorem FH.out{w w1:M}{a:Option TF}{P:bY}{f:Nat->QN}(h:FH X w a P f)(c:Out S w w1)(g:∀k,k<w.heap.size->S k->X k):FH X w1 a P f:=by
 refine⟨?_,λi d=>(h.d i d).out c g⟩;rcases h.l with h|⟨b,o,m,j,n⟩
 .exact .inl h
 .refine .inr ⟨b,o,m,j,λi d=>?_⟩;obtain⟨l,p,q⟩:=n i d;have e:¬S b:=λr=>j (g _ (QY w _ l) r);exact⟨c.cell l e,c.cell p e,c.cell q e⟩
theorem si.out{w w1:M}{P:bY}(h:si X w v P)(c:Out S w w1)(d:∀k,k<w.heap.size->S k->X k):si X w1 v P:=by obtain⟨a,b,f,e,g,h⟩:=h;exact⟨a,b,f,e,g,h.out c d⟩
theorem si.cS{P:bY}(h:si X w v P)(a:ar w W):si X W v P:=h.out (S:=λ_=>False) (Out.af a) λ_ _ e=>e.elim
def fA(a b:Nat)(P:bY):Nat->Nat
 |0=>0
 |i+1=>dD (fA a b P i) 128 (iX a b i P.N (P.me i) (P.row i) (hz (P.da i)) (dD 0 128 (ei (P.da i))))
def bo(a b:Nat)(P:bY)(j:Nat):Nat->Nat:=
 if j=2*P.N then eh a b P.N (fA a b P P.N)else if j%2=0 then iX a b (j/2) P.N (P.me (j/2)) (P.row (j/2)) (hz (P.da (j/2))) (dD 0 128 (ei (P.da (j/2))))else ei (P.da (j/2))
structure i_(B:Nat)(S:Nat->Prop)(w:M)(lv:QN)(n:Nat)(sv:Nat->QN)(sf:dj):Prop where
 own:w.ownsRow B 41 1 lv n (bM n sv)
 sec:∀j,j<n->gr (fun k=>k<B\/S k\/lv.ownBlock=some k) w (sv j) (sf j)
theorem jF(a:∀k,f k<256)(k:Nat):iV n m i j f k<256:=
 cU (cU (cU (λ_=>by show 0<256;omega) (kV a)) (cH _)) (λ_=>by show 0<256;omega) k
theorem oE(d e f a g b:Nat)(c:Bool)(h k:Nat):iX d e f a g b c h k<256:=jF (kW _ _ _ _ _ _) k
theorem kX(a b:Nat)(P:bY)(i:Nat):fA a b P i<4294967296:=by
 induction i with
 |zero=>show 0<4294967296;omega
 |succ i c=>exact gT _ _ _ c λk _=>oE _ _ _ _ _ _ _ _ k
theorem sj:(prog.info? 41).map (λi=>(i.zero,i.size,i.bytes))=some (some aU,1,24):=aE
theorem zy(w:M)(N:Nat)(h:N<=2000000):∃a,(TL 42 (Y 0) (Y (N:Int))).run prog w=.ok (a_ w.heap.size 0 N) (w.alloc (ao a 41))/\a.size=N:=by obtain⟨e,f,b,c,d⟩:=SN sj;have:=run_make (P:=prog) w 42 41 e aU underlying42 f b .i64 .i64 0 N J J (by rw[d];omega) J;rw[c,Int.toNat_natCast]at this;exact⟨_,this,by simp[UB]⟩
def MW(c d:Nat)(P:bY)(w:M)(e:SG)(a:M):Prop:=
 ∃b f,aK e (.tuple #[b,aG 0])/\i_ w.heap.size (λ_=>False) a b (2*P.N+1) f (bo c d P)/\ar w a
def sk{α:Type}(N:Nat)(f g:Nat->α)(k:Nat):α:=if k<N then f k else g (k-N)
theorem BZ(n m:Nat)(f g:Nat->QN):bM n f++bM m g=bM (n+m) (sk n f g):=by
 apply TZ;intro k;by_cases a:k<n
 .rw [RN (by rw[bF];exact a),cc _ _ _ a,cc _ _ _ J];unfold sk;rw[ak a]
 .rw [RK (by rw[bF];omega),bF];by_cases b:k<n+m
  .rw [cc _ _ _ J,cc _ _ _ b];unfold sk;rw[al a]
  .rw [RO (by rw[bF];omega),RO (by rw[bF];omega)]
theorem i_.push{lv b:QN}{sv f:Nat->QN}{g nf F:dj}(h:i_ i S w lv n sv g)(l:ar w W)(o:nI r W lv n m b z)(v:w.heap.size<=r)(s:z.ownsRow i 41 1 b (n+m) (bM n sv++bM m f))(t:∀j,j<m->gr (λk=>k<i\/S k\/lv.ownBlock=some k\/w.heap.size<=k) w (f j) (nf j))(hF:∀j,j<n+m->F j=sk n g nf j):i_ i S z b (n+m) (sk n sv f) F:=by
 have p:Out (λk=>lv.ownBlock=some k) w z:=o.out (Out.af l) λk c _=>c;have q:∀k,b.ownBlock=some k->lv.ownBlock=some k\/w.heap.size<=k:=λk c=>(o.block c).imp id λe=>J;refine⟨by rw[<-BZ];exact s,λj u=>?_⟩;rw[hF j u];unfold sk;by_cases e:j<n
 .rw [ak e,ak e];have h1:gr (λk=>k<i\/S k\/lv.ownBlock=some k\/w.heap.size<=k) w (sv j) (g j):=(h.sec j e).mono λk c d=>by
   rcases d with h1|h1|h1|h1
   .exact .inl h1
   .exact .inr (.inl h1)
   .exact .inr (.inr h1)
   .exact absurd c J
  refine(h1.out p λk _ e=>.inr (.inr (.inl e))).mono λk _ d=>?_;rcases d with a|a|a
  .exact .inl a
  .exact .inr (.inl a)
  .exact (q k a).elim (λe=>.inr (.inr (.inl e))) λe=>.inr (.inr (.inr e))
 .rw [al e,al e];refine((t (j-n) J).out p λk _ e=>.inr (.inr (.inl e))).mono λk _ d=>?_;rcases d with a|a|a
  .exact .inl a
  .exact .inr (.inl a)
  .exact (q k a).elim (λe=>.inr (.inr (.inl e))) λe=>.inr (.inr (.inr e))
theorem mh(a b:Nat)(P:bY)(i:Nat)(h:i<P.N):bo a b P (2*i)=iX a b i P.N (P.me i) (P.row i) (hz (P.da i)) (dD 0 128 (ei (P.da i))):=by unfold bo;rw[al J,ak J,show 2*i/2=i by omega]
theorem B_(a b:Nat)(P:bY)(i:Nat):bo a b P (2*i+1)=ei (P.da i):=by unfold bo;rw[al J,al J,show(2*i+1)/2=i by omega]
theorem zz(a b:Nat)(P:bY):bo a b P (2*P.N)=eh a b P.N (fA a b P P.N):=ak rfl
theorem bm(h:w.ownsRow m t i v n L)(a:v.ownBlock=some k):k<w.heap.size/\m<=k:=by
 rcases h.2 with⟨rfl,_⟩|⟨g,b,c,rfl,d,e,_⟩
 .cases a
 .cases a;exact⟨(RM.1 e).1,d⟩
theorem i_.out{w w1:M}{a:Nat->QN}(h:i_ m S w v n a F)(b:Out Q w w1)(c:∀k,Q k->S k/\v.ownBlock≠some k):i_ m S w1 v n a F:=
 ⟨b.own h.own λk e d=>(c k d).2 e,λj f=>(h.sec j f).out b λk _ e=>.inr (.inl (c k e).1)⟩
theorem i_.mono{a:Nat->QN}(h:i_ m S w v n a F)(b:i<=m)(c:∀k,Q k->S k):i_ i Q w v n a F:=
 ⟨cu h.own b,λj d=>(h.sec j d).mono λk _ e=>by
  rcases e with e|e|e
  .exact .inl J
  .exact .inr (.inl (c k e))
  .exact .inr (.inr e)⟩
structure IX(w wr:M)(ep sq:Nat)(P:bY)(d:Nat)(lv:QN)(i:Nat)(sv:Nat->QN):Prop where
 sn:i_ w.heap.size (fun k=>k=d) wr lv (2*i) sv (bo ep sq P)
 HV:FC wr d (fA ep sq P i) (128*i)
 du:ar w wr
 dB:w.heap.size<=d
 ne:lv.ownBlock≠some d
theorem tW(X:Nat->Prop)(f c:Nat)(v:QN)(P:bY)(w:QL)(h:si X w v P)(k3:P.ok)(i8:1<=P.N)(l2:P.N<=1023)(k4:cI f c):
  aD 302 #[.int .u64 f,.agg #[.int .u64 c,v]] w (MW f c P w):=by
 obtain⟨a,b6,l6,rfl,e6,i9⟩:=h;obtain⟨b,o,rfl,l7,-⟩:=i9.l.resolve_left aa;have k5:=ad i9;have e7:=ad k3;have k6:=ad k4;obtain⟨j0,j1,j2⟩:=k4;have g1:(f:Int)<=4611686018427387904:=aa;have g2:(1:Int)<=c:=aa;have g3:(c:Int)<=4611686018427387904:=aa;obtain⟨N,b7⟩:=ah P.N;have J:=ad b7;rw[b7]at i8 l2 e6|-;have y:¬(N:Int)<1:=aa;have g5:¬(1023:Int)<N:=aa;clear i9 k3 j0 j1 j2 b7;go_enter func302,ntmps302;go_wp2_with fail;obtain⟨x,b8⟩:=ah (w.alloc (ao #[.int .u64 c,.slice (some (ag b o)) N b6] 204));have q:RH (ar w x/\aZ x w.heap.size (ao #[.int .u64 c,.slice (some (ag b o)) N b6] 204)):=by rw[<-b8];exact⟨aI aj _,QM _ _⟩
 rw[b8];obtain⟨a0,b9⟩:=ah w.heap.size;have a6:=ad b9;rw[b9];clear b8 b9;go_loopw [7,32] (λs7 c0 wr=>∃k:Nat,k<=N/\c0= ae k/\s7= aG 0/\RH (ar x wr)) (λ_ c0 _=>N-(intOf c0).toNat)
 case atStart=>exact⟨0,QX _,rfl,rfl,aj⟩
 case round=>
  obtain⟨k,I,rfl,rfl,h9⟩:=hrel;by_cases e8:k<N
  .have z:=k5.out.out (S:=λ_=>False) (Out.af (q.1.trans (h9.mono q.1.size))) λ_ _ e=>e.elim;obtain⟨_,_,e0,-,a1⟩:=z.l.resolve_left (by have:=J.out;omega);cases e0;obtain⟨c1,c2,c3⟩:=a1 k (by have:=J.out;omega);obtain⟨i0,i3,L,a2,-,-,-⟩:=z.d k (by have:=J.out;omega);rw[a2]at c3;have m1:(P.me k:Int)<=15:=by have:=e7.me k (by have:=J.out;omega);omega
   have m2:(P.row k:Int)<=4095:=by have:=e7.row k (by have:=J.out;omega);omega
   have m3:(0:Int)<=P.me k:=aa;have m4:(0:Int)<=P.row k:=aa;obtain⟨mk,A⟩:=ah (P.me k);obtain⟨a5,O⟩:=ah (P.row k);rw[A]at c1 m1 m3;rw[O]at c2 m2 m4;have i1:(0:Int)<=k:=aa;have i2:(k:Int)<N:=aa;clear z a1 a2 A O;go_wp2;go_roundw
   case rel=>exact⟨k+1,aa,by go_num,rfl,aI h9 _⟩
   case measure=>simp[intOf];omega
  .obtain rfl:k=N:=aa;obtain⟨k1,f1,z1⟩:=cr ((h9.block _ (RM.1 (a6▸q.2)).1).trans (a6▸q.2));obtain⟨c4,b4,e9⟩:=zy wr (2*k+1) aa;have A:(TL 42 (ae 0) (ae (2*(k:Int)+1))).run prog wr=.ok (a_ wr.heap.size 0 (2*k+1)) (wr.alloc (ao c4 41)):=b4;have k7:=ad (World.ownsRow_made (base:=wr.heap.size) (e:=41) (size:=1) wr c4 (2*k+1) (QP _) (by unfold UT;omega) (by rw[e9,UI]));go_wp2_with fail;refine(FD _).mono ?_;rintro e w2 ⟨rfl,i4,a3⟩;obtain⟨d,Q⟩:=ah ((wr.alloc (ao c4 41)).heap.size);have f0:wr.heap.size+1=d:=by rw[<-Q,TG]
   rw[Q]at i4;have k8:wr.heap.size+1=d:=f0;have k9:RH (IX x w2 f c P d (a_ wr.heap.size 0 (2*k+1)) 0 (λ_=> aU)):=by have h1:=h9.out;refine⟨⟨?_,λj f2=>absurd f2 (SD _)⟩,i4,(aI h1 _).trans (a3.mono (by simp;have:=h1.size;omega)),by have:=h1.size;omega,λe=>by simp only[XA,SZ]at e;omega⟩;exact aP a3 (cu k7 h1.size)
   clear i4 a3 A b4 e9 k7 Q f0 k1;have G:RH (aZ x a0 (ao #[.int .u64 c,.slice (some (ag b o)) k b6] 204)/\a0<x.heap.size):=⟨a6▸q.2,(RM.1 (a6▸q.2)).1⟩;obtain⟨k1,f1,z1⟩:=cr ((k9.du.block a0 G.2).trans G.1);go_wp2_with fail;clear k1;go_loopw [10,86] (λj3 c5 l3=>∃(i:Nat) (a7:Nat->QN),i<=k/\c5= ae i/\RH (IX x l3 f c P d j3 i a7)) (λ_ c5 _=>k-(intOf c5).toNat)
   case atStart=>exact⟨0,_,QX _,rfl,k9⟩
   case round=>
    obtain⟨i,a7,l8,rfl,g⟩:=hrel;obtain⟨c6,c7,rfl,-⟩:=av g.sn.own;by_cases e8:i<k
    .have K:i<P.N:=by have:=J.out;omega
     have z:=k5.out.out (S:=λ_=>False) (Out.af (q.1.trans (g.du.mono q.1.size))) λ_ _ e=>e.elim;obtain⟨_,_,e0,-,a1⟩:=z.l.resolve_left aa;cases e0;obtain⟨c1,c2,c3⟩:=a1 i K;have a8:=ad (z.d i K);obtain⟨i0,i3,L,a2,-,-,-⟩:=z.d i K;rw[a2]at c3 a8;have C:=ad (show P.me i<=15/\P.row i<=4095/\Lt 128 (P.da i)from⟨e7.me i K,e7.row i K,e7.da i K⟩);obtain⟨mk,A⟩:=ah (P.me i);obtain⟨a5,O⟩:=ah (P.row i);obtain⟨e4,c8⟩:=ah (P.da i);have c9:=aM A O c8;rw[A]at c1 C;rw[O]at c2 C;rw[c8]at C a8;have i1:(0:Int)<=i:=aa;have i2:(i:Int)<k:=aa;clear z a1 a2 A O c8;obtain⟨i5,d0⟩:=ah (wr.alloc (ao #[ae mk,ae a5,.slice (some (ag i0 i3)) 128 L] 206));have e5:RH (ar wr i5/\aZ i5 wr.heap.size (ao #[ae mk,ae a5,.slice (some (ag i0 i3)) 128 L] 206)):=by rw[<-d0];exact⟨aI aj _,QM _ _⟩
     have f3:=ad d0;have f4:=ad (wE (λ_=>False) _ e4 i5 ((a8.cS e5.1).mono λ_ _ e=>e.elim) C.2.2);clear d0;go_wp2_with fail;rw[f3.out];refine f4.mono ?_;rintro e w2 ⟨g2,T,rfl,l0,a3⟩;have f5:=ad l0;have a9:=ad (e5.1.trans (a3.mono e5.1.size));have f6:RH (aZ w2 wr.heap.size (ao #[ae mk,ae a5,.slice (some (ag i0 i3)) 128 L] 206)):=(a3.block _ (RM.1 e5.2).1).trans e5.2;obtain⟨i6,f7⟩:=ah wr.heap.size;rw[f7]at f6|-;clear l0 a3 f7 f4 f3 c1 c2 c3;obtain⟨p1,p2,p3⟩:=cr f6;obtain⟨t1,t2,t3⟩:=cr ((a9.block a0 (RS G.2 g.du.size)).trans ((g.du.block a0 G.2).trans G.1));have e1:=p1 0;have e2:=p1 1;have e3:=t1 0;simp at e1 e2 e3;have d1:RH (∀W,ar w2 W->aD 160 #[a_ g2 128 T] W λe b0=>aK e (.int .u32 (dD 0 128 (ei e4):Nat))/\ar W b0):=λW a3=>jC 128 _ (ei e4) W ((oC f5).cS a3) (λk I=>nW C.2.2 k I) aa;have a4:=gT 0 128 (ei e4) aa λk I=>nW C.2.2 k I;obtain⟨Y,r⟩:=ah (dD 0 128 (ei e4));obtain⟨f8,d2⟩:=ah (hz e4);have U:=aA r d2;rw[r]at d1 a4;rw[d2];have f9:RH (∀W,ar w2 W->aD 335 #[.agg #[.int .u64 f,.int .u64 c,ae i,ae k,ae mk,ae a5,.bool f8,.int .u32 Y]] W (se 128 (iX f c i k mk a5 f8 Y) W)):=λW _=>tV f c i k mk a5 Y f8 W k6 aa aa e8 C.1 C.2.1 a4;clear r d2 p1 t1 a8;go_wp2_with fail;go_region_held3(λb0=>b0.cell? (ag i6 0)=some (ae mk)/\b0.cell? (ag i6 1)=some (ae a5)/\b0.cell? (ag a0 0)=some (.int .u64 c)) ((simp[*,go_sem];done)) (first|(go_at_call 160;refine(d1 _ bC).mono ?_;rintro e w3 ⟨rfl,V⟩;have p:ar w2 w3:=⟨V.os,V.tape,V.output,V.size,V.block⟩;obtain⟨x1,x2,x3⟩:=kp p i6 p3;obtain⟨y1,y2,y3⟩:=kp p a0 t3)|(go_at_call 335;refine(f9 _ (by first|exact p|exact aV p)).mono ?_;rintro e Z ⟨y,s,rfl,H,l⟩;have D:ar w2 Z:=p.trans (Below.mono ⟨l.os,l.tape,l.output,l.size,l.block⟩ p.size);obtain⟨x4,x5,x6⟩:=kp D i6 p3;obtain⟨y4,y5,y6⟩:=kp D a0 t3));have E:RH (ar wr Z):=a9.trans (D.mono a9.size);have M:=ad (cu H p.size);have b5:=ad (aP D f5);have d3:d<wr.heap.size:=(RM.1 g.HV).1;have j4:RH (FC Z d (fA f c P i) (128*i)):=(E.block d d3).trans g.HV;have j5:=ad (aP E g.sn.own);have g0:=ad (rY Z d (fA f c P i) (128*i) 128 _ (iX f c i k mk a5 f8 Y) j4 (kX _ _ _ _) (oC M) (λk _=>oE _ _ _ _ _ _ _ _ k) aa aa);clear H l V p D x1 x4 y1 y4 e1 e2 e3 p3 t3 f9 d1;go_wp2_with fail;refine g0.mono ?_;rintro e w5 ⟨rfl,g6,R⟩;have j6:RH (w5.ownsRow x.heap.size 41 1 (.slice c6 (2*i) c7) (2*i) (bM (2*i) a7)):=R.own j5 λk e g7=>g.ne (by rw[e,g7]);have b1:RH (Out (λk=>k=d) wr w5):=(Out.af E).tr R;have g8:y<Z.heap.size/\w2.heap.size<=y:=bm M rfl;have j7:g2<Z.heap.size/\i5.heap.size<=g2:=bm b5 rfl;have g9:=a9.size;have h0:=e5.1.size;have d4:=R.size;have j8:RH (∀j,j<2->gr (λk=>k<x.heap.size\/k=d\/(SF c6 (2*i) c7).ownBlock=some k\/w5.heap.size<=k) w5 ([a_ y 128 s,a_ g2 128 T].getD j aU) (bo f c P (2*i+j))):=λj f2=>by
      have h2:∀k,(SF c6 (2*i) c7).ownBlock=some k->k<wr.heap.size:=λk I=>(bm g.sn.own I).1;have h3:=g.du.size;obtain rfl|rfl:j=0\/j=1:=aa
      .rw [VU,mh _ _ _ _ K,J.out,c9.1,c9.2.1,c9.2.2,U.1,U.2];refine gr.of (R.own M λk e g7=>?_) ?_
       .cases e;exact absurd (show y=d from g7) aa
       .rintro (h|h|h|h)
        .omega
        .omega
        .have:=h2 _ h;omega
        .omega
      .rw [B_ _ _ _ _,c9.2.2];refine gr.of (R.own b5 λk e g7=>?_) ?_
       .cases e;exact absurd (show g2=d from g7) aa
       .rintro (h|h|h|h)
        .omega
        .omega
        .have:=h2 _ h;omega
        .omega
     have j9:RH (FC w5 d (fA f c P (i+1)) (128*(i+1))):=by
      have:fA f c P (i+1)=dD (fA f c P i) 128 (iX f c i k mk a5 f8 Y):=by show dD _ 128 (iX f c i P.N (P.me i) (P.row i) (hz (P.da i)) (dD 0 128 (ei (P.da i))))=_;rw[J.out,c9.1,c9.2.1,c9.2.2,U.1,U.2]
      rw[this];exact g6
     clear g6 R g0 g8 j7 g9 h0 d4;obtain⟨d5,d6,d7,d8,d9⟩:=SN sj;go_wp2_with(first|(at_builtin;refine aT _ rfl _ _ 42 rfl x.heap.size 41 d5 aU 1 24 underlying42 d6 d7 d8 d9 rfl ai (.slice c6 (2*i) c7) (2*i) (bM (2*i) a7) rfl (j6.alloc _) (ag w5.heap.size 0) 2 2 [a_ y 128 s,a_ g2 128 T] rfl rfl (SI (cs:= #[a_ y 128 s,a_ g2 128 T]) (t:=41) (fr:=(0,0)) (QM w5 _)) (by intro u i7;simp at i7;rcases i7 with rfl|rfl<;>rfl) aa (by unfold UT;omega) aa (by have:=g.du.size;have:=b1.size;simp;omega) ?_));intro b2 w6 F n;have b3:RH (i_ x.heap.size (λk=>k=d) w6 b2 (2*(i+1)) (sk (2*i) a7 (([a_ y 128 s,a_ g2 128 T].getD · aU))) (bo f c P)):=by
      refine i_.push (nf:=λj=>bo f c P (2*i+j)) (g.sn.out b1 λk e=>⟨e,λh=>?_⟩) (aI aj _) n (VC _) F j8 λj f2=>?_
      .exact g.ne (by rw[h,show k=d from e])
      .show bo f c P j=if j<2*i then bo f c P j else bo f c P (2*i+(j-2*i))
       split
       .rfl
       .rw [show 2*i+(j-2*i)=j by omega]
     have h6:∀k,(SF c6 (2*i) c7).ownBlock=some k->k<wr.heap.size/\x.heap.size<=k:=λk I=>bm g.sn.own I;have h7:RH (IX x w6 f c P d b2 (i+1) (sk (2*i) a7 (([a_ y 128 s,a_ g2 128 T].getD · aU)))):=by
      have h3:=g.du.size;have h5:=b1.size;have Q:=g.dB;refine⟨b3,?_,?_,Q,λe=>?_⟩
      .refine n.heap ?_ g.ne;exact(RG _ _ _ aa).trans j9
      .refine n.below (B:=x.heap.size) ((g.du.trans (b1.below (λk _ e=>?_) h3)).alloc aa _) aQ λk I=>(h6 k I).2;rw[show k=d from e];exact Q
      .rcases n.block e with h|h
       .exact g.ne h
       .omega
     clear b3 F n h6;obtain⟨l4,l5,rfl,-⟩:=av h7.sn.own;go_wp2;go_roundw
     case rel=>exact⟨i+1,_,aa,by go_num,h7⟩
     case measure=>simp[intOf];omega
    .obtain rfl:i=k:=aa;have d3:d<wr.heap.size:=(RM.1 g.HV).1;obtain⟨t1,t2,t3⟩:=cr ((g.du.block a0 G.2).trans G.1);have e3:=t1 0;simp at e3;have l1:RH (∀W,ar wr W->aD 311 #[aq d] W λe b0=>aK e (.int .u32 (fA f c P i))/\W=b0):=λW a3=>yn W d _ (128*i) ((a3.block d d3).trans g.HV);have a4:=kX f c P i;obtain⟨Y,r⟩:=ah (fA f c P i);have U:=ad r;rw[r]at l1 a4;have k0:RH (∀W,ar wr W->aD 336 #[.agg #[.int .u64 f,.int .u64 c,ae i,.int .u32 Y]] W (se 128 (eh f c i Y) W)):=λW _=>oD f c i Y W k6 aa aa a4;clear r t1;go_wp2_with fail;go_region_held3(λb0=>b0.cell? (ag a0 0)=some (.int .u64 c)) ((simp[*,go_sem];done)) (first|(go_at_call 311;refine(l1 _ bC).mono ?_;rintro e w3 ⟨rfl,rfl⟩)|(go_at_call 336;refine(k0 _ bC).mono ?_;rintro e Z ⟨y,s,rfl,H,l⟩;obtain⟨y1,y2,y3⟩:=kp l a0 (by first|exact t3|go_size)));have E:RH (ar wr Z):=⟨l.os,l.tape,l.output,l.size,l.block⟩;have M:RH (Z.ownsRow wr.heap.size 5 1 (a_ y 128 s) 128 (az 128 (eh f c i Y))):=⟨H.1,H.2⟩;have h8:RH (i_ x.heap.size (λk=>k=d) Z (.slice c6 (2*i) c7) (2*i) a7 (bo f c P)):=g.sn.out (Out.af (S:=λ_=>False) E) λ_ e=>e.elim;have g8:y<Z.heap.size/\wr.heap.size<=y:=bm M rfl;clear H l y1 e3 t3;obtain⟨d5,d6,d7,d8,d9⟩:=SN sj;go_wp2_with(first|(at_builtin;refine aT _ rfl _ _ 42 rfl x.heap.size 41 d5 aU 1 24 underlying42 d6 d7 d8 d9 rfl ai (.slice c6 (2*i) c7) (2*i) (bM (2*i) a7) rfl (h8.own.alloc _) (ag Z.heap.size 0) 1 1 [a_ y 128 s] rfl rfl (SI (cs:= #[a_ y 128 s]) (t:=41) (fr:=(0,0)) (QM Z _)) (by intro u i7;rw[TC.1 i7];rfl) aa (by unfold UT;omega) aa (by have:=g.du.size;have:=E.size;simp;omega) ?_));intro b2 w6 F n;have b3:RH (i_ x.heap.size (λk=>k=d) w6 b2 (2*i+1) (sk (2*i) a7 (λ_=>a_ y 128 s)) (bo f c P)):=by
      refine i_.push (m:=1) (nf:=λ_=>eh f c i Y) h8 (aI aj _) n (VC _) F (λj f2=>gr.of M ?_) λj f2=>?_
      .have i4:=(RM.1 g.HV).1;have h3:=g.du.size;rintro(h|h|h|h)
       .omega
       .exact absurd (show y=d from h) aa
       .have:=(bm g.sn.own h).1;omega
       .omega
      .show bo f c P j=if j<2*i then bo f c P j else eh f c i Y
       split
       .rfl
       .obtain rfl:j=2*i:=aa;rw[<-J.out,zz,J.out,U.out]
     have k2:RH (ar w w6):=by have h3:=g.du.size;have h4:=E.size;have h1:=q.1.size;refine q.1.trans ((n.below (B:=x.heap.size) ((g.du.trans (E.mono h3)).alloc aa _) aQ λk I=>(bm g.sn.own I).2).mono h1)
     clear F n;go_wp2;go_ret2;exact⟨_,_,rfl,by rw[J.out];exact b3.mono q.1.size λ_ e=>e.elim,k2⟩
def dT(w:M)(v:QN)(f:aO):Prop:=∃b o a c d,v=.slice (some (R b o)) 128 a/\128<=a/\w.heap[b]?=some (.cells c 5 d)/\∀k,k<128->c[o+k]?=some (.int .u8 (f k))
theorem dT.out{w w1:M}(h:dT w v f)(d:Out S w w1)(g:∀k o,S k->w.heap[k]?=some o->ty o≠5):dT w1 v f:=by obtain⟨b,o,a,i,j,l,m,c,n⟩:=h;exact⟨b,o,a,i,j,l,m,d.heap c λe=>g _ _ e c rfl,n⟩
theorem dT.below(h:dT w v f)(a:ar w W):dT W v f:=h.out (Out.af (S:=λ_=>False) a) λ_ _ h=>h.elim
theorem dT.fr[Lo](h:dT w v f)(c:Fr T aF w W)(d:T.contains 5=false):dT W v f:=by obtain⟨b,o,a,e,g,i,j,k,l⟩:=h;exact⟨b,o,a,e,g,i,j,c.hp k d,l⟩
theorem dT.eG(h:dT w v f):cN w v 128 f:=by obtain⟨b,o,a,c,d,rfl,i,e,g⟩:=h;exact⟨_,_,rfl,.inr ⟨b,o,c,d,rfl,e,g⟩⟩
theorem dT.BH(h:dT w v f):lX w v 128 f:=h.eG.BH
theorem eZ(h:w.ownsRow n 5 1 v 128 (az 128 f)):dT w v f:=by
 rcases h.2 with⟨rfl,d⟩|⟨g,a,b,rfl,m,e,i,o,p,j⟩
 .cases d
 .refine ⟨g,0,a,b,_,rfl,i,e,λk c=>?_⟩;have:=congrArg (λl=>l[k]?) j;simp only[TT,UI,a' 128 f k c,ak c]at this;rw[RQ];simpa using this
theorem dT.form(h:dT w v f):∃b o c,v=.slice (some (R b o)) 128 c:=by obtain⟨b,o,a,e,g,d,_⟩:=h;exact⟨b,o,a,d⟩
theorem hB(v:QN)(f:aO)(w:M)(h:dT w v f):aD 199 #[v] w (sh 128 f w):=by obtain⟨b,o,a,c,d,rfl,i,e,g⟩:=h;exact eF b o 128 a f w (λk h=>(RD w b (o+k) c 5 d e).trans (g k h)) J
abbrev Pt:=Nat × Nat × (Nat->Nat)
variable {l:List Pt}
def dc(l:List Pt)(a:List QN):List QN:=(l.zip a).flatMap λx=> [Y x.1.1,Y x.1.2.1,x.2]
theorem oF(h:L.length=l.length)(p:Pt)(u:QN):dc (l++ [p]) (L++ [u])=dc l L++ [Y p.1,Y p.2.1,u]:=by unfold dc;rw[List.zip_append h.symm,VI];rfl
theorem so{l c:List Pt}{b a:List QN}(h:b.length=l.length):dc (l++c) (b++a)=dc l b++dc c a:=by unfold dc;rw[List.zip_append h.symm,VI]
theorem qH(h:L.length=l.length):(dc l L).length=l.length*3:=by
 unfold dc;have e:∀z:List (Pt × QN),(z.flatMap λx=> [Y x.1.1,Y x.1.2.1,x.2]).length=z.length*3:=by
  intro z;induction z with
  |nil=>rfl
  |cons a z b=>rw[List.flatMap_cons,RE,b];simp;omega
 rw[e,List.length_zip,h,Nat.min_self]
theorem jG:∀{l:List Pt} {us:List QN} {i:Nat} {p:Pt} {u:QN},l[i]?=some p->us[i]?=some u->(dc l us)[i*3]?=some (Y p.1)/\(dc l us)[i*3+1]?=some (Y p.2.1)/\(dc l us)[i*3+2]?=some u
 | [],_,_,_,_,h,_=>by simp at h
 |_::_,[],_,_,_,_,h=>by simp at h
 |q::l,v::us,0,p,u,h,g=>by simp at h g;subst h;subst g;exact⟨rfl,rfl,rfl⟩
 |q::l,v::us,i+1,p,u,h,g=>by
  have a:=jG (l:=l) (us:=us) (i:=i) (p:=p) (u:=u) (by simpa using h) (by simpa using g);have e:dc (q::l) (v::us)= [Y q.1,Y q.2.1,v] ++dc l us:=rfl;rw[e];refine⟨?_,?_,?_⟩
  .rw [RK aQ];simpa[show(i+1)*3-3=i*3 by omega]using a.1
  .rw [RK aQ];simpa[show(i+1)*3+1-3=i*3+1 by omega]using a.2.1
  .rw [RK aQ];simpa[show(i+1)*3+2-3=i*3+2 by omega]using a.2.2
def fc(w:M)(v:QN)(l:List Pt):Prop:=
 ∃a c,v=.slice a l.length c/\l.length<=c/\(l= []\/∃b o d e,a=some (R b o)/\w.heap[b]?=some (.cells d 206 e)/\
  ∀i (p:Pt),l[i]?=some p->d[o+i*3]?=some (Y p.1)/\d[o+i*3+1]?=some (Y p.2.1)/\∃u,d[o+i*3+2]?=some u/\dT w u p.2.2)
theorem fc.out{w w1:M}(h:fc w v l)(d:Out S w w1)(f:∀k o,S k->w.heap[k]?=some o->ty o≠5/\ty o≠206):fc w1 v l:=by obtain⟨a,c,j,m,n⟩:=h;refine⟨a,c,j,m,n.imp id ?_⟩;rintro⟨b,o,q,r,s,g,t⟩;refine⟨b,o,q,r,s,d.heap g λe=>(f _ _ e g).2 rfl,λi p x=>?_⟩;obtain⟨y,z,u,A,B⟩:=t i p x;exact⟨y,z,u,A,B.out d λk o C D=>(f k o C D).1⟩
theorem fc.below(h:fc w v l)(a:ar w W):fc W v l:=h.out (Out.af (S:=λ_=>False) a) λ_ _ h=>h.elim
theorem fc.fr[Lo](h:fc w v l)(f:Fr T aF w W)(g:T.contains 5=false)(j:T.contains 206=false):fc W v l:=by obtain⟨a,c,d,e,k⟩:=h;refine⟨a,c,d,e,k.imp id ?_⟩;rintro⟨b,o,m,n,q,r,s⟩;refine⟨b,o,m,n,q,f.hp r j,λi p t=>?_⟩;obtain⟨d,e,u,x,y⟩:=s i p t;exact⟨d,e,u,x,y.fr f g⟩
theorem fc.nil(w:M):fc w aU []:=⟨none,0,rfl,QP _,.inl rfl⟩
def fe(B:Nat)(w:M)(v:QN)(l:List Pt):Prop:=
 ∃us:List QN,us.length=l.length/\w.ownsRow B 206 3 v l.length (dc l us)/\∀(i:Nat) (p:Pt) (u:QN),l[i]?=some p->us[i]?=some u->dT w u p.2.2
theorem fe.nil(B:Nat)(w:M):fe B w aU []:=⟨[],rfl,SS _ _ _ _,λi p u h=>by simp at h⟩
theorem fe.yq(h:fe n w v l):fc w v l:=by
 obtain⟨e,A,k,m⟩:=h;rcases k.2 with⟨rfl,o⟩|⟨g,b,a,rfl,B,q,r,C,D,s⟩
 .have:=UE o;subst this;exact fc.nil w
 .refine ⟨_,b,rfl,r,.inr ⟨g,0,a,_,rfl,q,λi p c=>?_⟩⟩;have E:=(RC.1 c).1;obtain⟨u,f⟩:∃u,e[i]?=some u:=⟨_,RA J⟩;obtain⟨t,x,y⟩:=jG c f;have d:∀j,j<l.length*3->a[j]?=(dc l e)[j]?:=λj z=>by rw[<-s,TT,ak z];simp
  rw[RQ];exact⟨(d _ J).trans t,(d _ J).trans x,u,(d _ J).trans y,m i p u c f⟩
theorem fe.out{w w1:M}(h:fe n w v l)(a:Out S w w1)(b:∀k,v.ownBlock=some k->¬S k)(c:∀k o,S k->w.heap[k]?=some o->ty o≠5):fe n w1 v l:=by obtain⟨d,e,f,g⟩:=h;exact⟨d,e,a.own f b,λi p u j m=>(g i p u j m).out a c⟩
theorem fe.below{B:Nat}(h:fe B w v l)(a:ar w W):fe B W v l:=h.out (Out.af (S:=λ_=>False) a) (λ_ _=>id) λ_ _ h=>h.elim
theorem fe.fr[Lo](h:fe n w v l)(a:Fr T aF w W)(b:T.contains 5=false)(c:T.contains 206=false):fe n W v l:=by obtain⟨d,e,f,g⟩:=h;exact⟨d,e,a.own f c λ_ _=>id,λi p u j k=>(g i p u j k).fr a b⟩
theorem nI.ty(c:nI i W v n m x w)(d:W.ownsRow j r C v n L):Out (λk=>v.ownBlock=some k) W w/\∀k o,v.ownBlock=some k->W.heap[k]?=some o->ty o=r:=by
 refine⟨c.out (Out.refl _ _) λ_ h _=>h,λk o a b=>?_⟩;rcases d.2 with⟨rfl,_⟩|⟨g,e,f,rfl,_,l,_⟩
 .cases a
 .cases a;rw[l]at b;cases b;rfl
theorem fe.push{B s n m:Nat}{lv a:QN}{l b:List Pt}{us us':List QN}(e:us.length=l.length)(f:us'.length=b.length)(q:n=l.length)(r:m=b.length)(h:W.ownsRow B 206 3 lv n (dc l us))(t:∀(i:Nat) (p:Pt) (u:QN),l[i]?=some p->us[i]?=some u->dT W u p.2.2)(v:∀(i:Nat) (p:Pt) (u:QN),b[i]?=some p->us'[i]?=some u->dT W u p.2.2)(x:w.ownsRow B 206 3 a (n+m) (dc l us++dc b us'))(y:nI s W lv n m a w):fe B w a (l++b):=by
 subst q;subst r;obtain⟨g,z⟩:=y.ty h;refine⟨us++us',by simp[e,f],by rw[RE,so e];exact x,λi p u c d=>?_⟩;have j:∀k o,lv.ownBlock=some k->aZ W k o->ty o≠5:=λk o A C=>by rw[z k o A C];decide
 by_cases D:i<l.length
 .rw [RN D]at c;rw[RN J]at d;exact(t i p u c d).out g j
 .rw [RK J]at c;rw[RK J,e]at d;exact(v _ p u c d).out g j
def IY(w:M)(v:QN)(L:List (List Pt)):Prop:=
 ∃a c,v=.slice a L.length c/\L.length<=c/\(L= []\/∃b o d e,a=some (R b o)/\w.heap[b]?=some (.cells d 162 e)/\∀(i:Nat) (l:List Pt),L[i]?=some l->∃u,d[o+i]?=some u/\fc w u l)
theorem IY.fr[Lo]{L:List (List Pt)}(h:IY w v L)(d:Fr T aF w W)(e:T.contains 5=false)(f:T.contains 206=false)(g:T.contains 162=false):IY W v L:=by obtain⟨a,c,j,k,h⟩:=h;refine⟨a,c,j,k,h.imp id ?_⟩;rintro⟨b,o,m,n,p,q,r⟩;refine⟨b,o,m,n,p,d.hp q g,λi l s=>?_⟩;obtain⟨u,t,x⟩:=r i l s;exact⟨u,t,x.fr d e f⟩
def zA(B:Nat)(w:M)(v:QN)(L:List (List Pt)):Prop:=
 ∃us:List QN,us.length=L.length/\w.ownsRow B 162 1 v L.length us/\∀(i:Nat) (l:List Pt) (u:QN),L[i]?=some l->us[i]?=some u->fc w u l
theorem zA.nil(B:Nat)(w:M):zA B w aU []:=⟨[],rfl,SS _ _ _ _,λi p u h=>by simp at h⟩
theorem zA.PG{L:List (List Pt)}(h:zA n w v L):IY w v L:=by
 obtain⟨e,q,f,j⟩:=h;rcases f.2 with⟨rfl,k⟩|⟨g,a,b,rfl,r,m,o,s,t,p⟩
 .have:=UE k;subst this;exact⟨none,0,rfl,QP _,.inl rfl⟩
 .refine ⟨_,a,rfl,o,.inr ⟨g,0,b,_,rfl,m,λi l c=>?_⟩⟩;have x:=(RC.1 c).1;obtain⟨u,d⟩:∃u,e[i]?=some u:=⟨_,RA J⟩;refine⟨u,?_,j i l u c d⟩;rw[RQ,<-d,<-p,TT,ak J];simp
theorem zA.push{B s:Nat}{lv a u:QN}{L:List (List Pt)}{us:List QN}(d:us.length=L.length)(h:W.ownsRow B 162 1 lv L.length us)(g:∀(i:Nat) (p:List Pt) (u:QN),L[i]?=some p->us[i]?=some u->fc W u p)(j:fc W u l)(m:w.ownsRow B 162 1 a (L.length+1) (us++ [u]))(n:nI s W lv L.length 1 a w):zA B w a (L++ [l]):=by
 obtain⟨e,q⟩:=n.ty h;have f:∀k o,lv.ownBlock=some k->aZ W k o->ty o≠5/\ty o≠206:=λk o r t=>by rw[q k o r t];decide
 refine⟨us++ [u],by simp[d],by rw[RE];exact m,λi p x b c=>?_⟩;by_cases v:i<L.length
 .rw [RN v]at b;rw[RN J]at c;exact(g i p x b c).out e f
 .rw [RK J]at b;rw[RK J,d]at c;obtain⟨y,A⟩:=RC.1 b;have z:i-L.length=0:=by simp at y;omega
  rw[z]at b c;simp at b c;subst b;subst c;exact j.out e f
def gQ(w:M)(v:QN)(B:bp):Prop:=
 ∃a c,v=.slice a B.n c/\B.n<=c/\(B.n=0\/∃b o d e,a=some (R b o)/\w.heap[b]?=some (.cells d 61 e)/\∀i,i<B.n->d[o+i*2]?=some (Y (B.aL i:Nat))/\∃u,d[o+i*2+1]?=some u/\dT w u (B.da i))
theorem gQ.fr[Lo](h:gQ w v K)(e:Fr T aF w W)(f:T.contains 5=false)(g:T.contains 61=false):gQ W v K:=by obtain⟨a,c,d,j,h⟩:=h;refine⟨a,c,d,j,h.imp id ?_⟩;rintro⟨b,o,k,l,m,n,p⟩;refine⟨b,o,k,l,m,e.hp n g,λi q=>?_⟩;obtain⟨d,u,r,s⟩:=p i q;exact⟨d,u,r,s.fr e f⟩
theorem gQ.below{B:bp}(h:gQ w v B)(a:ar w W):gQ W v B:=by
 letI:Lo:=⟨0⟩
 exact h.fr (T:= []) (Fr.af a) rfl rfl
def mi(l:List Pt)(p:Pt->Bool):Int:=match l.findIdx? p with|some k=>(k:Nat)|none=> -1
theorem zC{p:Pt->Bool}(h:∀x∈l,p x=false):mi l p= -1:=by unfold mi;rw[YF.2 h]
theorem sp(B:Nat)(S:Array QN)(a4:∀f w,(UY B f).run VW w=.ok (.enter B f) w)(l:List Pt)(g:Pt->Bool)(v:QN)(w:QL)(Z:fc w v l)(H:l.length<=1000000)(N:∀W,SM w.heap.size w W->∀p,p∈l->∀u,dT W u p.2.2->Calls VW B (#[.agg #[.int .i64 (p.1:Nat),.int .i64 (p.2.1:Nat),u]] ++S) W λe D=>e=.returned (.bool (g p))/\SM W.heap.size W D):
  Calls VW 292 #[v,.func (.func B) #[] S] w λe D=>e=.returned (.int .i64 (mi l g))/\SM w.heap.size w D:=by
 obtain⟨n,C⟩:∃n,l.length=n:=⟨_,rfl⟩;obtain⟨a,M,rfl,z,R⟩:=Z;rw[C]at H z;rw[C];have I:=RI R;have E:=RI C;have Y:=RI N;clear C;go_enter Tryz.func292,Tryz.ntmps292;go_wp2;go_loopw [8] (λi wr=>∃k:Nat,i=.int .i64 k/\k<=n/\RH (SM w.heap.size w wr)/\RH (∀j p,j<k->l[j]?=some p->g p=false)) (λi _=>n-(intOf i).toNat)
 case atStart=>exact⟨0,rfl,QX _,SV _ _,λj p y=>by omega⟩
 case round=>
  obtain⟨k,rfl,a5,h,F⟩:=hrel;by_cases A:k<n
  .obtain ⟨p,m⟩:∃p,l[k]?=some p:=⟨_,RA (by rw[E.out];exact A)⟩;obtain⟨b,o,G,K,rfl,T,J⟩:=I.out.resolve_left (by intro e;have:=E.out;rw[e]at this;simp at this;omega);obtain⟨L,O,u,h3,U⟩:=J k p m;have q:=(h.out.block b (Z_ T)).trans T;have c1:=(RD wr b (o+k*3) G 206 K q).trans L;have c2:=(RD wr b (o+k*3+1) G 206 K q).trans O;have c3:=(RD wr b (o+k*3+2) G 206 K q).trans h3;have c:=RI (Y.out wr h.out p (RF m) u (U.below h.out));obtain⟨a6,a7,a8,rfl⟩:=U.form;have V:=RI m;obtain⟨a0,a1,a2⟩:=p;clear m;cases d:g (a0,a1,a2)with
   |true=>
    rw[d]at c;have r:=RI d;go_wp2_with fail;refine c.out.mono ?_;rintro e X ⟨rfl,s⟩;have P:RH (mi l g=(k:Nat)):=by
     show _=_;unfold mi;have:l.findIdx? g=some k:=by rw[List.findIdx?_eq_some_iff_getElem];obtain⟨L,O⟩:=RC.1 V.out;refine⟨L,by rw[O];exact r.out,λj y=>?_⟩;rw[F.out j _ y (RA (by omega))];decide
     rw[this]
    have t:=RI (h.out.trans (s.mono h.out.size));go_wp2;go_ret;exact⟨by rw[P.out];rfl,t.out⟩
   |false=>
    rw[d]at c;have r:=RI d;go_wp2_with fail;refine c.out.mono ?_;rintro e X ⟨rfl,s⟩;have t:RH (SM w.heap.size w X):=h.out.trans (s.mono h.out.size);have Q:RH (∀j p,j<k+1->l[j]?=some p->g p=false):=λj p y m=>by
     by_cases e:j=k
     .subst e;rw[V.out]at m;cases m;exact r.out
     .exact F.out j p (by omega) m
    go_wp2;exact⟨⟨k+1,by go_num,A,t,Q⟩,by simp[intOf];omega⟩
  .obtain rfl:k=n:=by omega
   have P:RH (mi l g= -1):=zC λx a3=>by obtain⟨j,y,rfl⟩:=ZL.1 a3;exact F.out j _ (by rw[<-E.out];exact y) (RA y)
   go_wp2;go_ret;exact⟨by rw[P.out];rfl,h.out⟩
theorem kY(d:Nat)(g:Array QN)(q:∀c w,(UY d c).run prog w=.ok (.enter d c) w)(l:List Pt)(b:Pt->Bool)(v:QN)(w:M)(i:fc w v l)(r:l.length<=1000000)(s:∀W,ar w W->∀p,p∈l->∀u,dT W u p.2.2->aD d (#[.agg #[Y p.1,Y p.2.1,u]] ++g) W λe h=>aK e (.bool (b p))/\ar W h):
  aD 357 #[v,.func (.func d) #[] g] w λe h=>aK e (.bool (l.any b))/\ar w h:=by
 have j:=I (sp d g q l b v w i r s);have m:RH (decide (mi l b>=0)=l.any b):=by
  show _=_;unfold mi;cases n:l.findIdx? b with
  |none=>
   have:=YF.1 n;have e:l.any b=false:=by rw[List.any_eq_false];intro x f;rw[this x f];decide
   rw[e];decide
  |some k=>obtain⟨t,z,_⟩:=List.findIdx?_eq_some_iff_getElem.1 n;have e:l.any b=true:=XN.2 ⟨_,YT t,z⟩;rw[e];simp
 obtain⟨x,f⟩:=ah (mi l b);obtain⟨y,o⟩:=ah (l.any b);rw[f,o]at m;rw[f]at j;rw[o];obtain⟨a,A,rfl,-⟩:=i;go_enter func357,ntmps357;go_wp2_with(go_at_call 292;refine j.mono ?_;rintro e D ⟨rfl,B⟩;have C:=I B);go_ret;exact⟨by rw[<-m.out];rfl,C⟩
theorem sr(a b:Nat):((a:Int)==(b:Int))=decide (a=b):=by
 by_cases h:a=b
 .simp [h]
 .rw [decide_eq_false h];exact beq_false_of_ne J
theorem B'(p:Pt)(u:QN)(W:M)(h:dT W u p.2.2):aD 356 (#[.agg #[Y p.1,Y p.2.1,u]] ++ #[]) W λe a=>aK e iD/\ar W a:=by obtain⟨b,o,c,rfl⟩:=h.form;obtain⟨d,f,g⟩:=p;go_enter func356,ntmps356;go_wp2;go_ret;exact⟨rfl,aI aj _⟩
theorem IZ(p:Pt)(u:QN)(g m:Nat)(W:M)(h:dT W u p.2.2)(a:aZ W g (N #[Y m] 3)):aD 376 (#[.agg #[Y p.1,Y p.2.1,u]] ++ #[H g]) W λe d=>aK e (.bool (decide (p.1=m)))/\ar W d:=by obtain⟨b,o,c,rfl⟩:=h.form;obtain⟨i,j,l⟩:=p;obtain⟨k,f,z⟩:=cr a;go_enter func376,ntmps376;go_wp2;go_ret;exact⟨by simp[sr],aI aj _⟩
theorem Ca(p:Pt)(u:QN)(i j m r:Nat)(W:M)(h:dT W u p.2.2)(l:aZ W i (N #[Y m] 3))(n:aZ W j (N #[Y r] 3)):
  aD 293 (#[.agg #[Y p.1,Y p.2.1,u]] ++ #[H i,H j]) W λe q=>aK e (.bool (decide (p.1=m/\p.2.1=r)))/\ar W q:=by
 obtain⟨b,o,c,rfl⟩:=h.form;obtain⟨a,s,t⟩:=p;obtain⟨k,f,z⟩:=cr l;obtain⟨v,f2,w⟩:=cr n;by_cases d:a=m
 .have d1:((a:Int)==(m:Int))=true:=by simp[d]
  have g:=I d;go_enter func293,ntmps293;go_wp2;go_ret;exact⟨by simp[g.out,sr],aI aj _⟩
 .have d1:((a:Int)==(m:Int))=false:=aQ;have g:=I d;go_enter func293,ntmps293;go_wp2;go_ret;exact⟨by simp[g.out,sr],aI aj _⟩
structure Dk where
 n:Nat
 f_:Nat->Nat->Nat
 cn:Nat
 cat:Nat->Nat
 bQ:Nat->Nat->Nat
 failed:Bool
variable {D:Dk}
def dM(cat:aO):Nat->Nat->Option Nat
 |0,_=>none
 |n+1,a=>if cat n=a then some n else dM cat n a
def Dk.view(d:Dk)(a:Nat):Nat->Nat:=match dM d.cat d.cn a with|some k=>d.bQ k|none=>d.f_ a
def iy(cat:aO)(n:Nat)(a:Int):Option QN:=if 0<=a then(dM cat n a.toNat).map λk=>.int .i64 (k:Nat)else none
theorem hD{cat:aO}:∀{n a k:Nat},dM cat n a=some k->k<n/\cat k=a
 |0,_,_,h=>by cases h
 |n+1,a,k,h=>by
  unfold dM at h;split at h
  .cases h;exact⟨J,by assumption⟩
  .have:=hD h;exact⟨J,this.2⟩
theorem mj(cat:aO)(n a:Nat):iy cat n (a:Int)=(dM cat n a).map λk=>.int .i64 (k:Nat):=by simp[iy]
def ew(n:Nat)(a:dj):Array QN:=((UD (128*n)).map λj=>SU .u8 (a (j/128) (j%128):Nat)).toArray
def fm(n:Nat)(cat:aO)(a:dj):List QN:=(UD (129*n)).map λj=>if j%129=0 then Y (cat (j/129):Nat)else SU .u8 (a (j/129) (j%129-1):Nat)
theorem zD(n:Nat)(a:dj):(ew n a).size=128*n:=by simp[ew]
theorem hX(n:Nat)(cat:aO)(a:dj):(fm n cat a).length=n*129:=by simp[fm];omega
theorem Cb(n:Nat)(a:dj)(b:m<n)(c:k<128):(ew n a)[128*m+k]?=some (.int .u8 (a m k:Nat)):=by have h:128*m+k<128*n:=J;simp only[ew,XK,RU,SP h,RJ];rw[show(128*m+k)/128=m by omega,show(128*m+k)%128=k by omega]
theorem zE(n:Nat)(cat:aO)(a:dj)(b:i<n):(fm n cat a)[129*i]?=some (Y (cat i:Nat)):=by have h:129*i<129*n:=J;simp only[fm,RU,SP h,RJ];rw[ak J,show 129*i/129=i by omega]
theorem wF(n:Nat)(cat:aO)(a:dj)(b:i<n)(c:k<128):(fm n cat a)[129*i+1+k]?=some (.int .u8 (a i k:Nat)):=by have h:129*i+1+k<129*n:=J;simp only[fm,RU,SP h,RJ];rw[al J,show(129*i+1+k)/129=i by omega,show(129*i+1+k)%129-1=k by omega]
theorem tX(n:Nat)(cat:aO)(b:dj)(a:Nat)(f:aO):fm n cat b++(Y a::az 128 f)=fm (n+1) (λi=>if i=n then a else cat i) (λi=>if i=n then f else b i):=by
 apply TZ;intro j;by_cases c:j<129*n
 .rw [RN (by rw[hX];omega)];simp only[fm,RU,SP c,SP (show j<129*(n+1)by omega),RJ];rw[al (show¬j/129=n by omega),al (show¬j/129=n by omega)]
 .rw [RK (by rw[hX];omega),hX];by_cases d:j<129*(n+1)
  .simp only[fm,RU,SP d,RJ];rw[show j/129=n by omega];simp only[if_true];by_cases e:j=n*129
   .subst e;rw[Nat.sub_self,ak J];rfl
   .rw [al J,show j-n*129=(j%129-1)+1 by omega,List.getElem?_cons_succ,a' _ _ _ J]
  .rw [RO (by simp[aH];omega),RO (by rw[hX];omega)]
structure DA where
 gl:Nat
 lc:Nat
 cv:QN
 ms:Nat
structure cC(w:M)(K:Nat)(A:DA)(d:Dk):Prop where
 aL:w.heap[K]? =some (N #[a_ A.gl d.n A.lc,A.cv,.map (some A.ms),.bool d.failed] 142)
 f_:w.heap[A.gl]? =some (N (ew d.n d.f_) 217)
 cache:w.ownsRow 0 219 129 A.cv d.cn (fm d.cn d.cat d.bQ)
 seen:IM w A.ms (iy d.cat d.cn)
 pos:0<d.n
 top:d.n<=8192
 cap:d.cn<=1000000000000
 KI:∀i,i<d.cn->d.cat i<d.n
def DZ(K:Nat)(A:DA)(b:Nat):Prop:=b=K\/b=A.gl\/b=A.ms\/A.cv.ownBlock=some b
theorem cC.out{w w1:M}{A:DA}(h:cC w n A D)(a:Out S w w1)(c:∀b,DZ n A b->¬S b):cC w1 n A D:=
 ⟨a.heap h.aL (c _ (.inl rfl)),a.heap h.f_ (c _ (.inr (.inl rfl))),a.own h.cache λk d=>c k (.inr (.inr (.inr d))),h.seen.out a (c _ (.inr (.inr (.inl rfl)))),h.pos,h.top,h.cap,h.KI⟩
theorem cC.below{A:DA}(h:cC w n A D)(a:ar w W):cC W n A D:=
 h.out (Out.af (S:=λ_=>False) a) λ_ _ h=>h
def MX(t:Nat):Bool:=t==142||t==217||t==219||t==1000000
theorem cC.ty{A:DA}(h:cC w n A D)(a:DZ n A m):∃o,w.heap[m]?=some o/\MX (ty o)=true:=by
 rcases a with rfl|rfl|rfl|a
 .exact ⟨_,h.aL,rfl⟩
 .exact ⟨_,h.f_,rfl⟩
 .obtain ⟨k,c,b,d,_⟩:=h.seen;exact⟨_,b,by rw[BO d];rfl⟩
 .rcases h.cache.2 with⟨e,_⟩|⟨g,f,i,e,_,j,_⟩
  .rw [e]at a;cases a
  .rw [e]at a;cases a;exact⟨_,j,rfl⟩
theorem cC.lt{A:DA}(h:cC w n A D){b:Nat}(a:DZ n A b):b<w.heap.size:=by obtain⟨o,c,_⟩:=h.ty a;exact Z_ c
theorem cC.ne{A:DA}(h:cC w n A D):n≠A.gl/\n≠A.ms/\A.gl≠A.ms/\∀b,A.cv.ownBlock=some b->b≠n/\b≠A.gl/\b≠A.ms:=by
 obtain⟨k,c,a,_⟩:=h.seen;refine⟨λe=>?_,λe=>?_,λe=>?_,λb d=>?_⟩
 .have:=h.aL;rw[e,h.f_]at this;simp at this
 .have:=h.aL;rw[e,a]at this;simp at this
 .have:=h.f_;rw[e,a]at this;simp at this
 .rcases h.cache.2 with⟨e,_⟩|⟨g,i,j,e,_,f,_⟩
  .rw [e]at d;cases d
  .rw [e]at d;cases d;refine⟨λe=>?_,λe=>?_,λe=>?_⟩
   .have:=h.aL;rw[<-e,f]at this;simp at this
   .have:=h.f_;rw[<-e,f]at this;simp at this
   .rw [<-e,f]at a;simp at a
theorem Cc(K:Nat)(A:DA)(d:Dk)(a:Nat)(w:M)(h:cC w K A d)(c:d.failed=false)(f:a<d.n):aD 146 #[H K,Y a] w λe g=>aK e (aG 0)/\w=g:=by obtain⟨b,f1,k⟩:=cr h.aL;have i:=h.top;rw[c]at b;obtain⟨n,j⟩:=ah d.n;rw[j]at b f i;have d1:decide ((a:Int)<0)=false:=aJ;have d2:decide ((n:Int)<=a)=false:=aQ;go_enter func146,ntmps146;go_wp2;go_ret;exact⟨rfl,rfl⟩
theorem oG(K:Nat)(A:DA)(d:Dk)(a:Int)(w:M)(h:cC w K A d)(b:d.failed=true):aD 146 #[H K,Y a] w λe c=>aK e (aG 2)/\w=c:=by obtain⟨f,f1,g⟩:=cr h.aL;rw[b]at f;go_enter func146,ntmps146;go_wp2;go_ret;exact⟨rfl,rfl⟩
theorem oH(K:Nat)(A:DA)(d:Dk)(w:M)(h:cC w K A d):aD 77 #[H K] w λe a=>aK e (.bool d.failed)/\w=a:=by obtain⟨b,f1,c⟩:=cr h.aL;go_enter func77,ntmps77;go_wp2;go_ret;exact⟨rfl,rfl⟩
theorem wG(K:Nat)(A:DA)(d:Dk)(w:M)(h:cC w K A d):aD 78 #[H K] w λe a=>aK e (Y d.n)/\w=a:=by obtain⟨b,f1,c⟩:=cr h.aL;go_enter func78,ntmps78;go_wp2;go_ret;exact⟨rfl,rfl⟩
theorem Cd:prog.underlying 217=some (.array 128 5):=aE
theorem wH:(prog.info? 217).map (·.size)=some 128:=aE
theorem MY:(prog.info? 217).map (λi=>(i.zero,i.size,i.bytes))=some (some (.agg (cB 128 λ_=>0)),128,128):=aE
theorem wI:prog.underlying 139=some (.map 3 3):=aE
theorem u3:prog.underlying 3=some (.int .i64):=aE
theorem z3(w:M):(zeroValue 3).run prog w=.ok (Y 0) w:=(zero_of_info (v:= Y 0) (n:=1) aE).1 w
theorem tY(L:Nat)(f:aO):(cB L f).all (·.oneCell')=true:=by rw[Array.all_eq_true_iff_forall_mem];intro x a;simp only[cB,List.mem_toArray,SA]at a;obtain⟨k,_,rfl⟩:=a;rfl
theorem Lc:zeroCells217.size=128:=aE
theorem HW(W:M)(f:aO):Sem.run prog (storeCells (R W.heap.size 0) (az 128 f)) (W.alloc (N zeroCells217 217))=.ok () (W.alloc (N (cB 128 f) 217)):=
 run_storeCells_new (P:=prog) W 217 zeroCells217 (cB 128 f) (by rw[gi];exact wH) (by rw[gi];exact Lc) (tY _ _)
theorem I_(W:M)(f g:aO):Sem.run prog (storeCells (R W.heap.size 0) (az 128 f)) (W.alloc (N (cB 128 g) 217))=.ok () (W.alloc (N (cB 128 f) 217)):=
 run_storeCells_new (P:=prog) W 217 (cB 128 g) (cB 128 f) (by rw[gi];exact wH) (by rw[gi,gi]) (tY _ _)
theorem cC.cell{A:DA}(h:cC w n A D)(c:m<D.n):w.rangeAt A.gl (m*128) (az 128 (D.f_ m)):=λj v a=>by
 have b:j<128:=by have:=(RC.1 a).1;rwa[aH]at this
 rw[a' _ _ _ b]at a;rw[RD w A.gl _ _ 217 (0,0) h.f_,VL,Cb _ _ c b];exact a
theorem cC.yr{A:DA}(h:cC w n A D)(f:i<D.cn):∃g b,A.cv= a_ g D.cn b/\w.rangeAt g (129*i+1) (az 128 (D.bQ i))/\w.rangeAt g (129*i) (Y (D.cat i:Nat)::az 128 (D.bQ i)):=by
 obtain⟨a,b,e,l⟩:=av h.cache;rcases l with m|⟨g,rfl⟩
 .omega
 have k:w.rangeAt g (129*i+1) (az 128 (D.bQ i)):=λj v c=>by
  have d:j<128:=by have:=(RC.1 c).1;rwa[aH]at this
  rw[a' _ _ _ d]at c;exact(bx (e▸h.cache) ((wF _ _ _ f d).trans c)).1
 refine⟨g,b,e,k,λj v c=>?_⟩;cases j with
 |zero=>exact(bx (e▸h.cache) ((zE _ _ _ f).trans c)).1
 |succ j=>have:=k j v (by simpa using c);rw[show 129*i+(j+1)=129*i+1+j by omega];exact this
def wJ:QN->Prop
 | .slice _ n c=>n<=c
 |_=>True
theorem kZ(h:w.ownsRow m t 1 v n L):wJ v:=by obtain⟨a,c,rfl,h,-⟩:=eX h;exact h
def PH(f:aO)(w:M)(e:SG)(a:M):Prop:=∃v,aK e (.tuple #[v,aG 0])/\cN a v 128 f/\ar w a/\wJ v
theorem zF(K:Nat)(A:DA)(d:Dk)(a:Int)(w:M)(h:cC w K A d)(c:d.failed=true):aD 260 #[H K,Y a] w λe b=>aK e (.tuple #[aU,aG 2])/\w=b:=by have f:=I (oG K A d a w h c);go_enter func260,ntmps260;go_wp2_with(first|(go_at_call 146;refine f.mono ?_;rintro e b ⟨rfl,rfl⟩));go_ret2;exact⟨rfl,rfl⟩
theorem Ld(K:Nat)(A:DA)(d:Dk)(a:Nat)(w:QL)(h:cC w K A d)(Q:d.failed=false)(s:a<d.n):Calls VW 260 #[.pointer (some ⟨K,0,none⟩),.int .i64 a] w (PH (d.view a) w):=by
 have S:=RI (Cc K A d a w h Q s);have t:=RI h;have m:=fw h.seen 139 3 3 (.int .i64 0) true wI u3 (z3 w) a;rw[mj]at m;obtain⟨u,f1,I⟩:=cr h.aL;have Z:=h.top;have T:=h.cell s;obtain⟨n,U⟩:∃n,d.n=n:=⟨_,rfl⟩;rw[U]at u s Z;clear h Q U;go_enter Tryz.func260,Tryz.ntmps260;have V:∀f,(VW.info? 217).map (·.size)=some (az 128 f).length:=λf=>by rw[aH];exact wH
 have x:=RI V;clear V;have p:SM w.heap.size w (w.alloc (.cells (cB 128 (d.view a)) 217)):=aI (SV _ _) _;have y:=eF w.heap.size 0 128 128 (d.view a) (w.alloc (.cells (cB 128 (d.view a)) 217)) (λk r=>by rw[RQ,(cr (QM w (.cells (cB 128 (d.view a)) 217))).1 k,eu _ _ _ r]) (by omega);have i:=RI y;have j:=RI p;clear p;cases c:dM d.cat d.cn a with
 |none=>
  have q:d.view a=d.f_ a:=by unfold Dk.view;rw[c]
  rw[c]at m;have z:=RI T;have B:=HW w (d.f_ a);rw[q]at i j|-;simp only[VP,Option.getD_none,Option.isSome_none,if_true]at m;have C:∀o,(VJ 139 (Value.map (some A.ms)) (SU QQ ↑a) true).run VW (w.alloc o)=.ok (Value.tuple #[SU QQ 0,Value.bool false]) (w.alloc o):=λo=>by have h:=fw (P:=VW) (t.out.below (aI (SV _ _) o)).seen 139 3 3 (.int .i64 0) true wI u3 (z3 _) a;rw[mj,c]at h;exact h
  clear q;go_wp2_with(first|(go_at_call 146;refine S.out.mono ?_;rintro e D ⟨rfl,rfl⟩)|(go_at_call 199;refine i.out.mono ?_;rintro e D ⟨v,rfl,b,E⟩;obtain⟨H,M,rfl,-⟩:=av b)|(with_reducible refine wpList_load_mid rfl 217 (.tmp 21) rfl A.gl (a*128) rfl (az 128 (d.f_ a)) _ z.out Cd rfl (x.out _) ?_));go_ret2;exact⟨_,rfl,fY b,via j.out E,kZ b⟩
 |some k=>
  have q:d.view a=d.bQ k:=by unfold Dk.view;rw[c]
  obtain⟨r,-⟩:=hD c;obtain⟨g,R,F,G,-⟩:=t.out.yr r;have l:(w.alloc (.cells (cB 128 (d.f_ a)) 217)).rangeAt g (k*129+1) (az 128 (d.bQ k)):=by rw[VL];exact World.rangeAt_alloc G _
  rw[c]at m;have z:=RI T;have L:=RI l;have B:=HW w (d.f_ a);have W:=I_ w (d.bQ k) (d.f_ a);rw[F]at u;rw[q]at i j|-;simp only[RJ,TQ,Option.isSome_some,if_true]at m;have C:∀o,(VJ 139 (Value.map (some A.ms)) (SU QQ ↑a) true).run VW (w.alloc o)=.ok (Value.tuple #[SU QQ (k:Nat),Value.bool true]) (w.alloc o):=λo=>by have h:=fw (P:=VW) (t.out.below (aI (SV _ _) o)).seen 139 3 3 (.int .i64 0) true wI u3 (z3 _) a;rw[mj,c]at h;exact h
  have O:((k:Nat):Int)<(d.cn:Int):=by omega
  clear q l;obtain⟨N,X⟩:∃N,d.cn=N:=⟨_,rfl⟩;rw[X]at u r O;clear X;go_wp2_with(first|(go_at_call 146;refine S.out.mono ?_;rintro e D ⟨rfl,rfl⟩)|(go_at_call 199;refine i.out.mono ?_;rintro e D ⟨v,rfl,b,E⟩;obtain⟨H,M,rfl,-⟩:=av b)|(with_reducible refine wpList_load_mid rfl 217 (.tmp 21) rfl A.gl (a*128) rfl (az 128 (d.f_ a)) _ z.out Cd rfl (x.out _) ?_)|(with_reducible refine wpList_load_mid rfl 217 (.tmp 39) rfl g (k*129+1) rfl (az 128 (d.bQ k)) _ L.out Cd rfl (x.out _) ?_));go_ret2;exact⟨_,rfl,fY b,via j.out E,kZ b⟩
def Ce(x:QN):Sem Next:=do pure (.value (<-Instr.loadAt 217 x))
def Cf(x y:QN):Sem Next:=do
 Instr.storeAt 217 x y
 pure .skip
def ys(x y:QN):Sem Next:=do pure (.value (<-Instr.build 219 #[(0,x),(1,y)]))
def yt(x:QN):Sem Next:=do pure (.value (<-Instr.buildSlice 140 1 #[(0,x)]))
def Cg(x:QN):Sem Next:=do pure (.value (<-Instr.loadAt 219 x))
def Ch(x y:QN):Sem Next:=do
 Instr.storeAt 219 x y
 pure .skip
theorem tZ(ρ:Operand->QN)(d:Option Tmp)(x:Operand)(t:TI)(p:String)(a:Array Edge)(g:Option (Tmp × Bool)):execOp ρ ⟨d,.load 217 x,t,p,a,g⟩=Ce (ρ x):=rfl
theorem t_(ρ:Operand->QN)(d:Option Tmp)(x y:Operand)(t:TI)(p:String)(a:Array Edge)(g:Option (Tmp × Bool)):execOp ρ ⟨d,.store 217 x y,t,p,a,g⟩=Cf (ρ x) (ρ y):=rfl
theorem t'(ρ:Operand->QN)(d:Option Tmp)(x y:Operand)(t:TI)(p:String)(a:Array Edge)(g:Option (Tmp × Bool)):execOp ρ ⟨d,.build 219 #[(0,x),(1,y)],t,p,a,g⟩=ys (ρ x) (ρ y):=by simp[execOp,ys]
theorem ua(ρ:Operand->QN)(d:Option Tmp)(x:Operand)(t:TI)(p:String)(a:Array Edge)(g:Option (Tmp × Bool)):execOp ρ ⟨d,.buildSlice 140 1 #[(0,x)],t,p,a,g⟩=yt (ρ x):=by simp[execOp,yt]
theorem ub(ρ:Operand->QN)(d:Option Tmp)(x:Operand)(t:TI)(p:String)(a:Array Edge)(g:Option (Tmp × Bool)):execOp ρ ⟨d,.load 219 x,t,p,a,g⟩=Cg (ρ x):=rfl
theorem uc(ρ:Operand->QN)(d:Option Tmp)(x y:Operand)(t:TI)(p:String)(a:Array Edge)(g:Option (Tmp × Bool)):execOp ρ ⟨d,.store 219 x y,t,p,a,g⟩=Ch (ρ x) (ρ y):=rfl
theorem Le:(prog.underlying 219).map (·.isRow)=some true:=aE
theorem Lf:(prog.info? 219).map (·.size)=some 129:=aE
theorem MZ:(prog.info? 219).map (λi=>(i.zero,i.size,i.bytes))=some (some (.agg (Y 0::az 128 λ_=>0).toArray),129,136):=aE
theorem ml(w:M)(b o:Nat)(f:aO)(h:w.rangeAt b o (az 128 f)):Sem.run prog (Ce (.pointer (some (R b o)))) w=.ok (.value (.agg (az 128 f).toArray)) w:=by simp only[Ce,SJ,run_loadAt_mid (P:=prog) w b o 217 (az 128 f) _ h Cd rfl (by rw[aH];exact wH),RR,VK]
theorem Ci(a:Int)(f:aO):prog.built 219 [(0,Y a),(1,.agg (az 128 f).toArray)] =some (Y a::az 128 f).toArray:=aE
theorem zG(a:Int)(f:aO):prog.builtSlice 219 1 [(0,.agg (Y a::az 128 f).toArray)] =some (Y a::az 128 f).toArray:=aE
theorem zH(w:M)(a:Int)(f:aO):Sem.run prog (ys (Y a) (.agg (az 128 f).toArray)) w=.ok (.value (.agg (Y a::az 128 f).toArray)) w:=by simp only[ys,SJ,run_build (P:=prog) w 219 #[(0,Y a),(1,.agg (az 128 f).toArray)] _ (Ci a f),RR,VK]
theorem zI(w:M)(a:Int)(f:aO):Sem.run prog (yt (.agg (Y a::az 128 f).toArray)) w=.ok (.value (a_ w.heap.size 1 1)) (w.alloc (N (Y a::az 128 f).toArray 219)):=by
 have b:=zG a f;unfold Program.builtSlice at b;cases c:prog.info? 219 with
 |none=>simp[c]at b
 |some d=>
  simp only[c]at b;cases g:d.zero with
  |none=>simp[g]at b
  |some z=>
   simp only[g]at b;by_cases e:1*d.size>2^24\/1*d.size=0
   .rw [ak e]at b;cases b
   .rw [al e]at b;simp only[yt,SJ,run_buildSlice (P:=prog) w 140 219 1 #[(0,.agg (Y a::az 128 f).toArray)] _ d z underlying140 c g (λh=>e (Or.inl h)) (λh=>e (Or.inr h)) b,RR,VK]
section
attribute [local go_sem ↓] tZ t_ t' ua ub uc
def Dk.wr(d:Dk)(a:Nat)(f:aO):Dk:={d with cn:=d.cn+1,cat:=λi=>if i=d.cn then a else d.cat i,bQ:=λi=>if i=d.cn then f else d.bQ i}
theorem zJ(K:Nat)(A:DA)(d:Dk)(a:Int)(v:QN)(w:M)(h:cC w K A d)(c:d.failed=true):aD 82 #[H K,Y a,v] w λe b=>aK e (aG 2)/\w=b:=by have f:=I (oG K A d a w h c);go_enter func82,ntmps82;go_wp2_with(first|(go_at_call 146;refine f.mono ?_;rintro e b ⟨rfl,rfl⟩));go_ret;exact⟨rfl,rfl⟩
def k_(K:Nat)(A:DA)(d:Dk)(w a:M):Prop:=
 ∃c,cC a K c d/\Out (DZ K A) w a/\∀b,DZ K c b->DZ K A b\/w.heap.size<=b
theorem I'(b o c:Nat)(W:M):Sem.run prog (Instr.arrayAt 217 (.slice (some (R b o)) 128 c)) W=.ok (.pointer (some (R b o))) W:=by simp[Instr.arrayAt,TH Cd]
theorem i'{cat b:aO}:∀{n a:Nat},(∀i,i<n->cat i=b i)->dM cat n a=dM b n a
 |0,_,_=>rfl
 |n+1,a,h=>by unfold dM;rw[h n J,i' λi c=>h i J]
theorem FI(d:Dk)(a:Nat)(f:aO)(b:Int):(if b=(a:Int)then some (Y d.cn)else iy d.cat d.cn b)=iy (d.wr a f).cat (d.wr a f).cn b:=by
 unfold iy;simp only[Dk.wr,dM,if_true];have e:dM (λi=>if i=d.cn then a else d.cat i) d.cn b.toNat=dM d.cat d.cn b.toNat:=i' λi h=>al J;rw[e];by_cases g:b=(a:Int)
 .subst g;rw[ak rfl,ak J,ak aJ];rfl
 .rw [al g];by_cases c:0<=b
  .rw [ak c,ak c,al J]
  .rw [al c,al c]
theorem cC.wrote{w t w2 c:M}{A:DA}(h:cC w n A D)(K:D.cn<1000000000000)(y:m<D.n)(z:Out (λk=>k=A.ms) w t)(B:IM t A.ms λb=>if b=(m:Int)then some (Y D.cn)else iy D.cat D.cn b)(o:ar t w2)(d:c.ownsRow 0 219 129 v (D.cn+1) (fm D.cn D.cat D.bQ++Y m::az 128 f))(s:nI w2.heap.size w2 A.cv D.cn 1 v c):k_ n A (D.wr m f) w (c.setCell (R n 1) v):=by
 have a:=h.ne;have L:n<w.heap.size:=h.lt (.inl rfl);have g:Out (λk=>k=A.ms) w w2:=z.then o;have j:Out (λk=>k=A.ms\/A.cv.ownBlock=some k) w c:=s.out (g.mono λk _ e=>.inl e) λk q _=>.inr q;have C:Out (DZ n A) w (c.setCell (R n 1) v):=(j.mono λk _ e=>e.elim (λe=>.inr (.inr (.inl e))) λe=>.inr (.inr (.inr e))).setCell (p:=R n 1) (λ_=>.inl rfl) _;have u:=j.heap h.aL λe=>e.elim a.2.1 λe=>(a.2.2.2 n e).1 rfl;have x:IM c A.ms λb=>if b=(m:Int)then some (Y D.cn)else iy D.cat D.cn b:=
  (B.out (Out.af (S:=λ_=>False) o) id).out (s.out (S:=λk=>A.cv.ownBlock=some k) (Out.refl _ _) λk q _=>q) λe=>(a.2.2.2 _ e).2.2 rfl
 have E:∀k,v.ownBlock=some k->k≠n:=λk q e=>by
  subst e;rcases s.block q with r|r
  .exact (a.2.2.2 _ r).1 rfl
  .have:=g.size;omega
 refine⟨⟨A.gl,A.lc,v,A.ms⟩,⟨?_,?_,?_,?_,h.pos,h.top,?_,?_⟩,C,?_⟩
 .have:=heap_setCell_same c n 1 _ 142 v u;exact this
 .exact (RZ _ _ _ _ λe=>a.1 e.symm).trans (j.heap h.f_ λe=>e.elim a.2.2.1 λe=>(a.2.2.2 _ e).2.1 rfl)
 .show World.ownsRow _ 0 219 129 v (D.cn+1) _;rw[tX]at d;exact YB d (λe=>E _ e rfl) _
 .refine (x.out (S:=λk=>k=n) ((Out.refl (λk=>k=n) c).setCell (p:=R n 1) (λ_=>rfl) _) λe=>a.2.1 e.symm).congr λb=>FI D m f b
 .show D.cn+1<=_;omega
 .intro i F;have G:i<D.cn+1:=F;show(if i=D.cn then m else D.cat i)<D.n;split
  .exact y
  .exact h.KI i J
 .rintro b (l|l|l|l)
  .exact .inl (.inl l)
  .exact .inl (.inr (.inl l))
  .exact .inl (.inr (.inr (.inl l)))
  .rcases s.block l with r|r
   .exact .inl (.inr (.inr (.inr r)))
   .exact .inr (by have:=g.size;omega)
theorem Lg(K:Nat)(A:DA)(d:Dk)(a:Nat)(v:QN)(f:aO)(w:QL)(h:cC w K A d)(a2:d.failed=false)(Y:a<d.n)(a3:lX w v 128 f)(a4:d.cn<1000000000000):aD 82 #[aq K,ae a,v] w λe B=>aK e (aG 0)/\k_ K A (d.wr a f) w B:=by
 have a5:=ad (Cc K A d a w h a2 Y);have s:=ad h;obtain⟨J,a0,g,-⟩:=av h.cache;obtain⟨N,a1⟩:=ah d.cn;obtain⟨w1,hu,C,D⟩:=j_ (P:=prog) (h.seen.out (w1:=w.drew) (S:=λ_=>False) (Out.refl _ _).drew id) 139 3 3 wI u3 a (ae N);obtain⟨k1,f1,z1⟩:=cr h.aL;obtain⟨a6,a7,rfl,E⟩:=a3;obtain⟨b,o,rfl,n⟩:∃b o,a6=some (ag b o)/\∀k,k<128->w.cell? ⟨b,o+k,none⟩=some (.int .u8 (f k)):=by
  rcases E with h|h
  .omega
  .exact h
 have a8:N<=1000000000000:=aa;rw[g,a1]at k1;have p:=ad a1;have F:=ad g;have G:Out (λk=>k=A.ms) w w1:=by obtain⟨b9,_,rfl⟩:=D;exact Out.wq (S:=λk=>k=A.ms) (Out.refl _ _).drew (λ_=>rfl) _
 have m:=ad G;have L:=ad C;go_enter func82,ntmps82;go_wp2_with(first|(go_at_call 146;refine a5.mono ?_;rintro e B ⟨rfl,rfl⟩));go_region;have O:b≠A.ms:=λe=>by obtain⟨c0,c,a9,_⟩:=s.seen;have:=n 0 aa;rw[e]at this;simp[World.cell?,a9]at this
 have Q:w1.rangeAt b o (az 128 f):=λj x T=>by
  have y:j<128:=by have:=(RC.1 T).1;rwa[aH]at this
  rw[a' _ _ _ y]at T;rw[QZ (m.block b (QY w _ (n 0 aa)) O),n j y];exact T
 have q:=s.ne;have r:=m.heap s.aL (λe=>q.2.1 e);rw[g,p.out]at r;have z:=m.own s.cache (λk b0 e=>(q.2.2.2 k b0).2.2 e);rw[g,p.out]at z;obtain⟨i1,U,V,X,Z⟩:=SN MZ;have c1:(prog.info? 217).map (·.size)=some (az 128 f).length:=by rw[aH];exact wH
 have H:=ad Q;have M:=ad z;have R:=ad r;have I:RH ((SF J N a0).ownBlock≠some K):=λe=>(q.2.2.2 K (by rw[g,p.out];exact e)).1 rfl;obtain⟨k1,f1,z1⟩:=cr r;have b1:=I' b o a7;go_wp2_with fail;have b2:=ml w1.drew b o f ((World.rangeAt_drew _ _ _ _).2 H);have b3:=λW=>zH W a f;have b4:=λW=>zI W a f
 go_region_law (first|(refine db _ rfl (.tmp 31) (.tmp 37) 140 rfl 0 219 i1 (.agg (ae 0::az 128 λ_=>0).toArray) 129 136 underlying140 U V X Z (by simp[Value.cells,aH]) ai (.slice J N a0) N (fm N d.cat d.bQ) (by simp[WH]) (M.alloc _) (ag w1.heap.size 0) 1 1 (ae a::az 128 f) (by simp[WH]) (by simp[aH]) (SI (cs:=(ae a::az 128 f).toArray) (t:=219) (fr:=(0,0)) (QM w1.drew _)) (by intro u hu;rcases UR.1 hu with rfl|hu;rfl;exact df _ _ u hu) aa (by unfold UT;omega) aa (QX _) ?_;intro c2 B i l;obtain⟨b5,b6,rfl,-⟩:=av i;obtain⟨c3,c4,c5⟩:=cr (l.heap ((RG _ _ _ z1).trans R) I)))
 all_goals(
  have b7:=ad i;have b8:=ad l;clear i l)
 all_goals go_wp2
 all_goals go_ret
 all_goals(
  refine⟨rfl,s.wrote a4 Y m (by have:=L.out;rw[<-p.out]at this;exact this) (w2:=w1.alloc (ao (ae a::az 128 f).toArray 219)|>.drew) (aV (aI aj _)) (by rw[p.out];exact b7) (by rw[p.out,F.out,p.out];exact b8)⟩)
end
section
attribute [local go_sem ↓] tZ t_ t' ua ub uc
def bH(d:dj)(cat:aO)(b:dj)(c:Nat->Bool):Nat->Nat->Nat->Nat
 |0=>d
 |n+1=>if c n thenλa=>if a=cat n then b n else bH d cat b c n a else bH d cat b c n
def Dk.settled(d:Dk)(a:Nat->Bool):Dk:={d with f_:=bH d.f_ d.cat d.bQ a d.cn,cn:=0}
theorem Dk.hY(d:Dk)(a:Nat):(d.settled λ_=>true).view a=d.view a:=by
 show bH d.f_ d.cat d.bQ (λ_=>true) d.cn a=d.view a;unfold Dk.view;induction d.cn with
 |zero=>rfl
 |succ n b=>
  simp only[bH,dM,if_true];by_cases h:d.cat n=a
  .rw [ak h,ak h.symm]
  .rw [al h,al λe=>h e.symm,b]
theorem Cj(n:Nat)(b:dj)(c:Nat)(f:aO)(h:c<n):((ew n b).toList.take (c*128)++az 128 f++(ew n b).toList.drop (c*128+(az 128 f).length)).toArray=ew n (λa=>if a=c then f else b a):=by
 rw[aH];apply Array.ext';apply TZ;intro j;simp only[TK];by_cases d:j<c*128
 .rw [RN (by simp[ew];omega),TT,ak d];simp only[ew,RU,SP (show j<128*n by omega),RJ];rw[al J]
 .rw [RK (by simp[ew];omega)];have e:((ew n b).toList.take (c*128)).length=c*128:=by simp[ew];omega
  rw[e];by_cases i:j<c*128+128
  .rw [RN (by rw[aH];omega),a' _ _ _ J];simp only[ew,RU,SP (show j<128*n by omega),RJ];rw[ak J,show j%128=j-c*128 by omega]
  .rw [RK (by rw[aH];omega),aH,List.getElem?_drop,show c*128+128+(j-c*128-128)=j by omega];by_cases g:j<128*n
   .simp only[ew,RU,SP g,RJ];rw[al J]
   .rw [RO (by simp[ew];omega),RO (by simp[ew];omega)]
theorem oI(w:M)(b n c:Nat)(d:dj)(f:aO)(h:aZ w b (N (ew n d) 217))(k:c<n):
  Sem.run prog (Cf (.pointer (some ⟨b,c*128,none⟩)) (.agg (az 128 f).toArray)) w=.ok .skip (w.setRow b (ew n λa=>if a=c then f else d a)):=by
 have j:=run_storeCells_at prog b (c*128) 217 (az 128 f) 0 (ew n d) w h (by rw[aH,zD];omega) (df _ _);rw[VU,Cj n d c f k]at j;cases e:prog.info? 217 with
 |none=>have:=wH;rw[e]at this;cases this
 |some i=>
  have l:i.size=128:=by have:=wH;rw[e]at this;simpa using this
  have g:(storeVar 217 ⟨b,c*128,none⟩ (.agg (az 128 f).toArray)).run prog w=.ok () (w.setRow b (ew n λa=>if a=c then f else d a)):=by simp[storeVar,sizeOf,typeInfo,e,Value.cells,l,aH,j]
  simp only[Cf,Instr.storeAt,Instr.sureAddr,SJ,VK,RR,g]
theorem mm(w:M)(b o:Nat)(a:Int)(f:aO)(h:w.rangeAt b o (Y a::az 128 f)):Sem.run prog (Cg (.pointer (some (R b o)))) w=.ok (.value (.agg (Y a::az 128 f).toArray)) w:=by
 cases c:prog.underlying 219 with
 |none=>have:=Le;rw[c]at this;cases this
 |some d=>
  have e:d.isRow=true:=by have:=Le;rw[c]at this;simpa using this
  simp only[Cg,SJ,run_loadAt_mid (P:=prog) w b o 219 (Y a::az 128 f) d h c e (by rw[SQ,aH];exact Lf),RR,VK]
theorem Lh(a:Int)(f:aO):(Y a::az 128 f).toArray.size=129:=by simp[aH]
theorem Li:zeroCells219.size=129:=aE
theorem mn(W:M)(a:Int)(f:aO):Sem.run prog (Ch (H W.heap.size) (.agg (Y a::az 128 f).toArray)) (W.alloc (N zeroCells219 219))=.ok .skip (W.alloc (N (Y a::az 128 f).toArray 219)):=by
 have b:(Y a::az 128 f).toArray.all (·.oneCell')=true:=all_oneCell_toArray λu hu=>by
  rcases UR.1 hu with rfl|hu
  .rfl
  .exact df _ _ u hu
 have:=run_storeAt_new (P:=prog) W 219 zeroCells219 (Y a::az 128 f).toArray (by rw[WJ,SQ,aH];exact Lf) (by rw[Lh];exact Li) b;simp only[Ch,SJ,this,RR,VK]
structure qk(S:Nat->Prop)(n:Nat)(gl:Nat)(f_:dj)(w wr:M):Prop where
 row:wr.heap[gl]? =some (N (ew n f_) 217)
 out:Out (fun k=>k=gl) w wr
theorem zK(i:Int)(w:M):aD 162 #[Y i] w λe a=>aK e dU/\w=a:=by go_enter func162,ntmps162;go_wp2;go_ret;exact⟨rfl,rfl⟩
theorem wK(i:Int)(w:M):aD 180 #[Y i] w λe a=>aK e iD/\w=a:=by go_enter func180,ntmps180;go_wp2;go_ret;exact⟨rfl,rfl⟩
theorem ud(K:Nat)(A:DA)(d:Dk)(w:QL)(h:cC w K A d):aD 161 #[aq K,.func (.func 162) #[] #[]] w λe b0=>aK e (.tuple #[])/\k_ K A (d.settled (λ_=>true)) w b0:=by
 have q:=ad h;have U:=h.ne;obtain⟨b4,b5,m,-⟩:=av h.cache;obtain⟨N,V⟩:=ah d.cn;have y:=h.cap;rw[V]at y;have T:=ad V;have r:=ad m;obtain⟨k1,f1,z1⟩:=cr h.aL;rw[m,V]at k1;have f:=ad U;have H0:RH (qk (λ_=>False) d.n A.gl (bH d.f_ d.cat d.bQ (λ_=>true) 0) w w):=⟨h.f_,Out.refl _ _⟩;go_enter func161,ntmps161;go_wp2;go_loopw [11] (λi wr=>∃k:Nat,i= ae k/\k<=N/\RH (qk (λ_=>False) d.n A.gl (bH d.f_ d.cat d.bQ (λ_=>true) k) w wr)) (λi _=>N-(intOf i).toNat)
 case atStart=>exact⟨0,rfl,QX _,H0⟩
 case round=>
  obtain⟨k,rfl,c2,n⟩:=hrel;by_cases z:k<N
  .have B:k<d.cn:=by rw[T.out];exact z
   obtain⟨g,X,m,-,Z⟩:=q.yr B;have D:=q.KI k B;have E:g≠A.gl:=λe=>(f.2.2.2 g (by rw[m];rfl)).2.1 e;have F:=r.out;rw[m]at F;obtain⟨rfl,rfl⟩:some (ag g 0)=b4/\X=b5:=by simpa using F
   have H:wr.rangeAt g (k*129) (ae (d.cat k:Nat)::az 128 (d.bQ k)):=λj v M=>by have:=Z j v M;rw[VL,<-this];exact QZ (n.out.out.block g (QY w _ this) E)
   have R:=mm wr g (k*129) _ _ H;have I:=λW=>mn W (d.cat k:Nat) (d.bQ k);have l:=n.out.out.heap q.aL (λe=>f.1 e);rw[r.out,T.out]at l;obtain⟨k2,f2,Y⟩:=cr l;have b6:(k:Int)<(N:Int):=aa;have J:(0:Int)<=(d.cat k:Int):=aa;have a0:(d.cat k:Int)<(d.n:Int):=aa;obtain⟨C,b1⟩:=ah (d.cat k);have b7:=ad b1;rw[b1]at R I D J a0;go_wp2_with fail;refine(zK _ _).mono ?_;rintro e b0 ⟨rfl,rfl⟩;have a1:=QM wr (ao (ae C::az 128 (d.bQ k)).toArray 219);have c:=(RG wr (ao (ae C::az 128 (d.bQ k)).toArray 219) A.gl (Z_ n.row)).trans n.row;have s:=n.out.out.alloc (ao (ae C::az 128 (d.bQ k)).toArray 219);have t:=(RG wr (ao (ae C::az 128 (d.bQ k)).toArray 219) K Y).trans l;have b8:wr.heap.size≠A.gl:=by have:=Z_ n.row;omega
   revert a1 c s t;generalize wr.alloc (ao (ae C::az 128 (d.bQ k)).toArray 219)=x;intro a1 c s t;obtain⟨x1,x2,x3⟩:=cr a1;obtain⟨k2,f2,Y⟩:=cr t;have a2:x.drew.rangeAt wr.heap.size 1 (az 128 (d.bQ k)):=λj v M=>by show x.cell? ⟨wr.heap.size,1+j,none⟩=_;rw[x1 (1+j),<-M,ZK];simp
   have b2:=ml x.drew wr.heap.size 1 (d.bQ k) a2;have b3:=oI x.drew A.gl d.n C (bH d.f_ d.cat d.bQ (λ_=>true) k) (d.bQ k) c D;have a3:=ad c;have a4:=ad s;go_wp2_with fail;go_region;have a5:RH (qk (λ_=>False) d.n A.gl (bH d.f_ d.cat d.bQ (λ_=>true) (k+1)) w (x.drew.setRow A.gl (ew d.n λa=>if a=C then d.bQ k else bH d.f_ d.cat d.bQ (λ_=>true) k a))):=by refine⟨?_,Out.setRow (S:=λb=>b=A.gl) a4.drew (λ_=>rfl) _⟩;have:=setRow_heap x.drew A.gl _ (ew d.n λa=>if a=C then d.bQ k else bH d.f_ d.cat d.bQ (λ_=>true) k a) 217 (0,0) a3;rw[this];simp only[bH,b7.out,if_true]
   go_wp2;go_roundw
   case rel=>exact⟨k+1,by go_num,z,a5⟩
   case measure=>simp[intOf];omega
  .obtain rfl:k=N:=aa;have G:Out (λb=>b=A.gl) w wr:=n.out.out;have l:=G.heap q.aL (λe=>f.1 e);rw[r.out,T.out]at l;obtain⟨k2,f2,Y⟩:=cr l;have a6:=heap_setCell_same wr K 1 _ 142 aU l;have L:Out (λb=>b=A.gl\/b=K) w (wr.setCell (ag K 1) aU):=(G.mono λ_ _ e=>.inl e).setCell (p:=ag K 1) (λ_=>.inr rfl) _;obtain⟨w2,b9,a7,a8,_,rfl⟩:=hS (P:=prog) (q.seen.out L λe=>e.elim (λe=>f.2.2.1 e.symm) λe=>f.2.1 e.symm) 139 0 3 3 wI;have O:=(RZ wr (ag K 1) aU A.gl λe=>f.1 e.symm).trans n.row;have Q:k_ K A (d.settled (λ_=>true)) w ((wr.setCell (ag K 1) aU).putObj A.ms a8):=by
    have a9:Out (DZ K A) w ((wr.setCell (ag K 1) aU).putObj A.ms a8):=(L.mono λ_ _ e=>e.elim (λe=>.inr (.inl e)) λe=>.inl e).wq (λ_=>.inr (.inr (.inl rfl))) _;refine⟨⟨A.gl,A.lc,aU,A.ms⟩,⟨?_,?_,SS _ _ _ _,a7.congr λb=>?_,q.pos,q.top,QX _,λi c0=>absurd c0 (SD _)⟩,a9,?_⟩
    .exact (TU f.2.1).trans a6
    .have:=(TU (w:=wr.setCell (ag K 1) aU) (o:=a8) f.2.2.1).trans O;rw[<-T.out]at this;exact this
    .simp [iy,Dk.settled,dM]
    .rintro b (u|u|u|u)
     .exact .inl (.inl u)
     .exact .inl (.inr (.inl u))
     .exact .inl (.inr (.inr (.inl u)))
     .cases u
   have c1:=ad Q;go_wp2;go_end0;exact⟨rfl,c1⟩
theorem ss(K:Nat)(A:DA)(d:Dk)(w:QL)(h:cC w K A d):aD 161 #[aq K,.func (.func 180) #[] #[]] w λe a4=>aK e (.tuple #[])/\k_ K A (d.settled (λ_=>false)) w a4:=by
 have n:=ad h;have O:=h.ne;obtain⟨a6,a7,l,-⟩:=av h.cache;obtain⟨N,Q⟩:=ah d.cn;have u:=h.cap;rw[Q]at u;have L:=ad Q;have q:=ad l;obtain⟨k1,f1,z1⟩:=cr h.aL;rw[l,Q]at k1;have b4:A.gl<w.heap.size:=h.lt (.inr (.inl rfl));have a:=ad O;have H0:RH (qk (λ_=>False) d.n A.gl (bH d.f_ d.cat d.bQ (λ_=>false) 0) w w):=⟨h.f_,Out.refl _ _⟩;go_enter func161,ntmps161;go_wp2;go_loopw [11] (λi wr=>∃k:Nat,i= ae k/\k<=N/\RH (qk (λ_=>False) d.n A.gl (bH d.f_ d.cat d.bQ (λ_=>false) k) w wr)) (λi _=>N-(intOf i).toNat)
 case atStart=>exact⟨0,rfl,QX _,H0⟩
 case round=>
  obtain⟨k,rfl,b5,m⟩:=hrel;by_cases x:k<N
  .have y:k<d.cn:=by rw[L.out];exact x
   obtain⟨g,S,l,-,T⟩:=n.yr y;have U:=n.KI k y;have z:g≠A.gl:=λe=>(a.2.2.2 g (by rw[l];rfl)).2.1 e;have B:=q.out;rw[l]at B;obtain⟨rfl,rfl⟩:some (ag g 0)=a6/\S=a7:=by simpa using B
   have V:wr.rangeAt g (k*129) (ae (d.cat k:Nat)::az 128 (d.bQ k)):=λj v a8=>by have:=T j v a8;rw[VL,<-this];exact QZ (m.out.out.block g (QY w _ this) z)
   have X:=mm wr g (k*129) _ _ V;have Z:=λW=>mn W (d.cat k:Nat) (d.bQ k);have c:=m.out.out.heap n.aL (λe=>a.1 e);rw[q.out,L.out]at c;obtain⟨k2,f2,H⟩:=cr c;have a9:(k:Int)<(N:Int):=aa;have M:(0:Int)<=(d.cat k:Int):=aa;have R:(d.cat k:Int)<(d.n:Int):=aa;obtain⟨C,a5⟩:=ah (d.cat k);have b6:=ad a5;rw[a5]at X Z U M R;go_wp2_with fail;refine(wK _ _).mono ?_;rintro e a4 ⟨rfl,rfl⟩;have I:=QM wr (ao (ae C::az 128 (d.bQ k)).toArray 219);have f:=(RG wr (ao (ae C::az 128 (d.bQ k)).toArray 219) A.gl (Z_ m.row)).trans m.row;have r:=m.out.out.alloc (ao (ae C::az 128 (d.bQ k)).toArray 219);have s:=(RG wr (ao (ae C::az 128 (d.bQ k)).toArray 219) K H).trans c;have b0:wr.heap.size≠A.gl:=by have:=Z_ m.row;omega
   revert I f r s;generalize wr.alloc (ao (ae C::az 128 (d.bQ k)).toArray 219)=W2;intro I f r s;obtain⟨x1,x2,x3⟩:=cr I;obtain⟨k2,f2,H⟩:=cr s;have Y:=ad r;have J:RH (qk (λ_=>False) d.n A.gl (bH d.f_ d.cat d.bQ (λ_=>false) (k+1)) w W2):=by refine⟨?_,Y⟩;rw[f];simp only[bH,SX,if_false]
   go_wp2;go_roundw
   case rel=>exact⟨k+1,by go_num,x,J⟩
   case measure=>simp[intOf];omega
  .obtain rfl:k=N:=aa;have D:Out (λb=>b=A.gl) w wr:=m.out.out;have c:=D.heap n.aL (λe=>a.1 e);rw[q.out,L.out]at c;obtain⟨k2,f2,H⟩:=cr c;have a0:=heap_setCell_same wr K 1 _ 142 aU c;have E:Out (λb=>b=A.gl\/b=K) w (wr.setCell (ag K 1) aU):=(D.mono λ_ _ e=>.inl e).setCell (p:=ag K 1) (λ_=>.inr rfl) _;obtain⟨w2,b1,a1,a2,_,rfl⟩:=hS (P:=prog) (n.seen.out E λe=>e.elim (λe=>a.2.2.1 e.symm) λe=>a.2.1 e.symm) 139 0 3 3 wI;have F:=(RZ wr (ag K 1) aU A.gl λe=>a.1 e.symm).trans m.row;have G:k_ K A (d.settled (λ_=>false)) w ((wr.setCell (ag K 1) aU).putObj A.ms a2):=by
    have a3:Out (DZ K A) w ((wr.setCell (ag K 1) aU).putObj A.ms a2):=(E.mono λ_ _ e=>e.elim (λe=>.inr (.inl e)) λe=>.inl e).wq (λ_=>.inr (.inr (.inl rfl))) _;refine⟨⟨A.gl,A.lc,aU,A.ms⟩,⟨?_,?_,SS _ _ _ _,a1.congr λb=>?_,n.pos,n.top,QX _,λi b2=>absurd b2 (SD _)⟩,a3,?_⟩
    .exact (TU a.2.1).trans a0
    .have:=(TU (w:=wr.setCell (ag K 1) aU) (o:=a2) a.2.2.1).trans F;rw[<-L.out]at this;exact this
    .simp [iy,Dk.settled,dM]
    .rintro b (t|t|t|t)
     .exact .inl (.inl t)
     .exact .inl (.inr (.inl t))
     .exact .inl (.inr (.inr (.inl t)))
     .cases t
   have b3:=ad G;go_wp2;go_end0;exact⟨rfl,b3⟩
theorem ue(K:Nat)(A:DA)(d:Dk)(B:Nat)(kp:Nat->Bool)(w:QL)(h:cC w K A d)(b2:∀(i:Nat) W,i<d.cn->Out (λk=>k=A.gl) w W->aD 184 #[ae i,aq B] W λe w2=>aK e (.bool (kp i))/\W=w2):aD 161 #[aq K,.func (.func 184) #[] #[aq B]] w λe b3=>aK e (.tuple #[])/\k_ K A (d.settled kp) w b3:=by
 have s:=ad h;have M:=h.ne;obtain⟨b7,b8,m,-⟩:=av h.cache;obtain⟨N,R⟩:=ah d.cn;have F:=h.cap;rw[R]at F;have G:=ad R;have t:=ad m;obtain⟨k1,f1,z1⟩:=cr h.aL;rw[m,R]at k1;have f:=ad M;have H0:RH (qk (λ_=>False) d.n A.gl (bH d.f_ d.cat d.bQ kp 0) w w):=⟨h.f_,Out.refl _ _⟩;have b9:=ad b2;go_enter func161,ntmps161;go_wp2;go_loopw [11] (λi wr=>∃k:Nat,i= ae k/\k<=N/\RH (qk (λ_=>False) d.n A.gl (bH d.f_ d.cat d.bQ kp k) w wr)) (λi _=>N-(intOf i).toNat)
 case atStart=>exact⟨0,rfl,QX _,H0⟩
 case round=>
  obtain⟨k,rfl,b2,n⟩:=hrel;by_cases q:k<N
  .have L:k<d.cn:=by rw[G.out];exact q
   obtain⟨g,I,m,-,Y⟩:=s.yr L;have O:=s.KI k L;have Q:g≠A.gl:=λe=>(f.2.2.2 g (by rw[m];rfl)).2.1 e;have T:=t.out;rw[m]at T;obtain⟨rfl,rfl⟩:some (ag g 0)=b7/\I=b8:=by simpa using T
   have J:wr.rangeAt g (k*129) (ae (d.cat k:Nat)::az 128 (d.bQ k)):=λj v a0=>by have:=Y j v a0;rw[VL,<-this];exact QZ (n.out.out.block g (QY w _ this) Q)
   have a1:=mm wr g (k*129) _ _ J;have a2:=λW=>mn W (d.cat k:Nat) (d.bQ k);have l:=n.out.out.heap s.aL (λe=>f.1 e);rw[t.out,G.out]at l;obtain⟨k2,f2,z2⟩:=cr l;have c0:(k:Int)<(N:Int):=aa;have a3:(0:Int)<=(d.cat k:Int):=aa;have a4:(d.cat k:Int)<(d.n:Int):=aa;obtain⟨C,b4⟩:=ah (d.cat k);have c1:=ad b4;rw[b4]at a1 a2 O a3 a4;go_wp2_with fail;refine(b9 k _ (by rw[G.out];exact q) (n.out.out.alloc _)).mono ?_;rintro e b3 ⟨rfl,rfl⟩;have a5:=QM wr (ao (ae C::az 128 (d.bQ k)).toArray 219);have c:=(RG wr (ao (ae C::az 128 (d.bQ k)).toArray 219) A.gl (Z_ n.row)).trans n.row;have r:=n.out.out.alloc (ao (ae C::az 128 (d.bQ k)).toArray 219);have u:=(RG wr (ao (ae C::az 128 (d.bQ k)).toArray 219) K z2).trans l;have c2:wr.heap.size≠A.gl:=by have:=Z_ n.row;omega
   revert a5 c r u;generalize wr.alloc (ao (ae C::az 128 (d.bQ k)).toArray 219)=x;intro a5 c r u;obtain⟨x1,x2,x3⟩:=cr a5;obtain⟨k2,f2,z2⟩:=cr u;cases U:kp k
   .have y:=ad U;have z:=ad r;have D:RH (qk (λ_=>False) d.n A.gl (bH d.f_ d.cat d.bQ kp (k+1)) w x):=by refine⟨?_,z⟩;rw[c];simp only[bH,y.out,SX,if_false]
    go_wp2;go_roundw
    case rel=>exact⟨k+1,by go_num,q,D⟩
    case measure=>simp[intOf];omega
   .have y:=ad U;have a6:x.drew.rangeAt wr.heap.size 1 (az 128 (d.bQ k)):=λj v a0=>by show x.cell? ⟨wr.heap.size,1+j,none⟩=_;rw[x1 (1+j),<-a0,ZK];simp
    have b5:=ml x.drew wr.heap.size 1 (d.bQ k) a6;have b6:=oI x.drew A.gl d.n C (bH d.f_ d.cat d.bQ kp k) (d.bQ k) c O;have a7:=ad c;have z:=ad r;go_wp2_with fail;go_region;have D:RH (qk (λ_=>False) d.n A.gl (bH d.f_ d.cat d.bQ kp (k+1)) w (x.drew.setRow A.gl (ew d.n λa=>if a=C then d.bQ k else bH d.f_ d.cat d.bQ kp k a))):=by refine⟨?_,Out.setRow (S:=λb=>b=A.gl) z.drew (λ_=>rfl) _⟩;have:=setRow_heap x.drew A.gl _ (ew d.n λa=>if a=C then d.bQ k else bH d.f_ d.cat d.bQ kp k a) 217 (0,0) a7;rw[this];simp only[bH,c1.out,y.out,if_true]
    go_wp2;go_roundw
    case rel=>exact⟨k+1,by go_num,q,D⟩
    case measure=>simp[intOf];omega
  .obtain rfl:k=N:=aa;have V:Out (λb=>b=A.gl) w wr:=n.out.out;have l:=V.heap s.aL (λe=>f.1 e);rw[t.out,G.out]at l;obtain⟨k2,f2,z2⟩:=cr l;have a8:=heap_setCell_same wr K 1 _ 142 aU l;have X:Out (λb=>b=A.gl\/b=K) w (wr.setCell (ag K 1) aU):=(V.mono λ_ _ e=>.inl e).setCell (p:=ag K 1) (λ_=>.inr rfl) _;obtain⟨w2,c3,a9,b0,_,rfl⟩:=hS (P:=prog) (s.seen.out X λe=>e.elim (λe=>f.2.2.1 e.symm) λe=>f.2.1 e.symm) 139 0 3 3 wI;have Z:=(RZ wr (ag K 1) aU A.gl λe=>f.1 e.symm).trans n.row;have H:k_ K A (d.settled kp) w ((wr.setCell (ag K 1) aU).putObj A.ms b0):=by
    have b1:Out (DZ K A) w ((wr.setCell (ag K 1) aU).putObj A.ms b0):=(X.mono λ_ _ e=>e.elim (λe=>.inr (.inl e)) λe=>.inl e).wq (λ_=>.inr (.inr (.inl rfl))) _;refine⟨⟨A.gl,A.lc,aU,A.ms⟩,⟨?_,?_,SS _ _ _ _,a9.congr λb=>?_,s.pos,s.top,QX _,λi c4=>absurd c4 (SD _)⟩,b1,?_⟩
    .exact (TU f.2.1).trans a8
    .have:=(TU (w:=wr.setCell (ag K 1) aU) (o:=b0) f.2.2.1).trans Z;rw[<-G.out]at this;exact this
    .simp [iy,Dk.settled,dM]
    .rintro b (E|E|E|E)
     .exact .inl (.inl E)
     .exact .inl (.inr (.inl E))
     .exact .inl (.inr (.inr (.inl E)))
     .cases E
   have c5:=ad H;go_wp2;go_end0;exact⟨rfl,c5⟩
theorem su(K:Nat)(A:DA)(d:Dk)(w:M)(h:cC w K A d)(a:d.failed=true):aD 91 #[H K] w λe b=>aK e (aG 2)/\w=b:=by obtain⟨c,f1,f⟩:=cr h.aL;rw[a]at c;go_enter func91,ntmps91;go_wp2;go_ret;exact⟨rfl,rfl⟩
theorem Cl(K:Nat)(A:DA)(d:Dk)(w:M)(h:cC w K A d)(b:d.failed=false):aD 91 #[H K] w λe a=>aK e (aG 0)/\k_ K A (d.settled λ_=>true) w a:=by have c:=I (ud K A d w h);obtain⟨f,f1,j⟩:=cr h.aL;rw[b]at f;go_enter func91,ntmps91;go_wp2_with(first|(go_at_call 161;refine c.mono ?_;rintro e a ⟨rfl,g⟩;have i:=I g));go_ret;exact⟨rfl,i⟩
def Dk.dead(d:Dk):Dk:={(d.settled λ_=>false)with failed:=true}
theorem uf(K:Nat)(A:DA)(d:Dk)(w:M)(h:cC w K A d):aD 116 #[H K] w λe i=>aK e (.tuple #[])/\k_ K A d.dead w i:=by
 obtain⟨v,f1,x⟩:=cr h.aL;have c:cC (w.setCell (R K 3) dU) K A {d with failed:=true}:=by have a:=h.ne;have f:Out (λk=>k=K) w (w.setCell (R K 3) dU):=(Out.refl (λk=>k=K) w).setCell (p:=R K 3) (λ_=>rfl) _;exact⟨heap_setCell_same w K 3 _ 142 dU h.aL,f.heap h.f_ (λe=>a.1 e.symm),f.own h.cache (λk j e=>(a.2.2.2 k j).1 e),h.seen.out f (λe=>a.2.1 e.symm),h.pos,h.top,h.cap,h.KI⟩
 have l:=I (ss K A {d with failed:=true} _ c);have m:RH (Out (DZ K A) w (w.setCell (R K 3) dU)):=(Out.refl (DZ K A) w).setCell (p:=R K 3) (λ_=>.inl rfl) _;have g:(w.setCell (R K 3) dU).heap.size=w.heap.size:=SE _ _ _;have n:=I g;go_enter func116,ntmps116;go_wp2_with(first|(go_at_call 161;refine l.mono ?_;rintro e i ⟨rfl,o⟩;have q:=I o));go_end0;obtain⟨r,c,s,t⟩:=q.out;exact⟨rfl,r,c,m.tr s,λb u=>by rw[<-n.out];exact t b u⟩
def ja(n:Nat)(f:Nat->Bool)(i:Nat):Bool:=decide (i<n)&&f i
theorem zL(i B n c:Nat)(a:Option TF)(f:Nat->Bool)(T:TI)(w:M)(h:aZ w B (.cells #[.slice a n c] T (0,0)))(g:n=0\/∃b o,a=some (R b o)/\∀k,k<n->w.cell? ⟨b,o+k,none⟩=some (.bool (f k))):
  aD 184 #[Y i,H B] w λe j=>aK e (.bool (ja n f i))/\w=j:=by
 obtain⟨q,f1,r⟩:=cr h;by_cases d:i<n
 .obtain ⟨b,o,rfl,l⟩:∃b o,a=some (R b o)/\∀k,k<n->w.cell? ⟨b,o+k,none⟩=some (.bool (f k)):=by
   rcases g with h|h
   .omega
   .exact h
  have m:=l i d;have e:ja n f i=f i:=by simp[ja,d]
  have p:(i:Int)<(n:Int):=J;rw[e];go_enter func184,ntmps184;go_wp2;go_ret;exact⟨rfl,rfl⟩
 .have e:ja n f i=false:=by simp[ja,d]
  have s:decide ((i:Int)<(n:Int))=false:=aQ;rw[e];go_enter func184,ntmps184;go_wp2;go_ret;exact⟨rfl,rfl⟩
theorem qI(K:Nat)(A:DA)(d:Dk)(a:Option TF)(n c:Nat)(f:Nat->Bool)(w:M)(h:cC w K A d)(x:n=0\/∃b o,a=some (R b o)/\b<w.heap.size/\b≠A.gl/\∀k,k<n->w.cell? ⟨b,o+k,none⟩=some (.bool (f k))):
  aD 126 #[H K,.slice a n c] w λe s=>aK e (.tuple #[])/\k_ K A (d.settled (ja n f)) w s:=by
 have l:ar w (w.alloc (N #[.slice a n c] 56)):=aI aj _;have y:=QM w (N #[.slice a n c] 56);have m:=h.below l;have G:=h.lt (b:=A.gl) (.inr (.inl rfl));have z:=I (ue K A d w.heap.size (ja n f) _ m λi W L t=>by refine zL i w.heap.size n c a f 56 W (t.heap y J) (x.imp id ?_);rintro⟨b,o,rfl,g,p,B⟩;refine⟨b,o,rfl,λk q=>?_⟩;obtain⟨u,j⟩:∃u,w.heap[b]?=some u:=⟨_,SH g⟩;have r:=t.heap ((RG w _ b g).trans j) p;rw[QZ (r.trans j.symm)];exact B k q);have v:=I l;go_enter func126,ntmps126;go_wp2_with(first|(go_at_call 161;refine z.mono ?_;rintro e s ⟨rfl,C⟩;have D:=I C));go_end0;obtain⟨E,m,r,F⟩:=D.out;exact⟨rfl,E,m,(Out.af v).tr r,λb l=>(F b l).imp id λe=>by have:=v.size;omega⟩
end
def Dk.fresh(n:Nat):Dk:=⟨n,λ_ _=>0,0,λ_=>0,λ_ _=>0,false⟩
theorem FJ(n:Nat):UB (cB 128 λ_=>0) (n*128)=ew n λ_ _=>0:=by
 apply Array.ext
 .simp [UB,ew];omega
 .intro i b c;have a:i%128<128:=SB _ J;simp only[UB,ew,Array.getElem_map,Array.getElem_range,QU,VO,gi];have:=eu 128 (λ_=>0) (i%128) a;rw[Array.getElem!_eq_getD,Array.getD_eq_getD_getElem?,this];rfl
theorem Cn(w:M)(n:Nat)(h:n<=8192):(TL 138 (Y (n:Int)) (Y (n:Int))).run prog w=.ok (a_ w.heap.size n n) (w.alloc (N (ew n λ_ _=>0) 217)):=by obtain⟨d,e,a,b,c⟩:=SN MY;have:=run_make (P:=prog) w 138 217 d (.agg (cB 128 λ_=>0)) underlying138 e a .i64 .i64 n n J J (by rw[c];omega) J;rw[this,b];show ZE _ (w.alloc (N (UB (cB 128 λ_=>0) (n*128)) 217))=_;rw[FJ];rfl
theorem eN(t:TI)(w:M):(Instr.makeMap t none).run prog w=.ok (.map (some w.heap.size)) (w.alloc (.map #[] 0)):=rfl
def Lj(n:Nat)(w:M)(e:SG)(a:M):Prop:=∃K A,aK e (.tuple #[H K,aG 0])/\cC a K A (Dk.fresh n)/\(∀b,DZ K A b->w.heap.size<=b)/\ar w a
theorem yu(n:Nat)(w:M)(c:1<=n)(h:n<=8192):aD 48 #[Y n] w (Lj n w):=by
 have g:=λw=>Cn w n h;have d:=λw=>eN 139 w;have d1:decide ((n:Int)<1)=false:=aQ;have d2:decide (8192<(n:Int))=false:=aQ;go_enter func48,ntmps48;go_wp2;go_ret2;refine⟨w.heap.size+1+1,⟨w.heap.size,n,aU,w.heap.size+1⟩,rfl,⟨?_,?_,SS _ _ _ _,?_,c,h,QX _,λi e=>absurd e (SD _)⟩,?_,aI (aI (aI aj _) _) _⟩
 .have:=QM ((w.alloc (N (ew n λ_ _=>0) 217)).alloc (.map #[] 0)) (N #[a_ w.heap.size n n,aU,.map (some (w.heap.size+1)),.bool false] 142);rwa[TG,TG]at this
 .exact (RG _ _ _ aQ).trans (fX _ _ _)
 .have a:=IM.made (w.alloc (N (ew n λ_ _=>0) 217));rw[TG]at a;refine(a.out (Out.af (S:=λ_=>False) (aI aj _)) id).congr λb=>?_;simp[iy,Dk.fresh,dM]
 .rintro b (rfl|rfl|rfl|f)
  .omega
  .exact QP _
  .exact VC _
  .cases f
structure Dv where
 d:Dk
 fO:Bool
 left:Nat
variable {U:Dv}
def Dv.use(v:Dv):Dv:=if v.fO then(if v.left=0 then{v with d:=v.d.dead,fO:=false}else{v with left:=v.left-1})else v
structure cZ(w:M)(D K:Nat)(A:DA)(v:Dv):Prop where
 aL:w.heap[D]? =some (N #[H K,.bool v.fO,Y v.left] 106)
 sw:cC w K A v.d
 low:v.left<=1000000
def VZ(D K:Nat)(A:DA)(b:Nat):Prop:=b=D\/DZ K A b
theorem cZ.out{w w1:M}{A:DA}(h:cZ w n m A U)(a:Out S w w1)(c:∀b,VZ n m A b->¬S b):cZ w1 n m A U:=
 ⟨a.heap h.aL (c _ (.inl rfl)),h.sw.out a λb d=>c b (.inr d),h.low⟩
def ML(t:Nat):Bool:=t==106||MX t
theorem cZ.ty{A:DA}(h:cZ w n m A U)(a:VZ n m A k):∃o,w.heap[k]?=some o/\ML (ty o)=true:=by
 rcases a with rfl|a
 .exact ⟨_,h.aL,rfl⟩
 .obtain ⟨o,b,c⟩:=h.sw.ty a;exact⟨o,b,by simp[ML,c]⟩
theorem cZ.lt{A:DA}(h:cZ w n m A U){b:Nat}(a:VZ n m A b):b<w.heap.size:=by obtain⟨o,c,_⟩:=h.ty a;exact Z_ c
theorem cZ.ne{A:DA}(h:cZ w n m A U)(b:DZ m A k):k≠n:=by rintro rfl;obtain⟨o,a,c⟩:=h.sw.ty b;rw[h.aL]at a;cases a;cases c
def mo(D K:Nat)(A:DA)(v:Dv)(w a:M):Prop:=∃c,cZ a D K c v/\Out (VZ D K A) w a/\∀b,VZ D K c b->VZ D K A b\/w.heap.size<=b
theorem mo.refl{A:DA}(h:cZ w n m A U):mo n m A U w w:=⟨A,h,Out.refl _ _,λ_ h=>.inl h⟩
theorem cZ.Co{A:DA}{d:Dk}(h:cZ w n m A U)(f:k_ m A d w W):mo n m A {U with d:=d} w W:=by
 obtain⟨g,i,c,j⟩:=f;refine⟨g,⟨c.heap h.aL λe=>h.ne e rfl,i,h.low⟩,c.mono λ_ _ e=>.inr e,λb a=>?_⟩;rcases a with a|a
 .exact .inl (.inl a)
 .exact (j b a).imp .inr id
theorem jH(D K:Nat)(A:DA)(v:Dv)(w:QL)(h:cZ w D K A v):aD 145 #[H D] w λe f=>aK e (.tuple #[])/\mo D K A v.use w f:=by
 obtain⟨g,f1,C⟩:=cr h.aL;have r:=h.low;cases i:v.fO with
 |false=>
  have e:v.use=v:=by simp[Dv.use,i]
  rw[i]at g;rw[e];have l:=I h;go_enter func145,ntmps145;go_wp2;go_end0;exact⟨rfl,mo.refl l⟩
 |true=>
  rw[i]at g;by_cases m:v.left=0
  .have e:v.use={v with d:=v.d.dead,fO:=false}:=by simp[Dv.use,i,m]
   rw[m]at g;rw[e];have s:=I (uf K A v.d w h.sw);have l:=I h;go_enter func145,ntmps145;go_wp2_with fail;refine s.mono ?_;rintro e f ⟨rfl,t⟩;obtain⟨u,j,x,y⟩:=l.Co t;have c:=heap_setCell_same f D 1 _ 106 iD j.aL;obtain⟨E,f2,F⟩:=cr j.aL;have a:mo D K A {v with d:=v.d.dead,fO:=false} w (f.setCell (R D 1) iD):=by refine⟨u,⟨c,j.sw.out (S:=λk=>k=D) ((Out.refl (λk=>k=D) f).setCell (p:=R D 1) (λ_=>rfl) _) λb c e=>j.ne c e,j.low⟩,x.setCell (p:=R D 1) (λ_=>.inl rfl) _,y⟩
   have n:=I a;go_wp2;go_end0;exact⟨rfl,n⟩
  .have e:v.use={v with left:=v.left-1}:=by simp[Dv.use,i,m]
   rw[e];obtain⟨L,q⟩:∃L,v.left=L+1:=⟨v.left-1,J⟩;have c:=heap_setCell_same w D 2 _ 106 (Y L) h.aL;have a:mo D K A {v with left:=v.left-1} w (w.setCell (R D 2) (Y L)):=by
    refine⟨A,⟨?_,h.sw.out (S:=λk=>k=D) ((Out.refl (λk=>k=D) w).setCell (p:=R D 2) (λ_=>rfl) _) λb c e=>h.ne c e,?_⟩,(Out.refl (VZ D K A) w).setCell (p:=R D 2) (λ_=>.inl rfl) _,λb c=>.inl c⟩
    .show _=some (Obj.cells #[H K,.bool v.fO,Y (v.left-1:Nat)] 106 (0,0));rw[q];exact c
    .show v.left-1<=_;omega
   have n:=I a;rw[q]at g r;have o:((L+1:Nat):Int)≠0:=J;have z:QQ.wrap (((L+1:Nat):Int)-1)=(L:Nat):=bf;obtain⟨M,B⟩:=ah (L+1);rw[B]at g o z;go_enter func145,ntmps145;go_wp2;go_end0;exact⟨rfl,n⟩
theorem cN.form(h:cN w v n f):∃a c,v=.slice a n c:=by obtain⟨a,c,h,_⟩:=h;exact⟨a,c,h⟩
theorem cN.set(h:cN w v n f)(a:aZ w p.block O)(b:ty O≠5)(u:QN):cN (w.setCell p u) v n f:=by
 letI:Lo:=⟨0⟩
 exact h.fr (T:= [ty O]) ((Fr.refl _ aF w).set a aJ (QX _) u) (by simp[Ne.symm b])
def M_(f:aO)(b:Nat)(w:M)(e:SG)(a:M):Prop:=∃v,aK e (aG 0)/\a.heap[b]?=some (N #[v] 41)/\cN a v 128 f/\Out (λk=>k=b) w a/\wJ v
theorem FK(D K l a:Nat)(A:DA)(v:Dv)(b:Nat)(w:M)(h:cZ w D K A v)(s:v.d.failed=false)(t:b<v.d.n)(x:aZ w l (N #[Y b] 3))(m:aZ w a (N #[aU] 41)):
  aD 259 #[H D,H l,H a] w (M_ (v.d.view b) a w):=by
 obtain⟨C,f1,E⟩:=cr h.aL;obtain⟨F,f2,G⟩:=cr x;obtain⟨L,f3,z3⟩:=cr m;have y:=I (Ld K A v.d b w.drew (h.sw.out (S:=λ_=>False) (Out.refl _ _).drew λ_ _ h=>h) s t);have z:=I m;go_enter func259,ntmps259;go_wp2_with fail
 go_region_law (first|(go_simp;go_at_call 260;refine y.mono ?_;rintro e d ⟨u,rfl,c,f,g⟩;obtain⟨n,o,rfl⟩:=c.form;have i:=I g;obtain⟨O,f4,P⟩:=kp f a dI))
 all_goals(
  have j:=I c;have q:=I f;clear c f)
 all_goals go_wp2
 all_goals go_ret
 all_goals(
  have r:=(q.block a z3).trans z;have B:Out (λk=>k=a) d (d.setCell (R a 0) (.slice n 128 o)):=(Out.refl (λk=>k=a) d).setCell (p:=R a 0) (λ_=>rfl) _;exact⟨_,rfl,heap_setCell_same d a 0 _ 41 (.slice n 128 o) r,j.set (p:=R a 0) r ai _,(Out.af (S:=λk=>k=a) ((aV (SV w.heap.size w)).trans q)).tr B,i⟩)
theorem ug(D K c a:Nat)(A:DA)(v:Dv)(b:Nat)(w:M)(h:cZ w D K A v)(g:v.d.failed=true)(i:aZ w c (N #[Y b] 3))(d:aZ w a (N #[aU] 41)):
  aD 259 #[H D,H c,H a] w λe f=>aK e (aG 2)/\f.heap[a]?=some (N #[aU] 41)/\Out (λk=>k=a) w f:=by
 obtain⟨m,f1,n⟩:=cr h.aL;obtain⟨o,f2,q⟩:=cr i;obtain⟨r,f3,z3⟩:=cr d;have j:=I (zF K A v.d b w.drew (h.sw.out (S:=λ_=>False) (Out.refl _ _).drew λ_ _ h=>h) g);have l:=I d;go_enter func259,ntmps259;go_wp2_with fail
 go_region_law (first|(go_simp;go_at_call 260;refine j.mono ?_;rintro e s ⟨rfl,rfl⟩))
 all_goals go_wp2
 all_goals go_ret
 all_goals(
  exact⟨rfl,heap_setCell_same w.drew a 0 _ 41 aU l,(Out.refl (λk=>k=a) w).drew.setCell (p:=R a 0) (λ_=>rfl) _⟩)
theorem FL(D K b c:Nat)(A:DA)(v:Dv)(a:Nat)(u:QN)(f:aO)(w:M)(h:cZ w D K A v)(j:v.d.failed=false)(k:a<v.d.n)(l:v.d.cn<1000000000000)(g:lX w u 128 f)(m:aZ w b (N #[Y a] 3))(n:aZ w c (N #[u] 41)):
  aD 81 #[H D,H b,H c] w λe o=>aK e (aG 0)/\mo D K A {v with d:=v.d.wr a f} w o:=by
 obtain⟨B,f1,C⟩:=cr h.aL;obtain⟨E,f2,F⟩:=cr m;obtain⟨G,f3,z3⟩:=cr n;have i:cZ w.drew D K A v:=h.out (S:=λ_=>False) (Out.refl _ _).drew λ_ _ h=>h;have p:=I (Lg K A v.d a u f w.drew i.sw j k g l);have q:=I i;obtain⟨L,O,rfl,-⟩:=g;go_enter func81,ntmps81;go_wp2_with fail
 go_region_law (first|(go_simp;go_at_call 82;refine p.mono ?_;rintro e P ⟨rfl,r⟩;have s:=I r))
 all_goals go_wp2
 all_goals go_ret
 all_goals(
  obtain⟨t,x,y,z⟩:=q.Co s;exact⟨rfl,t,x,(Out.refl _ w).drew.tr y,z⟩)
theorem uh(D K b c:Nat)(A:DA)(v:Dv)(a:Nat)(d:Option TF)(f g:Nat)(w:M)(h:cZ w D K A v)(i:v.d.failed=true)(j:aZ w b (N #[Y a] 3))(k:aZ w c (N #[.slice d f g] 41)):
  aD 81 #[H D,H b,H c] w λe l=>aK e (aG 2)/\∃q,l=w.drewN q:=by
 obtain⟨o,f1,p⟩:=cr h.aL;obtain⟨r,f2,s⟩:=cr j;obtain⟨t,f3,z3⟩:=cr k;have m:cZ w.drew D K A v:=h.out (S:=λ_=>False) (Out.refl _ _).drew λ_ _ h=>h;have n:=I (zJ K A v.d a (.slice d f g) w.drew m.sw i);go_enter func81,ntmps81;go_wp2_with fail
 go_region_law (first|(go_simp;go_at_call 82;refine n.mono ?_;rintro e u ⟨rfl,rfl⟩))
 all_goals go_wp2
 all_goals go_ret
 all_goals(exact⟨rfl,1,rfl⟩)
theorem FM(D K:Nat)(A:DA)(v:Dv)(w:M)(h:cZ w D K A v)(a:v.d.failed=false):
  aD 90 #[H D] w λe b=>aK e (aG 0)/\mo D K A {v with d:=v.d.settled λ_=>true} w b:=by
 obtain⟨j,f1,k⟩:=cr h.aL;have c:=I (Cl K A v.d w h.sw a);have f:=I h;go_enter func90,ntmps90;go_wp2_with(first|(go_at_call 91;refine c.mono ?_;rintro e l ⟨rfl,g⟩;have i:=I g));go_ret;exact⟨rfl,f.Co i⟩
theorem ui(D K:Nat)(A:DA)(v:Dv)(w:M)(h:cZ w D K A v)(a:v.d.failed=true):
  aD 90 #[H D] w λe b=>aK e (aG 2)/\w=b:=by
 obtain⟨d,f1,f⟩:=cr h.aL;have c:=I (su K A v.d w h.sw a);go_enter func90,ntmps90;go_wp2_with(first|(go_at_call 91;refine c.mono ?_;rintro e g ⟨rfl,rfl⟩));go_ret;exact⟨rfl,rfl⟩
structure By where
 N:Nat
 dv:Nat->Option Dv
 bq:Bool
 aY:Option Nat
variable {b:By}
def By.put(b:By)(k:Nat)(v:Dv):By:={b with dv:=λj=>if j=k then some v else b.dv j}
def eO:Option Nat->Int
 |none=> -1
 |some t=>(t:Nat)
structure we where
 D:Nat
 K:Nat
 A:DA
def we.Z(s:we)(b:Nat):Prop:=VZ s.D s.K s.A b
def oJ(b:By)(a:Nat->we)(k:Nat):Option TF:=if(b.dv k).isSome then some ⟨(a k).D,0,none⟩else none
def dz(N:Nat)(p q:Nat->Option TF):Array QN:=((UD (3*N)).map λj=>Value.pointer (if j%3=0 then p (j/3)else if j%3=1 then q (j/3)else none)).toArray
theorem gm(N:Nat)(p q:Nat->Option TF)(a:k<N):(dz N p q)[k*3]?=some (.pointer (p k)):=by have h:k*3<3*N:=J;simp only[dz,XK,RU,SP h,RJ];rw[ak J,show k*3/3=k by omega]
theorem jI(N:Nat)(p q:Nat->Option TF)(a:k<N):(dz N p q)[k*3+2]?=some (.pointer none):=by have h:k*3+2<3*N:=J;simp only[dz,XK,RU,SP h,RJ];rw[al J,al J]
theorem k'(N:Nat){p a q b:Nat->Option TF}(h:∀k,k<N->p k=a k)(g:∀k,k<N->q k=b k):dz N p q=dz N a b:=by unfold dz;congr 1;apply VH;intro j c;have c:=UJ.1 c;rw[h (j/3) J,g (j/3) J]
theorem wL(N:Nat)(p q:Nat->Option TF)(k:Nat)(x:Option TF)(d:k<N):(dz N p q).setIfInBounds (k*3) (.pointer x)=dz N (λj=>if j=k then x else p j) q:=by
 apply Array.ext
 .simp [dz]
 .intro i f b;have c:i<3*N:=by simpa[dz]using b
  rw[Array.getElem_setIfInBounds (by simpa[dz]using c)];simp only[dz,QU,VO,List.getElem_range];by_cases e:k*3=i
  .subst e;rw[ak rfl,ak J,show k*3/3=k by omega,ak rfl]
  .rw [al e];by_cases a:i%3=0
   .rw [ak a,ak a,al J]
   .rw [al a,al a]
structure ej[Lo](w:M)(B S cap:Nat)(sa:Nat->we)(sd:Nat->Option TF)(r wc f:Int)(b:By):Prop where
 aL:w.heap[B]? =some (ao #[a_ S b.N cap,.bool b.bq,Y (eO b.aY),Y r,Y wc,Y f] 100)
 dd:w.heap[S]? =some (ao (dz b.N (oJ b sa) sd) 108)
 dev:∀k v,k<b.N->b.dv k=some v->cZ w (sa k).D (sa k).K (sa k).A v
 apart:∀k j,k<b.N->j<b.N->k≠j->(b.dv k).isSome=true->(b.dv j).isSome=true->∀x,(sa k).Z x->¬(sa j).Z x
 low:∀t,b.aY=some t->t<=1000000
 top:b.N<=17
 lo:Lo.lo<=B/\Lo.lo<=S
 Ja:∀k v,k<b.N->b.dv k=some v->∀x,(sa k).Z x->Lo.lo<=x
def aB[Lo](w:M)(B:Nat)(b:By):Prop:=∃S a c d r wc f,ej w B S a c d r wc f b
def TB:List Nat:= [100,106,108,142,217,219,1000000]
theorem sx(h:ML n=true):TB.contains n=true:=by simp only[ML,MX,Bool.or_eq_true,beq_iff_eq]at h;rcases h with h|((h|h)|h)|h<;>(subst h;rfl)
theorem Fr.Lk[Lo](h:Fr T S w W):Out (λk=>(∃o,w.heap[k]?=some o/\T.contains (ty o)=true)\/S k) w W:=
 ⟨h.os,h.tape,h.output,h.size,λk c b=>by
  obtain⟨o,a⟩:∃o,aZ w k o:=⟨_,SH c⟩;rw[a];refine h.block k o a (.inl ?_) λe=>b (.inr e);cases d:T.contains (ty o)with
  |false=>rfl
  |true=>exact absurd (.inl ⟨o,a,d⟩) b⟩
theorem Out.FN[Lo](h:Out S w W)(f:∀k,k<w.heap.size->S k->(∃o,w.heap[k]?=some o/\T.contains (ty o)=true)/\Lo.lo<=k):Fr T aF w W:=
 ⟨h.os,h.tape,h.output,h.size,λk o b a _=>h.heap b λe=>by
  obtain⟨⟨g,c,d⟩,i⟩:=f k (Z_ b) e;rw[b]at c;cases c;rcases a with a|a
  .rw [a]at d;cases d
  .omega⟩
theorem wM(h:TB.all (λn=> !T.contains n)=true)(a:TB.contains n=true):T.contains n=false:=by have:=WO.1 h n (List.contains_iff_mem.1 a);simpa using this
theorem aB.fr[Lo](h:aB w n b)(g:Fr T S w W)(i:TB.all (λt=> !T.contains t)=true)(s:∀k o,S k->w.heap[k]?=some o->TB.contains (ty o)=false):aB W n b:=by
 obtain⟨u,j,x,y,r,wc,f,h⟩:=h;have a:∀k o,w.heap[k]?=some o->TB.contains (ty o)=true->¬S k:=λk o d c e=>by rw[s k o e d]at c;cases c
 refine⟨u,j,x,y,r,wc,f,g.heap h.aL (wM i rfl) (a _ _ h.aL rfl),g.heap h.dd (wM i rfl) (a _ _ h.dd rfl),λk v l m=>?_,h.apart,h.low,h.top,h.lo,h.Ja⟩;refine(h.dev k v l m).out g.Lk λb z e=>?_;obtain⟨o,d,c⟩:=(h.dev k v l m).ty z;rcases e with⟨A,p,q⟩|e
 .rw [d]at p;cases p;rw[wM i (sx c)]at q;cases q
 .exact a _ _ d (sx c) e
theorem aB.fn[Lo](h:aB w n b)(a:Fr T aF w W)(c:TB.all (λt=> !T.contains t)=true):aB W n b:=h.fr a c λ_ _ e=>e.elim
theorem aB.below[Lo]{B:Nat}(h:aB w B b)(a:ar w W):aB W B b:=h.fn (T:= []) (Fr.af a) rfl
theorem aB.lt[Lo](h:aB w n b):n<w.heap.size:=by obtain⟨c,a,d,e,r,wc,f,h⟩:=h;exact Z_ h.aL
theorem aB.lo[Lo](h:aB w n b):Lo.lo<=n:=by obtain⟨c,a,d,e,r,wc,f,h⟩:=h;exact h.lo.1
theorem ej.OV[Lo]{a:Nat->we}{c:Nat->Option TF}{r wc f:Int}(h:ej w n m k a c r wc f b):n≠m:=λe=>by have:=h.aL;rw[e,h.dd]at this;simp at this
theorem ej.Na[Lo]{c:Nat->we}{g:Nat->Option TF}{r wc f:Int}(h:ej w n m i c g r wc f b)(l:k<b.N)(p:b.dv k=some U)(q:(c k).Z j):j≠n/\j≠m:=by
 obtain⟨o,a,d⟩:=(h.dev k U l p).ty q;refine⟨λe=>?_,λe=>?_⟩
 .rw [e,h.aL]at a;cases a;cases d
 .rw [e,h.dd]at a;cases a;cases d
def lh(S:Nat->Prop)(D K:Nat)(A:DA)(v:Dv)(w a:M):Prop:=∃c,cZ a D K c v/\Out (λx=>VZ D K A x\/S x) w a/\∀b,VZ D K c b->VZ D K A b\/w.heap.size<=b
theorem mo.q{A:DA}(h:mo n m A U w W):lh S n m A U w W:=by obtain⟨a,b,c,d⟩:=h;exact⟨a,b,c.mono λ_ _ e=>.inl e,d⟩
theorem ej.wN[Lo]{d:Nat->we}{Z:Nat->Option TF}{r wc f:Int}(h:ej w n m C d Z r wc f b){v H:Dv}(G:k<b.N)(y:b.dv k=some v)(R:∀x o,Q x->w.heap[x]?=some o->TB.contains (ty o)=false)(I:lh Q (d k).D (d k).K (d k).A H w W):
  ∃T,ej W n m C T Z r wc f (b.put k H)/\Fr TB Q w W:=by
 obtain⟨Y,J,z,U⟩:=I;have A:∀x o,w.heap[x]?=some o->TB.contains (ty o)=true->¬Q x:=λx o E F e=>by rw[R x o e E]at F;cases F
 have N:∀x,VZ (d k).D (d k).K (d k).A x->x≠n/\x≠m:=λx a=>h.Na G y a;have V:Fr TB Q w W:=⟨z.os,z.tape,z.output,z.size,λx o a K B=>z.heap a λe=>by
  rcases e with e|e
  .rcases K with K|K
   .obtain ⟨a2,E,F⟩:=(h.dev k v G y).ty e;rw[a]at E;cases E;rw[sx F]at K;cases K
   .have:=h.Ja k v G y x e;omega
  .exact B e⟩
 refine⟨λj=>if j=k then⟨(d k).D,(d k).K,Y⟩else d j,⟨z.heap h.aL λe=>e.elim (λe=>(N _ e).1 rfl) (A _ _ h.aL rfl),?_,λj u l c=>?_,λi j a0 l q P L x a=>?_,h.low,h.top,h.lo,λj u l c x a=>?_⟩,V⟩
 .have B:=z.heap h.dd λe=>e.elim (λe=>(N _ e).2 rfl) (A _ _ h.dd rfl);rw[B];congr 2;apply k'
  .intro j l;unfold oJ By.put;by_cases e:j=k
   .subst e;simp[y]
   .simp [e]
  .intros;rfl
 .by_cases e:j=k
  .subst e;simp only[By.put,if_true,SZ]at c|-;subst c;exact J
  .simp only[By.put,al e]at c|-;refine(h.dev j u l c).out z λx a p=>p.elim (λp=>h.apart k j G l (λa1=>e a1.symm) (by rw[y];rfl) (by rw[c];rfl) x p a) λp=>?_;obtain⟨o,E,F⟩:=(h.dev j u l c).ty a;exact A _ _ E (sx F) p
 .have X:∀x,(d j).Z x->(b.dv j).isSome=true->j<b.N->x<w.heap.size:=λx a B l=>by
   obtain⟨u,c⟩:=WM.1 B;exact(h.dev j u l c).lt a
  have O:∀x,(d i).Z x->(b.dv i).isSome=true->i<b.N->x<w.heap.size:=λx a B l=>by obtain⟨u,c⟩:=WM.1 B;exact(h.dev i u l c).lt a
  have s:i<b.N:=a0;have t:j<b.N:=l;intro D;by_cases M:i=k
  .subst M;have S:¬j=i:=λe=>q e.symm;simp only[By.put,al S]at L D;simp only[if_true]at a;rcases U x a with g|g
   .exact h.apart i j s t q (by rw[y];rfl) L x g D
   .have:=X x D L t;omega
  .simp only[By.put,al M]at P a;by_cases S:j=k
   .subst S;simp only[if_true]at D;rcases U x D with g|g
    .exact h.apart i j s t q P (by rw[y];rfl) x a g
    .have:=O x a P s;omega
   .simp only[By.put,al S]at L D;exact h.apart i j s t q P L x a D
 .by_cases e:j=k
  .subst e;simp only[if_true,we.Z]at a;rcases U x a with g|g
   .exact h.Ja j v G y x g
   .have:=Z_ h.aL;have:=h.lo.1;omega
  .simp only[By.put,al e]at c;simp only[al e,we.Z]at a;exact h.Ja j u l c x a
theorem ej.sy[Lo]{w w':M}{a:Nat->we}{d:Nat->Option TF}{r wc f:Int}(h:ej w n m i a d r wc f b){v v':Dv}(g:k<b.N)(j:b.dv k=some v)(l:mo (a k).D (a k).K (a k).A v' w w'):
  ∃c,ej w' n m i c d r wc f (b.put k v')/\Fr TB aF w w':=h.wN g j (λ_ _ e=>e.elim) l.q
theorem ej.nL[Lo]{w w':M}{d:Nat->we}{g:Nat->Option TF}{r wc f j a l:Int}{dk:Bool}{tr:Option Nat}(h:ej w n m i d g r wc f b)(c:Out (λk=>k=n) w w')(q:aZ w' n (ao #[a_ m b.N i,.bool dk,Y (eO tr),Y j,Y a,Y l] 100))(s:∀t,tr=some t->t<=1000000):
  ej w' n m i d g j a l {b with bq:=dk,aY:=tr}/\Fr TB aF w w':=
 ⟨⟨q,c.heap h.dd (λe=>h.OV e.symm),λk v o p=>(h.dev k v o p).out c λx u e=>(h.Na o p u).1 e,h.apart,s,h.top,h.lo,h.Ja⟩,c.FN λk _ e=>by subst e;exact⟨⟨_,h.aL,rfl⟩,h.lo.1⟩⟩
section
section
variable {w:QL} {B S cap:Nat} {sa:Nat->we} {sd:Nat->Option TF} {r wc f:Int} {b:By}
theorem lj[Lo](h:ej w B S cap sa sd r wc f b):aD 49 #[H B] w λe a=>aK e (Y b.N)/\w=a:=by obtain⟨c,f1,d⟩:=cr h.aL;go_enter func49,ntmps49;go_wp2;go_ret;exact⟨rfl,rfl⟩
theorem oK[Lo](h:ej w B S cap sa sd r wc f b)(k:Nat)(a:k<b.N):aD 140 #[H B,Y k] w λe c=>aK e (.pointer (some ⟨S,k*3,none⟩))/\w=c:=by obtain⟨d,f1,j⟩:=cr h.aL;have g:=h.top;obtain⟨N,i⟩:=ah b.N;rw[i]at d a g;have d1:decide ((k:Int)<0)=false:=aJ;have d2:decide ((N:Int)<=k)=false:=aQ;go_enter func140,ntmps140;go_wp2;go_ret;exact⟨rfl,rfl⟩
theorem yv[Lo](h:ej w B S cap sa sd r wc f b)(k:Nat)(a:k<b.N):aD 76 #[H B,Y k] w λe c=>aK e (.pointer (oJ b sa k))/\w=c:=by
 have d:=I (oK h k a);have g:w.cell? ⟨S,k*3,none⟩=some (.pointer (oJ b sa k)):=by rw[(cr h.dd).1,gm _ _ _ a]
 obtain⟨p,i⟩:=ah (oJ b sa k);rw[i]at g|-;go_enter func76,ntmps76;go_wp2_with(first|(go_at_call 140;refine d.mono ?_;rintro e c ⟨rfl,rfl⟩));go_ret;exact⟨rfl,rfl⟩
theorem fB[Lo](h:ej w B S cap sa sd r wc f b)(k:Nat)(c:k<b.N)(v:Dv)(g:b.dv k=some v):aD 115 #[H B,Y k] w λe a=>aK e (.tuple #[.pointer (some ⟨(sa k).D,0,none⟩),aG 0])/\w=a:=by have i:=I (oK h k c);have d:=yv h k c;rw[show oJ b sa k=some ⟨(sa k).D,0,none⟩by simp[oJ,g]]at d;have j:=I d;go_enter func115,ntmps115;go_wp2_with(first|(go_at_call 140;refine i.mono ?_;rintro e a ⟨rfl,rfl⟩)|(go_at_call 76;refine j.mono ?_;rintro e a ⟨rfl,rfl⟩));go_ret2;exact⟨rfl,rfl⟩
theorem eH[Lo](h:ej w B S cap sa sd r wc f b)(k:Nat)(c:k<b.N)(g:b.dv k=none):aD 115 #[H B,Y k] w λe a=>aK e (.tuple #[.pointer none,aG 51])/\w=a:=by have i:=I (oK h k c);have d:=yv h k c;rw[show oJ b sa k=none by simp[oJ,g]]at d;have j:=I d;go_enter func115,ntmps115;go_wp2_with(first|(go_at_call 140;refine i.mono ?_;rintro e a ⟨rfl,rfl⟩)|(go_at_call 76;refine j.mono ?_;rintro e a ⟨rfl,rfl⟩));go_ret2;exact⟨rfl,rfl⟩
theorem Cq[Lo](h:ej w B S cap sa sd r wc f b)(k:Nat)(a:k<b.N)(v:Dv)(c:b.dv k=some v):aD 50 #[H B,Y k] w λe d=>aK e (.bool (!v.d.failed))/\∃q,d=w.drewN q:=by have g:=yv h k a;rw[show oJ b sa k=some ⟨(sa k).D,0,none⟩by simp[oJ,c]]at g;have i:=I g;have j:=I (oH _ _ _ w (h.dev k v a c).sw);obtain⟨l,f1,m⟩:=cr (h.dev k v a c).aL;go_enter func50,ntmps50;go_wp2_with(first|(go_at_call 77;refine j.mono ?_;rintro e d ⟨rfl,rfl⟩)|(go_at_call 76;refine i.mono ?_;rintro e d ⟨rfl,rfl⟩));go_ret;exact⟨rfl,0,rfl⟩
theorem sA[Lo](h:ej w B S cap sa sd r wc f b)(k:Nat)(a:k<b.N)(v:Dv)(c:b.dv k=some v):aD 51 #[H B,Y k] w λe d=>aK e (Y v.d.n)/\w=d:=by have g:=yv h k a;rw[show oJ b sa k=some ⟨(sa k).D,0,none⟩by simp[oJ,c]]at g;have i:=I g;have j:=I (wG _ _ _ w (h.dev k v a c).sw);obtain⟨l,f1,m⟩:=cr (h.dev k v a c).aL;go_enter func51,ntmps51;go_wp2_with(first|(go_at_call 78;refine j.mono ?_;rintro e d ⟨rfl,rfl⟩)|(go_at_call 76;refine i.mono ?_;rintro e d ⟨rfl,rfl⟩));go_ret;exact⟨rfl,rfl⟩
end
theorem qJ(B o:Nat)(w:M):aD 258 #[.pointer (some (R B o))] w λe a=>aK e (.pointer (some (R B o)))/\w=a:=by go_enter func258,ntmps258;go_wp2;go_ret;exact⟨aJ,rfl⟩
theorem oL(B o:Nat)(w:M):aD 80 #[.pointer (some (R B o))] w λe a=>aK e (.pointer (some ⟨B,o+1,none⟩))/\w=a:=by go_enter func80,ntmps80;go_wp2;go_ret;exact⟨aJ,rfl⟩
theorem nc(B o:Nat)(w:M):aD 89 #[.pointer (some (R B o))] w λe a=>aK e (.pointer (some ⟨B,o+2,none⟩))/\w=a:=by go_enter func89,ntmps89;go_wp2;go_ret;exact⟨aJ,rfl⟩
end
def By.out(b:By):Bool:=b.bq||b.aY==some 0
def By.off(b:By):By:=if b.aY=some 0 then{b with bq:=true,aY:=none}else b
def By.tick(b:By):By:={b with aY:=b.aY.map (· -1)}
def By.op(b:By)(k:Nat)(a:Dv->Dv × Nat):By × Nat:=
 if b.out then(b.off,50)else match b.dv k with|none=>(b.tick,51)|some v=>(b.tick.put k (a v.use).1,(a v.use).2)
def bS(v:Dv):Dv × Nat:=(v,if v.d.failed then 2 else 0)
def aN(a:Nat)(f:aO)(v:Dv):Dv × Nat:=if v.d.failed then(v,2)else({v with d:=v.d.wr a f},0)
def ba(v:Dv):Dv × Nat:=if v.d.failed then(v,2)else({v with d:=v.d.settled λ_=>true},0)
def ql[Lo](Q:Nat->Prop)(B:Nat)(b:By)(k:Nat)(a:Dv->Dv × Nat)(X:Dv->M->Prop)(w:M)(e:SG)(c:M):Prop:=
 aK e (.int .u16 ((b.op k a).2:Nat))/\aB c B (b.op k a).1/\Fr TB Q w c/\(∀v,b.out=false->b.dv k=some v->X v.use c)/\(b.out=true\/b.dv k=none->Fr TB aF w c)
theorem lh.after{A b:DA}(c:Out (VZ n m A) w W)(d:∀k,VZ n m b k->VZ n m A k\/w.heap.size<=k)(h:lh Q n m b U W z):lh Q n m A U w z:=by
 obtain⟨i,j,l,o⟩:=h;refine⟨i,j,(c.mono λ_ _ e=>.inl e).trans l λk f a=>a.elim (λa=>.inl ((d k a).resolve_right J)) .inr,λk f=>?_⟩;rcases o k f with g|g
 .exact d k g
 .exact .inr (by have:=c.size;omega)
theorem Ll[Lo](Q:Nat->Prop)(B k:Nat)(b:By)(c:Dv->Dv × Nat)(X:Dv->QL->Prop)(a7 a8:Nat)(w:QL)(h:aB w B b)(m:k<b.N)(a9:∀x o,Q x->w.heap[x]?=some o->TB.contains (ty o)=false)(N:∀(D K:Nat) (A:DA) (v:Dv) W,b.dv k=some v->cZ W D K A v.use->Fr TB aF w W->aD 259 #[aq D,aq a7,aq a8] W λe w'=>aK e (.int .u16 ((c v.use).2:Nat))/\lh Q D K A (c v.use).1 W w'/\X v.use w'):
  aD 79 #[aq B,ae k,.func (.func 258) #[] #[],.func (.func 259) #[] #[aq a7,aq a8]] w (ql Q B b k c X w):=by
 obtain⟨S,M,b0,b1,r,wc,f,h⟩:=h;have a0:=ad (oK h k m);have H:=ad h;have R:=h.low;obtain⟨C,f1,z1⟩:=cr h.aL;by_cases F:b.aY=some 0
 .have d:b.op k c=(b.off,50):=by simp[By.op,By.out,F]
  have e2:b.off={b with bq:=true,aY:=none}:=by simp[By.off,F]
  have G:b.out=true:=by simp[By.out,F]
  have a2:=heap_setCell_same _ B 2 _ 100 (ae (-1)) (heap_setCell_same w B 1 _ 100 dU h.aL);have j:=h.nL (w':=(w.setCell (ag B 1) dU).setCell (ag B 2) (ae (-1))) (dk:=true) (tr:=none) (((Out.refl (λk=>k=B) w).setCell (p:=ag B 1) (λ_=>rfl) _).setCell (p:=ag B 2) (λ_=>rfl) _) a2 (λt j=>by cases j);have n:RH (ql Q B b k c X w (.returned (aG 50)) ((w.setCell (ag B 1) dU).setCell (ag B 2) (ae (-1)))):=by refine⟨by rw[d];rfl,?_,j.2.any,λv g=>(by rw[G]at g;cases g),λ_=>j.2⟩;rw[d];show aB _ B b.off;rw[e2];exact⟨_,_,_,_,_,_,_,j.1⟩
  rw[F]at C;go_enter func79,ntmps79;go_wp2_with(first|(go_at_call 140;refine a0.mono ?_;rintro e w' ⟨rfl,rfl⟩));go_ret;exact n
 .have t0:((eO b.aY)==0)=false:=by
   cases j:b.aY with
   |none=>rfl
   |some t=>have:t≠0:=λe=>F (by rw[j,e]);simp[eO];omega
  cases a1:b.bq with
  |true=>
   have G:b.out=true:=by simp[By.out,a1]
   have d:b.op k c=(b.off,50):=by simp[By.op,G]
   have e2:b.off=b:=by simp[By.off,F]
   have n:RH (ql Q B b k c X w (.returned (aG 50)) w):=by refine⟨by rw[d];rfl,?_,Fr.refl _ _ _,λv g=>(by rw[G]at g;cases g),λ_=>Fr.refl _ _ _⟩;rw[d];show aB _ B b.off;rw[e2];exact⟨_,_,_,_,_,_,_,h⟩
   rw[a1]at C;obtain⟨T,b2⟩:=ah (eO b.aY);rw[b2]at C t0;go_enter func79,ntmps79;go_wp2_with(first|(go_at_call 140;refine a0.mono ?_;rintro e w' ⟨rfl,rfl⟩));go_ret;exact n
  |false=>
   have G:b.out=false:=by simp[By.out,a1,F]
   rw[a1]at C;cases j:b.aY with
   |none=>
    rw[j]at C;have l:=ad j;have L:=ad G;have a3:=ad a9;have O:=ad N;simp only[eO]at C;go_enter func79,ntmps79;go_wp2_with(first|(go_at_call 140;refine a0.mono ?_;rintro e w' ⟨rfl,rfl⟩)|(go_at_call 258;refine(qJ _ _ _).mono ?_;rintro e w' ⟨rfl,rfl⟩));obtain⟨q,s⟩:=ah (w.setCell (ag B 3) (ae (XE (r+1))));rw[s];have a:RH ((ej q B S M b0 b1 (XE (r+1)) wc f b.tick/\Fr TB aF w q)/\q.heap.size=w.heap.size):=by rw[<-s];refine⟨H.nL (dk:=b.bq) (tr:=b.tick.aY) ((Out.refl (λk=>k=B) w).setCell (p:=ag B 3) (λ_=>rfl) _) (by have:=heap_setCell_same w B 3 _ 100 (ae (XE (r+1))) H.aL;simp only[By.tick,l.out,VP]at this|-;exact this) ?_,by simp only[SE]⟩;intro t2 E;have h7:=H.low;simp only[By.tick,l.out,VP]at E;cases E
    cases g:b.dv k with
    |none=>
     have n:RH (ql Q B b k c X w (.returned (aG 51)) q):=by
      have d:b.op k c=(b.tick,51):=by simp[By.op,L.out,g]
      refine⟨by rw[d];rfl,?_,a.out.1.2.any,λv _ h=>(by rw[g]at h;cases h),λ_=>a.out.1.2⟩;rw[d];exact⟨_,_,_,_,_,_,_,a.out.1.1⟩
     refine(eH a.out.1.1 k m g).mono ?_;rintro e w' ⟨rfl,rfl⟩;go_wp2;go_ret;exact n
    |some v=>
     have i:=ad g;refine(fB a.out.1.1 k m v g).mono ?_;rintro e w' ⟨rfl,rfl⟩;go_wp2_with fail;refine(jH _ _ _ v q (a.out.1.1.dev k v m i)).mono ?_;rintro e w3 ⟨rfl,a4⟩;have I:=ad a4;obtain⟨A3,g1,g2,g3⟩:=I.out;have G1:=ad g1;have G2:=ad g2;have G3:=ad g3;go_wp2_with fail;refine(O _ _ A3 v w3 i G1 (a.out.1.2.tr ((a.out.1.1.sy m i I).choose_spec.2))).mono ?_;rintro e w4 ⟨rfl,P,V⟩;have n:RH (ql Q B b k c X w (.returned (.int .u16 ((c v.use).2:Nat))) w4):=by
      have d:b.op k c=(b.tick.put k (c v.use).1,(c v.use).2):=by simp[By.op,L.out,i.out]
      obtain⟨a5,g5,g6⟩:=a.out.1.1.wN (Q:=Q) m i (λx o Z Y=>by have y:=Z_ Y;rw[a.out.2]at y;have J:w.heap[x]?=some w.heap[x]:=SH y;have h9:=a3.out x _ Z J;have z:=a.out.1.2.hp J h9;rw[Y]at z;cases z;exact h9) (lh.after G2 G3 P);refine⟨by rw[d],?_,a.out.1.2.any.tr g6,λb3 _ h=>(by rw[i.out]at h;cases h;exact V),λh=>h.elim (λh=>by rw[L.out]at h;cases h) λh=>by rw[i.out]at h;cases h⟩;rw[d];exact⟨_,_,_,_,_,_,_,g5⟩
     go_wp2;go_ret;exact n
   |some t=>
    obtain⟨u,rfl⟩:∃u,t=u+1:=⟨t-1,by have:t≠0:=λe=>F (by rw[j,e]);omega⟩;rw[j]at C;have b4:QQ.wrap (((u+1:Nat):Int)-1)=(u:Nat):=by have:=R _ j;go_arith
    have b5:(0:Int)<((u+1:Nat):Int):=aa;have a6:(((u+1:Nat):Int)==0)=false:=aQ;simp only[eO]at C;obtain⟨U,b6⟩:=ah (u+1);rw[b6]at C b4 b5 a6;have l:=ad j;have L:=ad G;have a3:=ad a9;have O:=ad N;go_enter func79,ntmps79;go_wp2_with(first|(go_at_call 140;refine a0.mono ?_;rintro e w' ⟨rfl,rfl⟩)|(go_at_call 258;refine(qJ _ _ _).mono ?_;rintro e w' ⟨rfl,rfl⟩));obtain⟨q,s⟩:=ah ((w.setCell (ag B 2) (ae u)).setCell (ag B 3) (ae (XE (r+1))));rw[s];have a:RH ((ej q B S M b0 b1 (XE (r+1)) wc f b.tick/\Fr TB aF w q)/\q.heap.size=w.heap.size):=by rw[<-s];refine⟨H.nL (dk:=b.bq) (tr:=b.tick.aY) (((Out.refl (λk=>k=B) w).setCell (p:=ag B 2) (λ_=>rfl) _).setCell (p:=ag B 3) (λ_=>rfl) _) (by have:=heap_setCell_same _ B 3 _ 100 (ae (XE (r+1))) (heap_setCell_same w B 2 _ 100 (ae u) H.aL);simp only[By.tick,l.out,RJ,WB,eO]at this|-;exact this) ?_,by simp only[SE]⟩;intro t2 E;have h7:=H.low;simp only[By.tick,l.out,RJ,WB,SZ]at E;have:=h7 _ l;omega
    cases g:b.dv k with
    |none=>
     have n:RH (ql Q B b k c X w (.returned (aG 51)) q):=by
      have d:b.op k c=(b.tick,51):=by simp[By.op,L.out,g]
      refine⟨by rw[d];rfl,?_,a.out.1.2.any,λv _ h=>(by rw[g]at h;cases h),λ_=>a.out.1.2⟩;rw[d];exact⟨_,_,_,_,_,_,_,a.out.1.1⟩
     refine(eH a.out.1.1 k m g).mono ?_;rintro e w' ⟨rfl,rfl⟩;go_wp2;go_ret;exact n
    |some v=>
     have i:=ad g;refine(fB a.out.1.1 k m v g).mono ?_;rintro e w' ⟨rfl,rfl⟩;go_wp2_with fail;refine(jH _ _ _ v q (a.out.1.1.dev k v m i)).mono ?_;rintro e w3 ⟨rfl,a4⟩;have I:=ad a4;obtain⟨A3,g1,g2,g3⟩:=I.out;have G1:=ad g1;have G2:=ad g2;have G3:=ad g3;go_wp2_with fail;refine(O _ _ A3 v w3 i G1 (a.out.1.2.tr ((a.out.1.1.sy m i I).choose_spec.2))).mono ?_;rintro e w4 ⟨rfl,P,V⟩;have n:RH (ql Q B b k c X w (.returned (.int .u16 ((c v.use).2:Nat))) w4):=by
      have d:b.op k c=(b.tick.put k (c v.use).1,(c v.use).2):=by simp[By.op,L.out,i.out]
      obtain⟨a5,g5,g6⟩:=a.out.1.1.wN (Q:=Q) m i (λx o Z Y=>by have y:=Z_ Y;rw[a.out.2]at y;have J:w.heap[x]?=some w.heap[x]:=SH y;have h9:=a3.out x _ Z J;have z:=a.out.1.2.hp J h9;rw[Y]at z;cases z;exact h9) (lh.after G2 G3 P);refine⟨by rw[d],?_,a.out.1.2.any.tr g6,λb3 _ h=>(by rw[i.out]at h;cases h;exact V),λh=>h.elim (λh=>by rw[L.out]at h;cases h) λh=>by rw[i.out]at h;cases h⟩;rw[d];exact⟨_,_,_,_,_,_,_,g5⟩
     go_wp2;go_ret;exact n
theorem Lm[Lo](Q:Nat->Prop)(B k:Nat)(b:By)(c:Dv->Dv × Nat)(X:Dv->QL->Prop)(a7 a8:Nat)(w:QL)(h:aB w B b)(m:k<b.N)(a9:∀x o,Q x->w.heap[x]?=some o->TB.contains (ty o)=false)(N:∀(D K:Nat) (A:DA) (v:Dv) W,b.dv k=some v->cZ W D K A v.use->Fr TB aF w W->aD 81 #[aq D,aq a7,aq a8] W λe w'=>aK e (.int .u16 ((c v.use).2:Nat))/\lh Q D K A (c v.use).1 W w'/\X v.use w'):
  aD 79 #[aq B,ae k,.func (.func 80) #[] #[],.func (.func 81) #[] #[aq a7,aq a8]] w (ql Q B b k c X w):=by
 obtain⟨S,M,b0,b1,r,wc,f,h⟩:=h;have a0:=ad (oK h k m);have H:=ad h;have R:=h.low;obtain⟨C,f1,z1⟩:=cr h.aL;by_cases F:b.aY=some 0
 .have d:b.op k c=(b.off,50):=by simp[By.op,By.out,F]
  have e2:b.off={b with bq:=true,aY:=none}:=by simp[By.off,F]
  have G:b.out=true:=by simp[By.out,F]
  have a2:=heap_setCell_same _ B 2 _ 100 (ae (-1)) (heap_setCell_same w B 1 _ 100 dU h.aL);have j:=h.nL (w':=(w.setCell (ag B 1) dU).setCell (ag B 2) (ae (-1))) (dk:=true) (tr:=none) (((Out.refl (λk=>k=B) w).setCell (p:=ag B 1) (λ_=>rfl) _).setCell (p:=ag B 2) (λ_=>rfl) _) a2 (λt j=>by cases j);have n:RH (ql Q B b k c X w (.returned (aG 50)) ((w.setCell (ag B 1) dU).setCell (ag B 2) (ae (-1)))):=by refine⟨by rw[d];rfl,?_,j.2.any,λv g=>(by rw[G]at g;cases g),λ_=>j.2⟩;rw[d];show aB _ B b.off;rw[e2];exact⟨_,_,_,_,_,_,_,j.1⟩
  rw[F]at C;go_enter func79,ntmps79;go_wp2_with(first|(go_at_call 140;refine a0.mono ?_;rintro e w' ⟨rfl,rfl⟩));go_ret;exact n
 .have t0:((eO b.aY)==0)=false:=by
   cases j:b.aY with
   |none=>rfl
   |some t=>have:t≠0:=λe=>F (by rw[j,e]);simp[eO];omega
  cases a1:b.bq with
  |true=>
   have G:b.out=true:=by simp[By.out,a1]
   have d:b.op k c=(b.off,50):=by simp[By.op,G]
   have e2:b.off=b:=by simp[By.off,F]
   have n:RH (ql Q B b k c X w (.returned (aG 50)) w):=by refine⟨by rw[d];rfl,?_,Fr.refl _ _ _,λv g=>(by rw[G]at g;cases g),λ_=>Fr.refl _ _ _⟩;rw[d];show aB _ B b.off;rw[e2];exact⟨_,_,_,_,_,_,_,h⟩
   rw[a1]at C;obtain⟨T,b2⟩:=ah (eO b.aY);rw[b2]at C t0;go_enter func79,ntmps79;go_wp2_with(first|(go_at_call 140;refine a0.mono ?_;rintro e w' ⟨rfl,rfl⟩));go_ret;exact n
  |false=>
   have G:b.out=false:=by simp[By.out,a1,F]
   rw[a1]at C;cases j:b.aY with
   |none=>
    rw[j]at C;have l:=ad j;have L:=ad G;have a3:=ad a9;have O:=ad N;simp only[eO]at C;go_enter func79,ntmps79;go_wp2_with(first|(go_at_call 140;refine a0.mono ?_;rintro e w' ⟨rfl,rfl⟩)|(go_at_call 80;refine(oL _ _ _).mono ?_;rintro e w' ⟨rfl,rfl⟩));obtain⟨q,s⟩:=ah (w.setCell (ag B 4) (ae (XE (wc+1))));rw[s];have a:RH ((ej q B S M b0 b1 r (XE (wc+1)) f b.tick/\Fr TB aF w q)/\q.heap.size=w.heap.size):=by rw[<-s];refine⟨H.nL (dk:=b.bq) (tr:=b.tick.aY) ((Out.refl (λk=>k=B) w).setCell (p:=ag B 4) (λ_=>rfl) _) (by have:=heap_setCell_same w B 4 _ 100 (ae (XE (wc+1))) H.aL;simp only[By.tick,l.out,VP]at this|-;exact this) ?_,by simp only[SE]⟩;intro t2 E;have h7:=H.low;simp only[By.tick,l.out,VP]at E;cases E
    cases g:b.dv k with
    |none=>
     have n:RH (ql Q B b k c X w (.returned (aG 51)) q):=by
      have d:b.op k c=(b.tick,51):=by simp[By.op,L.out,g]
      refine⟨by rw[d];rfl,?_,a.out.1.2.any,λv _ h=>(by rw[g]at h;cases h),λ_=>a.out.1.2⟩;rw[d];exact⟨_,_,_,_,_,_,_,a.out.1.1⟩
     refine(eH a.out.1.1 k m g).mono ?_;rintro e w' ⟨rfl,rfl⟩;go_wp2;go_ret;exact n
    |some v=>
     have i:=ad g;refine(fB a.out.1.1 k m v g).mono ?_;rintro e w' ⟨rfl,rfl⟩;go_wp2_with fail;refine(jH _ _ _ v q (a.out.1.1.dev k v m i)).mono ?_;rintro e w3 ⟨rfl,a4⟩;have I:=ad a4;obtain⟨A3,g1,g2,g3⟩:=I.out;have G1:=ad g1;have G2:=ad g2;have G3:=ad g3;go_wp2_with fail;refine(O _ _ A3 v w3 i G1 (a.out.1.2.tr ((a.out.1.1.sy m i I).choose_spec.2))).mono ?_;rintro e w4 ⟨rfl,P,V⟩;have n:RH (ql Q B b k c X w (.returned (.int .u16 ((c v.use).2:Nat))) w4):=by
      have d:b.op k c=(b.tick.put k (c v.use).1,(c v.use).2):=by simp[By.op,L.out,i.out]
      obtain⟨a5,g5,g6⟩:=a.out.1.1.wN (Q:=Q) m i (λx o Z Y=>by have y:=Z_ Y;rw[a.out.2]at y;have J:w.heap[x]?=some w.heap[x]:=SH y;have h9:=a3.out x _ Z J;have z:=a.out.1.2.hp J h9;rw[Y]at z;cases z;exact h9) (lh.after G2 G3 P);refine⟨by rw[d],?_,a.out.1.2.any.tr g6,λb3 _ h=>(by rw[i.out]at h;cases h;exact V),λh=>h.elim (λh=>by rw[L.out]at h;cases h) λh=>by rw[i.out]at h;cases h⟩;rw[d];exact⟨_,_,_,_,_,_,_,g5⟩
     go_wp2;go_ret;exact n
   |some t=>
    obtain⟨u,rfl⟩:∃u,t=u+1:=⟨t-1,by have:t≠0:=λe=>F (by rw[j,e]);omega⟩;rw[j]at C;have b4:QQ.wrap (((u+1:Nat):Int)-1)=(u:Nat):=by have:=R _ j;go_arith
    have b5:(0:Int)<((u+1:Nat):Int):=aa;have a6:(((u+1:Nat):Int)==0)=false:=aQ;simp only[eO]at C;obtain⟨U,b6⟩:=ah (u+1);rw[b6]at C b4 b5 a6;have l:=ad j;have L:=ad G;have a3:=ad a9;have O:=ad N;go_enter func79,ntmps79;go_wp2_with(first|(go_at_call 140;refine a0.mono ?_;rintro e w' ⟨rfl,rfl⟩)|(go_at_call 80;refine(oL _ _ _).mono ?_;rintro e w' ⟨rfl,rfl⟩));obtain⟨q,s⟩:=ah ((w.setCell (ag B 2) (ae u)).setCell (ag B 4) (ae (XE (wc+1))));rw[s];have a:RH ((ej q B S M b0 b1 r (XE (wc+1)) f b.tick/\Fr TB aF w q)/\q.heap.size=w.heap.size):=by rw[<-s];refine⟨H.nL (dk:=b.bq) (tr:=b.tick.aY) (((Out.refl (λk=>k=B) w).setCell (p:=ag B 2) (λ_=>rfl) _).setCell (p:=ag B 4) (λ_=>rfl) _) (by have:=heap_setCell_same _ B 4 _ 100 (ae (XE (wc+1))) (heap_setCell_same w B 2 _ 100 (ae u) H.aL);simp only[By.tick,l.out,RJ,WB,eO]at this|-;exact this) ?_,by simp only[SE]⟩;intro t2 E;have h7:=H.low;simp only[By.tick,l.out,RJ,WB,SZ]at E;have:=h7 _ l;omega
    cases g:b.dv k with
    |none=>
     have n:RH (ql Q B b k c X w (.returned (aG 51)) q):=by
      have d:b.op k c=(b.tick,51):=by simp[By.op,L.out,g]
      refine⟨by rw[d];rfl,?_,a.out.1.2.any,λv _ h=>(by rw[g]at h;cases h),λ_=>a.out.1.2⟩;rw[d];exact⟨_,_,_,_,_,_,_,a.out.1.1⟩
     refine(eH a.out.1.1 k m g).mono ?_;rintro e w' ⟨rfl,rfl⟩;go_wp2;go_ret;exact n
    |some v=>
     have i:=ad g;refine(fB a.out.1.1 k m v g).mono ?_;rintro e w' ⟨rfl,rfl⟩;go_wp2_with fail;refine(jH _ _ _ v q (a.out.1.1.dev k v m i)).mono ?_;rintro e w3 ⟨rfl,a4⟩;have I:=ad a4;obtain⟨A3,g1,g2,g3⟩:=I.out;have G1:=ad g1;have G2:=ad g2;have G3:=ad g3;go_wp2_with fail;refine(O _ _ A3 v w3 i G1 (a.out.1.2.tr ((a.out.1.1.sy m i I).choose_spec.2))).mono ?_;rintro e w4 ⟨rfl,P,V⟩;have n:RH (ql Q B b k c X w (.returned (.int .u16 ((c v.use).2:Nat))) w4):=by
      have d:b.op k c=(b.tick.put k (c v.use).1,(c v.use).2):=by simp[By.op,L.out,i.out]
      obtain⟨a5,g5,g6⟩:=a.out.1.1.wN (Q:=Q) m i (λx o Z Y=>by have y:=Z_ Y;rw[a.out.2]at y;have J:w.heap[x]?=some w.heap[x]:=SH y;have h9:=a3.out x _ Z J;have z:=a.out.1.2.hp J h9;rw[Y]at z;cases z;exact h9) (lh.after G2 G3 P);refine⟨by rw[d],?_,a.out.1.2.any.tr g6,λb3 _ h=>(by rw[i.out]at h;cases h;exact V),λh=>h.elim (λh=>by rw[L.out]at h;cases h) λh=>by rw[i.out]at h;cases h⟩;rw[d];exact⟨_,_,_,_,_,_,_,g5⟩
     go_wp2;go_ret;exact n
theorem Ln[Lo](Q:Nat->Prop)(B k:Nat)(b:By)(c:Dv->Dv × Nat)(X:Dv->QL->Prop)(w:QL)(h:aB w B b)(m:k<b.N)(a7:∀x o,Q x->w.heap[x]?=some o->TB.contains (ty o)=false)(N:∀(D K:Nat) (A:DA) (v:Dv) W,b.dv k=some v->cZ W D K A v.use->Fr TB aF w W->aD 90 #[aq D] W λe w'=>aK e (.int .u16 ((c v.use).2:Nat))/\lh Q D K A (c v.use).1 W w'/\X v.use w'):
  aD 79 #[aq B,ae k,.func (.func 89) #[] #[],.func (.func 90) #[] #[]] w (ql Q B b k c X w):=by
 obtain⟨S,M,a8,a9,r,wc,f,h⟩:=h;have a0:=ad (oK h k m);have H:=ad h;have R:=h.low;obtain⟨C,f1,z1⟩:=cr h.aL;by_cases F:b.aY=some 0
 .have d:b.op k c=(b.off,50):=by simp[By.op,By.out,F]
  have e2:b.off={b with bq:=true,aY:=none}:=by simp[By.off,F]
  have G:b.out=true:=by simp[By.out,F]
  have a2:=heap_setCell_same _ B 2 _ 100 (ae (-1)) (heap_setCell_same w B 1 _ 100 dU h.aL);have j:=h.nL (w':=(w.setCell (ag B 1) dU).setCell (ag B 2) (ae (-1))) (dk:=true) (tr:=none) (((Out.refl (λk=>k=B) w).setCell (p:=ag B 1) (λ_=>rfl) _).setCell (p:=ag B 2) (λ_=>rfl) _) a2 (λt j=>by cases j);have n:RH (ql Q B b k c X w (.returned (aG 50)) ((w.setCell (ag B 1) dU).setCell (ag B 2) (ae (-1)))):=by refine⟨by rw[d];rfl,?_,j.2.any,λv g=>(by rw[G]at g;cases g),λ_=>j.2⟩;rw[d];show aB _ B b.off;rw[e2];exact⟨_,_,_,_,_,_,_,j.1⟩
  rw[F]at C;go_enter func79,ntmps79;go_wp2_with(first|(go_at_call 140;refine a0.mono ?_;rintro e w' ⟨rfl,rfl⟩));go_ret;exact n
 .have t0:((eO b.aY)==0)=false:=by
   cases j:b.aY with
   |none=>rfl
   |some t=>have:t≠0:=λe=>F (by rw[j,e]);simp[eO];omega
  cases a1:b.bq with
  |true=>
   have G:b.out=true:=by simp[By.out,a1]
   have d:b.op k c=(b.off,50):=by simp[By.op,G]
   have e2:b.off=b:=by simp[By.off,F]
   have n:RH (ql Q B b k c X w (.returned (aG 50)) w):=by refine⟨by rw[d];rfl,?_,Fr.refl _ _ _,λv g=>(by rw[G]at g;cases g),λ_=>Fr.refl _ _ _⟩;rw[d];show aB _ B b.off;rw[e2];exact⟨_,_,_,_,_,_,_,h⟩
   rw[a1]at C;obtain⟨T,b0⟩:=ah (eO b.aY);rw[b0]at C t0;go_enter func79,ntmps79;go_wp2_with(first|(go_at_call 140;refine a0.mono ?_;rintro e w' ⟨rfl,rfl⟩));go_ret;exact n
  |false=>
   have G:b.out=false:=by simp[By.out,a1,F]
   rw[a1]at C;cases j:b.aY with
   |none=>
    rw[j]at C;have l:=ad j;have L:=ad G;have a3:=ad a7;have O:=ad N;simp only[eO]at C;go_enter func79,ntmps79;go_wp2_with(first|(go_at_call 140;refine a0.mono ?_;rintro e w' ⟨rfl,rfl⟩)|(go_at_call 89;refine(nc _ _ _).mono ?_;rintro e w' ⟨rfl,rfl⟩));obtain⟨q,s⟩:=ah (w.setCell (ag B 5) (ae (XE (f+1))));rw[s];have a:RH ((ej q B S M a8 a9 r wc (XE (f+1)) b.tick/\Fr TB aF w q)/\q.heap.size=w.heap.size):=by rw[<-s];refine⟨H.nL (dk:=b.bq) (tr:=b.tick.aY) ((Out.refl (λk=>k=B) w).setCell (p:=ag B 5) (λ_=>rfl) _) (by have:=heap_setCell_same w B 5 _ 100 (ae (XE (f+1))) H.aL;simp only[By.tick,l.out,VP]at this|-;exact this) ?_,by simp only[SE]⟩;intro t2 E;have h7:=H.low;simp only[By.tick,l.out,VP]at E;cases E
    cases g:b.dv k with
    |none=>
     have n:RH (ql Q B b k c X w (.returned (aG 51)) q):=by
      have d:b.op k c=(b.tick,51):=by simp[By.op,L.out,g]
      refine⟨by rw[d];rfl,?_,a.out.1.2.any,λv _ h=>(by rw[g]at h;cases h),λ_=>a.out.1.2⟩;rw[d];exact⟨_,_,_,_,_,_,_,a.out.1.1⟩
     refine(eH a.out.1.1 k m g).mono ?_;rintro e w' ⟨rfl,rfl⟩;go_wp2;go_ret;exact n
    |some v=>
     have i:=ad g;refine(fB a.out.1.1 k m v g).mono ?_;rintro e w' ⟨rfl,rfl⟩;go_wp2_with fail;refine(jH _ _ _ v q (a.out.1.1.dev k v m i)).mono ?_;rintro e w3 ⟨rfl,a4⟩;have I:=ad a4;obtain⟨A3,g1,g2,g3⟩:=I.out;have G1:=ad g1;have G2:=ad g2;have G3:=ad g3;go_wp2_with fail;refine(O _ _ A3 v w3 i G1 (a.out.1.2.tr ((a.out.1.1.sy m i I).choose_spec.2))).mono ?_;rintro e w4 ⟨rfl,P,V⟩;have n:RH (ql Q B b k c X w (.returned (.int .u16 ((c v.use).2:Nat))) w4):=by
      have d:b.op k c=(b.tick.put k (c v.use).1,(c v.use).2):=by simp[By.op,L.out,i.out]
      obtain⟨a5,g5,g6⟩:=a.out.1.1.wN (Q:=Q) m i (λx o Z Y=>by have y:=Z_ Y;rw[a.out.2]at y;have J:w.heap[x]?=some w.heap[x]:=SH y;have h9:=a3.out x _ Z J;have z:=a.out.1.2.hp J h9;rw[Y]at z;cases z;exact h9) (lh.after G2 G3 P);refine⟨by rw[d],?_,a.out.1.2.any.tr g6,λb1 _ h=>(by rw[i.out]at h;cases h;exact V),λh=>h.elim (λh=>by rw[L.out]at h;cases h) λh=>by rw[i.out]at h;cases h⟩;rw[d];exact⟨_,_,_,_,_,_,_,g5⟩
     go_wp2;go_ret;exact n
   |some t=>
    obtain⟨u,rfl⟩:∃u,t=u+1:=⟨t-1,by have:t≠0:=λe=>F (by rw[j,e]);omega⟩;rw[j]at C;have b2:QQ.wrap (((u+1:Nat):Int)-1)=(u:Nat):=by have:=R _ j;go_arith
    have b3:(0:Int)<((u+1:Nat):Int):=aa;have a6:(((u+1:Nat):Int)==0)=false:=aQ;simp only[eO]at C;obtain⟨U,b4⟩:=ah (u+1);rw[b4]at C b2 b3 a6;have l:=ad j;have L:=ad G;have a3:=ad a7;have O:=ad N;go_enter func79,ntmps79;go_wp2_with(first|(go_at_call 140;refine a0.mono ?_;rintro e w' ⟨rfl,rfl⟩)|(go_at_call 89;refine(nc _ _ _).mono ?_;rintro e w' ⟨rfl,rfl⟩));obtain⟨q,s⟩:=ah ((w.setCell (ag B 2) (ae u)).setCell (ag B 5) (ae (XE (f+1))));rw[s];have a:RH ((ej q B S M a8 a9 r wc (XE (f+1)) b.tick/\Fr TB aF w q)/\q.heap.size=w.heap.size):=by rw[<-s];refine⟨H.nL (dk:=b.bq) (tr:=b.tick.aY) (((Out.refl (λk=>k=B) w).setCell (p:=ag B 2) (λ_=>rfl) _).setCell (p:=ag B 5) (λ_=>rfl) _) (by have:=heap_setCell_same _ B 5 _ 100 (ae (XE (f+1))) (heap_setCell_same w B 2 _ 100 (ae u) H.aL);simp only[By.tick,l.out,RJ,WB,eO]at this|-;exact this) ?_,by simp only[SE]⟩;intro t2 E;have h7:=H.low;simp only[By.tick,l.out,RJ,WB,SZ]at E;have:=h7 _ l;omega
    cases g:b.dv k with
    |none=>
     have n:RH (ql Q B b k c X w (.returned (aG 51)) q):=by
      have d:b.op k c=(b.tick,51):=by simp[By.op,L.out,g]
      refine⟨by rw[d];rfl,?_,a.out.1.2.any,λv _ h=>(by rw[g]at h;cases h),λ_=>a.out.1.2⟩;rw[d];exact⟨_,_,_,_,_,_,_,a.out.1.1⟩
     refine(eH a.out.1.1 k m g).mono ?_;rintro e w' ⟨rfl,rfl⟩;go_wp2;go_ret;exact n
    |some v=>
     have i:=ad g;refine(fB a.out.1.1 k m v g).mono ?_;rintro e w' ⟨rfl,rfl⟩;go_wp2_with fail;refine(jH _ _ _ v q (a.out.1.1.dev k v m i)).mono ?_;rintro e w3 ⟨rfl,a4⟩;have I:=ad a4;obtain⟨A3,g1,g2,g3⟩:=I.out;have G1:=ad g1;have G2:=ad g2;have G3:=ad g3;go_wp2_with fail;refine(O _ _ A3 v w3 i G1 (a.out.1.2.tr ((a.out.1.1.sy m i I).choose_spec.2))).mono ?_;rintro e w4 ⟨rfl,P,V⟩;have n:RH (ql Q B b k c X w (.returned (.int .u16 ((c v.use).2:Nat))) w4):=by
      have d:b.op k c=(b.tick.put k (c v.use).1,(c v.use).2):=by simp[By.op,L.out,i.out]
      obtain⟨a5,g5,g6⟩:=a.out.1.1.wN (Q:=Q) m i (λx o Z Y=>by have y:=Z_ Y;rw[a.out.2]at y;have J:w.heap[x]?=some w.heap[x]:=SH y;have h9:=a3.out x _ Z J;have z:=a.out.1.2.hp J h9;rw[Y]at z;cases z;exact h9) (lh.after G2 G3 P);refine⟨by rw[d],?_,a.out.1.2.any.tr g6,λb1 _ h=>(by rw[i.out]at h;cases h;exact V),λh=>h.elim (λh=>by rw[L.out]at h;cases h) λh=>by rw[i.out]at h;cases h⟩;rw[d];exact⟨_,_,_,_,_,_,_,g5⟩
     go_wp2;go_ret;exact n
theorem Dv.Cr(v:Dv):v.use.d.n=v.d.n:=by
 unfold Dv.use;split
 .split<;>rfl
 .rfl
theorem Dv.Cs(v:Dv):v.use.d.cn<=v.d.cn:=by
 unfold Dv.use;split
 .split
  .exact QX _
  .exact QP _
 .exact QP _
def OW[Lo](B:Nat)(b:By)(k d:Nat)(w:M)(e:SG)(f:M):Prop:=
 ∃a n c,aK e (.tuple #[.slice a n c,.int .u16 ((b.op k bS).2:Nat)])/\aB f B (b.op k bS).1/\Fr TB aF w f/\((b.op k bS).2=0->∃v,b.dv k=some v/\v.use.d.failed=false/\cN f (.slice a n c) 128 (v.use.d.view d)/\n<=c)
def RX(e b:Nat)(v:Dv)(d:M):Prop:=∃a n c,d.heap[e]?=some (N #[.slice a n c] 41)/\(v.d.failed=false->cN d (.slice a n c) 128 (v.d.view b)/\n<=c)
theorem mq[Lo](B k d:Nat)(b:By)(w:QL)(h:aB w B b)(a2:k<b.N)(a3:∀v,b.dv k=some v->d<v.d.n):aD 185 #[aq B,ae k,ae d] w (OW B b k d w):=by
 obtain⟨W,z⟩:=ah ((w.alloc (ao #[ae d] 3)).alloc (ao #[aU] 41));have N:ar w W:=by rw[<-z];exact aI (aI aj _) _
 have a9:W.heap.size=w.heap.size+2:=by rw[<-z];simp
 have h1:W.heap[w.heap.size]?=some (ao #[ae d] 3):=by rw[<-z];exact fX _ _ _
 have F:W.heap[w.heap.size+1]?=some (ao #[aU] 41):=by rw[<-z];exact fg _ _ _
 have G:=Ll (λx=>x=w.heap.size+1) B k b bS (RX (w.heap.size+1) d) w.heap.size (w.heap.size+1) W (h.below N) a2 (λx o i j=>by subst i;rw[F]at j;cases j;rfl) (by
  intro D K A v M q r R;have I:=R.hp h1 rfl;have C:=R.hp F rfl;have L:d<v.use.d.n:=by rw[Dv.Cr];exact a3 v q
  cases f:v.use.d.failed with
  |true=>
   have O:bS v.use=(v.use,2):=by simp[bS,f]
   rw[O];refine(ug D K _ _ A v.use d M r f I C).mono ?_;rintro e a4 ⟨rfl,l,g⟩;exact⟨rfl,⟨A,r.out g (λx i e=>by subst e;obtain⟨o,m,t⟩:=r.ty i;rw[C]at m;cases m;cases t),g.mono λ_ _ e=>.inr e,λ_ h=>.inl h⟩,_,_,_,l,λh=>by rw[f]at h;cases h⟩
  |false=>
   have O:bS v.use=(v.use,0):=by simp[bS,f]
   rw[O];refine(FK D K _ _ A v.use d M r f L I C).mono ?_;rintro e a4 ⟨u,rfl,l,Y,g,q4⟩;obtain⟨b0,b1,rfl⟩:=Y.form;exact⟨rfl,⟨A,r.out g (λx i e=>by subst e;obtain⟨o,m,t⟩:=r.ty i;rw[C]at m;cases m;cases t),g.mono λ_ _ e=>.inr e,λ_ h=>.inl h⟩,_,_,_,l,λ_=>⟨Y,q4⟩⟩)
 have P:=ad G;have a5:=ad N;have J:=ad F;have Q:Lo.lo<=w.heap.size+1:=by have:=h.lo;have:=h.lt;omega
 go_enter func185,ntmps185;go_wp2_with fail;refine P.mono ?_;rintro e s ⟨rfl,S,T,i,a0⟩;have U:∃a n c,s.heap[w.heap.size+1]?=some (ao #[.slice a n c] 41)/\((b.op k bS).2=0->∃v,b.dv k=some v/\v.use.d.failed=false/\cN s (.slice a n c) 128 (v.use.d.view d)/\n<=c):=by
  cases j:b.out with
  |true=>exact⟨_,_,_,(a0 (.inl j)).hp J rfl,λh=>by simp[By.op,j]at h⟩
  |false=>
   cases q:b.dv k with
   |none=>exact⟨_,_,_,(a0 (.inr q)).hp J rfl,λh=>by simp[By.op,j,q]at h⟩
   |some v=>
    obtain⟨a,n,c,l,g⟩:=i v j q;refine⟨a,n,c,l,λh=>⟨v,rfl,?_⟩⟩;have f:v.use.d.failed=false:=by
     cases a6:v.use.d.failed with
     |false=>rfl
     |true=>simp[By.op,j,q,bS,a6]at h
    exact⟨f,g f⟩
 obtain⟨a,n,c,l,g⟩:=U;obtain⟨E,a1⟩:=ah ((b.op k bS).2);obtain⟨k1,f1,z1⟩:=cr l;have V:RH (Fr TB aF w s):=(Fr.af a5).trans (T.mono (λ_ h=>h) λ_ _ e=>e) λx i e=>aa;have X:=ad S;have Z:=ad g;have H:=ad l;have a7:=ad a1;rw[a1];go_wp2;refine RB (v:=.tuple #[.slice a n c,aG E]) (by simp[RV,results185,go_sem,k1]) rfl ?_;have a8:Fr TB aF w (s.setCell ⟨w.heap.size+1,0,none⟩ (.slice a n c)):=V.new (p:=⟨w.heap.size+1,0,none⟩) (by show w.heap.size<=w.heap.size+1;omega) _;have y:Fr [41] aF s (s.setCell ⟨w.heap.size+1,0,none⟩ (.slice a n c)):=(Fr.refl _ _ _).set (p:=⟨w.heap.size+1,0,none⟩) H rfl Q _;refine⟨a,n,c,by rw[a7.out],X.fn y rfl,a8,λh0=>?_⟩;obtain⟨v,m,t,r3,r4⟩:=Z.out h0;exact⟨v,m,t,r3.fr y rfl,r4⟩
def zM[Lo](B:Nat)(b:By)(k:Nat)(a:Dv->Dv × Nat)(w:M)(e:SG)(c:M):Prop:=
 aK e (.int .u16 ((b.op k a).2:Nat))/\aB c B (b.op k a).1/\Fr TB aF w c
theorem cN.fn[Lo](h:cN w v n f)(a:Fr TB aF w W):cN W v n f:=h.fr a rfl
theorem fo[Lo](B k a:Nat)(u:QN)(f:aO)(b:By)(w:M)(h:aB w B b)(S:k<b.N)(E:cN w u 128 f)(F:∀v,b.dv k=some v->a<v.d.n/\v.d.cn<1000000000000):aD 52 #[aq B,Y k,Y a,u] w (zM B b k (aN a f) w):=by
 obtain⟨G,L,rfl⟩:=E.form;obtain⟨W,g⟩:=ah ((w.alloc (ao #[Y a] 3)).alloc (ao #[.slice G 128 L] 41));have i:ar w W:=by rw[<-g];exact aI (aI aj _) _
 have T:aZ W w.heap.size (ao #[Y a] 3):=by rw[<-g];exact fX _ _ _
 have U:aZ W (w.heap.size+1) (ao #[.slice G 128 L] 41):=by rw[<-g];exact fg _ _ _
 have j:=E.below i;have l:=Lm aF B k b (aN a f) (λ_ _=>True) w.heap.size (w.heap.size+1) W (h.below i) S (λx o V _=>V.elim) (by
  intro D K A v m O n p;have P:=p.hp T rfl;have Q:=p.hp U rfl;have r:a<v.use.d.n:=by rw[Dv.Cr];exact(F v O).1
  have s:v.use.d.cn<1000000000000:=Nat.lt_of_le_of_lt (Dv.Cs v) (F v O).2;cases c:v.use.d.failed with
  |true=>
   have t:aN a f v.use=(v.use,2):=by simp[aN,c]
   rw[t];refine(uh D K _ _ A v.use a _ _ _ m n c P Q).mono ?_;rintro e X ⟨rfl,q,rfl⟩;exact⟨rfl,⟨A,n.out ((Out.refl aF m).drewN q) λ_ _ e=>e,(Out.refl _ _).drewN q,λ_ h=>.inl h⟩,trivial⟩
  |false=>
   have t:aN a f v.use=({v.use with d:=v.use.d.wr a f},0):=by simp[aN,c]
   rw[t];refine(FL D K _ _ A v.use a _ f m n c r s (j.fn p).BH P Q).mono ?_;rintro e X ⟨rfl,Z⟩;exact⟨rfl,Z.q,trivial⟩)
 have y:=I l;have H:=I i;go_enter func52,ntmps52;go_wp2_with(first|(go_at_call 79;refine y.mono ?_;rintro e N ⟨rfl,z,C,-,-⟩));go_ret;exact⟨rfl,z,(Fr.af H).tr C⟩
theorem gu[Lo](B k:Nat)(b:By)(w:M)(h:aB w B b)(n:k<b.N):aD 56 #[H B,Y k] w (zM B b k ba w):=by
 have c:=Ln aF B k b ba (λ_ _=>True) w h n (λx o p _=>p.elim) (by
  intro D K A v m s f t;cases a:v.use.d.failed with
  |true=>
   have g:ba v.use=(v.use,2):=by simp[ba,a]
   rw[g];refine(ui D K A v.use m f a).mono ?_;rintro e q ⟨rfl,rfl⟩;exact⟨rfl,(mo.refl f).q,trivial⟩
  |false=>
   have g:ba v.use=({v.use with d:=v.use.d.settled λ_=>true},0):=by simp[ba,a]
   rw[g];refine(FM D K A v.use m f a).mono ?_;rintro e q ⟨rfl,r⟩;exact⟨rfl,r.q,trivial⟩)
 have i:=I c;go_enter func56,ntmps56;go_wp2_with(first|(go_at_call 79;refine i.mono ?_;rintro e u ⟨rfl,j,l,-,-⟩));go_ret;exact⟨rfl,j,l⟩
def zN[Lo](B:Nat)(b:By)(c:Nat)(w:M)(e:SG)(a:M):Prop:=aK e (aG c)/\aB a B b/\Fr TB aF w a
theorem Ct[Lo](B k:Nat)(b:By)(v:Dv)(w:M)(h:aB w B b)(g:k<b.N)(i:b.dv k=some v):aD 62 #[H B,Y k] w (zN B (b.put k {v with d:=v.d.dead}) 0 w):=by
 obtain⟨S,o,n,y,r,wc,f,h⟩:=h;have p:=I (fB h k g v i);have j:=h.dev k v g i;obtain⟨z,f1,A⟩:=cr j.aL;have q:=I (uf _ _ _ w j.sw);have c:∀a,k_ (n k).K (n k).A v.d.dead w a->aB a B (b.put k {v with d:=v.d.dead})/\Fr TB aF w a:=λa l=>by obtain⟨s,t,u⟩:=h.sy g i (j.Co l);exact⟨⟨_,_,_,_,_,_,_,t⟩,u⟩
 have m:=I c;go_enter func62,ntmps62;go_wp2_with(first|(go_at_call 115;refine p.mono ?_;rintro e a ⟨rfl,rfl⟩)|(go_at_call 116;refine q.mono ?_;rintro e a ⟨rfl,l⟩;have x:=I l));go_ret;exact⟨rfl,m _ x⟩
theorem wO[Lo](B k:Nat)(b:By)(w:M)(h:aB w B b)(a:k<b.N)(c:b.dv k=none):aD 62 #[H B,Y k] w (zN B b 51 w):=by have d:=I h;obtain⟨S,g,j,l,r,wc,f,h⟩:=h;have i:=I (eH h k a c);go_enter func62,ntmps62;go_wp2_with(first|(go_at_call 115;refine i.mono ?_;rintro e m ⟨rfl,rfl⟩));go_ret;exact⟨rfl,d,Fr.refl _ _ _⟩
theorem Cu[Lo](B k n:Nat)(b:By)(v:Dv)(w:M)(h:aB w B b)(d:k<b.N)(g:b.dv k=some v)(l:n<=1000000):aD 70 #[H B,Y k,Y n] w (zN B (b.put k {v with fO:=true,left:=n}) 0 w):=by obtain⟨S,m,a,z,r,wc,f,h⟩:=h;have o:=I (fB h k d v g);have c:=h.dev k v d g;obtain⟨A,f1,C⟩:=cr c.aL;have q:=heap_setCell_same _ (a k).D 2 _ 106 (Y n) (heap_setCell_same w (a k).D 1 _ 106 dU c.aL);have j:Out (λx=>x=(a k).D) w ((w.setCell ⟨(a k).D,1,none⟩ dU).setCell ⟨(a k).D,2,none⟩ (Y n)):=((Out.refl (λx=>x=(a k).D) w).setCell (p:=⟨(a k).D,1,none⟩) (λ_=>rfl) _).setCell (p:=⟨(a k).D,2,none⟩) (λ_=>rfl) _;obtain⟨s,t,u⟩:=h.sy (v':={v with fO:=true,left:=n}) d g (w':=(w.setCell ⟨(a k).D,1,none⟩ dU).setCell ⟨(a k).D,2,none⟩ (Y n)) ⟨(a k).A,⟨q,c.sw.out j λx y e=>c.ne y e,l⟩,j.mono λ_ _ e=>.inl e,λ_ h=>.inl h⟩;have i:RH (zN B (b.put k {v with fO:=true,left:=n}) 0 w (.returned (aG 0)) ((w.setCell ⟨(a k).D,1,none⟩ dU).setCell ⟨(a k).D,2,none⟩ (Y n))):=⟨rfl,⟨_,_,_,_,_,_,_,t⟩,u⟩;have d1:decide ((n:Int)<0)=false:=aJ;go_enter func70,ntmps70;go_wp2_with(first|(go_at_call 115;refine o.mono ?_;rintro e w' ⟨rfl,rfl⟩));go_ret;exact i
def Nb(w:M)(e:SG)(a:M):Prop:=∃r wc f:Int,aK e (.agg #[Y r,Y wc,Y f])/\ar w a
theorem uj[Lo](B:Nat)(b:By)(w:M)(h:aB w B b):aD 43 #[H B] w (Nb w):=by obtain⟨S,a,c,d,r,wc,f,h⟩:=h;obtain⟨e,f1,g⟩:=cr h.aL;go_enter func43,ntmps43;go_wp2;refine RB (v:=.agg #[Y r,Y wc,Y f]) (by simp[RV,results43,go_sem]) rfl ⟨r,wc,f,rfl,?_⟩;exact aI aj _
theorem ej.swap[Lo]{B:Nat->we}{L:Nat->Option TF}{r wc f:Int}(h:ej w n m C B L r wc f b){k D K:Nat}{A:DA}(S:k<b.N)(O:ar w W)(T:cZ W D K A U)(v:∀x,VZ D K A x->w.heap.size<=x):
  (∃E,ej (W.setCell ⟨m,k*3,none⟩ (H D)) n m C E L r wc f (b.put k U))/\Fr TB aF w (W.setCell ⟨m,k*3,none⟩ (H D)):=by
 have F:=(O.block m (Z_ h.dd)).trans h.dd;have P:Out (λx=>x=m) W (W.setCell ⟨m,k*3,none⟩ (H D)):=(Out.refl (λx=>x=m) W).setCell (p:=⟨m,k*3,none⟩) (λ_=>rfl) _;have g:Out (λx=>x=m) w (W.setCell ⟨m,k*3,none⟩ (H D)):=(Out.af O).tr P;have V:=Z_ h.dd;refine⟨⟨λj=>if j=k then⟨D,K,A⟩else B j,g.heap h.aL h.OV,?_,λj u d c=>?_,λi j X d o G y x a l=>?_,h.low,h.top,h.lo,λj u d c x a=>?_⟩,g.FN λx _ e=>by subst e;exact⟨⟨_,h.dd,rfl⟩,h.lo.2⟩⟩
 .rw [heap_setCell_same W m (k*3) _ 108 _ F,wL _ _ _ _ _ S];congr 2;apply k'
  .intro j d;unfold oJ By.put;by_cases e:j=k
   .subst e;simp
   .simp [e]
  .intros;rfl
 .by_cases e:j=k
  .subst e;simp only[By.put,if_true,SZ]at c|-;subst c;exact T.out P λx a e=>by have:=v x a;omega
  .simp only[By.put,al e]at c|-;exact(h.dev j u d c).out g λx a e=>(h.Na d c a).2 e
 .have q:i<b.N:=X;have s:j<b.N:=d;have t:∀i x,(B i).Z x->(b.dv i).isSome=true->i<b.N->x<w.heap.size:=λi x a Z d=>by obtain⟨u,c⟩:=WM.1 Z;exact(h.dev i u d c).lt a
  by_cases Q:i=k
  .subst Q;have z:¬j=i:=λe=>o e.symm;simp only[By.put,al z]at y l;simp only[if_true]at a;have:=v x a;have:=t j x l y s;omega
  .simp only[By.put,al Q]at G a;by_cases z:j=k
   .subst z;simp only[if_true]at l;have:=v x l;have:=t i x a G q;omega
   .simp only[By.put,al z]at y l;exact h.apart i j q s o G y x a l
 .by_cases e:j=k
  .subst e;simp only[if_true,we.Z]at a;have:=v x a;have:=Z_ h.aL;have:=h.lo.1;omega
  .simp only[By.put,al e]at c;simp only[al e]at a;exact h.Ja j u d c x a
theorem Cv[Lo]{d:Nat->we}{o:Nat->Option TF}{r wc f:Int}(h:ej w n m i d o r wc f b)(k:Nat)(c:k<b.N)(v:Dv)(g:b.dv k=some v)(p:v.d.failed=true):aD 141 #[.pointer (some ⟨m,k*3,none⟩)] w λe j=>aK e iD/\w=j:=by
 have t:w.cell? ⟨m,k*3,none⟩=some (.pointer (some ⟨(d k).D,0,none⟩)):=by rw[(cr h.dd).1,gm _ _ _ c];simp[oJ,g]
 have q:w.cell? ⟨m,k*3+2,none⟩=some (.pointer none):=by rw[(cr h.dd).1,jI _ _ _ c]
 have l:=h.dev k v c g;have a:=oH _ _ _ w l.sw;rw[p]at a;have s:=I a;obtain⟨u,f1,x⟩:=cr l.aL;go_enter func141,ntmps141;go_wp2_with(first|(go_at_call 77;refine s.mono ?_;rintro e j ⟨rfl,rfl⟩));go_ret;exact⟨rfl,rfl⟩
theorem zO[Lo]{d:Nat->we}{g:Nat->Option TF}{r wc f:Int}(h:ej w n m i d g r wc f b)(k:Nat)(a:k<b.N)(j:∀v,b.dv k=some v->v.d.failed=true):aD 141 #[.pointer (some ⟨m,k*3,none⟩)] w λe l=>aK e iD/\w=l:=by
 cases c:b.dv k with
 |some v=>exact Cv h k a v c (j v c)
 |none=>
  have p:w.cell? ⟨m,k*3,none⟩=some (.pointer none):=by rw[(cr h.dd).1,gm _ _ _ a];simp[oJ,c]
  have o:w.cell? ⟨m,k*3+2,none⟩=some (.pointer none):=by rw[(cr h.dd).1,jI _ _ _ a]
  go_enter func141,ntmps141;go_wp2;go_ret;exact⟨rfl,rfl⟩
theorem Cw(g n:Nat)(w:M)(h:aZ w g (N #[Y n] 3))(b:1<=n)(a:n<=8192):aD 119 #[H g] w (Lj n w):=by obtain⟨l,f1,m⟩:=cr h;have c:=I (yu n w b a);go_enter func119,ntmps119;go_wp2_with(first|(go_at_call 48;refine c.mono ?_;rintro e o ⟨K,A,rfl,a,d,f⟩;have i:=I a;have j:=I d;have k:=I f));go_ret2;exact⟨K,A,rfl,i,j,k⟩
theorem Cy[Lo](B k n:Nat)(b:By)(w:QL)(h:aB w B b)(d:k<b.N)(D:∀v,b.dv k=some v->v.d.failed=true)(E:1<=n)(i:n<=8192):aD 66 #[aq B,ae k,ae n] w (zN B (b.put k ⟨Dk.fresh n,false,0⟩) 0 w):=by
 have j:∀g (W:QL),aB W B b->aZ W g (ao #[ae n] 3)->aD 118 #[aq B,ae k,.func (.func 119) #[] #[aq g]] W (zN B (b.put k ⟨Dk.fresh n,false,0⟩) 0 W):=by intro g W h F;obtain⟨S,G,L,a2,r,wc,f,h⟩:=h;have O:=ad (oK h k d);have P:=ad (zO h k d D);have Q:=ad (Cw g n W F E i);have T:=ad h;obtain⟨U,f1,l⟩:=cr h.dd;have u:=U (k*3);rw[gm _ _ _ d]at u;have m:=f1 (k*3);go_enter func118,ntmps118;go_wp2_with(first|(go_at_call 140;refine O.mono ?_;rintro e V ⟨rfl,rfl⟩)|(go_at_call 141;refine P.mono ?_;rintro e V ⟨rfl,rfl⟩)|(go_at_call 119;refine Q.mono ?_;rintro e a ⟨K,A,rfl,i,X,Z⟩;have H:=ad i;have N:=ad X;have c:=ad Z;have M:a.cell? ⟨S,k*3,none⟩=some (.pointer (oJ b L k)):=(c.cell (p:=⟨S,k*3,none⟩) l).trans u;have R:a.frozen? ⟨S,k*3,none⟩=false:=(c.frozen (p:=⟨S,k*3,none⟩) l).trans m;have o:S<a.heap.size:=RS l c.size));go_ret;have q:ar W (a.alloc (ao #[aq K,.bool false,ae 0] 106)):=aI c _;have I:cZ (a.alloc (ao #[aq K,.bool false,ae 0] 106)) a.heap.size K A ⟨Dk.fresh n,false,0⟩:=⟨QM _ _,H.below (aI aj _),QX _⟩;obtain⟨⟨Y,y⟩,z⟩:=T.swap d q I (λx J=>J.elim (λe=>by subst e;exact c.size) (N x));rw[World.setCell_alloc_past _ _ _ _ o]at y z;exact⟨rfl,⟨_,_,_,_,_,_,_,y⟩,z⟩
 have C:ar w (w.alloc (ao #[ae n] 3)):=aI aj _;have a0:=ad (j w.heap.size _ (h.below C) (QM w _));have a1:=ad C;have d1:decide ((n:Int)<0)=false:=aJ;go_enter func66,ntmps66;go_wp2_with(first|(go_at_call 118;refine a0.mono ?_;rintro e a ⟨rfl,s,t⟩));go_ret;exact⟨rfl,s,(Fr.af a1).tr t⟩
def Ints(w:M)(v:QN)(n:Nat)(f:aO):Prop:=
 ∃a c,v=.slice a n c/\(n=0\/∃b o d e,a=some (R b o)/\w.heap[b]?=some (.cells d 3 e)/\∀k,k<n->d[o+k]?=some (Y (f k:Nat)))
theorem FO(n:Nat):UB #[.pointer none,.pointer none,.pointer none] (n*3)=dz n (λ_=>none) λ_=>none:=by
 apply Array.ext
 .simp [UB,dz];omega
 .intro i b c;simp only[UB,dz,Array.getElem_map,Array.getElem_range,QU,VO];have a:i%3<3:=SB _ J;have:∀j,j<3->(#[Value.pointer none,.pointer none,.pointer none]:Array QN)[j]! =.pointer none:=λj d=>by
   rcases j with _|_|_|j
   .rfl
   .rfl
   .rfl
   .omega
  rw[show(#[Value.pointer none,.pointer none,.pointer none]:Array QN).size=3 from rfl,this _ a];split<;>simp
theorem Nc:(prog.info? 108).map (λi=>(i.zero,i.size,i.bytes))=some (some (.agg #[.pointer none,.pointer none,.pointer none]),3,24):=aE
theorem FP(w:M)(n:Nat)(h:n<=17):(TL 98 (Y (n:Int)) (Y (n:Int))).run prog w=.ok (a_ w.heap.size n n) (w.alloc (N (dz n (λ_=>none) λ_=>none) 108)):=by obtain⟨d,e,a,b,c⟩:=SN Nc;have:=run_make (P:=prog) w 98 108 d (.agg #[.pointer none,.pointer none,.pointer none]) underlying98 e a .i64 .i64 n n J J (by rw[c];omega) J;rw[this,b];show ZE _ (w.alloc (N (UB #[.pointer none,.pointer none,.pointer none] (n*3)) 108))=_;rw[FO];rfl
def By.part(n:Nat)(a:aO)(k:Nat):By:=⟨n,λj=>if j<k then some ⟨Dk.fresh (a j),false,0⟩else none,false,none⟩
theorem By.zP(n:Nat)(a:aO)(k:Nat):(By.part n a k).put k ⟨Dk.fresh (a k),false,0⟩=By.part n a (k+1):=by
 unfold By.part By.put;congr 1;funext j;by_cases e:j=k
 .subst e;simp
 .by_cases h:j<k
  .simp [e,h,show j<k+1 by omega]
  .simp [e,h,show¬j<k+1 by omega]
def HX[Lo](n:Nat)(b:aO)(w:M)(e:SG)(a:M):Prop:=∃B,aK e (.tuple #[H B,aG 0])/\aB a B (By.part n b n)/\ar w a
structure Lp[Lo](n:Nat)(sz:aO)(B S:Nat)(w:M)(k:Nat)(wr:M):Prop where
 cg:∃sa,ej wr B S n sa (fun _=>none) 0 0 0 (By.part n sz k)
 du:ar w wr
theorem FQ[Lo](v:QN)(n:Nat)(c:aO)(w:QL)(q:Ints w v n c)(r:Lo.lo<=w.heap.size)(T:1<=n)(s:n<=17)(W:∀k,k<n->1<=c k/\c k<=8192):aD 28 #[v] w (HX n c w):=by
 obtain⟨a,X,rfl,H⟩:=q;obtain⟨b,o,y,B,rfl,N,M⟩:∃b o y B,a=some (ag b o)/\w.heap[b]?=some (.cells y 3 B)/\∀k,k<n->y[o+k]?=some (ae (c k:Nat)):=H.resolve_left aa;have a6:=FP w n s;have d1:decide ((n:Int)<1)=false:=aQ;have d2:decide (17<(n:Int))=false:=aQ;have C:Lp n c (w.heap.size+1) w.heap.size w 0 ((w.alloc (ao (dz n (λ_=>none) λ_=>none) 108)).alloc (ao #[a_ w.heap.size n n,.bool false,ae (-1),ae 0,ae 0,ae 0] 100)):=by
  refine⟨⟨λ_=>⟨0,0,⟨0,0,aU,0⟩⟩,fg _ _ _,?_,λk v _ q=>by simp[By.part]at q,λk j _ _ _ h=>by simp[By.part]at h,λt R=>(by cases R),s,⟨Nat.le_succ_of_le r,r⟩,λk v _ q=>by simp[By.part]at q⟩,aI (aI aj _) _⟩;rw[fX];have:oJ (By.part n c 0) (λ_=>⟨0,0,⟨0,0,aU,0⟩⟩)=λ_=>none:=by funext j;simp[oJ,By.part]
  rw[this];rfl
 have D:=ad C;have u:=ad N;have I:=ad M;have Y:=ad W;go_enter func28,ntmps28;go_wp2;go_loopw [24] (λi wr=>∃k:Nat,i= ae k/\k<=n/\RH (Lp n c (w.heap.size+1) w.heap.size w k wr)) (λi _=>n-(intOf i).toNat)
 case atStart=>exact⟨0,rfl,QX _,D⟩
 case round=>
  obtain⟨k,rfl,a7,m⟩:=hrel;by_cases d:k<n
  .obtain ⟨J,f⟩:=m.cg;have a0:=ad f;have g:wr.cell? ⟨b,o+k,none⟩=some (ae (c k:Nat)):=by rw[RD wr b (o+k) y 3 B ((m.du.block b (Z_ u.out)).trans u.out)];exact I k d
   obtain⟨s1,s2⟩:=Y.out k d;have U:=ad (yu (c k) wr s1 s2);have E:((c k:Nat):Int)≠0:=aa;obtain⟨q1,q2,q3⟩:=cr f.aL;obtain⟨r1,r2,F⟩:=cr f.dd;have G:=(r1 (k*3)).trans (gm _ _ _ (show k<(By.part n c k).N from d));have L:=r2 (k*3);obtain⟨Z,V⟩:=ah (c k);have a1:=ad V;rw[V]at g E U;have a2:(k:Int)<(n:Int):=aa;go_wp2_with(first|(go_at_call 48;refine U.mono ?_;rintro e z ⟨K,A,rfl,T,h2,h3⟩;have H1:=ad T;have H2:=ad h2;have l:=ad h3;have a3:=(l.cell (p:=⟨w.heap.size,k*3,none⟩) F).trans G;have a4:=(l.frozen (p:=⟨w.heap.size,k*3,none⟩) F).trans L;obtain⟨p1,p2,p3⟩:=kp l (w.heap.size+1) q3;have O:w.heap.size<z.heap.size:=RS F l.size));have P:ar wr (z.alloc (ao #[aq K,.bool false,ae 0] 106)):=aI l _;have a5:cZ (z.alloc (ao #[aq K,.bool false,ae 0] 106)) z.heap.size K A ⟨Dk.fresh Z,false,0⟩:=⟨QM _ _,H1.below (aI aj _),QX _⟩;obtain⟨⟨Q,S⟩,g2⟩:=a0.swap (show k<(By.part n c k).N from d) P a5 (λx f=>f.elim (λe=>by subst e;exact l.size) (H2 x));rw[World.setCell_alloc_past _ _ _ _ O]at S g2;rw[<-a1.out,By.zP]at S;refine⟨⟨k+1,by go_num,d,⟨⟨Q,S⟩,?_⟩⟩,by simp[intOf];omega⟩;exact(m.du.trans (l.mono m.du.size)).setCell (p:=⟨w.heap.size,k*3,none⟩) (QP _) _|>λh=>aI h _
  .obtain rfl:k=n:=aa;go_wp2;go_ret2;obtain⟨J,f⟩:=m.cg;exact⟨_,rfl,⟨_,_,_,_,_,_,_,f⟩,m.du⟩
def qK[Lo](w:M)(v:QN)(L:Nat)(n:aO)(f:Nat->Nat->Bool):Prop:=
 Lo.lo<=w.heap.size/\∃a c,v=.slice a L c/\(L=0\/∃b o,a=some (R b o)/\b<Lo.lo/\∀j,j<L->∃e h,w.cell? ⟨b,o+j,none⟩=some (.slice e (n j) h)/\
  (n j=0\/∃d g,e=some (R d g)/\d<Lo.lo/\∀i,i<n j->w.cell? ⟨d,g+i,none⟩=some (.bool (f j i))))
theorem qK.fr[Lo]{n:aO}{f:Nat->Nat->Bool}(h:qK w v m n f)(d:Fr T aF w W):qK W v m n f:=by obtain⟨e,a,g,rfl,h⟩:=h;refine⟨QO e d.size,a,g,rfl,h.imp id ?_⟩;rintro⟨b,o,rfl,k,h⟩;refine⟨b,o,rfl,k,λj l=>?_⟩;obtain⟨p,q,r,h⟩:=h j l;refine⟨p,q,d.fN e k r,h.imp id ?_⟩;rintro⟨s,t,rfl,c,h⟩;exact⟨s,t,rfl,c,λi u=>d.fN e c (h i u)⟩
def cJ(L:Nat)(n:aO)(f:Nat->Nat->Bool)(j i:Nat):Bool:=decide (j<L)&&ja (n j) (f j) i
def Dv.nd(kp:Nat->Bool)(v:Dv):Dv:={v with d:=v.d.settled kp}
def By.fC(b:By)(kp:Nat->Nat->Bool)(k:Nat):By:={b with dv:=λj=>if j<k then(b.dv j).map (Dv.nd (kp j))else b.dv j}
def By.cut(b:By)(kp:Nat->Nat->Bool):By:={b with dv:=λj=>if j<b.N then(b.dv j).map (Dv.nd (kp j))else b.dv j,bq:=false,aY:=none}
theorem By.wP{kp:Nat->Nat->Bool}(h:b.dv k=none):b.fC kp (k+1)=b.fC kp k:=by
 unfold By.fC;congr 1;funext j;by_cases e:j=k
 .subst e;simp[h]
 .by_cases h:j<k
  .simp [h,show j<k+1 by omega]
  .simp [h,show¬j<k+1 by omega]
theorem By.wQ{kp:Nat->Nat->Bool}(h:b.dv k=some U):(b.fC kp k).put k (U.nd (kp k))=b.fC kp (k+1):=by
 unfold By.fC By.put;congr 1;funext j;by_cases e:j=k
 .subst e;simp[h]
 .by_cases h:j<k
  .simp [e,h,show j<k+1 by omega]
  .simp [e,h,show¬j<k+1 by omega]
structure FR[Lo](B S cap:Nat)(sd:Nat->Option TF)(r wc f:Int)(b:By)(kp:Nat->Nat->Bool)(w:M)(k:Nat)(wr:M):Prop where
 cg:∃sa,ej wr B S cap sa sd r wc f (b.fC kp k)
 bU:Fr TB aF w wr
theorem FT[Lo](B:Nat)(b:By)(v:QN)(L:Nat)(n:aO)(c:Nat->Nat->Bool)(w:QL)(h:aB w B b)(a3:qK w v L n c)(b7:L<=1000000):aD 71 #[aq B,v] w λe w'=>aK e (.tuple #[])/\aB w' B (b.cut (cJ L n c))/\Fr TB aF w w':=by
 have a7:=ad a3;obtain⟨-,b8,b9,rfl,-⟩:=a3;obtain⟨S,s,a8,K,r,wc,f,h⟩:=h;have M:=h.top;obtain⟨N,H⟩:=ah b.N;rw[H]at M;obtain⟨k1,f1,z1⟩:=cr h.aL;rw[H]at k1;have R:RH (FR B S s K r wc f b (cJ L n c) w 0 w):=by
  refine⟨⟨a8,?_⟩,Fr.refl _ _ _⟩;have:b.fC (cJ L n c) 0=b:=by simp[By.fC]
  rw[this];exact h
 have I:=ad H;clear h H;go_enter func71,ntmps71;go_wp2;go_loopw [12] (λi wr=>∃k:Nat,i= ae k/\k<=N/\RH (FR B S s K r wc f b (cJ L n c) w k wr)) (λi _=>N-(intOf i).toNat)
 case atStart=>exact⟨0,rfl,QX _,R⟩
 case round=>
  obtain⟨k,rfl,c0,O⟩:=hrel;obtain⟨l,q⟩:=O.cg;have a4:=ad q;by_cases z:k<N
  .have g:k<(b.fC (cJ L n c) k).N:=by show k<b.N;rw[I.out];exact z
   obtain⟨q1,q2,q3⟩:=cr q.aL;rw[show(b.fC (cJ L n c) k).N=N from I.out]at q1;obtain⟨P,r2,r3⟩:=cr q.dd;have Q:=(P (k*3)).trans (gm _ _ _ g);have a9:=(P (k*3+2)).trans (jI _ _ _ g);have b0:(k:Int)<(N:Int):=aa;have a:(b.fC (cJ L n c) k).dv k=b.dv k:=by simp[By.fC]
   cases d:b.dv k with
   |none=>rw[show oJ (b.fC (cJ L n c) k) l k=none by simp[oJ,a,d]]at Q;have u:RH (FR B S s K r wc f b (cJ L n c) w (k+1) wr):=⟨⟨l,by rw[By.wP d];exact a4⟩,O.bU⟩;clear q P a d g;go_wp2;refine⟨⟨k+1,by go_num,z,u⟩,by simp[intOf];omega⟩
   |some v=>
    rw[show oJ (b.fC (cJ L n c) k) l k=some ⟨(l k).D,0,none⟩by simp[oJ,a,d]]at Q;have T:=q.dev k v g (a.trans d);obtain⟨p1,p2,p3⟩:=cr T.aL;have x:=a7.fr O.bU;have y:∀G,k_ (l k).K (l k).A (v.d.settled (cJ L n c k)) wr G->RH (FR B S s K r wc f b (cJ L n c) w (k+1) G)/\G.cell? ⟨S,k*3+2,none⟩=some (.pointer none):=λG D=>by
     obtain⟨Y,g1,g2⟩:=a4.sy g (a.trans d) (T.Co D);refine⟨⟨⟨Y,?_⟩,O.bU.tr g2⟩,?_⟩
     .have:=By.wQ (kp:=cJ L n c) d;rw[<-this];exact g1
     .exact ((cr g1.dd).1 (k*3+2)).trans (jI _ _ _ g)
    have A:=ad y;have a5:=ad T;by_cases E:k<L
    .obtain ⟨J,c1,c2,b2,U⟩:=x;cases b2;obtain⟨b1,o1,rfl,-,C⟩:=U.resolve_left aa;obtain⟨a6,b3,a0,j⟩:=C k E;have a1:=q.Ja k v g (a.trans d) _ (.inr (.inr (.inl rfl)));have j:n k=0\/∃b o,a6=some (ag b o)/\b<wr.heap.size/\b≠(l k).A.gl/\∀i,i<n k->wr.cell? ⟨b,o+i,none⟩=some (.bool (c k i)):=j.imp id λ⟨b4,b5,e1,e2,e3⟩=>⟨b4,b5,e1,aa,aa,e3⟩;have V:cJ L n c k=ja (n k) (c k):=by funext i;simp[cJ,E]
     have m:=qI _ _ _ a6 (n k) b3 (c k) wr a5.sw j;rw[<-V]at m;have F:=ad m;have W:(k:Int)<(L:Int):=aa;clear q P a d T y U C j a1 J V m g;go_wp2_with(first|(go_at_call 126;refine F.mono ?_;rintro e G ⟨rfl,D⟩;obtain⟨u,a2⟩:=A.out _ D;clear D));refine⟨⟨k+1,by go_num,z,u⟩,by simp[intOf];omega⟩
    .have V:cJ L n c k=ja 0 (λ_=>false):=by funext i;simp[cJ,ja,E]
     have m:=qI _ _ _ none 0 0 (λ_=>false) wr a5.sw (.inl rfl);rw[<-V]at m;have F:=ad m;have W:¬(k:Int)<(L:Int):=aa;clear q P a d T y x V m g;go_wp2_with(first|(go_at_call 126;refine F.mono ?_;rintro e G ⟨rfl,D⟩;obtain⟨u,a2⟩:=A.out _ D;clear D));refine⟨⟨k+1,by go_num,z,u⟩,by simp[intOf];omega⟩
  .obtain rfl:k=N:=aa;obtain⟨q1,q2,q3⟩:=cr q.aL;have X:=heap_setCell_same _ B 2 _ 100 (ae (-1)) (heap_setCell_same wr B 1 _ 100 iD q.aL);have Z:=q.nL (w':=(wr.setCell (ag B 1) iD).setCell (ag B 2) (ae (-1))) (dk:=false) (tr:=none) (((Out.refl (λk=>k=B) wr).setCell (p:=ag B 1) (λ_=>rfl) _).setCell (p:=ag B 2) (λ_=>rfl) _) X (λt Z=>by cases Z);have b6:RH (aB ((wr.setCell (ag B 1) iD).setCell (ag B 2) (ae (-1))) B (b.cut (cJ L n c))/\Fr TB aF w ((wr.setCell (ag B 1) iD).setCell (ag B 2) (ae (-1)))):=by
    refine⟨⟨S,s,l,K,r,wc,f,?_⟩,O.bU.tr Z.2⟩;have e:b.cut (cJ L n c)={b.fC (cJ L n c) k with bq:=false,aY:=none}:=by simp only[By.cut,By.fC,I.out]
    rw[e];exact Z.1
   clear q X Z;go_wp2;go_end0;exact⟨rfl,b6⟩
def zQ(w:M)(v:QN)(n:Nat)(f:Nat->Bool):Prop:=
 ∃a c,v=.slice a n c/\(n=0\/∃b o d e,a=some (R b o)/\w.heap[b]?=some (.cells d 4 e)/\∀k,k<n->d[o+k]?=some (.bool (f k)))
theorem zQ.below{f:Nat->Bool}(h:zQ w v n f)(g:ar w W):zQ W v n f:=by obtain⟨a,c,e,h⟩:=h;refine⟨a,c,e,h.imp id ?_⟩;rintro⟨b,o,i,j,e,d,k⟩;exact⟨b,o,i,j,e,(g.block b (Z_ d)).trans d,k⟩
theorem zQ.fr[Lo]{f:Nat->Bool}(h:zQ w v n f)(d:Fr T aF w W)(g:T.contains 4=false):zQ W v n f:=by obtain⟨a,c,e,h⟩:=h;refine⟨a,c,e,h.imp id ?_⟩;rintro⟨b,o,i,j,e,k,l⟩;exact⟨b,o,i,j,e,d.hp k g,l⟩
def yw(w:QL)(b:Nat)(g:au)(c:Nat->Bool)(l:List Pt)(par:Nat):Prop:=
 ∃a pv,w.heap[b]?=some (N #[Y g.M,Y g.c,Y g.s,a,pv,Y par] 427)/\zQ w a g.M c/\fc w pv l
theorem yw.below{b:Nat->Bool}(h:yw w n g b l m)(a:ar w W):yw W n g b l m:=by obtain⟨d,pv,c,e,f⟩:=h;exact⟨d,pv,(a.block _ (Z_ c)).trans c,e.below a,f.below a⟩
def zR(l:List Pt)(m:Nat):Bool:=l.any λp=>decide (p.1=m)
theorem oM(d:Nat)(g:au)(j:Nat->Bool)(l:List Pt)(par m:Nat)(w:M)(h:yw w d g j l par)(n:l.length<=1000000):aD 360 #[H d,Y m] w λe o=>aK e (.bool (zR l m))/\ar w o:=by
 obtain⟨A,pv,q,B,i⟩:=h;obtain⟨k,f,z⟩:=cr q;obtain⟨C,D,a,-⟩:=id i;have r:=I (λ(W:M) (b:ar w W) (x:aZ W w.heap.size (N #[Y m] 3))=>kY 376 #[H w.heap.size] (RP func376 aE rfl) l (λp=>decide (p.1=m)) pv W (i.below b) n
  (λs c p E u t=>IZ p u w.heap.size m s t ((c.block _ (Z_ x)).trans x)))
 subst a;have v:RH (zR l m=l.any λp=>decide (p.1=m)):=rfl;go_enter func360,ntmps360;go_wp2_with(go_at_call 357;refine(r _ (aI aj _) (QM _ _)).mono ?_;rintro e F ⟨rfl,b⟩;have y:=I b);go_ret;exact⟨by rw[v.out];rfl,(aI aj _).trans (y.mono aJ)⟩
theorem FU(a:Nat)(w:M):aD 327 #[H a] w λe b=>aK e aU/\ar w b:=by go_enter func327,ntmps327;go_wp2;go_ret;exact⟨rfl,aj⟩
theorem Lq:(prog.info? 3).map (λi=>(i.zero,i.size,i.bytes))=some (some (Y 0),1,8):=aE
theorem zS(l:List Nat)(m:Nat):(l.map λa=>.int .i64 (a:Nat))++ [Y m] =(l++ [m]).map λa=>.int .i64 (a:Nat):=aJ
theorem qL(F:Nat)(G:Array QN)(a4:∀f w,(UY F f).run prog w=.ok (.enter F f) w)(b:Nat->Bool)(V:Nat)(g:au)(J:Nat->Bool)(l:List Pt)(par:Nat)(w:QL)(h:yw w V g J l par)(a0:g.M<=16)(X:∀W,ar w W->∀m,m<g.M->aD F (#[ae m] ++G) W λe z=>aK e (.bool (b m))/\ar W z):
  aD 358 #[aq V,.func (.func F) #[] G] w (iv (bP g.M b) w):=by
 obtain⟨a5,pv,h1,h2,h3⟩:=h;obtain⟨k1,f1,z1⟩:=cr h1;obtain⟨M,Z⟩:=ah g.M;rw[Z]at k1 a0 X;rw[Z];have a1:=ad X;obtain⟨a2,K,O,P,Q⟩:=SN Lq;go_enter func358,ntmps358;go_wp2;go_loopw [5,12] (λv i wr=>∃k:Nat,i= ae k/\k<=M/\RH (ar w wr)/\RH (wr.ownsRow w.heap.size 3 1 v (bP k b).length ((bP k b).map λa=>.int .i64 (a:Nat)))) (λ_ i _=>M-(intOf i).toNat)
 case atStart=>exact⟨0,rfl,QX _,aj,SS _ _ _ _⟩
 case round=>
  obtain⟨k,rfl,H,y,p⟩:=hrel;by_cases q:k<M
  .have d:=ad (a1 wr y k q);have j:=fv k b;have A:=ad (dG k b);obtain⟨L,a3⟩:=ah (bP k b);rw[a3]at p A j;obtain⟨n,N⟩:=ah L.length;rw[N]at p j;have R:=ad N;obtain⟨S,T,rfl,-⟩:=av p;cases I:b k with
   |true=>
    rw[I]at d A;go_wp2_with fail;refine d.mono ?_;rintro e r ⟨rfl,c⟩;have B:=ad (aP c p);have C:=ad (y.trans (c.mono y.size));go_wp2_with(first|(at_builtin;refine aT _ rfl _ _ 82 rfl w.heap.size 3 a2 (ae 0) 1 8 YM K O P Q rfl ai (.slice S n T) n _ rfl (aP (aI aj _) B) (ag r.heap.size 0) 1 1 [ae k] rfl rfl (SI (cs:= #[ae k]) (t:=3) (fr:=(0,0)) (QM r _)) (by intro u Y;simp at Y;rw[Y];rfl) aa (by unfold UT;omega) aa (by have:=C.size;simp;omega) ?_));intro a6 z o D;have E:ar w (r.alloc (ao #[ae k] 3)):=aI C _;have s:RH (ar w z):=D.below E E.size λk H=>(bm B H).2;obtain⟨G,U,rfl,-⟩:=av o;have x:RH (z.ownsRow w.heap.size 3 1 (.slice G (n+1) U) (bP (k+1) b).length ((bP (k+1) b).map λa=>.int .i64 (a:Nat))):=by show z.ownsRow _ _ _ _ _ _;rw[A.out];simp only[if_true];rw[<-zS,RE,R.out];exact o
    go_wp2;exact⟨⟨k+1,by go_num,q,s,x⟩,by simp[intOf];omega⟩
   |false=>
    rw[I]at d A;go_wp2_with fail;refine d.mono ?_;rintro e r ⟨rfl,c⟩;have s:RH (ar w r):=y.trans (c.mono y.size);have x:RH (r.ownsRow w.heap.size 3 1 (.slice S n T) (bP (k+1) b).length ((bP (k+1) b).map λa=>.int .i64 (a:Nat))):=by show r.ownsRow _ _ _ _ _ _;rw[A.out];simp only[SX,if_false];rw[UK,R.out];exact aP c p
    go_wp2;exact⟨⟨k+1,by go_num,q,s,x⟩,by simp[intOf];omega⟩
  .obtain rfl:k=M:=aa;obtain⟨S,T,rfl,-⟩:=av p;go_wp2;go_ret;exact⟨_,rfl,p,y⟩
def qM(par:Nat)(l:List Pt)(m:Nat):Bool:=decide (m≠par)&& !zR l m
def zT(par:Nat)(l:List Pt)(m:Nat):Bool:=decide (m=par)||zR l m
theorem Cz(a q:Nat)(g:au)(i:Nat->Bool)(l:List Pt)(par m:Nat)(w:M)(h:yw w a g i l par)(k:l.length<=1000000)(n:aZ w q (N #[H a] 420)):
  aD 359 (#[Y m] ++ #[H q]) w λe o=>aK e (.bool (qM par l m))/\ar w o:=by
 have b:=I (oM a g i l par m w h k);have c:RH (qM par l m=(decide (m≠par)&& !zR l m)):=rfl;obtain⟨t,pv,p,u,v⟩:=h;obtain⟨x,f1,z⟩:=cr p;obtain⟨A,f2,B⟩:=cr n;obtain⟨y,r⟩:=ah (zR l m);rw[r]at b c;by_cases e:m=par
 .have d1:((m:Int)==(par:Int))=true:=by simp[e]
  have d2:((m:Int) !=(par:Int))=false:=by simp[e]
  have d:=I e;go_enter func359,ntmps359;go_wp2_with(go_at_call 360;refine b.mono ?_;rintro e s ⟨rfl,f⟩;have j:=I f);go_ret;exact⟨by rw[c.out];simp[d.out],aj⟩
 .have d1:((m:Int)==(par:Int))=false:=by rw[sr];simp[e]
  have d2:((m:Int) !=(par:Int))=true:=by rw[bne,sr];simp[e]
  have d:=I e;go_enter func359,ntmps359;go_wp2_with(go_at_call 360;refine b.mono ?_;rintro e s ⟨rfl,f⟩;have j:=I f);go_ret;exact⟨by rw[c.out];simp[d.out],j⟩
theorem FV(a q:Nat)(g:au)(i:Nat->Bool)(l:List Pt)(par m:Nat)(w:M)(h:yw w a g i l par)(k:l.length<=1000000)(n:aZ w q (N #[H a] 420)):
  aD 361 (#[Y m] ++ #[H q]) w λe o=>aK e (.bool (zT par l m))/\ar w o:=by
 have b:=I (oM a g i l par m w h k);have c:RH (zT par l m=(decide (m=par)||zR l m)):=rfl;obtain⟨t,pv,p,u,v⟩:=h;obtain⟨x,f1,z⟩:=cr p;obtain⟨A,f2,B⟩:=cr n;obtain⟨y,r⟩:=ah (zR l m);rw[r]at b c;by_cases e:m=par
 .have d1:((m:Int)==(par:Int))=true:=by simp[e]
  have d:=I e;go_enter func361,ntmps361;go_wp2_with(go_at_call 360;refine b.mono ?_;rintro e s ⟨rfl,f⟩;have j:=I f);go_ret;exact⟨by rw[c.out];simp[d.out],aj⟩
 .have d1:((m:Int)==(par:Int))=false:=by rw[sr];simp[e]
  have d:=I e;go_enter func361,ntmps361;go_wp2_with(go_at_call 360;refine b.mono ?_;rintro e s ⟨rfl,f⟩;have j:=I f);go_ret;exact⟨by rw[c.out];simp[d.out],j⟩
theorem iv.pre{e:SG}(h:iv T W e z)(a:ar w W):iv T w e z:=by
 obtain⟨v,f,d,i⟩:=h;refine⟨v,f,?_,a.trans (i.mono a.size)⟩;refine⟨d.1,?_⟩;rcases d.2 with h|⟨g,b,c,e,j,r⟩
 .exact .inl h
 .exact .inr ⟨g,b,c,e,QO a.size j,r⟩
theorem FW(a:Nat)(g:au)(c:Nat->Bool)(l:List Pt)(par:Nat)(w:QL)(h:yw w a g c l par)(j:l.length<=1000000)(k:g.M<=16):
  aD 328 #[H a] w (iv (bP g.M (qM par l)) w):=by
 have n:=I (λ(W:QL) (d:ar w W) (x:aZ W w.heap.size (N #[H a] 420))=>qL 359 #[H w.heap.size] (RP func359 aE rfl) (qM par l) a g c l par W (h.below d) k λo b m r=>Cz a w.heap.size g c l par m o ((h.below d).below b) j ((b.block _ (Z_ x)).trans x));go_enter func328,ntmps328;go_wp2_with(go_at_call 358;refine(n _ (aI aj _) (QM _ _)).mono ?_;rintro e s f;have i:=I (iv.pre f (aI aj _));obtain⟨v,rfl,fX,fg⟩:=f);obtain⟨t,p,q⟩:=i.out;cases p;obtain⟨u,y,rfl,-⟩:=av q.1;go_ret;exact i
theorem Jb(a:Nat)(g:au)(c:Nat->Bool)(l:List Pt)(par:Nat)(w:QL)(h:yw w a g c l par)(j:l.length<=1000000)(k:g.M<=16):
  aD 329 #[H a] w (iv (bP g.M (zT par l)) w):=by
 have n:=I (λ(W:QL) (d:ar w W) (x:aZ W w.heap.size (N #[H a] 420))=>qL 361 #[H w.heap.size] (RP func361 aE rfl) (zT par l) a g c l par W (h.below d) k λo b m r=>FV a w.heap.size g c l par m o ((h.below d).below b) j ((b.block _ (Z_ x)).trans x));go_enter func329,ntmps329;go_wp2_with(go_at_call 358;refine(n _ (aI aj _) (QM _ _)).mono ?_;rintro e s f;have i:=I (iv.pre f (aI aj _));obtain⟨v,rfl,fX,fg⟩:=f);obtain⟨t,p,q⟩:=i.out;cases p;obtain⟨u,y,rfl,-⟩:=av q.1;go_ret;exact i
def gone(a:Nat->Bool):Nat->Option Nat
 |0=>none
 |n+1=>match gone a n with|some k=>some k|none=>if a n then some n else none
def eP(a:Nat->Bool)(n:Nat):Int:=match gone a n with|some k=>(k:Nat)|none=> -1
theorem eQ{c:Nat->Bool}:∀{n k:Nat},gone c n=some k->k<n/\c k=true
 |0,_,h=>by cases h
 |n+1,k,h=>by
  unfold gone at h;cases d:gone c n with
  |some j=>rw[d]at h;cases h;obtain⟨a,b⟩:=eQ d;exact⟨J,b⟩
  |none=>
   rw[d]at h;simp only at h;split at h
   .cases h;exact⟨J,by assumption⟩
   .cases h
theorem qN{a:Nat->Bool}:∀{n:Nat},gone a n=none->∀k,k<n->a k=false
 |0,_,_,h=>J
 |n+1,h,k,c=>by
  unfold gone at h;cases b:gone a n with
  |some j=>rw[b]at h;cases h
  |none=>
   rw[b]at h;simp only at h;split at h
   .cases h
   .by_cases e:k=n
    .rw [e];simpa using(by assumption:¬a n=true)
    .exact qN b k J
theorem ky{dn:Nat->Bool}(d:k<n)(h:dn k=true)(f:∀j,j<k->dn j=false):gone dn n=some k:=by
 cases c:gone dn n with
 |none=>rw[qN c k d]at h;cases h
 |some j=>
  obtain⟨a,b⟩:=eQ c;by_cases e:j<k
  .rw [f j e]at b;cases b
  .by_cases g:j=k
   .rw [g]
   .exfalso;have:∀m,k<m->gone dn m=some k:=λm=>by
     induction m with
     |zero=>intro h;omega
     |succ m i=>
      intro p;unfold gone;by_cases l:k<m
      .rw [i l]
      .have:k=m:=J;subst this;have:gone dn k=none:=by
        cases o:gone dn k with
        |none=>rfl
        |some q=>obtain⟨x,y⟩:=eQ o;rw[f q x]at y;cases y
       rw[this];simp[h]
    rw[this n d]at c;cases c;exact g rfl
theorem wR(v:QN)(n:Nat)(c:Nat->Bool)(w:M)(h:zQ w v n c)(F:n<=1000000):aD 362 #[v,.bool true] w λe r=>aK e (Y (eP c n))/\w=r:=by
 obtain⟨a,s,rfl,t⟩:=h;have u:=I t;go_enter func362,ntmps362;go_wp2;go_loop [8] (λi=>∃k:Nat,i= Y k/\k<=n/\RH (∀j,j<k->c j=false)) (λi=>n-(intOf i).toNat)
 case atStart=>exact⟨0,rfl,QX _,λj z=>J⟩
 case round=>
  obtain⟨k,rfl,G,g⟩:=hrel;by_cases d:k<n
  .obtain ⟨b,o,A,B,rfl,C,D⟩:=u.resolve_left J;have p:=(RD w b (o+k) A 4 B C).trans (D k d);cases f:c k with
   |true=>
    rw[f]at p;have l:RH (eP c n=(k:Nat)):=by show _=_;unfold eP;rw[ky d f g.out]
    go_wp2;go_ret;exact⟨by rw[l.out];rfl,rfl⟩
   |false=>
    rw[f]at p;have m:RH (∀j,j<k+1->c j=false):=λj z=>by
     by_cases e:j=k
     .rw [e];exact f
     .exact g j J
    go_wp2;go_round
    case rel=>exact⟨k+1,by go_num,d,m⟩
    case measure=>simp[intOf];omega
  .obtain rfl:k=n:=J;have l:RH (eP c k= -1):=by
    show _=_;unfold eP;have:gone c k=none:=by
     cases E:gone c k with
     |none=>rfl
     |some q=>obtain⟨x,y⟩:=eQ E;rw[g.out q x]at y;cases y
    rw[this]
   go_wp2;go_ret;exact⟨by rw[l.out];rfl,rfl⟩
def dV(M:Nat)(a:Nat->Bool)(l:List Pt)(par:Nat):Nat:=
 if M-1-l.length=0 then 1 else match gone a M with
  |some k=>if k=par then 4 else if zR l k=true then 3 else 2
  |none=>if M-1-l.length<l.length+1 then 3 else 2
theorem FX(u:Nat)(g:au)(c:Nat->Bool)(l:List Pt)(par:Nat)(w:QL)(h:yw w u g c l par)(A:g.ok)(D:l.length<=g.M-1):
  aD 330 #[aq u] w λe E=>aK e (.int .u8 (dV g.M c l par:Nat))/\ar w E:=by
 have F:=A.m16;have v:=A.m3;have t:=I (λ(W:QL) (b:ar w W) (m:Nat)=>oM u g c l par m W (h.below b) J);obtain⟨G,pv,K,p,L⟩:=h;obtain⟨O,f1,Q⟩:=cr K;have d:=I (λ(W:QL) (b:ar w W)=>wR G g.M c W (p.below b) J);obtain⟨S,T,rfl,-⟩:=p;obtain⟨U,V,rfl,-⟩:=L;have a:RH (dV g.M c l par=if g.M-1-l.length=0 then 1 else match gone c g.M with
  |some k=>if k=par then 4 else if zR l k=true then 3 else 2
  |none=>if g.M-1-l.length<l.length+1 then 3 else 2):=rfl
 obtain⟨M,x⟩:=ah g.M;obtain⟨n,B⟩:=ah l.length;obtain⟨X,r⟩:=ah (dV g.M c l par);rw[r,x,B]at a;rw[x,B]at O D;rw[x]at F v d;rw[r];have i:RH (eP c M=match gone c M with|some k=>(k:Nat)|none=> -1):=rfl;have Z:QQ.wrap ((M:Int)-1)=(M:Int)-1:=bf;have H:QQ.wrap ((M:Int)-1-(n:Int))=(M:Int)-1-(n:Int):=bf;by_cases C:M-1-n=0
 .have d0:((M:Int)-1-(n:Int)==0)=true:=by rw[beq_iff_eq];omega
  rw[ak C]at a;obtain⟨N,z⟩:=ah (eP c M);rw[z]at d;go_enter func330,ntmps330;go_wp2;go_quiet(fail);go_wp2_with(go_at_call 362;refine(d _ (ct aj _)).mono ?_;rintro e f ⟨rfl,rfl⟩);go_ret;exact⟨by rw[a.out];rfl,ct aj _⟩
 .have d0:((M:Int)-1-(n:Int)==0)=false:=by rw[beq_eq_false_iff_ne];omega
  rw[al C]at a;cases s:gone c M with
  |none=>
   rw[s]at a i;rw[i.out]at d;have d1:((-1:Int)==(par:Int))=false:=by rw[beq_eq_false_iff_ne];omega
   simp only at a;by_cases p:M-1-n<n+1
   .have d2:decide ((M:Int)-1-(n:Int)<(n:Int)+1)=true:=aQ;rw[ak p]at a;go_enter func330,ntmps330;go_wp2;go_quiet(fail);go_wp2_with(first|(go_at_call 362;refine(d _ (ct aj _)).mono ?_;rintro e f ⟨rfl,rfl⟩)|(go_at_call 360;refine(t _ (ct aj _) _).mono ?_;rintro e f ⟨rfl,b⟩;have o:=I b));go_ret;exact⟨by rw[a.out];rfl,ct aj _⟩
   .have d2:decide ((M:Int)-1-(n:Int)<(n:Int)+1)=false:=aQ;rw[al p]at a;go_enter func330,ntmps330;go_wp2;go_quiet(fail);go_wp2_with(first|(go_at_call 362;refine(d _ (ct aj _)).mono ?_;rintro e f ⟨rfl,rfl⟩)|(go_at_call 360;refine(t _ (ct aj _) _).mono ?_;rintro e f ⟨rfl,b⟩;have o:=I b));go_ret;exact⟨by rw[a.out];rfl,ct aj _⟩
  |some q=>
   rw[s]at a i;rw[i.out]at d;simp only at a d;by_cases e:q=par
   .have d1:((q:Int)==(par:Int))=true:=by simp[e]
    rw[ak e]at a;go_enter func330,ntmps330;go_wp2;go_quiet(fail);go_wp2_with(first|(go_at_call 362;refine(d _ (ct aj _)).mono ?_;rintro e f ⟨rfl,rfl⟩)|(go_at_call 360;refine(t _ (ct aj _) _).mono ?_;rintro e f ⟨rfl,b⟩;have o:=I b));go_ret;exact⟨by rw[a.out];rfl,ct aj _⟩
   .have d1:((q:Int)==(par:Int))=false:=by rw[sr];simp[e]
    rw[al e]at a;have d4:decide ((q:Int)<0)=false:=aJ;have j:=I (λ(W:QL) (b:ar w W)=>t.out W b q);obtain⟨y,P⟩:=ah (zR l q);rw[P]at j a;cases y with
    |true=>simp only[if_true]at a;go_enter func330,ntmps330;go_wp2;go_quiet(fail);go_wp2_with(first|(go_at_call 362;refine(d _ (ct aj _)).mono ?_;rintro e f ⟨rfl,rfl⟩)|(go_at_call 360;refine(j _ (ct aj _)).mono ?_;rintro e f ⟨rfl,b⟩;have o:=I b));go_ret;exact⟨by rw[a.out];rfl,(ct aj _).trans o⟩
    |false=>simp only[SX,if_false]at a;go_enter func330,ntmps330;go_wp2;go_quiet(fail);go_wp2_with(first|(go_at_call 362;refine(d _ (ct aj _)).mono ?_;rintro e f ⟨rfl,rfl⟩)|(go_at_call 360;refine(j _ (ct aj _)).mono ?_;rintro e f ⟨rfl,b⟩;have o:=I b));go_ret;exact⟨by rw[a.out];rfl,(ct aj _).trans o⟩
structure jT(g:au)(B:bp)(w:M)(Ms:Nat)(i:Nat)(inn:aO)(cv:Nat->QN)(wr:M):Prop where
 du:ar w wr
 OX:w.heap.size<=Ms
 outer:KM wr Ms i fun r=>if aX g B i r=true then some (.map (some (inn r))) else none
 inner:∀r,aX g B i r=true->w.heap.size<=inn r/\inn r≠Ms/\KM wr (inn r) i fun m=>(cO g B i m r).map fun j=> .agg #[Y m,Y r,cv j]
 apart:∀r r',aX g B i r=true->aX g B i r'=true->r≠r'->inn r≠inn r'
 iQ:∀j,j<i->dT wr (cv j) (B.da j)
theorem jT.next{w wr q B C:QL}{s:Nat->QN}(h:jT g K w n i f s wr){a:aO}(M:i<=1000000)(t:ar w q)(P:KM q n (i+1) λr=>if aX g K (i+1) r=true then some (.map (some (a r)))else none)(u:∀r,aX g K (i+1) r=true->w.heap.size<=a r/\a r≠n/\KM q (a r) i λm=>(cO g K i m r).map λj=>.agg #[ae m,ae r,s j])(x:∀r E,aX g K (i+1) r=true->aX g K (i+1) E=true->r≠E->a r≠a E)(Q:∀j,j<i->dT q (s j) (K.da j))(c:ar q B)(T:dT B v (K.da i)){b p F:Nat}(U:K.aL i=b/\g.row b=p/\g.mem b=F)(d:Out (λk=>k=a p) B C)(y:KM C (a p) (i+1) λm=>if m=F then some (.agg #[ae F,ae p,v])else(cO g K i m p).map λj=>.agg #[ae m,ae p,s j]):
  jT g K w n (i+1) a (λj=>if j=i then v else s j) C:=by
 obtain⟨rfl,rfl,rfl⟩:=U;have z:aX g K (i+1) (g.row (K.aL i))=true:=dg.2 ⟨i,aa,rfl⟩;obtain⟨R,V,W⟩:=u _ z;have l:∀k o,k=a (g.row (K.aL i))->B.heap[k]?=some o->ty o≠5:=by intro k o y A;obtain⟨D,⟨I,Y,X,_⟩,_⟩:=(W.below c).own;rw[y,X]at A;cases A;exact hQ _ _
 refine⟨?_,h.OX,?_,λr O=>?_,x,λj J=>?_⟩
 .exact (Out.trans (S:=λk=>w.heap.size<=k) (Out.af (t.trans (c.mono t.size))) d λk y e=>aa).below (λk y Z=>Z) (QP _)
 .exact (P.below c).out d λe=>V e.symm
 .obtain ⟨H,N,c3⟩:=u r O;refine⟨H,N,?_⟩;by_cases e:r=g.row (K.aL i)
  .subst e;refine y.congr λm=>?_;by_cases e:m=g.mem (K.aL i)
   .subst e;simp[cO]
   .rw [al e];have G:¬(g.mem (K.aL i)=m/\g.row (K.aL i)=g.row (K.aL i)):=λh=>e h.1.symm;rw[show cO g K (i+1) m (g.row (K.aL i))=cO g K i m (g.row (K.aL i))from al G];cases L:cO g K i m (g.row (K.aL i))with
    |none=>rfl
    |some j=>have:=(dy L).1;simp only[RJ];rw[al aa]
  .refine (((c3.below c).out d (x _ _ O z e)).mono (VC _)).congr λm=>?_;have G:¬(g.mem (K.aL i)=m/\g.row (K.aL i)=r):=λh=>e h.2.symm;rw[show cO g K (i+1) m r=cO g K i m r from al G];cases L:cO g K i m r with
   |none=>rfl
   |some j=>have:=(dy L).1;simp only[RJ];rw[al aa]
 .by_cases e:j=i
  .subst e;simp only[if_true];exact T.out d l
  .simp only[al e];exact((Q j aa).below c).out d l
theorem jT.wg{o:Nat->QN}(h:jT g K w n i f o z){b q s:Nat}(t:K.aL i=b/\g.row b=q/\g.mem b=s)(p:ar z W)(u:aX g K i q=true):
  (KM W n (i+1) λr=>if aX g K (i+1) r=true then some (.map (some (f r)))else none)/\
  (∀r,aX g K (i+1) r=true->w.heap.size<=f r/\f r≠n/\KM W (f r) i λm=>(cO g K i m r).map λj=>.agg #[Y m,Y r,o j])/\
  (∀r d,aX g K (i+1) r=true->aX g K (i+1) d=true->r≠d->f r≠f d)/\(∀j,j<i->dT W (o j) (K.da j)):=by
 obtain⟨rfl,rfl,rfl⟩:=t;have e:∀r,aX g K (i+1) r=aX g K i r:=λr=>by
  show(g.row (K.aL i)==r||aX g K i r)=aX g K i r;by_cases e:g.row (K.aL i)=r
  .rw [<-e,u];simp
  .simp [e]
 refine⟨((h.outer.below p).mono (VC _)).congr λr=>by rw[e r],λr k=>?_,λr d k l=>?_,λj v=>(h.iQ j v).below p⟩
 .rw [e r]at k;obtain⟨a,b,c⟩:=h.inner r k;exact⟨a,b,c.below p⟩
 .rw [e r]at k;rw[e d]at l;exact h.apart r d k l
theorem jT.fresh{w wr W t:QL}{B:Nat->QN}(h:jT g K w n i f B wr){b q O:Nat}(P:K.aL i=b/\g.row b=q/\g.mem b=O)(F:ar wr W)(G:aX g K i q=false)(z:Out (λk=>k=n) (W.alloc (.map #[] 0)) t)(C:KM t n (i+1) λr=>if r=q then some (.map (some W.heap.size))else if aX g K i r=true then some (.map (some (f r)))else none):
  (KM t n (i+1) λr=>if aX g K (i+1) r=true then some (.map (some (if r=q then W.heap.size else f r)))else none)/\
  (∀r,aX g K (i+1) r=true->w.heap.size<=(if r=q then W.heap.size else f r)/\(if r=q then W.heap.size else f r)≠n/\KM t (if r=q then W.heap.size else f r) i λm=>(cO g K i m r).map λj=>.agg #[Y m,Y r,B j])/\
  (∀r l,aX g K (i+1) r=true->aX g K (i+1) l=true->r≠l->(if r=q then W.heap.size else f r)≠(if l=q then W.heap.size else f l))/\(∀j,j<i->dT t (B j) (K.da j))/\ar w t:=by
 obtain⟨rfl,rfl,rfl⟩:=P;have e:∀r,aX g K (i+1) r=(decide (r=g.row (K.aL i))||aX g K i r):=λr=>by
  show(g.row (K.aL i)==r||aX g K i r)=_;congr 1;by_cases e:r=g.row (K.aL i)
  .simp [e]
  .simp [e,Ne.symm e]
 have Q:=h.outer.lt;have T:=F.size;have U:=h.du.size;have s:ar wr (W.alloc (.map #[] 0)):=aI F _;have v:∀r,aX g K i r=true->f r<wr.heap.size:=λr p=>(h.inner r p).2.2.lt;refine⟨C.congr λr=>?_,λr p=>?_,λr l p d x=>?_,λj V=>((h.iQ j V).below s).out z ?_,?_⟩
 .rw [e r];by_cases e:r=g.row (K.aL i)
  .simp [e]
  .simp [e]
 .rw [e r]at p;by_cases e:r=g.row (K.aL i)
  .rw [ak e];refine⟨J,J,?_⟩;refine(((KM.made W).out z J).mono (QX _)).congr λm=>?_;cases X:cO g K i m r with
   |none=>rfl
   |some j=>obtain⟨Z,N,L⟩:=dy X;rw[e]at L;rw[dg.2 ⟨j,Z,L⟩]at G;cases G
  .rw [al e];simp[e]at p;obtain⟨a,b,c⟩:=h.inner r p;exact⟨a,b,(c.below s).out z b⟩
 .rw [e r]at p;rw[e l]at d;by_cases A:r=g.row (K.aL i)
  .have u:¬l=g.row (K.aL i):=λh=>x (by rw[A,h]);simp[u]at d;rw[ak A,al u];have:=v l d;omega
  .simp [A]at p;rw[al A];by_cases u:l=g.row (K.aL i)
   .rw [ak u];have:=v r p;omega
   .simp [u]at d;rw[al u];exact h.apart r l p d x
 .intro k o C y;subst C;obtain⟨D,⟨M,R,H,_⟩,_⟩:=(h.outer.below s).own;rw[H]at y;cases y;exact hQ _ _
 .have E:ar w (W.alloc (.map #[] 0)):=h.du.trans (s.mono h.du.size);exact(Out.trans (S:=λk=>w.heap.size<=k) (Out.af E) z λk _ e=>by rw[e];exact h.OX).below (λ_ _ h=>h) (QP _)
def bp.bT(g:au)(B:bp)(r:Nat):List Pt:=(B.nJ g r).map λm=>(m,r,B.iQ g m r)
def bp.fD(g:au)(B:bp):List (List Pt):=(B.eR g).map (B.bT g)
def Nd(g:au)(B:bp)(w:M)(e:SG)(a:M):Prop:=∃v,aK e (.tuple #[v,aG 0])/\IY a v (B.fD g)/\ar w a
theorem jT.rows{b:Nat->QN}(c:g.ok)(d:K.ok g)(_:jT g K w n K.n f b W):(∀a,g.R<=a->(if aX g K K.n a=true then some (Value.map (some (f a)))else none)=none)/\(bP g.R λa=>(if aX g K K.n a=true then some (Value.map (some (f a)))else none).isSome)=K.eR g:=by
 refine⟨λa j=>?_,?_⟩
 .rw [al];intro h;obtain⟨i,e,rfl⟩:=dg.1 h;have:=au.iN c (d.aL i e);omega
 .unfold bp.eR;congr 1;funext a;cases aX g K K.n a<;>rfl
theorem jT.Nf{b:Nat->QN}(c:g.ok)(_:jT g K w n K.n f b W)(r:Nat):(∀a,g.M<=a->((cO g K K.n a r).map λj=>Value.agg #[Y a,Y r,b j])=none)/\(bP g.M λa=>((cO g K K.n a r).map λj=>Value.agg #[Y a,Y r,b j]).isSome)=K.nJ g r:=by
 refine⟨λa e=>?_,?_⟩
 .cases d:cO g K K.n a r with
  |none=>rfl
  |some i=>obtain⟨_,h,_⟩:=dy d;have:=au.ks c (K.aL i);omega
 .unfold bp.nJ;congr 1;funext a;unfold bp.gd;rw[Option.isSome_map]
theorem zU:(prog.info? 206).map (λi=>(i.zero,i.size,i.bytes))=some (some (.agg #[Y 0,Y 0,aU]),3,40):=aE
theorem Ng:(prog.info? 162).map (λi=>(i.zero,i.size,i.bytes))=some (some aU,1,24):=aE
end Go.Proofs.YtbimjlmclegaeaaGreat
