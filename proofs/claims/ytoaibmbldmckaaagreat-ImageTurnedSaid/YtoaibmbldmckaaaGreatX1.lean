import Derived.Below
import Derived.Laws.Externs
import Derived.Laws.IdiomCopy
import Derived.Lib.AppendZerosOnto
import Derived.Lib.JoinLaws
import Derived.Lib.Overlaps
import Derived.Lib.SliceRun
import Derived.Lib.Walk
import Derived.LoopN
import Derived.Shelf.RegionOpenPlain
import Derived.Shelf.Spec.SlicesInsert
import Derived.WalkKit
import Derived.Test.YtoaibmbldmckaaaGreatX0
set_option linter.unusedSimpArgs false
set_option linter.unusedVariables false
set_option linter.unusedSectionVars false
set_option maxRecDepth 100000
open _root_ renaming List→On,if_false→Ou,Option→Ow,if_true→Oy,if_neg→Oz,if_pos→OE,Array→Pa,Bool→Ps,decide_eq_true_eq→PB,cond_true→PW,cond_false→QF,decide_eq_false_iff_not→QY,False→Sc
open List renaming getElem?_eq_some_iff→Oq,getElem?_eq_getElem→OF,mem_of_getElem?→OM,length_cons→OQ,mem_cons_of_mem→OY,getElem?_map→Pc,getElem?_append_right→Pe,length_nil→Pf,mem_cons_self→Ph,nil_append→Pp,getElem?_append_left→Pr,mem_cons→Pu,mem_map→Pv,mem_iff_getElem?→PA,all_eq_true→PD,cons_append→PJ,map_append→PK,getElem?_drop→PP,length_drop→PQ,replicate→PT,length_take→PY,map_cons→Qd,mem_append→Qf,getElem?_take→Qp,mem_append_left→QA,mem_append_right→QB,mem_of_mem_drop→QM,mem_of_mem_take→QP,eq_nil_of_length_eq_zero→QU,getElem?_eq_none→Re,range→RC,size_toArray→RO,append_of_mem→RU,take_append_drop→Sd,flatten_append→SC,getElem?_cons_succ→SD,nodup_cons→SF,all_cons→SR,mem_range→SV,append_toArray→SW,push_toArray→Tq,mem_flatten→TS,getElem?_range→TU,filter_cons→UQ,any_eq_true→VE,mapM_cons→Wj,nodup_nil→Wn,nodup_append→XF,getElem_inj→XM
open Option renaming some→Ot,none→OG,map_some→Rv,bind_some→VD
open Nat renaming le_refl→Ov,reduceAdd→Pi,mul_le_mul_right→Po,beq→Pw,zero_add→Px,lt_succ_self→Qb,add_mul→Qn,eq_of_beq_eq_true→Qv,le_trans→QC,beq_eq→QE,blt→QI,add_zero→QT,lt_or_ge→Q',ble→Ru,ble_eq→RA,lt_of_lt_of_le→RE,blt_eq→Sx,add_assoc→SO,reduceSub→Tp,lt_trans→Ut,sub_zero→UK,sub_mul→UX,min_eq_left→WR
open Go.AM renaming Tr.get_put_sameB→Ox,Tr.get_put_neB→OJ,frzVs→Sm,Tr.get_node→Tj,slsVs→TM,Same.drew→VF,Tr.get_putB→VI,Sim.refl→Ws,Tr.get_nil→Wy,CallOK→Xa,EnvR→Xl,Tr.get_put_same→Ys
open Bool renaming false→OA,true→OB,false_eq_true→OO,and_eq_true→OU,not_true→QL,or_eq_true→Ra,or_eq_false_iff→RI,not_eq_true'→Su,false_or→UG,and_eq_false_iff→WV,not_eq_false→XH,rec→Yh
open Go.Operand renaming tmp→OD,const→We,func→XT
open Go renaming TypeId→OH,Program→OI,run_underlying→OW,Value→O',Operand→Pj,World→PE,FuncId→PU,IntKind→Qa,Oper→Qh,grownCap→QS,sizeOf→Ry,Code→ST,Calls→Ty,run_loadCells_list→TZ,ResultVar→Ud,Func→Un,calls_of_wp→UH,callFunc→UZ,undef→Vz,Addr→Wi,loadCellsFrom→Xm
open Go.Ground renaming data→OV,phase→PO,chain→Wx
open Go.Result renaming andThen_ok→Pb,ok→Vw
open Go.Sem renaming run_bind→Pk,run_pure→Qs
open Go.IntKind renaming i64→Pm,wrap_i64→Sv,i64→J,u64→ξ,u8→ω
open Array renaming getElem?_eq_some_iff→PF,getElem?_eq_getElem→Qu,getD_eq_getD_getElem?→RP,getElem?_append_left→RY,replicate_succ→SM,replicate_zero→SN,replicate→TQ
open Go.Op renaming move→PV,assign→RV,slice→Sk,call→SG,binOp→Tz
open Go.Builtin renaming zeroCells→P',firstCells→QJ,append_→Sa,clear_→Ss,lenOf→SE,copy_→SU,copy→Uz,len→UM,append→VP
open Go.Code renaming region→Ql,ret→UV,cond→VG,skip→VH
open Option.some renaming injEq→Qy,inj→Qz
open Go.Callee renaming builtin→QO,value→Yg
open Go.Utf8 renaming decode→QZ
open List.cons renaming injEq→RS
open Except.ok renaming inj→SL
open Prod.mk renaming inj→TI
open Go.Addr renaming add_lit→Ub
open Go.Act renaming put→Uu,eval→Wr
open Go.Region renaming binds→UA,wanted→Vd,ready→Yf
open Go.Lib renaming wpList_append_run→US
open Go.BinOp renaming add→UW,eql→XG
open Int renaming toNat_of_nonneg→Vb
open Go.Extern.SlicesOverlaps renaming overlaps→Vk
open Go.Value renaming slice→Xs
open Go.World renaming frozen?→XZ,shape?→Yp
open Go.Oper renaming wp→Yr,looksAt→YD
open Go.Exit renaming inBlock→YE
section
namespace Go.AM
section
structure Frm where
 i:Nat
 re:On Nat
 o:Qh
 recs:On uZ
 e:bD
 S:St
 e1:bD
 S1:St
def vM(P:OI)(ops:Pa Qh)(i:Nat)(o:Qh)(e e':bD)(recs:On uZ):On uZ:=
 bif Pw (eV P o.op) 1&&aEj (wanted ops o e) then
  (match o.dst with
  | none=>recs
  | some d=>match e'.get d with
   | some v=>(i,e,v)::recs
   | none=>recs) else recs
inductive DR (P:OI) (call:Call) (n:Nat) (ops:Pa Qh) (base:Nat):On bY->On uZ->bD->St->On Frm->bD->St->Prop
 | nil (recs:On uZ) (e:bD) (S:St):DR P call n ops base [] recs e S [] e S
 | cons (i:Nat) (re:On Nat) (l:On bY) (recs:On uZ) (e:bD) (S:St) (e1:bD) (S1:St) (o:Qh) (fs:On Frm) (e':bD) (S':St)
  (ho:ops[i]?=Ot o) (hs:gG P call n ops o (Ot (base+i)) e S=.ok (e1,S1)) (ha:aE P ops recs S1 re=OB)
  (t:DR P call n ops base l (vM P ops i o e e1 recs) e1 S1 fs e' S'):DR P call n ops base ((i,re)::l) recs e S (⟨i,re,o,recs,e,S,e1,S1⟩::fs) e' S'
section
variable{P:OI}{call:Call}{n:Nat}{ops:Pa Qh}{base:Nat}
theorem aHs:∀{l:On bY} {recs:On uZ} {e e':bD} {S S':St},tK P call n ops base l recs e S=.ok (e',S')->∃fs,DR P call n ops base l recs e S fs e' S'
 | [],recs,e,e',S,S',h=>by simp[tK] at h;obtain⟨rfl,rfl⟩:=h;exact⟨[],.nil _ _ _⟩
 | (i,re)::l,recs,e,e',S,S',h=>by
  simp only[tK] at h;split at h
  ·cases h
  ·rename_i o ho;split at h
   ·cases h
   ·rename_i e1 S1 hs;rw[cond_eq_ite] at h;split at h
    ·rename_i ha;obtain⟨fs,MU⟩:=aHs h;exact⟨_,.cons i re l recs e S e1 S1 o fs e' S' ho hs ha MU⟩
    ·cases h
theorem aVj{o:Qh}{fr:Ow Nat}{e e1:bD}{S S1:St}(hn:n<eG)(h:gG P call n ops o fr e S=.ok (e1,S1)){t:Nat}(ht:o.dst≠Ot t):e1.get t=e.get t:=by
 have key:∀v,hM n e o.dst v=.ok e1->e1.get t=e.get t:=by
  intro v hp;unfold hM at hp;split at hp
  ·cases hp;rfl
  ·rename_i d hd;rw[cond_eq_ite] at hp;split at hp
   ·rename_i ag;have dt:d<n:=by simpa using ag
    cases hp;rw[Tr.get_put_ne _ _ _ _ (Ut dt hn) (λe=>ht (by rw[e,hd]))]
   ·cases hp
 rcases tR h with ⟨_,hp,_⟩ | ⟨_,v,_,hp⟩
 ·exact key _ hp
 ·exact key _ hp
theorem aQ1{o:Qh}{e e1:bD}{v:V}{d:Nat}(hn:n<eG)(h:hM n e o.dst v=.ok e1)(hd:o.dst=Ot d):e1.get d=Ot v:=by
 unfold hM at h;rw[hd] at h;simp only[cond_eq_ite] at h;split at h
 ·rename_i ag;have dt:d<n:=by simpa using ag
  cases h;exact Ys _ _ _ (Ut dt hn)
 ·cases h
theorem aVk{o:Qh}{k:Nat}{e e1:bD}{S S1:St}(h:gG P call n ops o (Ot k) e S=.ok (e1,S1))(hc:eV P o.op≠3)(hc4:eV P o.op<=3):
  S1.next=S.next/\(∀a,(eV P o.op=2->a≠k)->S1.heap.get a=S.heap.get a):=by
 rcases tR h with ⟨_,_,rfl⟩ | ⟨_,v,hr,_⟩
 ·exact⟨rfl,λ_ _=>rfl⟩
 ·unfold nI at hr;cases lz:aW P (ev e) o (Ot k) S with
  | error w=>rw[lz] at hr;cases hr
  | ok r=>
   rw[lz] at hr
   have:eV P o.op=0\/eV P o.op=1\/eV P o.op=2:=by omega
   rcases this with c | c | c
   ·obtain⟨v',h1,_⟩:=bJ8 c lz;subst h1;cases hr;exact⟨rfl,λ_ _=>rfl⟩
   ·obtain⟨v',h1,_⟩:=bB3 c lz;subst h1;cases hr;exact⟨rfl,λ_ _=>rfl⟩
   ·obtain⟨v',b,hk,h1,_⟩:=bJ9 c lz;subst h1;cases hr;exact⟨rfl,λa ha=>OJ _ _ _ _ hk (ha c)⟩
theorem aO1(op:Op):eV P op<=3:=by
 unfold eV;split<;>try omega
 all_goals (split<;>try omega)
 all_goals (split<;>omega)
def svF(E:Nat->Ps)(t:Nat):On Frm->Ow V->Ow V
 | [],acc=>acc
 | f::l,acc=>svF E t l (if E f.i=OB/\f.o.dst=Ot t then f.e1.get t else acc)
def lE(P:OI)(base:Nat)(E:Nat->Ps)(a:Nat):On Frm->Ow Blk->Ow Blk
 | [],acc=>acc
 | f::l,acc=>lE P base E a l (if E f.i=OB/\(eV P f.o.op=3\/(eV P f.o.op=2/\a=base+f.i)) then f.S1.heap.get a else acc)
def rU(P:OI)(E:Nat->Ps):On Frm->Nat->Nat
 | [],acc=>acc
 | f::l,acc=>rU P E l (if E f.i=OB/\eV P f.o.op=3 then f.S1.next else acc)
theorem aEs(E:Nat->Ps)(t:Nat)(l l':On Frm)(acc:Ow V):svF E t (l++l') acc=svF E t l' (svF E t l acc):=by
 induction l generalizing acc with
 | nil=>rfl
 | cons f l ih=>simp only[PJ,svF,ih]
theorem yV(E:Nat->Ps)(a:Nat)(l l':On Frm)(acc:Ow Blk):lE P base E a (l++l') acc=lE P base E a l' (lE P base E a l acc):=by
 induction l generalizing acc with
 | nil=>rfl
 | cons f l ih=>simp only[PJ,lE,ih]
theorem yW(E:Nat->Ps)(l l':On Frm)(acc:Nat):rU P E (l++l') acc=rU P E l' (rU P E l acc):=by
 induction l generalizing acc with
 | nil=>rfl
 | cons f l ih=>simp only[PJ,rU,ih]
theorem aBs{E E':Nat->Ps}{t:Nat}{l:On Frm}(h:∀f∈l,f.o.dst=Ot t->E f.i=E' f.i)(acc:Ow V):svF E t l acc=svF E' t l acc:=by
 induction l generalizing acc with
 | nil=>rfl
 | cons f l ih=>
  simp only[svF];rw[ih (λg hg=>h g (OY _ hg))];by_cases hd:f.o.dst=Ot t
  ·rw[h f (by simp) hd]
  ·simp[hd]
theorem aEt{E:Nat->Ps}{t:Nat}{l:On Frm}(h:∀f∈l,f.o.dst=Ot t->E f.i=OA)(acc:Ow V):svF E t l acc=acc:=by
 induction l generalizing acc with
 | nil=>rfl
 | cons f l ih=>
  simp only[svF];rw[ih (λg hg=>h g (OY _ hg))];by_cases hd:f.o.dst=Ot t
  ·rw[Oz];rw[h f (by simp) hd];simp
  ·simp[hd]
theorem aHt{E E':Nat->Ps}{a:Nat}{l:On Frm}(h:∀f∈l,2<=eV P f.o.op->E f.i=E' f.i)(acc:Ow Blk):lE P base E a l acc=lE P base E' a l acc:=by
 induction l generalizing acc with
 | nil=>rfl
 | cons f l ih=>
  simp only[lE];rw[ih (λg hg=>h g (OY _ hg))];by_cases hd:2<=eV P f.o.op
  ·rw[h f (by simp) hd]
  ·rw[Oz (by omega),Oz (by omega)]
theorem aHu{E E':Nat->Ps}{l:On Frm}(h:∀f∈l,eV P f.o.op=3->E f.i=E' f.i)(acc:Nat):rU P E l acc=rU P E' l acc:=by
 induction l generalizing acc with
 | nil=>rfl
 | cons f l ih=>
  simp only[rU];rw[ih (λg hg=>h g (OY _ hg))];by_cases hd:eV P f.o.op=3
  ·rw[h f (by simp) hd]
  ·simp[hd]
theorem aAk{E:Nat->Ps}{l:On Frm}(h:∀f∈l,eV P f.o.op=3->E f.i=OA)(acc:Nat):rU P E l acc=acc:=by
 induction l generalizing acc with
 | nil=>rfl
 | cons f l ih=>
  simp only[rU];rw[ih (λg hg=>h g (OY _ hg))];by_cases hd:eV P f.o.op=3
  ·rw[Oz];rw[h f (by simp) hd];simp
  ·simp[hd]
theorem aAl{E:Nat->Ps}{a:Nat}{l:On Frm}(h:∀f∈l,eV P f.o.op=3->E f.i=OA):
  (∃f∈l,E f.i=OB/\eV P f.o.op=2/\a=base+f.i)/\(∀acc AK,lE P base E a l acc=lE P base E a l AK) \/
  (¬(∃f∈l,E f.i=OB/\eV P f.o.op=2/\a=base+f.i))/\∀acc,lE P base E a l acc=acc:=by
 induction l with
 | nil=>exact .inr ⟨by simp,λ_=>rfl⟩
 | cons f l ih=>
  rcases ih (λg hg=>h g (OY _ hg)) with ⟨⟨g,hg,h1⟩,h2⟩ | ⟨h1,h2⟩
  ·exact .inl ⟨⟨g,OY _ hg,h1⟩,λacc AK=>by simp only[lE];exact h2 _ _⟩
  ·by_cases hf:E f.i=OB/\eV P f.o.op=2/\a=base+f.i
   ·refine .inl ⟨⟨f,by simp,hf⟩,λacc AK=>?_⟩;simp only[lE,h2];rw[OE ⟨hf.1,.inr hf.2⟩,OE ⟨hf.1,.inr hf.2⟩]
   ·refine .inr ⟨?_,λacc=>?_⟩
    ·rintro⟨g,hg,hh⟩;rcases Pu.1 hg with rfl | hg
     ·exact hf hh
     ·exact h1 ⟨g,hg,hh⟩
    ·simp only[lE,h2];rw[Oz];rintro⟨q1,q2 | q2⟩
     ·rw[h f (by simp) q2] at q1;cases q1
     ·exact hf ⟨q1,q2⟩
theorem DR.upto(hn:n<eG){l:On bY}{recs:On uZ}{e e':bD}{S S':St}{fs:On Frm}(h:DR P call n ops base l recs e S fs e' S'):
  (∀pre f post,fs=pre++f::post->ops[f.i]?=Ot f.o/\gG P call n ops f.o (Ot (base+f.i)) f.e f.S=.ok (f.e1,f.S1)/\aE P ops f.recs f.S1 f.re=OB /\
   (∀t,svF (λ_=>OB) t pre (e.get t)=f.e.get t) /\
   (∀E:Nat->Ps,(∀g∈pre,2<=eV P g.o.op->E g.i=OB)->(∀a,lE P base E a pre (S.heap.get a)=f.S.heap.get a)/\rU P E pre S.next=f.S.next)) /\
  (∀t,svF (λ_=>OB) t fs (e.get t)=e'.get t) /\
  (∀E:Nat->Ps,(∀g∈fs,2<=eV P g.o.op->E g.i=OB)->(∀a,lE P base E a fs (S.heap.get a)=S'.heap.get a)/\rU P E fs S.next=S'.next) /\
  (l=fs.map λf=>(f.i,f.re)):=by
 induction h with
 | nil recs e S=>exact⟨λpre f post h=>by simp at h,λ_=>rfl,λ_ _=>⟨λ_=>rfl,rfl⟩,rfl⟩
 | cons i re l recs e S e1 S1 o fs e' S' ho hs ha t ih=>
  obtain⟨AL,xi,Gv,MV⟩:=ih;have nv:∀t,(if o.dst=Ot t then e1.get t else e.get t)=e1.get t:=by
   intro t;by_cases hd:o.dst=Ot t
   ·simp[hd]
   ·simp only[hd,Ou];exact(aVj hn hs hd).symm
  have jh:∀E:Nat->Ps,(2<=eV P o.op->E i=OB)->
    (∀a,(if E i=OB/\(eV P o.op=3\/(eV P o.op=2/\a=base+i)) then S1.heap.get a else S.heap.get a)=S1.heap.get a) /\
    (if E i=OB/\eV P o.op=3 then S1.next else S.next)=S1.next:=by
   intro E hE;by_cases h3:eV P o.op=3
   ·have:=hE (by omega)
    exact⟨λa=>by rw[OE ⟨this,.inl h3⟩],by rw[OE ⟨this,h3⟩]⟩
   ·obtain⟨m1,m2⟩:=aVk hs h3 (aO1 _);refine⟨λa=>?_,by rw[Oz (by simp[h3]),m1]⟩;split
    ·rfl
    ·rename_i ah;refine(m2 a λh2 e0=>ah ⟨hE (by omega),.inr ⟨h2,e0⟩⟩).symm
  refine⟨λpre f post ak=>?_,λt=>?_,λE hE=>?_,by simp[MV]⟩
  ·cases pre with
   | nil=>
    simp only[Pp,RS] at ak;obtain⟨rfl,rfl⟩:=ak;exact⟨ho,hs,ha,λ_=>rfl,λ_ _=>⟨λ_=>rfl,rfl⟩⟩
   | cons g pre=>
    simp only[PJ,RS] at ak;obtain⟨rfl,ak⟩:=ak;obtain⟨q1,q2,q3,q4,q5⟩:=AL pre f post ak;refine⟨q1,q2,q3,λt=>?_,λE hE=>?_⟩
    ·simp only[svF,true_and,nv];exact q4 t
    ·obtain⟨r1,r2⟩:=q5 E (λg hg=>hE g (OY _ hg));obtain⟨s1,s2⟩:=jh E (λh2=>hE _ (Ph ..) h2);refine⟨λa=>?_,?_⟩
     ·simp only[lE];rw[s1];exact r1 a
     ·simp only[rU];rw[s2];exact r2
  ·simp only[svF,true_and,nv];exact xi t
  ·obtain⟨r1,r2⟩:=Gv E (λg hg=>hE g (OY _ hg));obtain⟨s1,s2⟩:=jh E (λh2=>hE _ (Ph ..) h2);refine⟨λa=>?_,?_⟩
   ·simp only[lE];rw[s1];exact r1 a
   ·simp only[rU];rw[s2];exact r2
theorem DR.reserved(hc:Xa P call)(hn:n<eG){l:On bY}{recs:On uZ}{e e':bD}{S S':St}{fs:On Frm}(h:DR P call n ops base l recs e S fs e' S'):
  ∀{F:Nat->Ow Obj} {G:Gh} {W:PE} {tmps:Pa O'},gJ F G S W.heap->Xl G n e tmps->(fs.map (·.i)).Nodup->(∀f∈fs,base+f.i<S.next/\G.loc (base+f.i)=OG/\G.ml (base+f.i)=OG)->
   (∀pre f post,fs=pre++f::post->∀g∈f::post,f.S.heap.get (base+g.i)=OG/\(g∈post->f.S1.heap.get (base+g.i)=OG)) /\
   (∀a,a<S.next->S.heap.get a=OG->(∀f∈fs,a≠base+f.i)->S'.heap.get a=OG)/\S.next<=S'.next:=by
 induction h with
 | nil recs e S=>intro F G W tmps _ _ _ _;exact⟨λpre f post h=>by simp at h,λ_ _ h _=>h,Ov _⟩
 | cons i re l recs e S e1 S1 o fs e' S' ho hs ha t ih=>
  intro F G W tmps R he py fy;obtain⟨hi,Gw⟩:=SF.1 py;obtain⟨r1,r2,r3⟩:=fy _ (Ph ..);obtain⟨G1,W1,Ky,nw,MW⟩:=aLv hc ho hs R (λk hk=>by cases hk;exact⟨r1,r2,r3⟩) he hn;have dead:∀k,G.loc k=OG->G.ml k=OG->S.heap.get k=none:=by
   intro k h1 h2;cases hk:S.heap.get k with
   | none=>rfl
   | some b=>
    obtain⟨j,hj⟩:=(R.blk k b hk).next;rcases hj with ⟨L,hL,_⟩ | hj
    ·rw[h1] at hL;cases hL
    ·rw[h2] at hj;cases hj
  have ah:∀g∈fs,Ot (base+i)≠Ot (base+g.i):=by
   intro g hg e0
   have:i=g.i:=by have:=Qz e0;omega
   exact hi (by rw[this];exact Pv.2 ⟨g,hg,rfl⟩)
  have CZ:∀g∈fs,base+g.i<S1.next/\G1.loc (base+g.i)=OG/\G1.ml (base+g.i)=none:=by
   intro g hg;obtain⟨s1,s2,s3⟩:=fy g (OY _ hg);obtain⟨k1,k2⟩:=nw.keep _ (dead _ s2 s3) s1 (ah g hg);exact⟨RE s1 nw.next,k1.trans s2,k2.trans s3⟩
  obtain⟨AL,xi,Gv⟩:=ih nw.rel MW Gw CZ;refine⟨λpre f post ak g hg=>?_,λa h1 h2 h3=>?_,QC nw.next Gv⟩
  ·cases pre with
   | nil=>
    simp only[Pp,RS] at ak;obtain⟨rfl,rfl⟩:=ak;obtain⟨s1,s2,s3⟩:=fy g hg;exact⟨dead _ s2 s3,λke=>nw.dead _ (dead _ s2 s3) s1 (ah g ke)⟩
   | cons g' pre=>
    simp only[PJ,RS] at ak;obtain⟨rfl,ak⟩:=ak;exact AL pre f post ak g hg
  ·refine xi a (RE h1 nw.next) (nw.dead a h2 h1 ?_) (λf hf=>h3 f (OY _ hf));intro e0;exact h3 _ (Ph ..) (Qz e0).symm
theorem DR.record{l:On bY}{recs:On uZ}{e e':bD}{S S':St}{fs:On Frm}(h:DR P call n ops base l recs e S fs e' S'):
  ∀pre f post,fs=pre++f::post->∀d v,eV P f.o.op=1->wanted ops f.o f.e=.ok OB->f.o.dst=Ot d->f.e1.get d=Ot v->(∀g∈post,g.i≠f.i)->
   ∀p1 g p2,post=p1++g::p2->qK f.i g.recs=Ot (f.e,v):=by
 induction h with
 | nil recs e S=>intro pre f post h;simp at h
 | cons i re l recs e S e1 S1 o fs e' S' ho hs ha t ih=>
  intro pre f post ak d v hc hw hd hv ah p1 g p2 hp;cases pre with
  | cons g' pre=>
   simp only[PJ,RS] at ak;exact ih pre f post ak.2 d v hc hw hd hv ah p1 g p2 hp
  | nil=>
   simp only[Pp,RS] at ak;obtain⟨rfl,rfl⟩:=ak;simp only at hc hw hd hv ah;have bo:qK i (vM P ops i o e e1 recs)=Ot (e,v):=by
    unfold vM;rw[hc,hw,hd];simp[aEj,hv,qK]
   clear ih hv hc hw hd ho;generalize vM P ops i o e e1 recs=rs at t bo;clear hs ha;subst hp;generalize hq:p1++g::p2=q at t
   induction t generalizing p1 with
   | nil recs e S=>simp at hq
   | cons i' re' l' Kz e2 S2 e3 S3 o' fs' e4 S4 Fl gp qz t' MX=>
    cases p1 with
    | nil=>
     simp only[Pp,RS] at hq;obtain⟨rfl,_⟩:=hq;exact bo
    | cons g' p1=>
     simp only[PJ,RS] at hq;obtain⟨rfl,hq⟩:=hq;have Gx:∀x∈p1++g::p2,x.i≠i:=λx hx=>ah x (by simp only[PJ,Pu];exact .inr hx);refine MX p1 ?_ Gx hq;have AN:i≠i':=λe0=>ah _ (by simp only[PJ,Pu];exact .inl rfl) e0.symm;unfold vM;rw[cond_eq_ite];split
     ·split
      ·exact bo
      ·split
       ·simp only[qK,cond_eq_ite];rw[Oz (by simpa using AN)];exact bo
       ·exact bo
     ·exact bo
end
end
section
section
variable{P:OI}{call:Call}{n:Nat}{ops:Pa Qh}{base:Nat}
structure PlanF (P:OI) (ops:Pa Qh) (b:Pa Nat) (fs:On Frm):Prop where
 nodup:(fs.map (·.i)).Nodup
 all:∀j,j<ops.size->∃f∈fs,f.i=j
 edge:∀pre f post,fs=pre++f::post->∀e∈f.o.after,UA .any e=OB->∃g∈pre,g.i=e.on
 anc:∀pre f post,fs=pre++f::post->∀j,j<ops.size->aBo (b.getD f.i 0) j=OB->∃e∈f.o.after,UA .any e=OB/\(e.on=j\/aBo (b.getD e.on 0) j=OB)
 pair:∀pre f post,fs=pre++f::post->∀g∈pre,aBo (b.getD f.i 0) g.i=OB \/
  (aEk ops f.o g.o=OB/\¬(eV P g.o.op=3/\eV P f.o.op=3)/\¬(eV P g.o.op=2/\eV P f.o.op=3)/\¬(eV P g.o.op=3/\eV P f.o.op=1)/\¬(eV P g.o.op=2/\eV P f.o.op=1) /\
   (eV P g.o.op=1->eV P f.o.op=3->g.i∈f.re))
 rd:∀f∈fs,eV P f.o.op=1->∃d,f.o.dst=Ot d
theorem yF{b:Pa Nat}:∀{l1 l2:On bY} {done:On Nat} {i:Nat} {re:On Nat},xA P ops b done (l1++(i,re)::l2)=OB->aJh P ops b ((l1.map (·.1)).reverse++done) i re=OB
 | [],l2,done,i,re,h=>by
  simp only[Pp,xA,OU] at h;simpa using h.1
 | (j,rj)::l1,l2,done,i,re,h=>by
  simp only[PJ,xA,OU] at h
  have:=yF h.2
  simpa using this
theorem aVl{b:Pa Nat}{fs:On Frm}(xo:∀f∈fs,ops[f.i]?=Ot f.o)(dj:∀j,j<ops.size->∃f∈fs,f.i=j)
  (h:xA P ops b [] (fs.map λf=>(f.i,f.re))=OB):PlanF P ops b fs:=by
 have key:∀pre f post,fs=pre++f::post->aJh P ops b ((pre.map (·.i)).reverse) f.i f.re=true:=by
  intro pre f post hs;rw[hs] at h;simp only[PK,Qd] at h
  have:=yF h
  simpa[List.map_map,Function.comp_def] using this
 have facts:∀pre f post,fs=pre++f::post->
   (∀g∈pre,g.i≠f.i)/\(eV P f.o.op=1->∃d,f.o.dst=Ot d)/\(∀e∈f.o.after,UA .any e=OB->∃g∈pre,g.i=e.on) /\
   (∀j,j<ops.size->aBo (b.getD f.i 0) j=OB->∃e∈f.o.after,UA .any e=OB/\(e.on=j\/aBo (b.getD e.on 0) j=OB)) /\
   (∀g∈pre,aBo (b.getD f.i 0) g.i=OB \/
    (aEk ops f.o g.o=OB/\¬(eV P g.o.op=3/\eV P f.o.op=3)/\¬(eV P g.o.op=2/\eV P f.o.op=3)/\¬(eV P g.o.op=3/\eV P f.o.op=1)/\¬(eV P g.o.op=2/\eV P f.o.op=1) /\
     (eV P g.o.op=1->eV P f.o.op=3->g.i∈f.re))):=by
  intro pre f post hs;have hk:=key pre f post hs;unfold aJh at hk;rw[xo f (by rw[hs];simp)] at hk;simp only[OU] at hk;obtain⟨⟨⟨⟨k1,k2⟩,k3⟩,k4⟩,k5⟩:=hk;refine⟨λg hg e0=>?_,λhc=>?_,λe he hb=>?_,λj hj hb=>?_,λg hg=>?_⟩
  ·simp only[Su,List.contains_eq_mem,QY,List.mem_reverse,Pv] at k1;exact k1 ⟨g,hg,e0⟩
  ·rw[hc] at k2
   have:f.o.dst.isSome=true:=by simpa using k2
   exact Option.isSome_iff_exists.1 this
  ·have:=PD.1 k3 e (by simpa using he)
   rw[hb] at this;simp at this;exact this
  ·have:=PD.1 k4 j (SV.2 hj)
   rw[hb] at this;simp only[QL,UG,OU,VE,Ra,beq_iff_eq] at this;obtain⟨_,e,he,KA,hor⟩:=this;exact⟨e,by simpa using he,KA,hor⟩
  ·have:=PD.1 k5 g.i (by simp;exact⟨g,hg,rfl⟩)
   rw[xo g (by rw[hs];simp[hg])] at this;simp only[Ra,OU] at this;rcases this with h1 | ⟨h1,h2⟩
   ·exact .inl h1
   ·refine .inr ⟨h1,?_⟩;clear h1 k1 k2 k3 k4 k5;generalize eV P g.o.op=x at h2;generalize eV P f.o.op=y at h2;split at h2
    ·cases h2
    ·cases h2
    ·cases h2
    ·cases h2
    ·refine⟨by omega,by omega,by omega,by omega,λ_ _=>by simpa using h2⟩
    ·rename_i q1 q2 q3 q4 q5;refine⟨λq=>q1 q.1 q.2,λq=>q2 q.1 q.2,λq=>q3 q.1 q.2,λq=>q4 q.1 q.2,λh5 h6=>(q5 h5 h6).elim⟩
 refine⟨?_,dj,λpre f post hs=>(facts pre f post hs).2.2.1,λpre f post hs=>(facts pre f post hs).2.2.2.1,λpre f post hs=>(facts pre f post hs).2.2.2.2,λf hf=>?_⟩
 ·have:∀(l pre:On Frm),fs=pre++l->(l.map (·.i)).Nodup:=by
   intro l
   induction l with
   | nil=>intro pre _;simp
   | cons f l ih=>
    intro pre hs;simp only[Qd,SF];refine⟨λhm=>?_,ih (pre++[f]) (by simpa using hs)⟩;obtain⟨g,hg,e0⟩:=Pv.1 hm;obtain⟨l1,l2,rfl⟩:=RU hg;exact(facts (pre++f::l1) g l2 (by simpa using hs)).1 f (by simp) e0.symm
  exact this fs [] rfl
 ·obtain⟨l1,l2,hs⟩:=RU hf;exact(facts l1 f l2 hs).2.1
theorem vN{x y:Qh}(h:aEk ops x y=OB):
  (∀d,x.dst=Ot d->d ∉ y.looksAt ops)/\(∀d,x.dst=Ot d->y.dst≠Ot d)/\(∀d,y.dst=Ot d->d ∉ x.looksAt ops):=
 Oper.apart_spec (ops:=ops) h
theorem aQ2{E:Nat->Ps}{a:Nat}{b:Blk}:∀{l:On Frm},lE P base E a l OG=Ot b->∀acc,lE P base E a l acc=Ot b
 | [],h,_=>by simp[lE] at h
 | f::l,h,acc=>by
  simp only[lE] at h|-
  split
  ·rename_i hq;rw[OE hq] at h;exact h
  ·rename_i hq;rw[Oz hq] at h;exact aQ2 h acc
theorem yG{G:Gh}{o:Qh}{e:bD}{tmps:Pa O'}{b:Ps}(h:wanted ops o e=.ok b)
  (he:∀t∈o.looksAt ops,∀v,e.get t=Ot v->∃w,tmps[t]?=Ot w/\VR G v w):Vd o (yielded ops tmps)=b:=by
 unfold wanted at h;unfold Vd;split at h
 ·rename_i hg;cases h;simp[hg]
 ·rename_i j want hg;simp only[hg];unfold yielded;split at h
  ·rename_i hj;cases h;simp[hj]
  ·rename_i oj hj;split at h
   ·rename_i hd;cases h;simp[hj,hd]
   ·rename_i d hd;have hl:d∈o.looksAt ops:=by
     unfold YD;refine QB _ ?_;simp[hg,hj,hd]
    split at h
    ·rename_i b' hb;cases h;obtain⟨w,w1,w2⟩:=he d hl _ hb;cases w2;simp only[hj,hd,VD,w1];cases b'<;>cases want<;>rfl
    ·rename_i v ah hb;cases h;obtain⟨w,w1,w2⟩:=he d hl _ hb;simp only[hj,hd,VD,w1];cases w2<;>first | rfl | (exact absurd rfl (ah _))
    ·cases h
def only(ops:Pa Qh)(o:Qh)(e:bD):Pj->Ow V
 | .tmp t=>if t∈o.looksAt ops then e.get t else OG
 | x=>ev e x
theorem aO2(o:Qh)(e:bD):∀x∈o.op.operands,ev e x=only ops o e x:=by
 intro x hx;cases x with
 | tmp t=>
  have:t∈o.looksAt ops:=by
   unfold YD;refine QA _ (List.mem_filterMap.2 ⟨.tmp t,by simpa using hx,rfl⟩)
  simp[only,ev,this]
 | _=>rfl
theorem aO3{G:Gh}{o:Qh}{e:bD}{a:Act}(he:∀t∈o.looksAt ops,∀v,e.get t=Ot v->∃w,a.tmps[t]?=Ot w/\VR G v w):
  ∀x v,only ops o e x=Ot v->VR G v (a.eval x):=by
 intro x v hx;cases x with
 | tmp t=>
  simp only[only] at hx;split at hx
  ·rename_i ht;obtain⟨w,w1,w2⟩:=he t ht v hx;simp only[Wr];rw[show a.tmps.getD t Vz=w by simp[w1]];exact w2
  ·cases hx
 | const c=>exact gH G hx
 | global g=>cases hx
 | func f=>cases hx;exact .func f [] [] #[] #[] .nil .nil
mutual
theorem aJr:∀{a b:V},gW a b=OB->a=b
 | .bool a,.bool b,h=>by simp[gW] at h;rw[h]
 | .int j a,.int k b,h=>by simp[gW] at h;rw[tQ h.1,h.2]
 | .str a,.str b,h=>by simp only[gW,eB] at h;rw[eq_of_beq h]
 | .nilp,.nilp,_=>rfl
 | .ptr a b c d,.ptr a' b' c' d',h=>by simp[gW] at h;obtain⟨⟨⟨rfl,rfl⟩,rfl⟩,rfl⟩:=h;rfl
 | .iptr a b,.iptr a' b',h=>by simp[gW] at h;rw[beqVs_eq h.1,h.2]
 | .nils,.nils,_=>rfl
 | .sl a b c d f,.sl a' b' c' d' f',h=>by simp[gW] at h;obtain⟨⟨⟨⟨rfl,rfl⟩,rfl⟩,rfl⟩,rfl⟩:=h;rfl
 | .imm a,.imm b,h=>by simp only[gW] at h;rw[beqVss_eq h]
 | .agg a,.agg b,h=>by simp only[gW] at h;rw[beqVs_eq h]
 | .tup a,.tup b,h=>by simp only[gW] at h;rw[beqVs_eq h]
 | .nili,.nili,_=>rfl
 | .iface t a,.iface u b,h=>by simp[gW] at h;rw[h.1,aJr h.2]
 | .nilf,.nilf,_=>rfl
 | .func f a b,.func g c d,h=>by simp[gW] at h;rw[h.1.1,beqVs_eq h.1.2,beqVs_eq h.2]
 | .nilm,.nilm,_=>rfl
 | .mp a,.mp b,h=>by simp[gW] at h;rw[h]
 | .res a b,.res c d,h=>by simp[gW] at h;rw[h.1,h.2]
theorem beqVs_eq:∀{a b:On V},beqVs a b=OB->a=b
 | [],[],_=>rfl
 | a::x,b::y,h=>by simp only[beqVs,OU] at h;rw[aJr h.1,beqVs_eq h.2]
theorem beqVss_eq:∀{a b:On (On V)},beqVss a b=OB->a=b
 | [],[],_=>rfl
 | a::x,b::y,h=>by simp only[beqVss,OU] at h;rw[beqVs_eq h.1,beqVss_eq h.2]
end
theorem aLw{ρ ρ':Pj->Ow V}{o:Qh}{fr:Ow Nat}{S:St}(h:∀x∈o.op.operands,ρ x=ρ' x):nI P call ρ o fr S=nI P call ρ' o fr S:=by
 unfold nI;rw[aJq h]
end
end
section
section
variable{P:OI}{call:Call}{n:Nat}{ops:Pa Qh}
structure Inv (P:OI) (n:Nat) (ops:Pa Qh) (F:Nat->Ow Obj) (G:Gh) (S:St) (W:PE) (e:bD) (fs:On Frm) (ds:On Deferred) (E:Nat->Ps) (a:Act) (W':PE) (G':Gh):Prop where
 le:G.le G'
 rel:RelH F G' (rU P E fs (S.next+ops.size)) (λx=>lE P S.next E x fs (S.heap.get x)) W'.heap
 same:Same W W'
 res:∀f∈fs,E f.i=OA->G'.loc (S.next+f.i)=OG/\G'.ml (S.next+f.i)=OG
 size:a.tmps.size=n
 env:∀t v,svF E t fs (e.get t)=Ot v->∃w,a.tmps[t]?=Ot w/\VR G' v w
 defers:a.defers=ds
 keep:∀k,k<S.next->S.heap.get k=OG->G'.loc k=G.loc k/\G'.ml k=G.ml k
 prn:∀i o,G'.pr i=Ot o->G.pr i=Ot o\/F i=OG
 big:S.next+ops.size<=rU P E fs (S.next+ops.size)
 dead:∀k,k<S.next->S.heap.get k=OG->lE P S.next E k fs (S.heap.get k)=OG
set_option maxHeartbeats 2000000 in
theorem aLx(hc:Xa P call)(hn:n<eG){F:Nat->Ow Obj}{G:Gh}{S:St}{W:PE}{e:bD}{tt:Pa O'}(R0:gJ F G S W.heap)(xp:Xl G n e tt)
  {steps:On bY} {e':bD} {S':St} {fs:On Frm} (hD:DR P call n ops S.next steps [] e ⟨S.next+ops.size,S.heap⟩ fs e' S') {b:Pa Nat} (hp:PlanF P ops b fs) {ds:On Deferred}
  {E:Nat->Ps} {a:Act} {W':PE} {G':Gh} (I:Inv P n ops F G S W e fs ds E a W' G') (_hE:∀j,E j=OB->j<ops.size)
  (gr:∀f∈fs,E f.i=OB->∀j,j<ops.size->aBo (b.getD f.i 0) j=OB->E j=OB)
  {i:Nat} {o:Qh} (ho:ops[i]?=Ot o) (hi:E i=OA) (kf:∀x∈o.after,UA .any x=OB->E x.on=OB)
  {Q:Exit->Act->PE->Prop} {K:Act->PE->Prop} (hK:∀a2 W2 G2,Inv P n ops F G S W e fs ds (λj=>if j=i then OB else E j) a2 W2 G2->K a2 W2):
  wpOp P ops Q i K a W'/\∀j,j<ops.size->aBo (b.getD i 0) j=OB->E j=true:=by
 obtain⟨xq,_,_,_⟩:=hD.upto hn;have ji:i<ops.size:=(PF.1 ho).1;obtain⟨f,hf,zo⟩:=hp.all i ji;obtain⟨pre,post,hs⟩:=RU hf;subst zo;obtain⟨u1,u2,u3,u4,u5⟩:=xq pre f post hs;rw[ho] at u1;cases u1;have ny:∀g∈fs,g.i<ops.size:=by
  intro g hg;obtain⟨l1,l2,h12⟩:=RU hg;exact(PF.1 (xq l1 g l2 h12).1).1
 have ag:∀g∈fs,S.next+g.i<S.next+ops.size:=λg hg=>by have:=ny g hg;omega
 have tu:∀k,S.next<=k->G.loc k=OG/\G.ml k=none:=R0.fresh;have Gy:gJ F G ⟨S.next+ops.size,S.heap⟩ W.heap:=
  ⟨λx hx=>R0.fresh x (by have:S.next+ops.size<=x:=hx;omega),R0.sep,R0.blk,R0.inj,R0.fr,R0.pr,R0.own,R0.lt,R0.small⟩
 obtain⟨fy,_,_⟩:=hD.reserved hc hn Gy xp hp.nodup (λg hg=>⟨ag g hg,(tu _ (by omega)).1,(tu _ (by omega)).2⟩);have tz:∀j,j<ops.size->aBo (b.getD f.i 0) j=OB->E j=true:=by
  intro j hj hb;obtain⟨x,hx,KB,hor⟩:=hp.anc pre f post hs j hj hb;have KC:=kf x hx KB;rcases hor with rfl | hor
  ·exact KC
  ·obtain⟨g,hg,hge⟩:=hp.edge pre f post hs x hx KB;have Gz:g∈fs:=by rw[hs];exact QA _ hg
   exact gr g Gz (by rw[hge];exact KC) j hj (by rw[hge];exact hor)
 refine⟨?_,tz⟩;have py:=hp.nodup;have kg:∀g∈pre,g.i≠f.i:=by
  intro g hg e0;rw[hs] at py;simp only[PK,Qd] at py;exact(XF.1 py).2.2 g.i (Pv.2 ⟨g,hg,rfl⟩) f.i (by simp) e0
 have cr:∀g∈post,g.i≠f.i:=by
  intro g hg e0;rw[hs] at py;simp only[PK,Qd] at py
  have:=(XF.1 py).2.1
  exact(SF.1 this).1 (Pv.2 ⟨g,hg,e0⟩)
 have ma:∀g∈post,E g.i=OB->∃p1 p2,post=p1++g::p2/\fs=(pre++f::p1)++g::p2 /\
   aEk ops g.o f.o=OB/\¬(eV P f.o.op=3/\eV P g.o.op=3)/\¬(eV P f.o.op=2/\eV P g.o.op=3)/\(eV P f.o.op=1->eV P g.o.op=3->f.i∈g.re):=by
  intro g hg ms;obtain⟨p1,p2,rfl⟩:=RU hg;have AO:fs=(pre++f::p1)++g::p2:=by rw[hs];simp
  refine⟨p1,p2,rfl,AO,?_⟩;rcases hp.pair _ g p2 AO f (by simp) with h1 | ⟨h1,h2,h3,_,_,h6⟩
  ·have:=gr g (by rw[hs];simp) ms f.i ji h1
   rw[hi] at this;cases this
  ·exact⟨h1,h2,h3,h6⟩
 have AP:∀t∈f.o.looksAt ops,∀g∈pre,g.o.dst=Ot t->E g.i=true:=by
  intro t ht g hg hd;rcases hp.pair pre f post hs g hg with h1 | ⟨h1,_⟩
  ·exact tz g.i (ny g (by rw[hs];exact QA _ hg)) h1
  ·exact absurd ht ((vN h1).2.2 t hd)
 have pz:∀t∈f.o.looksAt ops,∀g∈post,g.o.dst=Ot t->E g.i=false:=by
  intro t ht g hg hd;cases ms:E g.i with
  | false=>rfl
  | true=>
   obtain⟨_,_,_,_,h1,_⟩:=ma g hg ms;exact absurd ht ((vN h1).1 t hd)
 have C':∀t∈f.o.looksAt ops,svF E t fs (e.get t)=f.e.get t:=by
  intro t ht;rw[hs,aEs];simp only[svF,hi,OO,false_and,Ou];rw[aEt (pz t ht),aBs (E':=λ_=>OB) (λg hg hd=>AP t ht g hg hd)];exact u4 t
 have AQ:∀t∈f.o.looksAt ops,∀v,f.e.get t=Ot v->∃w,a.tmps[t]?=Ot w/\VR G' v w:=λt ht v hv=>I.env t v (by rw[C' t ht];exact hv)
 let E':Nat->Bool:=λj=>if j=f.i then OB else E j
 have xr:E' f.i=true:=by simp[E']
 have gu:∀g:Frm,g.i≠f.i->E' g.i=E g.i:=λg hg=>by simp[E',hg]
 have Da:∀x acc,lE P S.next E' x pre acc=lE P S.next E x pre acc:=λx acc=>aHt (λg hg _=>gu g (kg g hg)) acc;have ub:∀x acc,lE P S.next E' x post acc=lE P S.next E x post acc:=λx acc=>aHt (λg hg _=>gu g (cr g hg)) acc;have uc:∀x,lE P S.next E' x fs (S.heap.get x)=
   lE P S.next E x post (if eV P f.o.op=3\/(eV P f.o.op=2/\x=S.next+f.i) then f.S1.heap.get x else lE P S.next E x pre (S.heap.get x)):=by
  intro x;rw[hs,yV];simp only[lE,xr,true_and];rw[ub,Da]
 have jh:∀x,lE P S.next E x fs (S.heap.get x)=lE P S.next E x post (lE P S.next E x pre (S.heap.get x)):=by
  intro x;rw[hs,yV];simp only[lE,hi,OO,false_and,Ou]
 have ud:rU P E' fs (S.next+ops.size)=rU P E post (if eV P f.o.op=3 then f.S1.next else rU P E pre (S.next+ops.size)):=by
  rw[hs,yW];simp only[rU,xr,true_and];rw[aHu (E:=E') (E':=E) (λg hg _=>gu g (cr g hg)),aHu (E:=E') (E':=E) (λg hg _=>gu g (kg g hg))]
 have kh:rU P E fs (S.next+ops.size)=rU P E post (rU P E pre (S.next+ops.size)):=by
  rw[hs,yW];simp only[rU,hi,OO,false_and,Ou]
 have ki:∀(v:V) (w:O') (G2:Gh),G'.le G2->hM n f.e f.o.dst v=.ok f.e1->VR G2 v w->
   (a.put f.o.dst w).tmps.size=n/\∀t u,svF E' t fs (e.get t)=Ot u->∃w',(a.put f.o.dst w).tmps[t]?=Ot w'/\VR G2 u w':=by
  intro v w G2 hle cn hv;refine⟨by cases hd:f.o.dst<;>simp[Uu,I.size],λt u hu=>?_⟩;by_cases hd:f.o.dst=Ot t
  ·have MY:∀g∈post,g.o.dst=Ot t->E' g.i=false:=by
    intro g hg AR;rw[gu g (cr g hg)];cases ms:E g.i with
    | false=>rfl
    | true=>
     obtain⟨_,_,_,_,h1,_⟩:=ma g hg ms;exact absurd hd ((vN h1).2.1 t AR)
   rw[hs,aEs] at hu;simp only[svF,xr,hd,true_and,Oy] at hu;rw[aEt MY,aQ1 hn cn hd] at hu;cases hu;have GA:t<n:=by
    unfold hM at cn;rw[hd] at cn;simp only[cond_eq_ite] at cn;split at cn
    ·rename_i hq;simpa using hq
    ·cases cn
   exact⟨w,by simp only[Uu,hd];rw[Array.getElem?_setIfInBounds_self_of_lt (by rw[I.size];exact GA)],hv⟩
  ·have:svF E' t fs (e.get t)=svF E t fs (e.get t):=aBs (λg hg AR=>gu g (λe0=>by
    have:g=f:=by
     rw[hs] at hg;rcases Qf.1 hg with h1 | h1
     ·exact absurd e0 (kg g h1)
     ·rcases Pu.1 h1 with rfl | h1
      ·rfl
      ·exact absurd e0 (cr g h1)
    subst this;exact hd AR)) _
   rw[this] at hu;obtain⟨w',w1,w2⟩:=I.env t u hu;refine⟨w',?_,w2.mono hle⟩;cases zl:f.o.dst with
   | none=>simpa[Uu,zl] using w1
   | some d=>
    simp only[Uu];rw[Array.getElem?_setIfInBounds_ne (λe0=>hd (by rw[zl,e0]))];exact w1
 have qa:∀w,(a.put f.o.dst w).defers=ds:=by
  intro w;cases hd:f.o.dst<;>simp[Uu,I.defers]
 have zp:∀G2:Gh,(∀k,lE P S.next E k fs (S.heap.get k)=OG->k<rU P E fs (S.next+ops.size)->Ot (S.next+f.i)≠Ot k->(G2.loc k=G'.loc k/\G2.ml k=G'.ml k))->
   (∀g∈fs,E' g.i=OA->G2.loc (S.next+g.i)=OG/\G2.ml (S.next+g.i)=OG)/\(∀k,k<S.next->S.heap.get k=OG->G2.loc k=G.loc k/\G2.ml k=G.ml k):=by
  intro G2 zq;have hge:=I.big;refine⟨λg hg ms=>?_,λk hk sh=>?_⟩
  ·have Gz:g.i≠f.i:=λe0=>by rw[e0,xr] at ms;cases ms
   rw[gu g Gz] at ms;obtain⟨r1,r2⟩:=I.res g hg ms;have eh:lE P S.next E (S.next+g.i) fs (S.heap.get (S.next+g.i))=none:=by
    cases hq:lE P S.next E (S.next+g.i) fs (S.heap.get (S.next+g.i)) with
    | none=>rfl
    | some bl=>
     obtain⟨j,hj⟩:=(I.rel.blk _ bl hq).next;rcases hj with ⟨L,hL,_⟩ | hj
     ·rw[r1] at hL;cases hL
     ·rw[r2] at hj;cases hj
   obtain⟨k1,k2⟩:=zq _ eh (by have:=ag g hg;omega) (by intro e0;have:=Qz e0;omega);exact⟨k1.trans r1,k2.trans r2⟩
  ·obtain⟨k1,k2⟩:=zq k (I.dead k hk sh) (by omega) (by intro e0;have:=Qz e0;omega);obtain⟨l1,l2⟩:=I.keep k hk sh;exact⟨k1.trans l1,k2.trans l2⟩
 have Db:lE P S.next E (S.next+f.i) fs (S.heap.get (S.next+f.i))=none:=by
  obtain⟨r1,r2⟩:=I.res f hf hi;cases hq:lE P S.next E (S.next+f.i) fs (S.heap.get (S.next+f.i)) with
  | none=>rfl
  | some bl=>
   obtain⟨j,hj⟩:=(I.rel.blk _ bl hq).next;rcases hj with ⟨L,hL,_⟩ | hj
   ·rw[r1] at hL;cases hL
   ·rw[r2] at hj;cases hj
 have finish:∀(v:V) (Sr Fm:St),hM n f.e f.o.dst v=.ok f.e1->wanted ops f.o f.e=.ok OB->nI P call (ev f.e) f.o (Ot (S.next+f.i)) Sr=.ok (v,Fm)->
   Sr.next=rU P E fs (S.next+ops.size)->(∀x bl,Sr.heap.get x=Ot bl->lE P S.next E x fs (S.heap.get x)=Ot bl)->Fm.next=rU P E' fs (S.next+ops.size)->
   (∀x bl,lE P S.next E' x fs (S.heap.get x)=Ot bl->nY (λx=>lE P S.next E x fs (S.heap.get x)) Sr Fm x=Ot bl)->wpOp P ops Q f.i K a W':=by
  intro v Sr Fm cn hw az CT gi CU hj;obtain⟨r1,r2⟩:=I.res f hf hi;refine aO0 hc ho (ρ:=only ops f.o f.e) (by rw[<-aLw (aO2 f.o f.e)];exact az) I.rel CT gi
   (λk hk=>by cases hk;exact⟨RE (ag f hf) I.big,r1,r2⟩) (yG hw AQ) (aO3 AQ) ?_
  intro G2 W2 w h1 h2 h3 h4 h5 h6 h7;obtain⟨e1,e2⟩:=ki v w G2 h1 cn h7;obtain⟨q1,q2⟩:=zp G2 (λk qv di wk=>(h5 k qv di wk).1);rw[CU] at h2 h4;refine hK _ W2 G2 ⟨Gh.le_trans I.le h1,h2.drop hj,I.same.trans h3,q1,e1,e2,qa w,q2,λi o ho=>(h6 i o ho).elim (I.prn i o) .inr,QC I.big h4,λk hk sh=>?_⟩;cases hq:lE P S.next E' k fs (S.heap.get k) with
  | none=>rfl
  | some bl=>
   have:=(h5 k (I.dead k hk sh) (by have:=I.big;omega) (by intro e0;have:=Qz e0;omega)).2
   rw[hj k bl hq] at this;cases this
 have Dc:eV P f.o.op=3\/eV P f.o.op=1->∀g∈pre,2<=eV P g.o.op->E g.i=true:=by
  intro gj g hg h2;have hle:=aO1 (P:=P) g.o.op;rcases hp.pair pre f post hs g hg with h1 | ⟨_,h3,h4,h5,h6,_⟩
  ·exact tz g.i (ny g (by rw[hs];exact QA _ hg)) h1
  ·omega
 have oa:eV P f.o.op=2\/eV P f.o.op=3->∀g∈post,eV P g.o.op=3->E g.i=false:=by
  intro gj g hg h3;cases ms:E g.i with
  | false=>rfl
  | true=>
   obtain⟨_,_,_,_,_,h1,h2,_⟩:=ma g hg ms;omega
 have xu:eV P f.o.op=3\/eV P f.o.op=1->(∀x,lE P S.next E x pre (S.heap.get x)=f.S.heap.get x)/\rU P E pre (S.next+ops.size)=f.S.next:=λgj=>u5 E (Dc gj);have ue:(eV P f.o.op=3\/eV P f.o.op=1)->(∀g∈post,eV P g.o.op=3->E g.i=OA)->
   f.S.next=rU P E fs (S.next+ops.size)/\∀x bl,f.S.heap.get x=Ot bl->lE P S.next E x fs (S.heap.get x)=Ot bl:=by
  intro gj qc;obtain⟨p1,p2⟩:=xu gj;refine⟨by rw[kh,p2,aAk qc],λx bl hx=>?_⟩;rw[jh,p1,hx];rcases aAl (P:=P) (base:=S.next) (a:=x) qc with ⟨⟨g,hg,_,_,h3⟩,_⟩ | ⟨_,h2⟩
  ·have:=(fy pre f post hs g (OY _ hg)).1
   rw[<-h3,hx] at this;cases this
  ·exact h2 _
 have MZ:=aO1 (P:=P) f.o.op;rcases tR u2 with ⟨hw,cn,hS⟩ | ⟨hw,v,az,cn⟩
 ·unfold wpOp;simp only[ho];rw[yG hw AQ];simp only[OO,Ou];obtain⟨e1,e2⟩:=ki (.tup []) Vz G' (Gh.le_refl _) cn (aAh G');obtain⟨q1,q2⟩:=zp G' (λ_ _ _ _=>⟨rfl,rfl⟩);have xw:rU P E' fs (S.next+ops.size)=rU P E fs (S.next+ops.size):=by
   rw[ud,kh];split
   ·rename_i h3;rw[(xu (.inl h3)).2,hS]
   ·rfl
  have gi:∀x bl,lE P S.next E' x fs (S.heap.get x)=Ot bl->lE P S.next E x fs (S.heap.get x)=Ot bl:=by
   intro x bl hx;rw[uc] at hx;rw[jh];split at hx
   ·rename_i h3;rcases h3 with h3 | ⟨h3,rfl⟩
    ·rw[hS,<-(xu (.inl h3)).1] at hx;exact hx
    ·have:=(fy pre f post hs f (Ph ..)).1
     rw[hS,this] at hx;exact aQ2 hx _
   ·exact hx
  refine hK _ W' G' ⟨I.le,?_,I.same,q1,e1,e2,qa Vz,q2,I.prn,by rw[xw];exact I.big,λk hk sh=>?_⟩
  ·rw[xw];exact I.rel.drop gi
  ·cases hq:lE P S.next E' k fs (S.heap.get k) with
   | none=>rfl
   | some bl=>rw[<-gi k bl hq];exact I.dead k hk sh
 ·have h4:eV P f.o.op=0\/eV P f.o.op=1\/eV P f.o.op=2\/eV P f.o.op=3:=by omega
  have zr:eV P f.o.op<=1->(∀x,lE P S.next E' x fs (S.heap.get x)=lE P S.next E x fs (S.heap.get x))/\rU P E' fs (S.next+ops.size)=rU P E fs (S.next+ops.size):=by
   intro gj;refine⟨λx=>?_,?_⟩
   ·rw[uc,jh,Oz (by omega)]
   ·rw[ud,kh,Oz (by omega)]
  rcases h4 with h0 | h1 | h2 | h3
  ·have lz:aW P (ev f.e) f.o (Ot (S.next+f.i)) f.S=.ok (.val v f.S)/\∀mn S',aW P (ev f.e) f.o mn S'=.ok (.val v S'):=by
    unfold nI at az;cases he:aW P (ev f.e) f.o (Ot (S.next+f.i)) f.S with
    | error w=>rw[he] at az;cases az
    | ok r=>
     rw[he] at az;obtain⟨v',h5,h6⟩:=bJ8 h0 he;subst h5;obtain⟨e1,e2⟩:=TI (SL az);subst e1;exact⟨rfl,h6⟩
   obtain⟨s1,s2⟩:=zr (by omega);refine finish v ⟨rU P E fs (S.next+ops.size),.nil⟩ ⟨rU P E fs (S.next+ops.size),.nil⟩ cn hw (by unfold nI;rw[lz.2]) rfl (λx bl hx=>by cases hx) s2.symm (λx bl hx=>?_);rw[s1] at hx;unfold nY;rw[OE ⟨rfl,bl,hx⟩];exact hx
  ·obtain⟨d,hd⟩:=hp.rd f hf h1;have lz:aW P (ev f.e) f.o (Ot (S.next+f.i)) f.S=.ok (.val v f.S):=by
    unfold nI at az;cases he:aW P (ev f.e) f.o (Ot (S.next+f.i)) f.S with
    | error w=>rw[he] at az;cases az
    | ok r=>
     rw[he] at az;obtain⟨v',h5,h6⟩:=bB3 h1 he;subst h5;obtain⟨e1,e2⟩:=TI (SL az);subst e1;rfl
   obtain⟨s1,s2⟩:=zr (by omega);have go:∀Sr:St,aW P (ev f.e) f.o (Ot (S.next+f.i)) Sr=.ok (.val v Sr)->Sr.next=rU P E fs (S.next+ops.size)->
     (∀x bl,Sr.heap.get x=Ot bl->lE P S.next E x fs (S.heap.get x)=Ot bl)->wpOp P ops Q f.i K a W':=by
    intro Sr GB KD zt;refine finish v Sr Sr cn hw (by unfold nI;rw[GB]) KD zt (by rw[s2];exact KD) (λx bl hx=>?_);rw[s1] at hx;unfold nY;cases hq:Sr.heap.get x with
    | none=>rw[OE ⟨rfl,bl,hx⟩];exact hx
    | some c=>
     rw[Oz (by simp)];rw[<-zt x c hq,hx]
   by_cases qc:∀g∈post,eV P g.o.op=3->E g.i=OA
   ·obtain⟨p1,p2⟩:=ue (.inr h1) qc;exact go f.S lz p1 p2
   ·obtain⟨p1,g,p2,xx,ms,GC,md⟩:∃p1 g p2,post=p1++g::p2/\E g.i=OB/\eV P g.o.op=3/\∀k∈p2,eV P k.o.op=3->E k.i=false:=by
     clear fy ma pz cr ub oa ue xq hs ud kh jh uc ki
     induction post with
     | nil=>exact absurd (λg hg=>by cases hg) qc
     | cons g post ih=>
      by_cases xy:∀k∈post,eV P k.o.op=3->E k.i=OA
      ·refine⟨[],g,post,rfl,?_,?_,xy⟩
       ·cases hq:E g.i with
        | true=>rfl
        | false=>exact absurd (λk hk wk=>by
          rcases Pu.1 hk with rfl | hk
          ·exact hq
          ·exact xy k hk wk) qc
       ·refine Classical.byContradiction λhq=>qc λk hk wk=>?_;rcases Pu.1 hk with rfl | hk
        ·exact absurd wk hq
        ·exact xy k hk wk
      ·obtain⟨p1,g',p2,rfl,h⟩:=ih xy;exact⟨g::p1,g',p2,rfl,h⟩
    have M':g∈post:=by rw[xx];simp
    obtain⟨_,_,_,_,_,_,_,Na⟩:=ma g M' ms;have AO:fs=(pre++f::p1)++g::p2:=by rw[hs,xx];simp
    obtain⟨_,_,gv,_,_⟩:=xq _ g p2 AO;have GD:=hD.record pre f post hs d v h1 hw hd (aQ1 hn cn hd) cr p1 g p2 xx;have GE:∀(l:On Nat),f.i∈l->aE P ops g.recs g.S1 l=OB->aW P (ev f.e) f.o (Ot (S.next+f.i)) g.S1=.ok (.val v g.S1):=by
     intro l
     induction l with
     | nil=>intro h;cases h
     | cons j l ih=>
      intro hm ha;simp only[aE,OU] at ha;rcases Pu.1 hm with e0 | hm
      ·subst e0;have Dd:=ha.1;rw[GD] at Dd;simp only[ho] at Dd;split at Dd
       ·rename_i v' S2 hq
        have:=aJr Dd
        subst this;obtain⟨v2,h5,h6⟩:=bB3 h1 hq;cases h5;exact h6 _
       ·cases Dd
      ·exact ih hm ha.2
    refine go g.S1 (GE g.re (Na h1 GC) gv) ?_ (λx bl hx=>?_)
    ·rw[AO,yW];simp only[rU,ms,GC,and_self,Oy];rw[aAk md]
    ·rw[AO,yV];simp only[lE,ms,GC,true_and,true_or,Oy];rcases aAl (P:=P) (base:=S.next) (a:=x) md with ⟨⟨k,hk,_,_,h5⟩,_⟩ | ⟨_,h5⟩
     ·have:=(fy _ g p2 AO k (OY _ hk)).2 hk
      rw[<-h5,hx] at this;cases this
     ·rw[h5];exact hx
  ·have lz:∃bl,S.next+f.i<tE (S.next+f.i)/\f.S1=⟨f.S.next,f.S.heap.put (S.next+f.i) bl⟩/\∀S',aW P (ev f.e) f.o (Ot (S.next+f.i)) S'=.ok (.val v ⟨S'.next,S'.heap.put (S.next+f.i) bl⟩):=by
    unfold nI at az;cases he:aW P (ev f.e) f.o (Ot (S.next+f.i)) f.S with
    | error w=>rw[he] at az;cases az
    | ok r=>
     rw[he] at az;obtain⟨v',bl,h5,h6,h7⟩:=bJ9 h2 he;subst h6;obtain⟨e1,e2⟩:=TI (SL az);subst e1;exact⟨bl,h5,e2.symm,h7⟩
   obtain⟨bl,dw,av,lz⟩:=lz;have xw:rU P E' fs (S.next+ops.size)=rU P E fs (S.next+ops.size):=by rw[ud,kh,Oz (by omega)]
   refine finish v ⟨rU P E fs (S.next+ops.size),.nil⟩ ⟨rU P E fs (S.next+ops.size),Tr.nil.put (S.next+f.i) bl⟩ cn hw (by unfold nI;rw[lz]) rfl (λx bl hx=>by cases hx) xw.symm (λx b' hx=>?_);rw[uc] at hx;by_cases KE:x=S.next+f.i
   ·subst KE;rw[OE (.inr ⟨h2,rfl⟩),av] at hx;simp only[Ox _ _ _ dw] at hx;unfold nY;rw[Oz (by
     rintro⟨_,b2,wl⟩;have Fo:lE P S.next E (S.next+f.i) fs (S.heap.get (S.next+f.i))=Ot b2:=wl;rw[Db] at Fo;cases Fo)]
    simp only[Ox _ _ _ dw];rcases aAl (P:=P) (base:=S.next) (a:=S.next+f.i) (oa (.inl h2)) with ⟨⟨g,hg,_,_,h5⟩,_⟩ | ⟨_,h5⟩
    ·exact absurd (by omega) (cr g hg)
    ·rw[h5] at hx;exact hx
   ·rw[Oz (by rintro(q | ⟨_,q⟩);omega;exact KE q),<-jh] at hx;unfold nY;rw[OE ⟨rfl,b',hx⟩];exact hx
  ·have qc:=oa (.inr h3);obtain⟨p1,p2⟩:=ue (.inl h3) qc;refine finish v f.S f.S1 cn hw az p1 p2 (by rw[ud,OE h3,aAk qc]) (λx bl hx=>?_);rw[uc,OE (.inl h3)] at hx;have GF:lE P S.next E x fs (S.heap.get x)=lE P S.next E x post (f.S.heap.get x):=by rw[jh,(xu (.inl h3)).1]
   unfold nY;rcases aAl (P:=P) (base:=S.next) (a:=x) qc with ⟨⟨g,hg,_,_,h5⟩,h6⟩ | ⟨_,h6⟩
   ·have si:=(fy pre f post hs g (OY _ hg)).1;rw[<-h5] at si;rw[h6 _ (f.S.heap.get x)] at hx;rw[OE ⟨si,bl,GF.trans hx⟩];exact GF.trans hx
   ·rw[h6] at hx;rw[Oz (by
     rintro⟨q,b2,q2⟩;have q3:lE P S.next E x fs (S.heap.get x)=Ot b2:=q2;rw[GF,h6,q] at q3;cases q3)]
    exact hx
end
end
section
section
variable{P:OI}{call:Call}{n:Nat}{ops:Pa Qh}
theorem aT7{p q:Nat->Ps}:∀{l:On Nat},(∀x∈l,q x=OB->p x=OB)->∀{i:Nat},i∈l->p i=OB->q i=OA->(l.filter q).length<(l.filter p).length:=by
 have hle:∀{l:On Nat},(∀x∈l,q x=OB->p x=OB)->(l.filter q).length<=(l.filter p).length:=by
  intro l
  induction l with
  | nil=>intro _;simp
  | cons x l ih=>
   intro h
   have:=ih (λy hy=>h y (OY _ hy))
   simp only[UQ];cases hq:q x with
   | true=>rw[h x (by simp) hq];simp;omega
   | false=>cases p x<;>simp<;>omega
 intro l
 induction l with
 | nil=>intro _ i hi;cases hi
 | cons x l ih=>
  intro h i hi hp hq;have h':=λy hy=>h y (OY _ hy);simp only[UQ];rcases Pu.1 hi with rfl | hi
  ·rw[hp,hq]
   have:=hle h'
   simp;omega
  ·have:=ih h' hi hp hq
   cases Nb:q x with
   | true=>rw[h x (by simp) Nb];simp;omega
   | false=>cases p x<;>simp<;>omega
theorem aVm(hc:Xa P call)(hn:n<eG){F:Nat->Ow Obj}{G:Gh}{S:St}{W:PE}{e:bD}{tt:Pa O'}(R0:gJ F G S W.heap)(xp:Xl G n e tt)
  {steps:On bY} {e':bD} {S':St} {fs:On Frm} (hD:DR P call n ops S.next steps [] e ⟨S.next+ops.size,S.heap⟩ fs e' S') {b:Pa Nat} (hp:PlanF P ops b fs) {ds:On Deferred}
  {Q:Exit->Act->PE->Prop} (hQ:∀G' W' a',Sim F OG G S W G' S' W'->Xl G' n e' a'.tmps->a'.defers=ds->Q .normal a' W'):
  ∀(fuel:Nat) (listed:Pa Ps) (a:Act) (W':PE) (G':Gh),listed.size=ops.size->Inv P n ops F G S W e fs ds (λj=>listed.getD j OA) a W' G'->
   (∀f∈fs,listed.getD f.i OA=OB->∀j,j<ops.size->aBo (b.getD f.i 0) j=OB->listed.getD j OA=OB)->
   ((RC ops.size).filter λj=>!listed.getD j OA).length<=fuel->wpAny P .any ops Q fuel listed a W':=by
 obtain⟨xq,nv,jh,_⟩:=hD.upto hn;have ny:∀g∈fs,g.i<ops.size:=by
  intro g hg;obtain⟨l1,l2,h12⟩:=RU hg;exact(PF.1 (xq l1 g l2 h12).1).1
 have Gy:gJ F G ⟨S.next+ops.size,S.heap⟩ W.heap:=
  ⟨λx hx=>R0.fresh x (by have:S.next+ops.size<=x:=hx;omega),R0.sep,R0.blk,R0.inj,R0.fr,R0.pr,R0.own,R0.lt,R0.small⟩
 obtain⟨_,De,uf⟩:=hD.reserved hc hn Gy xp hp.nodup (λg hg=>⟨by have:=ny g hg;show _<S.next+ops.size;omega,(R0.fresh _ (by omega)).1,(R0.fresh _ (by omega)).2⟩);have fin:∀(listed:Pa Ps) (a:Act) (W':PE) (G':Gh),Inv P n ops F G S W e fs ds (λj=>listed.getD j OA) a W' G'->(∀f∈fs,listed.getD f.i OA=OB)->Q .normal a W':=by
  intro listed a W' G' I dj;obtain⟨q1,q2⟩:=jh (λj=>listed.getD j OA) (λg hg _=>dj g hg);refine hQ G' W' a ⟨I.le,?_,I.same,?_,λx hx ag _=>I.keep x ag hx,λx hx ag _=>?_,I.prn⟩ ⟨I.size,λt v ht=>I.env t v ?_⟩ I.defers
  ·have:=I.rel
   rw[show rU P (λj=>listed.getD j OA) fs (S.next+ops.size)=S'.next from q2] at this;exact this.drop (λx bl hx=>by
    show lE P S.next (λj=>listed.getD j OA) x fs (S.heap.get x)=Ot bl;rw[q1 x];exact hx)
  ·have:S.next+ops.size<=S'.next:=uf
   omega
  ·exact De x (by show x<S.next+ops.size;omega) hx (λf hf=>by omega)
  ·rw[aBs (E':=λ_=>OB) (λg hg _=>dj g hg)];rw[nv];exact ht
 have some_ready:∀(listed:Pa Ps),listed.size=ops.size->Yf .any ops listed=[]->∀f∈fs,listed.getD f.i OA=true:=by
  intro listed bk hr
  have:∀(l pre:On Frm),fs=pre++l->(∀g∈pre,listed.getD g.i OA=OB)->∀f∈l,listed.getD f.i OA=true:=by
   intro l
   induction l with
   | nil=>intro _ _ _ f hf;cases hf
   | cons f l ih=>
    intro pre hs rf;have hf:listed.getD f.i OA=true:=by
     cases hq:listed.getD f.i OA with
     | true=>rfl
     | false=>
      exfalso;have ji:=ny f (by rw[hs];simp);have cg:f.i∈Yf .any ops listed:=by
       rw[mem_ready];refine⟨?_,f.o,(xq pre f l hs).1,λx hx hb=>?_⟩
       ·simp[bk,ji] at hq|-;exact hq
       ·obtain⟨g,hg,hge⟩:=hp.edge pre f l hs x hx hb;rw[<-hge];exact rf g hg
      rw[hr] at cg;cases cg
    intro g hg;rcases Pu.1 hg with rfl | hg
    ·exact hf
    ·refine ih (pre++[f]) (by simpa using hs) (λg hg=>?_) g hg;rcases Qf.1 hg with hg | hg
     ·exact rf g hg
     ·simp at hg;subst hg;exact hf
  exact this fs [] rfl (by simp)
 intro fuel
 induction fuel with
 | zero=>
  intro listed a W' G' bk I gr xz;have eh:∀j,j<ops.size->listed.getD j OA=true:=by
   intro j hj
   have:=QU (Nat.le_zero.1 xz)
   cases hq:listed.getD j OA with
   | true=>rfl
   | false=>
    have hm:j∈(RC ops.size).filter λj=>!listed.getD j false:=List.mem_filter.2 ⟨SV.2 hj,by simp only[hq];rfl⟩;rw[this] at hm;cases hm
  refine⟨?_,fin listed a W' G' I (λf hf=>eh _ (ny f hf))⟩;refine List.eq_nil_iff_forall_not_mem.2 λj hj=>?_;obtain⟨h0,o,ho,_⟩:=mem_ready.1 hj;have AS:=(PF.1 ho).1
  have:=eh j AS
  simp[bk,AS] at this h0;rw[this] at h0;cases h0
 | succ fuel ih=>
  intro listed a W' G' bk I gr xz;refine⟨λhr=>fin listed a W' G' I (some_ready listed bk hr),λi hi=>?_⟩;obtain⟨h0,o,ho,kf⟩:=mem_ready.1 hi;have ji:=(PF.1 ho).1;have GH:listed.getD i OA=false:=by
   simp[bk,ji] at h0|-;exact h0
  have ce:∀j,(listed.setIfInBounds i OB).getD j OA=if j=i then OB else listed.getD j false:=by
   intro j;by_cases hj:j=i
   ·subst hj;simp[bk,ji]
   ·rw[Oz hj];exact getD_set_ne OA (Ne.symm hj)
  have ag:∀j,listed.getD j OA=OB->j<ops.size:=λj hj=>by
    rcases Q' j listed.size with q | q
    ·omega
    ·simp[Array.getElem?_eq_none q] at hj
  have tz:=(aLx hc hn R0 xp hD hp I ag gr ho GH kf (Q:=Q) (K:=λ_ _=>True) (λ_ _ _ _=>trivial)).2;refine(aLx hc hn R0 xp hD hp I ag gr ho GH kf (Q:=Q) (K:=wpAny P .any ops Q fuel (listed.setIfInBounds i OB)) ?_).1;intro a2 W2 G2 I2;refine ih _ a2 W2 G2 (by simpa using bk) ?_ ?_ ?_
  ·have:(λj=>(listed.setIfInBounds i OB).getD j OA)=λj=>if j=i then OB else listed.getD j false:=funext ce
   rw[this];exact I2
  ·intro f hf hE j hj hb;rw[ce] at hE|-
   split
   ·rfl
   ·split at hE
    ·rename_i zo;rw[zo] at hb;exact tz j hj hb
    ·exact gr f hf hE j hj hb
  ·have:((RC ops.size).filter λj=>!(listed.setIfInBounds i OB).getD j OA).length<((RC ops.size).filter λj=>!listed.getD j OA).length:=by
    refine aT7 (λx _ hx=>?_) (SV.2 ji) ?_ ?_
    ·simp only[ce] at hx;split at hx
     ·simp at hx
     ·exact hx
    ·simp only[GH];rfl
    ·simp only[ce,Oy];rfl
   omega
end
end
section
section
variable{P:OI}{call:Call}{n:Nat}
def Ex.to:Ex->Exit
 | .normal=>.normal
 | .exit id=>.exit id
 | .ret=>.ret
theorem aEu{base:Nat}{E:Nat->Ps}(hE:∀j,E j=OA){a:Nat}:∀(l:On Frm) (acc:Ow Blk),lE P base E a l acc=acc
 | [],_=>rfl
 | f::l,acc=>by simp only[lE,hE];simp;exact aEu hE l acc
theorem aO4(hc:Xa P call)(hm:P.follows .mixedOrders=OB)(hn:n<eG){ops:Pa Qh}{steps:On bY}(hp:aNu P ops steps=OB){F:Nat->Ow Obj}{e e':bD}{S S':St}
  (h:bB2 P call n ops steps e S=.ok (e',S')) {G:Gh} {W:PE} (R:gJ F G S W.heap) {a:Act} (he:Xl G n e a.tmps) {id:Nat}
  {Q:Exit->Act->PE->Prop} (hQ:∀G' W' a',Sim F OG G S W G' S' W'->Xl G' n e' a'.tmps->a'.defers=a.defers->Q .normal a' W'):
  (Ql id ops OB).wp P Q a W:=by
 obtain⟨fs,hD⟩:=aHs h;obtain⟨xq,_,_,fq⟩:=hD.upto hn;simp only[aNu,OU,PD,VE] at hp;obtain⟨KF,hp2⟩:=hp;have xo:∀f∈fs,ops[f.i]?=Ot f.o:=by
  intro f hf;obtain⟨l1,l2,h12⟩:=RU hf;exact(xq l1 f l2 h12).1
 have dj:∀j,j<ops.size->∃f∈fs,f.i=j:=by
  intro j hj;obtain⟨s,hs,Nc⟩:=KF j (SV.2 hj);rw[fq] at hs;obtain⟨f,hf,rfl⟩:=Pv.1 hs;exact⟨f,hf,by simpa using Nc⟩
 have Nd:PlanF P ops (Region.before ops) fs:=aVl xo dj (by rw[<-fq];exact hp2);have hE:∀j,(TQ ops.size OA).getD j OA=false:=by
  intro j;simp only[RP,Array.getElem?_replicate];split<;>rfl
 refine wp_region_any hm ?_;refine aVm hc hn R he hD Nd (ds:=a.defers) hQ ops.size (TQ ops.size OA) a W.drew G (by simp) ?_ ?_ ?_
 ·have kh:rU P (λj=>(TQ ops.size OA).getD j OA) fs (S.next+ops.size)=S.next+ops.size:=aAk (λf _ _=>hE _) _;have jh:(λx=>lE P S.next (λj=>(TQ ops.size OA).getD j OA) x fs (S.heap.get x))=S.heap.get:=funext λx=>aEu hE fs _;refine⟨G.le_refl,?_,VF W,λf _ _=>R.fresh _ (by omega),he.1,λt v ht=>?_,rfl,λ_ _ _=>⟨rfl,rfl⟩,λ_ _ h=>.inl h,?_,λk _ hk=>?_⟩
  ·rw[kh,jh];exact⟨λx hx=>R.fresh x (by omega),R.sep,R.blk,R.inj,R.fr,R.pr,R.own,R.lt,R.small⟩
  ·rw[aEt (λf _ _=>hE _)] at ht;exact he.2 t v ht
  ·rw[kh];omega
  ·rw[aEu hE];exact hk
 ·intro f _ hf;rw[hE] at hf;cases hf
 ·exact QC (List.length_filter_le _ _) (by simp)
theorem aO5(hc:Xa P call)(hm:P.follows .mixedOrders=OB)(hn:n<eG){pl:Nat->Ow (On bY)}{k:Nat}{F:Nat->Ow Obj}:
  ∀(c:ST) (_:mG P pl c=OB) {e e':bD} {S S':St} {x:Ex} (_:fY P pl call k n c e S=.ok (x,e',S')) {G:Gh} {W:PE} (_:gJ F G S W.heap) {a:Act} (_:Xl G n e a.tmps)
   {Q:Exit->Act->PE->Prop} (_:∀G' W' a',Sim F OG G S W G' S' W'->Xl G' n e' a'.tmps->a'.defers=a.defers->Q x.to a' W'),c.wp P Q a W:=by
 intro c
 induction c with
 | skip=>
  intro _ e e' S S' x h G W R a he Q hQ;simp[fY] at h;obtain⟨rfl,rfl,rfl⟩:=h;exact wp_skip (hQ G W a (Ws R) he rfl)
 | label l=>
  intro _ e e' S S' x h G W R a he Q hQ;simp[fY] at h;obtain⟨rfl,rfl,rfl⟩:=h;exact wp_label (hQ G W a (Ws R) he rfl)
 | exit id=>
  intro _ e e' S S' x h G W R a he Q hQ;simp[fY] at h;obtain⟨rfl,rfl,rfl⟩:=h;exact wp_exit (hQ G W a (Ws R) he rfl)
 | ret=>
  intro _ e e' S S' x h G W R a he Q hQ;simp[fY] at h;obtain⟨rfl,rfl,rfl⟩:=h;exact wp_ret (hQ G W a (Ws R) he rfl)
 | region id ops d=>
  intro hk e e' S S' x h G W R a he Q hQ;simp only[fY] at h;split at h
  ·rename_i e1 S1 h1;cases h;cases d
   ·simp only[QF] at h1;refine wp_region ?_;rw[List.range_eq_range',<-Array.length_toList];exact aAj hc hn ops.toList 0 rfl h1 R he hQ
   ·simp only[PW] at h1;simp only[mG,QL,UG] at hk;exact aO4 hc hm hn hk h1 R he hQ
  ·cases h
 | seq c1 c2 AL xi=>
  intro hk e e' S S' x h G W R a he Q hQ;simp only[mG,OU] at hk;simp only[fY] at h;refine wp_seq ?_;cases hx:fY P pl call k n c1 e S with
  | error w=>rw[hx] at h;cases h
  | ok r=>
   obtain⟨y,e1,S1⟩:=r;rw[hx] at h;refine AL hk.1 hx R he λG1 W1 a1 q1 q2 q3=>?_;cases y with
   | normal=>
    refine xi hk.2 h q1.rel q2 λG2 W2 a2 r1 r2 r3=>?_;exact hQ G2 W2 a2 (q1.trans r1) r2 (r3.trans q3)
   | exit id=>cases h;exact hQ G1 W1 a1 q1 q2 q3
   | ret=>cases h;exact hQ G1 W1 a1 q1 q2 q3
 | cond c c1 c2 AL xi=>
  intro hk e e' S S' x h G W R a he Q hQ;simp only[mG,OU] at hk;simp only[fY] at h;split at h
  ·rename_i lz;have hv:=vL he c _ lz;have ft:a.eval c=.bool true:=by generalize a.eval c=w at hv;cases hv;rfl
   exact wp_cond_true ft (AL hk.1 h R he hQ)
  ·rename_i lz;have hv:=vL he c _ lz;have ft:a.eval c=.bool false:=by generalize a.eval c=w at hv;cases hv;rfl
   exact wp_cond_false ft (xi hk.2 h R he hQ)
  ·cases h
 | block id c ih=>
  intro hk e e' S S' x h G W R a he Q hQ;simp only[mG] at hk;simp only[fY] at h;refine wp_block ?_;cases hx:fY P pl call k n c e S with
  | error w=>rw[hx] at h;cases h
  | ok r=>
   obtain⟨y,e1,S1⟩:=r;rw[hx] at h;refine ih hk hx R he λG1 W1 a1 q1 q2 q3=>?_;cases y with
   | normal=>cases h;exact hQ G1 W1 a1 q1 q2 q3
   | exit zd=>
    simp only[cond_eq_ite] at h;show YE id Q (.exit zd) a1 W1;simp only[YE];by_cases hi:zd=id
    ·subst hi;simp at h;obtain⟨rfl,rfl,rfl⟩:=h;simp only[Oy];exact hQ G1 W1 a1 q1 q2 q3
    ·have:Pw zd id=false:=by
      cases hb:Pw zd id with
      | false=>rfl
      | true=>exact absurd (Qv hb) hi
     rw[this] at h;cases h;simp only[hi,Ou];exact hQ G1 W1 a1 q1 q2 q3
   | ret=>cases h;exact hQ G1 W1 a1 q1 q2 q3
 | loop c ih=>
  intro hk e e' S S' x h G W R a he Q hQ;simp only[mG] at hk;simp only[fY] at h;refine wp_loop_rounds k ?_;have key:∀(m:Nat) {e:bD} {S:St} (_:iter (fY P pl call k n c) m e S=.ok (x,e',S')) {G:Gh} {W:PE} (_:gJ F G S W.heap) {a:Act} (_:Xl G n e a.tmps)
    (_:∀G' W' a',Sim F OG G S W G' S' W'->Xl G' n e' a'.tmps->a'.defers=a.defers->Q x.to a' W'),Code.rounds P c Q m a W:=by
   intro m
   induction m with
   | zero=>intro e S h;cases h
   | succ m ihm=>
    intro e S h G W R a he hQ;simp only[iter] at h;rw[rounds_succ];cases hx:fY P pl call k n c e S with
    | error w=>rw[hx] at h;cases h
    | ok r=>
     obtain⟨y,e1,S1⟩:=r;rw[hx] at h;refine ih hk hx R he λG1 W1 a1 q1 q2 q3=>?_;cases y with
     | normal=>
      refine ihm h q1.rel q2 λG2 W2 a2 r1 r2 r3=>?_;exact hQ G2 W2 a2 (q1.trans r1) r2 (r3.trans q3)
     | exit zd=>cases h;exact hQ G1 W1 a1 q1 q2 q3
     | ret=>cases h;exact hQ G1 W1 a1 q1 q2 q3
  exact key k h R he hQ
 | scope c _=>intro _ e e' S S' x h;cases h
 | rangeFunc f ps a b _ _=>intro _ e e' S S' x h;cases h
 | goto l=>intro _ e e' S S' x h;cases h
 | refuse w=>intro _ e e' S S' x h;cases h
end
end
def aAm(T I B:OH)(ov rr:PU):Code:=
 ((Ql 0 #[
  { dst:=Ot 6,op:=RV (We (Xs OG 0 0)),type:=T,pos := "slices.go:136",after:=#[],guard:=OG }] OA).seq ((Ql 1 #[
  { dst:=Ot 10,op:=PV (OD 0),type:=T,pos := "slices.go:137",after:=#[],guard:=OG },
  { dst:=Ot 11,op:=PV (OD 1),type:=I,pos := "slices.go:137",after:=#[],guard:=OG },
  { dst:=Ot 12,op:=Sk T (OD 10) (Ot (OD 11)) OG OG,type:=T,pos := "slices.go:137",after:=#[{ on:=0,ground:=OV },{ on:=1,ground:=OV }],guard:=OG }] OA).seq ((Ql 2 #[
  { dst:=Ot 13,op:=PV (OD 2),type:=T,pos := "slices.go:139",after:=#[],guard:=OG },
  { dst:=Ot 14,op:=SG { callee:=QO UM,args:=#[OD 13],argTypes:=#[T] },type:=I,pos := "slices.go:139",after:=#[{ on:=0,ground:=OV }],guard:=OG },
  { dst:=Ot 7,op:=RV (OD 14),type:=I,pos := "slices.go:139",after:=#[{ on:=1,ground:=OV },{ on:=0,ground:=PO },{ on:=1,ground:=PO }],guard:=OG }] OA).seq (((Ql 3 #[
  { dst:=Ot 15,op:=PV (OD 7),type:=I,pos := "slices.go:140",after:=#[],guard:=OG },
  { dst:=Ot 16,op:=Tz XG I (OD 15) (We (Value.int Pm 0)) I,type:=B,pos := "slices.go:140",after:=#[{ on:=0,ground:=OV }],guard:=OG }] OA).seq (VG (OD 16) ((Ql 4 #[
  { dst:=Ot 17,op:=PV (OD 0),type:=T,pos := "slices.go:141",after:=#[],guard:=OG },
  { dst:=Ot 6,op:=RV (OD 17),type:=T,pos := "slices.go:141",after:=#[{ on:=0,ground:=OV },{ on:=0,ground:=PO }],guard:=OG }] OA).seq UV) VH)).seq ((Ql 5 #[
  { dst:=Ot 18,op:=PV (OD 0),type:=T,pos := "slices.go:143",after:=#[],guard:=OG },
  { dst:=Ot 19,op:=SG { callee:=QO UM,args:=#[OD 18],argTypes:=#[T] },type:=I,pos := "slices.go:143",after:=#[{ on:=0,ground:=OV }],guard:=OG },
  { dst:=Ot 8,op:=RV (OD 19),type:=I,pos := "slices.go:143",after:=#[{ on:=1,ground:=OV },{ on:=0,ground:=PO },{ on:=1,ground:=PO }],guard:=OG }] OA).seq (((Ql 6 #[
  { dst:=Ot 20,op:=PV (OD 1),type:=I,pos := "slices.go:144",after:=#[],guard:=OG },
  { dst:=Ot 21,op:=PV (OD 8),type:=I,pos := "slices.go:144",after:=#[],guard:=OG },
  { dst:=Ot 22,op:=Tz XG I (OD 20) (OD 21) I,type:=B,pos := "slices.go:144",after:=#[{ on:=0,ground:=OV },{ on:=1,ground:=OV }],guard:=OG }] OA).seq (VG (OD 22) ((Ql 7 #[
  { dst:=Ot 23,op:=PV (OD 0),type:=T,pos := "slices.go:145",after:=#[],guard:=OG },
  { dst:=Ot 24,op:=PV (OD 2),type:=T,pos := "slices.go:145",after:=#[],guard:=OG },
  { dst:=Ot 25,op:=SG { callee:=QO VP,args:=#[OD 23,OD 24],argTypes:=#[T,T] },type:=T,pos := "slices.go:145",after:=#[{ on:=0,ground:=OV },{ on:=1,ground:=OV }],guard:=OG },
  { dst:=Ot 6,op:=RV (OD 25),type:=T,pos := "slices.go:145",after:=#[{ on:=2,ground:=OV },{ on:=2,ground:=Wx },{ on:=0,ground:=PO },{ on:=1,ground:=PO },{ on:=2,ground:=PO }],guard:=OG }] OA).seq UV) VH)).seq (((Ql 8 #[
  { dst:=Ot 26,op:=PV (OD 8),type:=I,pos := "slices.go:147",after:=#[],guard:=OG },
  { dst:=Ot 27,op:=PV (OD 7),type:=I,pos := "slices.go:147",after:=#[],guard:=OG },
  { dst:=Ot 28,op:=Tz UW I (OD 26) (OD 27) I,type:=I,pos := "slices.go:147",after:=#[{ on:=0,ground:=OV },{ on:=1,ground:=OV }],guard:=OG },
  { dst:=Ot 29,op:=PV (OD 0),type:=T,pos := "slices.go:147",after:=#[],guard:=OG },
  { dst:=Ot 30,op:=SG { callee:=QO Builtin.cap,args:=#[OD 29],argTypes:=#[T] },type:=I,pos := "slices.go:147",after:=#[{ on:=3,ground:=OV }],guard:=OG },
  { dst:=Ot 31,op:=Tz BinOp.gtr I (OD 28) (OD 30) I,type:=B,pos := "slices.go:147",after:=#[{ on:=2,ground:=OV },{ on:=4,ground:=OV }],guard:=OG }] OA).seq (VG (OD 31) ((Ql 9 #[
  { dst:=Ot 32,op:=PV (OD 0),type:=T,pos := "slices.go:152",after:=#[],guard:=OG },
  { dst:=Ot 33,op:=PV (OD 1),type:=I,pos := "slices.go:152",after:=#[],guard:=OG },
  { dst:=Ot 34,op:=Sk T (OD 32) OG (Ot (OD 33)) OG,type:=T,pos := "slices.go:152",after:=#[{ on:=0,ground:=OV },{ on:=1,ground:=OV }],guard:=OG },
  { dst:=Ot 35,op:=PV (OD 8),type:=I,pos := "slices.go:152",after:=#[],guard:=OG },
  { dst:=Ot 36,op:=PV (OD 7),type:=I,pos := "slices.go:152",after:=#[],guard:=OG },
  { dst:=Ot 37,op:=Tz UW I (OD 35) (OD 36) I,type:=I,pos := "slices.go:152",after:=#[{ on:=3,ground:=OV },{ on:=4,ground:=OV }],guard:=OG },
  { dst:=Ot 38,op:=PV (OD 1),type:=I,pos := "slices.go:152",after:=#[],guard:=OG },
  { dst:=Ot 39,op:=Tz BinOp.sub I (OD 37) (OD 38) I,type:=I,pos := "slices.go:152",after:=#[{ on:=5,ground:=OV },{ on:=6,ground:=OV }],guard:=OG },
  { dst:=Ot 40,op:=SG { callee:=QO VP,args:=#[OD 34,OD 39],argTypes:=#[T,I] },type:=T,pos := "slices.go:152",after:=#[{ on:=2,ground:=OV },{ on:=7,ground:=OV }],guard:=OG },
  { dst:=Ot 9,op:=RV (OD 40),type:=T,pos := "slices.go:152",after:=#[{ on:=8,ground:=OV },{ on:=8,ground:=Wx },{ on:=0,ground:=PO },{ on:=1,ground:=PO },{ on:=2,ground:=PO },{ on:=3,ground:=PO },{ on:=4,ground:=PO },{ on:=5,ground:=PO },{ on:=6,ground:=PO },{ on:=7,ground:=PO },{ on:=8,ground:=PO }],guard:=OG }] OA).seq ((Ql 10 #[
  { dst:=Ot 41,op:=PV (OD 9),type:=T,pos := "slices.go:153",after:=#[],guard:=OG },
  { dst:=Ot 42,op:=PV (OD 1),type:=I,pos := "slices.go:153",after:=#[],guard:=OG },
  { dst:=Ot 43,op:=Sk T (OD 41) (Ot (OD 42)) OG OG,type:=T,pos := "slices.go:153",after:=#[{ on:=0,ground:=OV },{ on:=1,ground:=OV }],guard:=OG },
  { dst:=Ot 44,op:=PV (OD 2),type:=T,pos := "slices.go:153",after:=#[],guard:=OG },
  { dst:=Ot 45,op:=SG { callee:=QO Uz,args:=#[OD 43,OD 44],argTypes:=#[T,T] },type:=I,pos := "slices.go:153",after:=#[{ on:=2,ground:=OV },{ on:=3,ground:=OV }],guard:=OG }] OA).seq ((Ql 11 #[
  { dst:=Ot 46,op:=PV (OD 9),type:=T,pos := "slices.go:154",after:=#[],guard:=OG },
  { dst:=Ot 47,op:=PV (OD 1),type:=I,pos := "slices.go:154",after:=#[],guard:=OG },
  { dst:=Ot 48,op:=PV (OD 7),type:=I,pos := "slices.go:154",after:=#[],guard:=OG },
  { dst:=Ot 49,op:=Tz UW I (OD 47) (OD 48) I,type:=I,pos := "slices.go:154",after:=#[{ on:=1,ground:=OV },{ on:=2,ground:=OV }],guard:=OG },
  { dst:=Ot 50,op:=Sk T (OD 46) (Ot (OD 49)) OG OG,type:=T,pos := "slices.go:154",after:=#[{ on:=0,ground:=OV },{ on:=3,ground:=OV }],guard:=OG },
  { dst:=Ot 51,op:=PV (OD 0),type:=T,pos := "slices.go:154",after:=#[],guard:=OG },
  { dst:=Ot 52,op:=PV (OD 1),type:=I,pos := "slices.go:154",after:=#[],guard:=OG },
  { dst:=Ot 53,op:=Sk T (OD 51) (Ot (OD 52)) OG OG,type:=T,pos := "slices.go:154",after:=#[{ on:=5,ground:=OV },{ on:=6,ground:=OV }],guard:=OG },
  { dst:=Ot 54,op:=SG { callee:=QO Uz,args:=#[OD 50,OD 53],argTypes:=#[T,T] },type:=I,pos := "slices.go:154",after:=#[{ on:=4,ground:=OV },{ on:=7,ground:=OV }],guard:=OG }] OB).seq ((Ql 12 #[
  { dst:=Ot 55,op:=PV (OD 9),type:=T,pos := "slices.go:155",after:=#[],guard:=OG },
  { dst:=Ot 6,op:=RV (OD 55),type:=T,pos := "slices.go:155",after:=#[{ on:=0,ground:=OV },{ on:=0,ground:=PO }],guard:=OG }] OA).seq UV)))) VH)).seq ((Ql 13 #[
  { dst:=Ot 56,op:=PV (OD 0),type:=T,pos := "slices.go:157",after:=#[],guard:=OG },
  { dst:=Ot 57,op:=PV (OD 8),type:=I,pos := "slices.go:157",after:=#[],guard:=OG },
  { dst:=Ot 58,op:=PV (OD 7),type:=I,pos := "slices.go:157",after:=#[],guard:=OG },
  { dst:=Ot 59,op:=Tz UW I (OD 57) (OD 58) I,type:=I,pos := "slices.go:157",after:=#[{ on:=1,ground:=OV },{ on:=2,ground:=OV }],guard:=OG },
  { dst:=Ot 60,op:=Sk T (OD 56) OG (Ot (OD 59)) OG,type:=T,pos := "slices.go:157",after:=#[{ on:=0,ground:=OV },{ on:=3,ground:=OV }],guard:=OG },
  { dst:=Ot 0,op:=RV (OD 60),type:=T,pos := "slices.go:157",after:=#[{ on:=4,ground:=OV },{ on:=0,ground:=PO },{ on:=1,ground:=PO },{ on:=2,ground:=PO },{ on:=3,ground:=PO },{ on:=4,ground:=PO }],guard:=OG }] OA).seq (((Ql 14 #[
  { dst:=Ot 61,op:=PV (OD 2),type:=T,pos := "slices.go:173",after:=#[],guard:=OG },
  { dst:=Ot 62,op:=PV (OD 0),type:=T,pos := "slices.go:173",after:=#[],guard:=OG },
  { dst:=Ot 63,op:=PV (OD 1),type:=I,pos := "slices.go:173",after:=#[],guard:=OG },
  { dst:=Ot 64,op:=PV (OD 7),type:=I,pos := "slices.go:173",after:=#[],guard:=OG },
  { dst:=Ot 65,op:=Tz UW I (OD 63) (OD 64) I,type:=I,pos := "slices.go:173",after:=#[{ on:=2,ground:=OV },{ on:=3,ground:=OV }],guard:=OG },
  { dst:=Ot 66,op:=Sk T (OD 62) (Ot (OD 65)) OG OG,type:=T,pos := "slices.go:173",after:=#[{ on:=1,ground:=OV },{ on:=4,ground:=OV }],guard:=OG },
  { dst:=Ot 67,op:=SG { callee:=Yg (XT ov),args:=#[OD 61,OD 66],argTypes:=#[T,T] },type:=B,pos := "slices.go:173",after:=#[{ on:=0,ground:=OV },{ on:=5,ground:=OV }],guard:=OG },
  { dst:=Ot 68,op:=Op.unOp UnOp.not B (OD 67),type:=B,pos := "slices.go:173",after:=#[{ on:=6,ground:=OV }],guard:=OG }] OA).seq (VG (OD 68) ((Ql 15 #[
  { dst:=Ot 69,op:=PV (OD 0),type:=T,pos := "slices.go:178",after:=#[],guard:=OG },
  { dst:=Ot 70,op:=PV (OD 1),type:=I,pos := "slices.go:178",after:=#[],guard:=OG },
  { dst:=Ot 71,op:=PV (OD 7),type:=I,pos := "slices.go:178",after:=#[],guard:=OG },
  { dst:=Ot 72,op:=Tz UW I (OD 70) (OD 71) I,type:=I,pos := "slices.go:178",after:=#[{ on:=1,ground:=OV },{ on:=2,ground:=OV }],guard:=OG },
  { dst:=Ot 73,op:=Sk T (OD 69) (Ot (OD 72)) OG OG,type:=T,pos := "slices.go:178",after:=#[{ on:=0,ground:=OV },{ on:=3,ground:=OV }],guard:=OG },
  { dst:=Ot 74,op:=PV (OD 0),type:=T,pos := "slices.go:178",after:=#[],guard:=OG },
  { dst:=Ot 75,op:=PV (OD 1),type:=I,pos := "slices.go:178",after:=#[],guard:=OG },
  { dst:=Ot 76,op:=Sk T (OD 74) (Ot (OD 75)) OG OG,type:=T,pos := "slices.go:178",after:=#[{ on:=5,ground:=OV },{ on:=6,ground:=OV }],guard:=OG },
  { dst:=Ot 77,op:=SG { callee:=QO Uz,args:=#[OD 73,OD 76],argTypes:=#[T,T] },type:=I,pos := "slices.go:178",after:=#[{ on:=4,ground:=OV },{ on:=7,ground:=OV }],guard:=OG }] OB).seq ((Ql 16 #[
  { dst:=Ot 78,op:=PV (OD 0),type:=T,pos := "slices.go:186",after:=#[],guard:=OG },
  { dst:=Ot 79,op:=PV (OD 1),type:=I,pos := "slices.go:186",after:=#[],guard:=OG },
  { dst:=Ot 80,op:=Sk T (OD 78) (Ot (OD 79)) OG OG,type:=T,pos := "slices.go:186",after:=#[{ on:=0,ground:=OV },{ on:=1,ground:=OV }],guard:=OG },
  { dst:=Ot 81,op:=PV (OD 2),type:=T,pos := "slices.go:186",after:=#[],guard:=OG },
  { dst:=Ot 82,op:=SG { callee:=QO Uz,args:=#[OD 80,OD 81],argTypes:=#[T,T] },type:=I,pos := "slices.go:186",after:=#[{ on:=2,ground:=OV },{ on:=3,ground:=OV }],guard:=OG }] OA).seq ((Ql 17 #[
  { dst:=Ot 83,op:=PV (OD 0),type:=T,pos := "slices.go:193",after:=#[],guard:=OG },
  { dst:=Ot 6,op:=RV (OD 83),type:=T,pos := "slices.go:193",after:=#[{ on:=0,ground:=OV },{ on:=0,ground:=PO }],guard:=OG }] OA).seq UV))) VH)).seq ((Ql 18 #[
  { dst:=Ot 84,op:=PV (OD 0),type:=T,pos := "slices.go:200",after:=#[],guard:=OG },
  { dst:=Ot 85,op:=PV (OD 8),type:=I,pos := "slices.go:200",after:=#[],guard:=OG },
  { dst:=Ot 86,op:=Sk T (OD 84) (Ot (OD 85)) OG OG,type:=T,pos := "slices.go:200",after:=#[{ on:=0,ground:=OV },{ on:=1,ground:=OV }],guard:=OG },
  { dst:=Ot 87,op:=PV (OD 2),type:=T,pos := "slices.go:200",after:=#[],guard:=OG },
  { dst:=Ot 88,op:=SG { callee:=QO Uz,args:=#[OD 86,OD 87],argTypes:=#[T,T] },type:=I,pos := "slices.go:200",after:=#[{ on:=2,ground:=OV },{ on:=3,ground:=OV }],guard:=OG }] OA).seq ((Ql 19 #[
  { dst:=Ot 89,op:=PV (OD 0),type:=T,pos := "slices.go:207",after:=#[],guard:=OG },
  { dst:=Ot 90,op:=PV (OD 1),type:=I,pos := "slices.go:207",after:=#[],guard:=OG },
  { dst:=Ot 91,op:=Sk T (OD 89) (Ot (OD 90)) OG OG,type:=T,pos := "slices.go:207",after:=#[{ on:=0,ground:=OV },{ on:=1,ground:=OV }],guard:=OG },
  { dst:=Ot 92,op:=PV (OD 7),type:=I,pos := "slices.go:207",after:=#[],guard:=OG },
  { dst:=Ot 93,op:=SG { callee:=Yg (XT rr),args:=#[OD 91,OD 92],argTypes:=#[T,I] },type:=0,pos := "slices.go:207",after:=#[{ on:=2,ground:=OV },{ on:=3,ground:=OV }],guard:=OG }] OA).seq ((Ql 20 #[
  { dst:=Ot 94,op:=PV (OD 0),type:=T,pos := "slices.go:214",after:=#[],guard:=OG },
  { dst:=Ot 6,op:=RV (OD 94),type:=T,pos := "slices.go:214",after:=#[{ on:=0,ground:=OV },{ on:=0,ground:=PO }],guard:=OG }] OA).seq UV))))))))))))
def yX(tmps:Pa O'):Ud->Sem O'
 | .tmp t=>pure (tmps.getD t Vz)
 | .cell a t=>do loadVar t (<-asAddr (tmps.getD a Vz))
def aVn(ws:On O'):Value:=if h:ws.toArray.size=1 then ws.toArray[0] else .tuple ws.toArray
theorem yH{P:OI}{fn:Un}{tmps:Pa O'}{W:PE}{ws:On O'}(h:(fn.results.toList.mapM (yX tmps)).run P W=Vw ws W):
  (results fn tmps).run P W=.ok (aVn ws) W:=by
 have:results fn tmps=fn.results.mapM (yX tmps) >>= λvs=>pure (if h:vs.size=1 then vs[0] else .tuple vs):=by
  unfold results;rfl
 rw[this,Array.mapM_eq_mapM_toList,Pk];have h2:(List.toArray <$> fn.results.toList.mapM (yX tmps)).run P W=Vw ws.toArray W:=by
  rw[map_eq_pure_bind,Pk,h];rfl
 rw[h2];rfl
theorem jL{P:OI}{fn:Un}{t:Tmp}(hr:fn.results=#[.tmp t]){tmps:Pa O'}{W:PE}{v:O'}(h:tmps.getD t Vz=v):(results fn tmps).run P W=.ok v W:=by
 have:=yH (P:=P) (fn:=fn) (tmps:=tmps) (W:=W) (ws:=[v]) (by rw[hr];simp[Wj,yX,h])
 exact this
end Go.AM
end
section
namespace Go.AM
open Go.RowKit Go.Lib Go.Proofs Go.Shelf
section
variable{P:OI}
structure InsAt (P:OI) (f:PU) (T e I B:OH) (ov rr:PU) (fn:Un):Prop where
 mixed:P.follows .mixedOrders=OB
 hf:P.funcs[f]?=Ot fn
 hb:fn.body=Ot (aAm T I B ov rr)
 hn:fn.ntmps=95
 hr:fn.results=#[.tmp 6]
 tT:P.underlying T=Ot (.slice e)
 tI:P.underlying I=Ot (.int J)
 tB:P.underlying B=Ot .bool
 hov:∀args w,(UZ ov args).run P w=((Vk #[T,T] #[B] args).run P w).andThen λv w'=>.ok (.value v) w'
 zE:∀w,(Ry e).run P w=.ok (sz P e) w
 zT:∀w,(Ry T).run P w=.ok 1 w
 zI:∀w,(Ry I).run P w=.ok 1 w
 zB:∀w,(Ry B).run P w=.ok 1 w
set_option maxHeartbeats 4000000 in
set_option maxRecDepth 100000 in
theorem aT8{f:PU}{T e I B:OH}{ov rr:PU}{fn:Un}(L:InsAt P f T e I B ov rr fn)(b off sz n c i vb voff m vc:Nat)(w W1 W2:PE)(hi:i<n)(hm:0<m)(ay:n+m<=c)
  (GI:n+m<=9223372036854775807) (bk:∀w,(Ry e).run P w=.ok sz w)
  (hov:∀lb cb,(UZ ov #[.slice (Ot ⟨vb,voff,OG⟩) m vc,.slice (Ot ⟨b,off+(i+m)*sz,OG⟩) lb cb]).run P w=.ok (.value (.bool OA)) w)
  (AT:∀ty dc sc,(SU #[T,T] ty #[.slice (Ot ⟨b,off+(i+m)*sz,OG⟩) (n+m - (i+m)) dc,.slice (Ot ⟨b,off+i*sz,OG⟩) (n+m - i) sc]).run P w.drew=.ok (.int J (n - i:Nat)) W1)
  (AU:∀ty dc,(SU #[T,T] ty #[.slice (Ot ⟨b,off+i*sz,OG⟩) (n+m - i) dc,.slice (Ot ⟨vb,voff,OG⟩) m vc]).run P W1=.ok (.int J m) W2):
  Ty P f #[.slice (Ot ⟨b,off,OG⟩) n c,.int J i,.slice (Ot ⟨vb,voff,OG⟩) m vc] w λe w'=>e=.returned (.slice (Ot ⟨b,off,OG⟩) (n+m) c)/\w'=W2:=by
 have tT:=L.tT;have tI:=L.tI;have tB:=L.tB
 have uT:=OW L.tT;have uI:=OW L.tI;have uB:=OW L.tB
 have zT:=L.zT;have zI:=L.zI;have zB:=L.zB
 have mixed:=L.mixed;have xn:¬((m:Int)=0):=by omega
 have Nf:¬((i:Int)=(n:Int)):=by omega
 have Ng:Pm.wrap ((i:Int)+(m:Int))=(i:Int)+(m:Int):=by rw[Sv];omega
 have nc:Pm.wrap ((n:Int)+(m:Int))=(n:Int)+(m:Int):=by rw[Sv];omega
 have ea:(0:Int)<=(i:Int)+(m:Int):=by omega
 have ba:i<=n:=by omega
 have GA:((i:Int)+(m:Int)).toNat=i+m:=by omega
 have wl:¬(c=i+m):=by omega
 have Fo:(i:Int)<=(n:Int)+(m:Int):=by omega
 have hb4:¬(c=i):=by omega
 refine UH L.hf L.hb ?_;have hr:=L.hr;simp only[L.hn,RO,OQ,Pf,Pi,Tp,SM,
   SN,Tq,SW,Pp,PJ]
 unfold aAm
 go_wp2_with (simp only[hov])
 go_region_law_o (refine step_copy_runI rfl _ _ T T rfl _ _ (by simp[Wr,Uu]) (by simp[Wr,Uu]) (AT _ _ _) ?_)
 go_wp2_with (at_builtin;refine wpList_copy_runI _ rfl _ _ T T rfl _ _ rfl rfl (AU _ _) ?_)
 refine⟨rfl,.slice (Ot ⟨b,off,OG⟩) (n+m) c,jL hr rfl,rfl,rfl⟩
set_option maxHeartbeats 4000000 in
set_option maxRecDepth 100000 in
theorem aVo{f:PU}{T e I B:OH}{ov rr:PU}{fn:Un}(L:InsAt P f T e I B ov rr fn)(b off nb sz n c i vb voff m vc g:Nat)(w W1 W2 W3:PE)(hi:i<n)(hm:0<m)(ky:n<=c)(ay:c<n+m)
  (hg:n+m<=g) (Df:n+m<=9223372036854775807) (bk:∀w,(Ry e).run P w=.ok sz w)
  (Dg:∀ty,(Sa #[T,I] ty #[.slice (Ot ⟨b,off,OG⟩) i c,.int J ((n:Int)+(m:Int) - (i:Int))]).run P w=.ok (.slice (Ot ⟨nb,0,OG⟩) (n+m) g) W1)
  (AT:∀ty dc,(SU #[T,T] ty #[.slice (Ot ⟨nb,i*sz,OG⟩) (n+m - i) dc,.slice (Ot ⟨vb,voff,OG⟩) m vc]).run P W1=.ok (.int J m) W2)
  (AU:∀ty dc sc,(SU #[T,T] ty #[.slice (Ot ⟨nb,(i+m)*sz,OG⟩) (n+m - (i+m)) dc,.slice (Ot ⟨b,off+i*sz,OG⟩) (n - i) sc]).run P W2.drew=.ok (.int J (n - i:Nat)) W3):
  Ty P f #[.slice (Ot ⟨b,off,OG⟩) n c,.int J i,.slice (Ot ⟨vb,voff,OG⟩) m vc] w λe w'=>e=.returned (.slice (Ot ⟨nb,0,OG⟩) (n+m) g)/\w'=W3:=by
 have tT:=L.tT;have tI:=L.tI;have tB:=L.tB
 have uT:=OW L.tT;have uI:=OW L.tI;have uB:=OW L.tB
 have zT:=L.zT;have zI:=L.zI;have zB:=L.zB
 have mixed:=L.mixed;have xn:¬((m:Int)=0):=by omega
 have Nf:¬((i:Int)=(n:Int)):=by omega
 have hz3:(c:Int)<(n:Int)+(m:Int):=by omega
 have Ng:Pm.wrap ((i:Int)+(m:Int))=(i:Int)+(m:Int):=by rw[Sv];omega
 have nc:Pm.wrap ((n:Int)+(m:Int))=(n:Int)+(m:Int):=by rw[Sv];omega
 have hw3:Pm.wrap ((n:Int)+(m:Int) - (i:Int))=(n:Int)+(m:Int) - (i:Int):=by rw[Sv];omega
 have ea:(0:Int)<=(i:Int)+(m:Int):=by omega
 have ba:i<=n:=by omega
 have GA:((i:Int)+(m:Int)).toNat=i+m:=by omega
 have Fo:(i:Int)<=(n:Int)+(m:Int):=by omega
 have hGi:¬(g=i):=by omega
 have Nh:¬(g=i+m):=by omega
 have hci:¬(c=i):=by omega
 refine UH L.hf L.hb ?_;have hr:=L.hr;simp only[L.hn,RO,OQ,Pf,Pi,Tp,SM,
   SN,Tq,SW,Pp,PJ]
 unfold aAm
 go_wp2_with (at_builtin;first | refine US _ rfl _ _ _ _ rfl _ _ rfl rfl _ _ (Dg _) ?_ | refine wpList_copy_runI _ rfl _ _ T T rfl _ _ rfl rfl (AT _ _) ?_)
 go_region_law_o (refine step_copy_runI rfl _ _ T T rfl _ _ (by simp[Wr,Uu]) (by simp[Wr,Uu]) (AU _ _ _) ?_)
 go_wp2_with (at_builtin;skip)
 refine⟨rfl,.slice (Ot ⟨nb,0,OG⟩) (n+m) g,jL hr rfl,rfl,rfl⟩
set_option maxHeartbeats 4000000 in
set_option maxRecDepth 100000 in
theorem aQ3{f : PU}{T e I B : OH}{ov rr : PU}{fn : Un}(L : InsAt P f T e I B ov rr fn)(base : Ow Wi)(n c m : Nat)(v : O')(hv : ∃p vc, v = .slice p m vc)(w W1 : PE)(hm : 0 < m)(r : O')
    (GJ : base = OG -> c = 0) (ky : n <= c) (sz : Nat) (bk : ∀w, (Ry e).run P w = .ok sz w)
    (az : ∀ty, (Sa #[T, T] ty #[.slice base n c, v]).run P w = .ok r W1) :
    Ty P f #[.slice base n c, .int J n, v] w λe w' => e = .returned r /\ w' = W1 := by
  obtain⟨p, vc, rfl⟩ := hv;have tT := L.tT; have tI := L.tI; have tB := L.tB
  have uT := OW L.tT; have uI := OW L.tI; have uB := OW L.tB
  have zT := L.zT; have zI := L.zI; have zB := L.zB
  have mixed := L.mixed;have xn : ¬((m : Int) = 0) := by omega
  refine UH L.hf L.hb ?_;have hr := L.hr;simp only[L.hn, RO, OQ, Pf, Pi, Tp, SM,
     SN, Tq, SW, Pp, PJ]
  unfold aAm;cases base with
  | none =>
    have h0 := GJ rfl;subst h0;have Cf : n = 0 := by omega
    subst Cf
    go_wp2_with (at_builtin; refine US _ rfl _ _ _ _ rfl _ _ rfl rfl _ _ (az _) ?_)
    exact⟨rfl, r, jL hr rfl, rfl, rfl⟩
  | some a =>
    obtain⟨ab, ao, asp⟩ := a
    go_wp2_with (at_builtin; refine US _ rfl _ _ _ _ rfl _ _ rfl rfl _ _ (az _) ?_)
    all_goals exact⟨rfl, r, jL hr rfl, rfl, rfl⟩
end
section
variable{P:OI}
theorem aAn{T e:OH}(hT:P.underlying T=Ot (.slice e)){sz:Nat}(bk:∀w,(Ry e).run P w=.ok sz w)(W:PE)(b o dLen:Nat)(src:Wi)(sLen k:Nat)
  (hk:Nat.min sLen dLen=k) (ws:On O') (lp:ws.length=k*sz) (ni:∀(j:Nat) (w:O'),ws[j]?=Ot w->W.cell? (src.add j)=Ot w) {c:Pa O'} {ct:OH} {fr:Nat×Nat}
  (hb:W.heap[b]?=Ot (.cells c ct fr)) (ones:∀v∈ws,v.oneCell'=OB) (hle:o+ws.length<=c.size) (td:∀j,o<=j->j<o+ws.length->¬(fr.1<=j/\j<fr.2)):
  ∃W',(∀ty dc sc,(SU #[T,T] ty #[.slice (Ot ⟨b,o,OG⟩) dLen dc,.slice (Ot src) sLen sc]).run P W=.ok (.int J k) W')/\W'.heap[b]?=Ot (.cells (bH c o ws) ct fr) /\
   (∀k,k≠b->W'.heap[k]?=W.heap[k]?)/\W'.heap.size=W.heap.size/\Same W W':=by
 obtain⟨W',s1,s2,s3,s4,s5⟩:=fH (P:=P) (b:=b) (o:=o) (ty:=ct) (fr:=fr) ws 0 W c hb ones (by simpa using hle) (by simpa using td);refine⟨W',λty dc sc=>?_,by simpa using s2,s3,s4,s5⟩;have hl:=TZ (P:=P) W src ws ni;rw[lp] at hl;unfold SU;simp only[Pk,OW hT,Pb,bk,SE,Qs,hk,QJ,hl,s1];simp[OW hT,bk,SE,hk,QJ,hl,s1,goInt]
end
section
variable{P:OI}
theorem aQ4{G:Gh}{es n k m o:Nat}{old xs:On (On V)}{os ws:On O'}{c:Pa O'}(hk:k<=n)(ru:old.length=n)(hold:∀x∈old,x.length=es)(kx:∀x∈xs,x.length=es)(hm:xs.length=m)
  (ho:VRs G old.flatten os) (hw:VRs G xs.flatten ws)
  (h1:∀j w,j<k*es->os[j]?=Ot w->c[o+j]?=Ot w) (h2:∀j w,ws[j]?=Ot w->c[o+(k*es+j)]?=Ot w)
  (h3:∀j w,k*es<=j->os[j]?=Ot w->c[o+(m*es+j)]?=Ot w):
  RowR G c o es (old.take k++(xs++old.drop k)):=by
 have gn:os.length=n*es:=by rw[<-ho.length,cG _ _ hold,ru]
 have jy:ws.length=m*es:=by rw[<-hw.length,cG _ _ kx,hm]
 have Ni:k*es<=n*es:=Po es hk;have ak:old.flatten=(old.take k).flatten++(old.drop k).flatten:=by rw[<-SC,Sd]
 have jj:(old.take k).flatten.length=k*es:=by
  rw[cG es _ (λx hx=>hold x (QP hx)),PY,WR (by omega)]
 have ht:VRs G (old.take k).flatten (os.take (k*es)):=by
  have:=ho.take (k*es)
  rw[ak,List.take_append_of_le_length (by omega),List.take_of_length_le (by omega)] at this;exact this
 have hd:VRs G (old.drop k).flatten (os.drop (k*es)):=by
  refine VRs.of ?_ λi v w hv hw=>?_
  ·rw[cG es _ (λx hx=>hold x (QM hx)),PQ,PQ,gn,ru,UX]
  ·rw[PP] at hw
   have:old.flatten[k*es+i]?=Ot v:=by
    rw[ak,Pe (by omega),jj];rw[show k*es+i - k*es=i by omega];exact hv
   obtain⟨w',e1,e2⟩:=ho.get this;rw[e1] at hw;cases hw;exact e2
 refine nW (ws:=os.take (k*es)++(ws++os.drop (k*es))) ?_ ?_ ?_
 ·intro x hx;rcases Qf.1 hx with hx | hx
  ·exact hold x (QP hx)
  ·rcases Qf.1 hx with hx | hx
   ·exact kx x hx
   ·exact hold x (QM hx)
 ·rw[SC,SC];exact ht.append (hw.append hd)
 ·intro j w hj;have ag:(os.take (k*es)).length=k*es:=by simp;omega
  rcases Q' j (k*es) with q | q
  ·rw[Pr (by omega),Qp,OE q] at hj;exact h1 j w q hj
  ·rw[Pe (by omega),ag] at hj;rcases Q' (j - k*es) ws.length with q2 | q2
   ·rw[Pr q2] at hj
    have:=h2 (j - k*es) w hj
    rw[show k*es+(j - k*es)=j by omega] at this;exact this
   ·rw[Pe q2,PP,jy] at hj
    have:=h3 (k*es+(j - k*es - m*es)) w (by omega) hj
    rw[show m*es+(k*es+(j - k*es - m*es))=j by omega] at this;exact this
end
section
variable{P:OI}
theorem aDq{a b k:Nat}(h1:k<=a/\k<=b)(h2:k=a\/k=b):Nat.min a b=k:=by
 show min a b=k;omega
theorem aVp{f:PU}{T e I B:OH}{ov rr:PU}{fn:Un}(L:InsAt P f T e I B ov rr fn){W:PE}{b o n c k vb vo m vc es:Nat}(ch:sz P e=es)
  (hk:k<n) (hm:0<m) (ay:n+m<=c) (cq:n+m<4294967296) (GK:vb≠b)
  {ca:Pa O'} {cty:OH} {cfr:Nat×Nat} (dv:W.heap[b]?=Ot (.cells ca cty cfr)) (ba:o+c*es<=ca.size) (td:∀j,o<=j->j<o+c*es->¬(cfr.1<=j/\j<cfr.2))
  {cv:Pa O'} {vty:OH} {vfr:Nat×Nat} (wm:W.heap[vb]?=Ot (.cells cv vty vfr)) (hfv:¬(vfr.1<=vo/\vo<vfr.2)) (hfe:¬(vfr.1<=cv.size/\cv.size<vfr.2))
  {os ws:On O'} (GM:os.length=n*es) (lp:ws.length=m*es) (ho:∀(j:Nat) (w:O'),os[j]?=Ot w->ca[o+j]?=Ot w) (hw:∀(j:Nat) (w:O'),ws[j]?=Ot w->cv[vo+j]?=Ot w)
  (Aa:∀v∈os,v.oneCell'=OB) (Ch:∀v∈ws,v.oneCell'=OB) (du:0<es):
  ∃W2,Ty P f #[.slice (Ot ⟨b,o,OG⟩) n c,.int J k,.slice (Ot ⟨vb,vo,OG⟩) m vc] W (λe w'=>e=.returned (.slice (Ot ⟨b,o,OG⟩) (n+m) c)/\w'=W2) /\
   W2.heap[b]?=Ot (.cells (bH (bH ca (o+(k+m)*es) (os.drop (k*es))) (o+k*es) ws) cty cfr)/\(∀i,i≠b->W2.heap[i]?=W.heap[i]?)/\W2.heap.size=W.heap.size/\Same W W2:=by
 have m1:(n+m)*es<=c*es:=Po es ay;have m2:k*es<=n*es:=Po es (by omega);have e1:(n+m)*es=n*es+m*es:=Qn ..;have e2:(k+m)*es=k*es+m*es:=Qn ..;have wn:∀w,(Ry e).run P w=.ok es w:=by intro w;rw[<-ch];exact L.zE w
 have jj:(os.drop (k*es)).length=(n - k)*es:=by rw[PQ,GM,UX]
 have e3:(n - k)*es=n*es - k*es:=UX ..;obtain⟨W1,r1,s1,s2,s3,s4⟩:=aAn (P:=P) L.tT wn W.drew b (o+(k+m)*es) (n+m - (k+m)) ⟨b,o+k*es,OG⟩ (n+m - k) (n - k) (aDq (by omega) (by omega)) (os.drop (k*es)) jj
  (λj w hj=>by
   rw[Ub,SO]
   have:W.cell? ⟨b,o+(k*es+j),OG⟩=Ot w:=by
    rw[dJ dv];exact ho _ w (by rw[PP] at hj;exact hj)
   exact this) (c:=ca) (ct:=cty) (fr:=cfr) dv (λv hv=>Aa v (QM hv)) (by omega) (λj ug mu=>td j (by omega) (by omega))
 obtain⟨W2,q1,t1,t2,t3,t4⟩:=aAn (P:=P) L.tT wn W1 b (o+k*es) (n+m - k) ⟨vb,vo,OG⟩ m m (aDq (by omega) (by omega)) ws lp
  (λj w hj=>by
   rw[Ub];have h0:W1.heap[vb]?=Ot (.cells cv vty vfr):=by rw[s2 vb GK];exact wm
   rw[dJ h0];exact hw j w hj) (c:=_) (ct:=cty) (fr:=cfr) s1 Ch (by rw[bK];omega) (λj ug mu=>td j (by omega) (by omega))
 refine⟨W2,?_,t1,λi hi=>(t2 i hi).trans (s2 i hi),t3.trans s3,((VF W).trans s4).trans t4⟩;refine aT8 L b o es n c k vb vo m vc W W1 W2 hk hm ay (by omega) wn (λlb cb=>?_) (λty dc sc=>?_) (λty dc=>?_)
 ·rw[L.hov,run_overlaps_apart W T B e L.tT es wn ⟨vb,vo,OG⟩ ⟨b,o+(k+m)*es,OG⟩ m vc lb cb GK vty cty cv.size ca.size]
  ·rfl
  ·simp[Yp,wm]
  ·simp[Yp,dv]
  ·have:0<c*es:=Nat.mul_pos (by omega) du
   omega
  ·simp only[XZ,wm,WV,QY];omega
  ·simp only[XZ,wm,WV,QY];omega
 ·exact r1 ty dc sc
 ·exact q1 ty dc vc
end
section
variable{P:OI}
theorem aO6{f:PU}{T e I B:OH}{ov rr:PU}{fn:Un}(L:InsAt P f T e I B ov rr fn){W:PE}{b o n c k vb vo m vc es:Nat}(ch:sz P e=es){z:V}(hz:aQ P e=Ot z)(ku:z.cells.length=es)
  (Df:(n+m)*P.bytesOf e<=35184372088832)
  (hk:k<n) (hm:0<m) (ky:n<=c) (ay:c<n+m) (cq:n+m<4294967296)
  {ca:Pa O'} {cty:OH} {cfr:Nat×Nat} (dv:W.heap[b]?=Ot (.cells ca cty cfr))
  {cv:Pa O'} {vty:OH} {vfr:Nat×Nat} (wm:W.heap[vb]?=Ot (.cells cv vty vfr))
  {os ws:On O'} (GM:os.length=n*es) (lp:ws.length=m*es) (ho:∀(j:Nat) (w:O'),os[j]?=Ot w->ca[o+j]?=Ot w) (hw:∀(j:Nat) (w:O'),ws[j]?=Ot w->cv[vo+j]?=Ot w)
  (Aa:∀v∈os,v.oneCell'=OB) (Ch:∀v∈ws,v.oneCell'=OB) (du:0<es):
  ∃W3 g row,n+m<=g/\Ty P f #[.slice (Ot ⟨b,o,OG⟩) n c,.int J k,.slice (Ot ⟨vb,vo,OG⟩) m vc] W (λe w'=>e=.returned (.slice (Ot ⟨W.heap.size,0,OG⟩) (n+m) g)/\w'=W3) /\
   row.size=g*es/\(∀(j:Nat) (w:O'),j<k*es->os[j]?=Ot w->row[j]?=Ot w) /\
   W3.heap[W.heap.size]?=Ot (.cells (bH (bH row (k*es) ws) ((k+m)*es) (os.drop (k*es))) e)/\(∀i,i<W.heap.size->W3.heap[i]?=W.heap[i]?)/\W3.heap.size=W.heap.size+1/\Same W W3:=by
 have wn:∀w,(Ry e).run P w=.ok es w:=by intro w;rw[<-ch];exact L.zE w
 obtain⟨i,zw,hi,mz,wi⟩:=iM hz;have ji:i.size=es:=by rw[<-kX hi];exact ch
 have wo:P.bytesOf e=i.bytes:=rR hi;have nd:zw.cells.size=es:=by
  have:=(gH (⟨λ_=>OG,λ_=>OG,λ_=>OG,λ_=>0⟩:Gh) wi).cells.length
  simp at this;omega
 have e1:(n+m)*es=n*es+m*es:=Qn ..;have e2:(k+m)*es=k*es+m*es:=Qn ..;have e3:(n - k)*es=n*es - k*es:=UX ..;have m2:k*es<=n*es:=Po es (by omega);have hge:=qO W (n+m) c e (by omega);have GN:(n+m)*es<=QS W (n+m) c e*es:=Po es hge;rw[wo] at Df;have KG:k+(n+m - k)=n+m:=by omega
 have Dh:(os.take (k*es)).length=k*es:=by rw[PY];omega
 have hold:(QJ i.size k (.slice (Ot ⟨b,o,OG⟩) k c)).run P W.drew=.ok (os.take (k*es)).toArray W.drew:=by
  simp only[QJ]
  have:=TZ (P:=P) W.drew ⟨b,o,OG⟩ (os.take (k*es)) (λj w hj=>by
   rw[Ub]
   have:W.cell? ⟨b,o+j,OG⟩=Ot w:=by
    rw[dJ dv];rw[Qp] at hj;split at hj
    ·exact ho j w hj
    ·cases hj
   exact this)
  rw[Dh] at this;rw[ji];exact this
 have hfit:=growslice_fits (need:=n+m) (old:=c) (bytes:=i.bytes) (by omega) (by omega);have Dg:∀ty,(Sa #[T,I] ty #[.slice (Ot ⟨b,o,OG⟩) k c,.int J ((n:Int)+(m:Int) - (k:Int))]).run P W=
   .ok (.slice (Ot ⟨W.heap.size,0,OG⟩) (n+m) (QS W (n+m) c e)) (W.drew.alloc (.cells ((os.take (k*es)).toArray++P' zw.cells (n+m - k)++P' zw.cells (QS W (n+m) c e - (n+m))) e)):=λty=>by
  have CO:(n+m - k)*i.bytes<=281474976710656:=by
   have:(n+m - k)*i.bytes<=(n+m)*i.bytes:=Po _ (by omega)
   omega
  have h:=run_append_grow_zeros W T I ty e i zw J J L.tT L.tI hi mz (Ot ⟨b,o,OG⟩) k c (os.take (k*es)) hold (n+m - k) (by omega) (by omega) (by omega) (by omega) CO (by rw[KG];exact hfit);rw[KG] at h;rw[show(n:Int)+(m:Int) - (k:Int)=((n+m - k:Nat):Int) by omega];exact h
 have Ab:((os.take (k*es)).toArray++P' zw.cells (n+m - k)++P' zw.cells (QS W (n+m) c e - (n+m))).size=QS W (n+m) c e*es:=by
  simp only[Array.size_append,RO,jK,Dh,nd];rw[<-Qn,<-Qn];congr 1;omega
 have al:∀(j:Nat) (w:O'),j<k*es->os[j]?=Ot w->((os.take (k*es)).toArray++P' zw.cells (n+m - k)++P' zw.cells (QS W (n+m) c e - (n+m)))[j]?=Ot w:=by
  intro j w hj hw;rw[Array.append_assoc,RY (by simp only[RO,Dh];exact hj)];simp only[List.getElem?_toArray,Qp,OE hj];exact hw
 generalize hR:(os.take (k*es)).toArray++P' zw.cells (n+m - k)++P' zw.cells (QS W (n+m) c e - (n+m))=row at Dg Ab al;generalize hG:QS W (n+m) c e=g at hge GN Dg Ab hR;have jx:(W.drew.alloc (.cells row e)).heap[W.heap.size]?=Ot (.cells row e (0,0)):=heap_alloc_new W.drew (.cells row e);have fi:∀i,i<W.heap.size->(W.drew.alloc (.cells row e)).heap[i]?=W.heap[i]?:=λi hi=>by
  show(W.heap.push (.cells row e))[i]?=_;rw[Array.getElem?_push,Oz (by omega)]
 have Ac:b<W.heap.size:=(PF.1 dv).1;have dh:vb<W.heap.size:=(PF.1 wm).1;obtain⟨W2,q1,t1,t2,t3,t4⟩:=aAn (P:=P) L.tT wn (W.drew.alloc (.cells row e)) W.heap.size (k*es) (n+m - k) ⟨vb,vo,OG⟩ m m (aDq (by omega) (by omega)) ws lp
  (λj w hj=>by
   rw[Ub];have h0:(W.drew.alloc (.cells row e)).heap[vb]?=Ot (.cells cv vty vfr):=by rw[fi vb dh];exact wm
   rw[dJ h0];exact hw j w hj) (c:=row) (ct:=e) (fr:=(0,0)) jx Ch (by omega) (λj _ _=>by simp)
 have jj:(os.drop (k*es)).length=(n - k)*es:=by rw[PQ,GM,UX]
 obtain⟨W3,r1,s1,s2,s3,s4⟩:=aAn (P:=P) L.tT wn W2.drew W.heap.size ((k+m)*es) (n+m - (k+m)) ⟨b,o+k*es,OG⟩ (n - k) (n - k) (aDq (by omega) (by omega)) (os.drop (k*es)) jj
  (λj w hj=>by
   rw[Ub,SO];have h0:W2.drew.heap[b]?=Ot (.cells ca cty cfr):=by
    show W2.heap[b]?=_;rw[t2 b (by omega),fi b Ac];exact dv
   have:W2.drew.cell? ⟨b,o+(k*es+j),OG⟩=Ot w:=by
    rw[dJ h0];exact ho _ w (by rw[PP] at hj;exact hj)
   exact this) (c:=_) (ct:=e) (fr:=(0,0)) t1 (λv hv=>Aa v (QM hv)) (by rw[bK];omega) (λj _ _=>by simp)
 refine⟨W3,g,row,hge,?_,Ab,al,s1,λi hi=>?_,?_,(((VF W).trans (Same.alloc _ _)).trans t4).trans ((VF W2).trans s4)⟩
 ·exact aVo L b o W.heap.size es n c k vb vo m vc g W _ W2 W3 hk hm ky ay hge (by omega) wn Dg (λty dc=>q1 ty dc vc) r1
 ·rw[s2 i (by omega)];show W2.heap[i]?=_;rw[t2 i (by omega)];exact fi i hi
 ·rw[s3];show W2.heap.size=_;rw[t3];simp
end
section
variable{P:OI}
theorem aJs{f:PU}{T e I B:OH}{ov rr:PU}{fn:Un}(L:InsAt P f T e I B ov rr fn){s i x v:V}{S S':St}(h:jR P T s i x S=.ok (v,S'))
  {F:Nat->Ow Obj} {G:Gh} {W:PE} (R:gJ F G S W.heap) {a b c:O'} (ha:VR G s a) (hb:VR G i b) (hc:VR G x c):
  Ty P f #[a,b,c] W λe W'=>∃G' w,e=.returned w/\Sim F OG G S W G' S' W'/\VR G' v w:=by
 unfold jR at h;have het:lD P T=Ot e:=by unfold lD;rw[L.tT]
 rw[het] at h;split at h
 ·rename_i e0 i0 bb bv bes boff blen xp;cases xp;cases hb;split at h
  ·cases h
  ·rename_i xs pn;rw[cond_eq_ite] at h;split at h
   ·cases h
   ·rename_i Di;have du:0<blen:=by
     rcases Nat.eq_zero_or_pos blen with q | q
     ·subst q;simp at Di
     ·exact q
    have bj:∀{s:V} {a:O'} {v:V} {S':St},VR G s a->iP P T s (.sl bb bv bes boff blen) OG S=.ok (v,S')->∃W' G' w,(∀ty,(Sa #[T,T] ty #[a,c]).run P W=.ok w W')/\Sim F OG G S W G' S' W'/\VR G' v w:=by
     intro s a v S' ha hv;obtain⟨W',G',w,w1,w2,w3⟩:=tP (ty:=T) (t:=T) (u:=T) (ts:=#[T,T]) rfl rfl (.inl ⟨e,L.tT⟩) hv R (λk hk=>by cases hk) ha hc;exact⟨W',G',w,λty=>w1,w2,w3⟩
    cases hc with
    | sl _ _ _ _ _ vp vn vc ya=>
     obtain⟨rfl,Fp,LB,KH,ya⟩:=ya;split at h
     ·rw[cond_eq_ite] at h;split at h
      ·rename_i jg;have AV:i0=0:=by simpa using jg
       subst AV;cases ha;obtain⟨W',G',w,w1,w2,w3⟩:=bj .nils h;refine(aQ3 L OG 0 0 vn _ ⟨Ot vp,vc,rfl⟩ W W' du w (λ_=>rfl) (Ov _) _ L.zE w1).mono ?_;rintro e W2 ⟨rfl,rfl⟩;exact⟨G',w,rfl,w2,w3⟩
      ·cases h
     ·rename_i a0 ver sx off len;have qz:=ha;cases ha with
      | sl _ _ _ _ _ p n c cd=>
       obtain⟨rfl,ky,L0,sj,cd⟩:=cd;rw[cond_eq_ite] at h;split at h
       ·rename_i jg;have AV:i0=(n:Int):=by simpa using jg
        subst AV;obtain⟨W',G',w,w1,w2,w3⟩:=bj qz h;refine(aQ3 L (Ot p) n c vn _ ⟨Ot vp,vc,rfl⟩ W W' du w (λh=>by cases h) ky _ L.zE w1).mono ?_;rintro e W2 ⟨rfl,rfl⟩;exact⟨G',w,rfl,w2,w3⟩
       ·rename_i ba;rw[cond_eq_ite] at h;split at h
        ·cases h
        ·rename_i AW;simp only[Ra,QE,PB,Su,not_or,XH,OU] at AW;obtain⟨⟨⟨Fq,Fs⟩,od⟩,⟨dj,jm⟩,xj⟩:=AW;split at h
         ·cases h
         ·rename_i es elems al;have hr:=iW al;rw[cond_eq_ite] at h;split at h
          ·rename_i bh;simp only[OU,RA,QE,room,Sx] at bh;obtain⟨⟨⟨hle,ch⟩,ay,zi⟩,Ad⟩:=bh;have jg:(i0.toNat:Int)=i0:=Vb (by omega);have Dj:i0.toNat<n:=by
            have:i0≠(n:Int):=by simpa using ba
            omega
           generalize i0.toNat=k at jg Dj h;subst jg;cases h;have kx:∀cs∈xs,cs.length=es:=by
            intro cs hcs
            have:=PD.1 dj cs hcs
            rw[ch];simpa using this
           have Nj:1<es:=by
            rcases Q' 1 es with q | q
            ·exact q
            ·rw[ch] at q;exact absurd (by simp[q]) Di
           obtain⟨z,hz,ku⟩:∃z,aQ P e=Ot z/\z.cells.length=es:=by
            unfold nF at xj;split at xj
            ·rename_i z hz;exact⟨z,hz,by rw[ch];simpa using xj⟩
            ·cases xj
           unfold aK at pn;simp only at pn;split at pn
           ·cases pn
           ·rename_i ac belems Dk;have KI:=iW Dk;rw[cond_eq_ite] at pn;split at pn
            ·rename_i AX;have AX:boff+vn<=belems.length:=by simpa using AX
             cases pn;have Ci:((belems.drop boff).take vn).length=vn:=by simp;omega
             rw[Ci] at ay zi|-
             generalize hX:(belems.drop boff).take vn=xs at dj jm kx Ci;obtain⟨L',cy,r1,r2,r3,ca,cty,cfr,dv,r4,r5,r6⟩:=R.blk a0 _ hr;rw[sj] at cy;cases cy;obtain⟨L',cy,q1,q2,q3,cv,vty,vfr,wm,q4,q5,q6⟩:=R.blk bb _ KI;rw[KH] at cy;cases cy;rcases cd with cd | ⟨_,_,nh,hp⟩
             ·omega
             rcases ya with ya | ⟨_,_,GO,Nk⟩
             ·omega
             have Ft:=hp (by omega);have Fu:=Nk (by omega);have Dl:ac=es:=by
              have ba:boff<belems.length:=by omega
              have cg:belems[boff]∈xs:=by
               rw[<-hX,PA];exact⟨0,by rw[Qp,OE du];simp⟩
              rw[<-kx _ cg];exact((q6 boff belems[boff] (by simp)).1).symm
             subst Dl;rw[r2] at Ft;rw[q2] at Fu;subst Ft Fu;have ah:LB.cb≠L0.cb:=by
              intro e0;exact Fq (R.inj a0 bb _ _ L0.cb hr KI (.inl ⟨L0,sj,rfl⟩) (.inl ⟨LB,KH,e0⟩))
             obtain⟨os,o1,o2⟩:=r6.flat off n hle;obtain⟨ws,w1,w2⟩:=q6.flat boff vn AX;rw[hX] at w1;generalize hO:(elems.drop off).take n=old at o1 Ad|-
             have ru:old.length=n:=by rw[<-hO];simp;omega
             have eg:∀x∈old,x.length=ac:=by
              intro x hx;rw[<-hO] at hx;exact r6.lens x (QM (QP hx))
             have gn:os.length=n*ac:=by rw[<-o1.length,cG _ _ eg,ru]
             have jy:ws.length=vn*ac:=by rw[<-w1.length,cG _ _ kx,Ci]
             have Aa:∀v∈os,v.oneCell'=true:=o1.ones (by
              refine PD.2 λv hv=>?_;obtain⟨l,hl,mo⟩:=TS.1 hv;exact kW (PD.1 Ad l hl) mo)
             have Ch:∀v∈ws,v.oneCell'=true:=w1.ones (by
              refine PD.2 λv hv=>?_;obtain⟨l,hl,mo⟩:=TS.1 hv;exact kW (PD.1 jm l hl) mo)
             have KJ:(old.take k++(xs++old.drop k)).length=n+vn:=by
              simp[ru,Ci];omega
             have fu:(off+c)*ac<=L0.cap*ac:=Po _ nh;have Nl:(boff+vc)*ac<=LB.cap*ac:=Po _ GO;have ea:1*ac<=vc*ac:=Po _ (by omega);rw[Qn] at fu Nl;have xg:k*ac<=n*ac:=Po _ (by omega);have hkm:(k+vn)*ac=k*ac+vn*ac:=Qn ..;have dm:(os.drop (k*ac)).length=n*ac - k*ac:=by simp[gn]
             unfold eG at zi;rcases Q' c (n+vn) with hfit | hfit
             ·obtain⟨W3,g,row,hg,gf,Ab,Dm,s1,s2,s3,s4⟩:=aO6 L (W:=W) (b:=L0.cb) (o:=L0.co+off*ac) (n:=n) (c:=c) (k:=k) (vb:=LB.cb) (vo:=LB.co+boff*ac) (m:=vn) (vc:=vc) (es:=ac) ch.symm hz ku ay Dj du ky hfit (by omega) dv wm gn jy o2 w2 Aa Ch (by omega);have GN:(n+vn)*ac<=g*ac:=Po _ hg;rw[Qn] at GN;obtain⟨g1,g2⟩:=R.setRow (H':=W3.heap) hr sj (L':=⟨ver+1,W.heap.size,0,g,ac⟩) (.inr (by simp;omega)) (.inr rfl)
               (λi hi _=>s2 i hi) (by omega) (by simp;omega) (ver:=ver+1) (es:=ac) (elems:=old.take k++(xs++old.drop k))
               ⟨rfl,rfl,by simp only[KJ];exact hg,_,e,(0,0),s1,by rw[bK,bK,Ab];simp,⟨λo _ _=>by simp,λ_=>by simp⟩,by
                refine(aQ4 (os:=os) (ws:=ws) (n:=n) (k:=k) (m:=vn) (Nat.le_of_lt Dj) ru eg kx Ci o1 w1 (λj w hj hw=>?_) (λj w hw=>?_) (λj w hj hw=>?_)).mono (G:=G) (Gh.le_set sj (.inr (by simp;omega)))
                ·show(bH (bH row (k*ac) ws) ((k+vn)*ac) (os.drop (k*ac)))[0+j]?=Ot w;rw[cR,Oz (by omega),cR,Oz (by omega),Px];exact Dm j w hj hw
                ·have ed:j<ws.length:=(Oq.1 hw).1;show(bH (bH row (k*ac) ws) ((k+vn)*ac) (os.drop (k*ac)))[0+(k*ac+j)]?=Ot w;rw[cR,Oz (by omega),cR,OE (by omega)];rw[show 0+(k*ac+j) - k*ac=j by omega];exact hw
                ·have ed:j<os.length:=(Oq.1 hw).1;show(bH (bH row (k*ac) ws) ((k+vn)*ac) (os.drop (k*ac)))[0+(vn*ac+j)]?=Ot w;rw[cR,bK,OE (by omega)];rw[PP,show k*ac+(0+(vn*ac+j) - (k+vn)*ac)=j by omega];exact hw⟩
              refine gf.mono ?_;rintro e1 W' ⟨rfl,rfl⟩;refine⟨_,.slice (Ot ⟨W.heap.size,0,OG⟩) (n+vn) g,rfl,⟨g1,g2,s4,Ov _,λy hy _ _=>⟨?_,rfl⟩,λy hy _ _=>?_,λ_ _ h=>.inl h⟩,?_⟩
              ·have:y≠a0:=λe=>by rw[e,hr] at hy;cases hy
               simp[this]
              ·show(S.heap.put a0 _).get y=OG;rw[OJ _ _ _ _ (R.small a0 _ hr) (λe=>by rw[e,hr] at hy;cases hy)];exact hy
              ·exact .sl _ _ _ _ _ _ _ _ ⟨rfl,hg,⟨ver+1,W.heap.size,0,g,ac⟩,by simp,.inr ⟨rfl,rfl,by simp,λ_=>by simp⟩⟩
             ·have Gn:(n+vn)*ac<=c*ac:=Po _ hfit;rw[Qn] at Gn;obtain⟨W2,gf,s1,s2,s3,s4⟩:=aVp L (W:=W) (b:=L0.cb) (o:=L0.co+off*ac) (n:=n) (c:=c) (k:=k) (vb:=LB.cb) (vo:=LB.co+boff*ac) (m:=vn) (vc:=vc) (es:=ac) ch.symm Dj du hfit (by omega) ah
               dv (by omega) (λj ug mu=>r5.1 j (by omega) (by omega)) wm (q5.1 _ (by omega) (by omega)) (q5.2 (by omega)) gn jy o2 w2 Aa Ch (by omega)
              obtain⟨g1,g2⟩:=R.setRow (H':=W2.heap) hr sj (L':=⟨ver+1,L0.cb,L0.co+off*ac,c,ac⟩) (.inr (by simp;omega)) (.inl rfl)
               (λi _ hi=>s2 i hi) (by omega) (by have:=R.lt a0 L0.cb (.inl ⟨L0,sj,rfl⟩);simp only;omega) (ver:=ver+1) (es:=ac) (elems:=old.take k++(xs++old.drop k))
               ⟨rfl,rfl,by simp only[KJ];exact hfit,_,cty,cfr,s1,by rw[bK,bK];simp only;omega,⟨λo h1 h2=>r5.1 o (by simp only at h1;omega) (by simp only at h2;omega),λh=>by rw[bK,bK];exact r5.2 h⟩,by
                refine(aQ4 (os:=os) (ws:=ws) (n:=n) (k:=k) (m:=vn) (Nat.le_of_lt Dj) ru eg kx Ci o1 w1 (λj w hj hw=>?_) (λj w hw=>?_) (λj w hj hw=>?_)).mono (G:=G) (Gh.le_set sj (.inr (by simp;omega)))
                ·show(bH (bH ca (L0.co+off*ac+(k+vn)*ac) (os.drop (k*ac))) (L0.co+off*ac+k*ac) ws)[L0.co+off*ac+j]?=Ot w;rw[cR,Oz (by omega),cR,Oz (by omega)];exact o2 j w hw
                ·have ed:j<ws.length:=(Oq.1 hw).1;show(bH (bH ca (L0.co+off*ac+(k+vn)*ac) (os.drop (k*ac))) (L0.co+off*ac+k*ac) ws)[L0.co+off*ac+(k*ac+j)]?=Ot w;rw[cR,bK,OE (by omega)];rw[show L0.co+off*ac+(k*ac+j) - (L0.co+off*ac+k*ac)=j by omega];exact hw
                ·have ed:j<os.length:=(Oq.1 hw).1;show(bH (bH ca (L0.co+off*ac+(k+vn)*ac) (os.drop (k*ac))) (L0.co+off*ac+k*ac) ws)[L0.co+off*ac+(vn*ac+j)]?=Ot w;rw[cR,Oz (by omega),cR,OE (by omega)];rw[PP,show k*ac+(L0.co+off*ac+(vn*ac+j) - (L0.co+off*ac+(k+vn)*ac))=j by omega];exact hw⟩
              refine gf.mono ?_;rintro e1 W' ⟨rfl,rfl⟩;refine⟨_,.slice (Ot ⟨L0.cb,L0.co+off*ac,OG⟩) (n+vn) c,rfl,⟨g1,g2,s4,Ov _,λy hy _ _=>⟨?_,rfl⟩,λy hy _ _=>?_,λ_ _ h=>.inl h⟩,?_⟩
              ·have:y≠a0:=λe=>by rw[e,hr] at hy;cases hy
               simp[this]
              ·show(S.heap.put a0 _).get y=OG;rw[OJ _ _ _ _ (R.small a0 _ hr) (λe=>by rw[e,hr] at hy;cases hy)];exact hy
              ·exact .sl _ _ _ _ _ _ _ _ ⟨rfl,hfit,⟨ver+1,L0.cb,L0.co+off*ac,c,ac⟩,by simp,.inr ⟨rfl,rfl,by simp,λ_=>by simp⟩⟩
            ·cases pn
          ·cases h
     ·cases h
 ·cases h
end
end Go.AM
end
section
namespace Go.AM
def aDr(T I B:OH):Code:=
 ((Ql 0 #[
  { dst:=Ot 6,op:=RV (We (Xs OG 0 0)),type:=T,pos := "slices.go:224",after:=#[],guard:=OG }] OA).seq ((Ql 1 #[
  { dst:=Ot 8,op:=PV (OD 0),type:=T,pos := "slices.go:225",after:=#[],guard:=OG },
  { dst:=Ot 9,op:=PV (OD 1),type:=I,pos := "slices.go:225",after:=#[],guard:=OG },
  { dst:=Ot 10,op:=PV (OD 2),type:=I,pos := "slices.go:225",after:=#[],guard:=OG },
  { dst:=Ot 11,op:=PV (OD 0),type:=T,pos := "slices.go:225",after:=#[],guard:=OG },
  { dst:=Ot 12,op:=SG { callee:=QO UM,args:=#[OD 11],argTypes:=#[T] },type:=I,pos := "slices.go:225",after:=#[{ on:=3,ground:=OV }],guard:=OG },
  { dst:=Ot 13,op:=Sk T (OD 8) (Ot (OD 9)) (Ot (OD 10)) (Ot (OD 12)),type:=T,pos := "slices.go:225",after:=#[{ on:=0,ground:=OV },{ on:=1,ground:=OV },{ on:=2,ground:=OV },{ on:=4,ground:=OV }],guard:=OG }] OA).seq (((Ql 2 #[
  { dst:=Ot 14,op:=PV (OD 1),type:=I,pos := "slices.go:227",after:=#[],guard:=OG },
  { dst:=Ot 15,op:=PV (OD 2),type:=I,pos := "slices.go:227",after:=#[],guard:=OG },
  { dst:=Ot 16,op:=Tz XG I (OD 14) (OD 15) I,type:=B,pos := "slices.go:227",after:=#[{ on:=0,ground:=OV },{ on:=1,ground:=OV }],guard:=OG }] OA).seq (VG (OD 16) ((Ql 3 #[
  { dst:=Ot 17,op:=PV (OD 0),type:=T,pos := "slices.go:228",after:=#[],guard:=OG },
  { dst:=Ot 6,op:=RV (OD 17),type:=T,pos := "slices.go:228",after:=#[{ on:=0,ground:=OV },{ on:=0,ground:=PO }],guard:=OG }] OA).seq UV) VH)).seq ((Ql 4 #[
  { dst:=Ot 18,op:=PV (OD 0),type:=T,pos := "slices.go:231",after:=#[],guard:=OG },
  { dst:=Ot 19,op:=SG { callee:=QO UM,args:=#[OD 18],argTypes:=#[T] },type:=I,pos := "slices.go:231",after:=#[{ on:=0,ground:=OV }],guard:=OG },
  { dst:=Ot 7,op:=RV (OD 19),type:=I,pos := "slices.go:231",after:=#[{ on:=1,ground:=OV },{ on:=0,ground:=PO },{ on:=1,ground:=PO }],guard:=OG }] OA).seq ((Ql 5 #[
  { dst:=Ot 20,op:=PV (OD 0),type:=T,pos := "slices.go:232",after:=#[],guard:=OG },
  { dst:=Ot 21,op:=PV (OD 1),type:=I,pos := "slices.go:232",after:=#[],guard:=OG },
  { dst:=Ot 22,op:=Sk T (OD 20) OG (Ot (OD 21)) OG,type:=T,pos := "slices.go:232",after:=#[{ on:=0,ground:=OV },{ on:=1,ground:=OV }],guard:=OG },
  { dst:=Ot 23,op:=PV (OD 0),type:=T,pos := "slices.go:232",after:=#[],guard:=OG },
  { dst:=Ot 24,op:=PV (OD 2),type:=I,pos := "slices.go:232",after:=#[],guard:=OG },
  { dst:=Ot 25,op:=Sk T (OD 23) (Ot (OD 24)) OG OG,type:=T,pos := "slices.go:232",after:=#[{ on:=3,ground:=OV },{ on:=4,ground:=OV }],guard:=OG },
  { dst:=Ot 26,op:=SG { callee:=QO VP,args:=#[OD 22,OD 25],argTypes:=#[T,T] },type:=T,pos := "slices.go:232",after:=#[{ on:=2,ground:=OV },{ on:=5,ground:=OV }],guard:=OG },
  { dst:=Ot 0,op:=RV (OD 26),type:=T,pos := "slices.go:232",after:=#[{ on:=6,ground:=OV },{ on:=6,ground:=Wx },{ on:=0,ground:=PO },{ on:=1,ground:=PO },{ on:=2,ground:=PO },{ on:=3,ground:=PO },{ on:=4,ground:=PO },{ on:=5,ground:=PO },{ on:=6,ground:=PO }],guard:=OG }] OB).seq ((Ql 6 #[
  { dst:=Ot 27,op:=PV (OD 0),type:=T,pos := "slices.go:233",after:=#[],guard:=OG },
  { dst:=Ot 28,op:=PV (OD 0),type:=T,pos := "slices.go:233",after:=#[],guard:=OG },
  { dst:=Ot 29,op:=SG { callee:=QO UM,args:=#[OD 28],argTypes:=#[T] },type:=I,pos := "slices.go:233",after:=#[{ on:=1,ground:=OV }],guard:=OG },
  { dst:=Ot 30,op:=PV (OD 7),type:=I,pos := "slices.go:233",after:=#[],guard:=OG },
  { dst:=Ot 31,op:=Sk T (OD 27) (Ot (OD 29)) (Ot (OD 30)) OG,type:=T,pos := "slices.go:233",after:=#[{ on:=0,ground:=OV },{ on:=2,ground:=OV },{ on:=3,ground:=OV }],guard:=OG },
  { dst:=OG,op:=SG { callee:=QO Builtin.clear,args:=#[OD 31],argTypes:=#[T] },type:=0,pos := "slices.go:233",after:=#[{ on:=4,ground:=OV }],guard:=OG }] OA).seq ((Ql 7 #[
  { dst:=Ot 32,op:=PV (OD 0),type:=T,pos := "slices.go:234",after:=#[],guard:=OG },
  { dst:=Ot 6,op:=RV (OD 32),type:=T,pos := "slices.go:234",after:=#[{ on:=0,ground:=OV },{ on:=0,ground:=PO }],guard:=OG }] OA).seq UV)))))))
end Go.AM
end
section
namespace Go.AM
open Go.RowKit Go.Lib Go.Proofs Go.Shelf
section
variable{P:OI}
structure DelAt (P:OI) (f:PU) (T e I B:OH) (fn:Un):Prop where
 mixed:P.follows .mixedOrders=OB
 hf:P.funcs[f]?=Ot fn
 hb:fn.body=Ot (aDr T I B)
 hn:fn.ntmps=33
 hr:fn.results=#[.tmp 6]
 tT:P.underlying T=Ot (.slice e)
 tI:P.underlying I=Ot (.int J)
 tB:P.underlying B=Ot .bool
 zE:∀w,(Ry e).run P w=.ok (sz P e) w
 zT:∀w,(Ry T).run P w=.ok 1 w
 zI:∀w,(Ry I).run P w=.ok 1 w
 zB:∀w,(Ry B).run P w=.ok 1 w
theorem aGz(w:PE){o:Qh}{a:Act}{Q:Exit->Act->PE->Prop}{K:Act->PE->Prop}(x:Pj)(t:OH)(ho:o.op=.call { callee:=.builtin .clear,args:=#[x],argTypes:=#[t] })(u:O')(hx:a.eval x=u)
  {v':O'} {w':PE} (hr:(Ss #[t] o.type #[u]).run P w=.ok v' w') (hK:K (a.put o.dst v') w'):Yr P o a w K Q:=by
 unfold Yr;simp[execOp,ho,resolve,invoke,builtin,hx,hr,Result.andThen];exact hK
theorem aAo(w:PE){ops:Pa Qh}{rest:On Qh}{o:Qh}{a:Act}{Q:Exit->Act->PE->Prop}(AR:o.guard=OG)(x:Pj)(t:OH)
  (ho:o.op=.call { callee:=.builtin .clear,args:=#[x],argTypes:=#[t] }) (u:O') (hx:a.eval x=u) {v':O'} {w':PE}
  (hr:(Ss #[t] o.type #[u]).run P w=.ok v' w') (h:wpList P ops Q rest (a.put o.dst v') w'):wpList P ops Q (o::rest) a w:=
 wpList_plain AR λ_ hK=>aGz w x t ho u hx hr (hK _ _ h)
set_option maxHeartbeats 4000000 in
set_option maxRecDepth 100000 in
theorem aVq{f:PU}{T e I B:OH}{fn:Un}(L:DelAt P f T e I B fn)(b off n c i:Nat)(w:PE)(ba:i<=n)(ky:n<=c)(sz:Nat)(bk:∀w,(Ry e).run P w=.ok sz w)(p:Wi)(hp:p.spot=OG):
  Ty P f #[.slice (Ot p) n c,.int J i,.int J i] w λe w'=>e=.returned (.slice (Ot p) n c)/\w'=w:=by
 obtain⟨pb,po,ps⟩:=p;simp only at hp;subst hp;have tT:=L.tT;have tI:=L.tI;have tB:=L.tB
 have uT:=OW L.tT;have uI:=OW L.tI;have uB:=OW L.tB
 have zT:=L.zT;have zI:=L.zI;have zB:=L.zB
 have mixed:=L.mixed;have Nm:i<=c:=by omega
 refine UH L.hf L.hb ?_;have hr:=L.hr;simp only[L.hn,RO,OQ,Pf,Pi,Tp,SM,
   SN,Tq,SW,Pp,PJ]
 unfold aDr
 go_wp2
 all_goals first | exact⟨rfl,.slice (Ot ⟨pb,po,OG⟩) n c,jL hr rfl,rfl,rfl⟩ | exact⟨rfl,.slice (Ot ⟨pb,po,OG⟩) i c,jL hr rfl,rfl,rfl⟩
set_option maxHeartbeats 4000000 in
set_option maxRecDepth 100000 in
theorem aVr{f:PU}{T e I B:OH}{fn:Un}(L:DelAt P f T e I B fn)(b off sz n c i j:Nat)(w W1 W2:PE)(GP:i<j)(Nn:j<=n)(ky:n<=c)(bk:∀w,(Ry e).run P w=.ok sz w)(A:Wi)
  (hA:(if c=j then Ot (⟨b,off,OG⟩:Wi) else Ot ⟨b,off+j*sz,OG⟩)=Ot A) (GI:n<=9223372036854775807)
  (hfit:i+(n - j)<=c) (cells:Pa O') (da:(Xm A 0 ((n - j)*sz) #[]).run P w.drew=.ok cells w.drew) (fq:(storeCells ⟨b,off+i*sz,OG⟩ cells.toList).run P w.drew=.ok () W1)
  (gj:∀ty cx,(Ss #[T] ty #[.slice (Ot ⟨b,off+(i+(n - j))*sz,OG⟩) (n - (i+(n - j))) cx]).run P W1=.ok (.tuple #[]) W2):
  Ty P f #[.slice (Ot ⟨b,off,OG⟩) n c,.int J i,.int J j] w λe w'=>e=.returned (.slice (Ot ⟨b,off,OG⟩) (i+(n - j)) c)/\w'=W2:=by
 have tT:=L.tT;have tI:=L.tI;have tB:=L.tB
 have uT:=OW L.tT;have uI:=OW L.tI;have uB:=OW L.tB
 have zT:=L.zT;have zI:=L.zI;have zB:=L.zB
 have mixed:=L.mixed;have ah:¬((i:Int)=(j:Int)):=by omega
 have Nm:i<=c:=by omega
 have hjc:j<=c:=by omega
 have hcn:¬(c=i+(n - j)):=by omega
 refine UH L.hf L.hb ?_;have hr:=L.hr;simp only[L.hn,RO,OQ,Pf,Pi,Tp,SM,
   SN,Tq,SW,Pp,PJ]
 unfold aDr
 go_wp2_with fail
 go_region_law_o fail
 go_wp2_with (at_builtin;refine aAo _ rfl _ _ rfl _ rfl (gj _ _) ?_)
 refine⟨rfl,.slice (Ot ⟨b,off,OG⟩) (i+(n - j)) c,jL hr rfl,rfl,rfl⟩
end
section
variable{P:OI}
theorem aEv(c:Pa O')(o:Nat)(a b:On O'):bH c o (a++b)=bH (bH c o a) (o+a.length) b:=by
 induction a generalizing c o with
 | nil=>simp[bH]
 | cons v a ih=>
  simp only[PJ,bH,OQ];rw[ih]
  congr 1;omega
theorem VRs.dropRows{G:Gh}{es:Nat}{old:On (On V)}{os:On O'}(hold:∀x∈old,x.length=es)(ho:VRs G old.flatten os)(j:Nat)(hj:j<=old.length):VRs G (old.drop j).flatten (os.drop (j*es)):=by
 have ak:old.flatten=(old.take j).flatten++(old.drop j).flatten:=by rw[<-SC,Sd]
 have jj:(old.take j).flatten.length=j*es:=by
  rw[cG es _ (λx hx=>hold x (QP hx)),PY,WR hj]
 have:=ho.drop (j*es)
 rw[ak,<-jj,List.drop_left,jj] at this;exact this
theorem aJt{f:PU}{T e I B:OH}{fn:Un}(L:DelAt P f T e I B fn){s i j v:V}{S S':St}(h:tG P T s i j S=.ok (v,S'))
  {F:Nat->Ow Obj} {G:Gh} {W:PE} (R:gJ F G S W.heap) {a b c:O'} (ha:VR G s a) (hb:VR G i b) (hc:VR G j c):
  Ty P f #[a,b,c] W λe W'=>∃G' w,e=.returned w/\Sim F OG G S W G' S' W'/\VR G' v w:=by
 unfold tG at h;have het:lD P T=Ot e:=by unfold lD;rw[L.tT]
 rw[het] at h;split at h
 ·rename_i e0 a0 ver sx off len i0 j0 xp;cases xp;cases hb;cases hc;rw[cond_eq_ite] at h;split at h
  ·cases h
  ·rename_i AW;simp only[Ra,PB,Su,not_or,XH,QE,Sx] at AW;obtain⟨⟨⟨⟨jg,GQ⟩,Nn⟩,zi⟩,Ku⟩:=AW;have qz:=ha;cases ha with
   | sl _ _ _ _ _ p n c cd=>
    obtain⟨rfl,ky,L0,sj,cd⟩:=cd;have ei:((i0.toNat:Nat):Int)=i0:=Vb (by omega);have ej:((j0.toNat:Nat):Int)=j0:=Vb (by omega);generalize i0.toNat=i at ei h;generalize j0.toNat=j at ej h;subst ei ej;have GP:i<=j:=by omega
    have AY:j<=n:=by omega
    rw[cond_eq_ite] at h;split at h
    ·rename_i heq;have GR:(i:Int)=(j:Int):=by simpa using heq
     have GS:i=j:=by omega
     clear heq GR;subst GS;split at h
     ·rename_i x al;cases h;obtain⟨es,elems⟩:=x;have hr:=iW al;obtain⟨L',cy,r1,r2,r3,ca,cty,cfr,dv,r4,r5,r6⟩:=R.blk a0 _ hr;rw[sj] at cy;cases cy;rcases cd with cd | ⟨_,_,nh,hp⟩
      ·omega
      ·have gk:=hp (by omega);refine(aVq L 0 0 n c i W AY ky _ L.zE p (by rw[gk])).mono ?_;rintro e1 W' ⟨rfl,rfl⟩;exact⟨G,_,rfl,Ws R,qz⟩
     ·cases h
    ·rename_i ah;have ag:i<j:=by
      have:¬((i:Int)=(j:Int)):=by simpa using ah
      omega
     split at h
     ·rename_i z es elems hz al;have hr:=iW al;rw[cond_eq_ite] at h;split at h
      ·rename_i bh;cases h;simp only[OU,QE,RA] at bh;obtain⟨⟨ch,hle⟩,lh⟩:=bh;obtain⟨ti,zw,hti,mz,MQ,ku,xn,nd,wi,ro⟩:=aAf hz;obtain⟨L',cy,r1,r2,r3,ca,cty,cfr,dv,r4,r5,r6⟩:=R.blk a0 _ hr;rw[sj] at cy;cases cy;rcases cd with cd | ⟨_,_,nh,hp⟩
       ·omega
       have gk:=hp (by omega);rw[r2] at gk;subst gk;obtain⟨os,o1,o2⟩:=r6.flat off n hle;generalize hO:(elems.drop off).take n=old at o1 lh|-
       have ru:old.length=n:=by rw[<-hO];simp;omega
       have eg:∀x∈old,x.length=es:=by
        intro x hx;rw[<-hO] at hx;exact r6.lens x (QM (QP hx))
       have gn:os.length=n*es:=by rw[<-o1.length,cG _ _ eg,ru]
       have Aa:∀v∈os,v.oneCell'=true:=o1.ones (by
        refine PD.2 λv hv=>?_;obtain⟨l,hl,mo⟩:=TS.1 hv;exact kW (PD.1 lh l hl) mo)
       have wn:∀w,(Ry e).run P w=.ok es w:=by intro w;rw[ch];exact L.zE w
       have fu:(off+c)*es<=L0.cap*es:=Po _ nh;have No:n*es<=c*es:=Po _ ky;rw[Qn] at fu;have AS:j*es<=n*es:=Po _ AY;have Np:i*es+(j - i)*es=j*es:=by rw[<-Qn];congr 1;omega
       have hnj:j*es+(n - j)*es=n*es:=by rw[<-Qn];congr 1;omega
       have Nq:(i+(n - j))*es=i*es+(n - j)*es:=Qn ..;have dm:(os.drop (j*es)).length=(n - j)*es:=by rw[PQ,gn];omega
       obtain⟨W1,s1,s2,s3,s4,s5⟩:=fH (P:=P) (b:=L0.cb) (o:=L0.co+off*es+i*es) (ty:=cty) (fr:=cfr) (os.drop (j*es)) 0 W.drew ca dv
        (λv hv=>Aa v (QM hv)) (by rw[dm];omega) (λk qv di=>r5.1 k (by omega) (by rw[dm] at di;omega))
       simp only[QT] at s2;have jp:∀x∈PT (j - i) z,x.length=es:=λx hx=>by rw[List.eq_of_mem_replicate hx,ku,ch]
       have CW:=qM (wi G) (j - i);have KK:(P' zw.cells (j - i)).toList.length=(j - i)*es:=by
        show(P' zw.cells (j - i)).size=(j - i)*es;rw[jK,nd,ch]
       obtain⟨W2,t1,t2,t3,t4,t5⟩:=fH (P:=P) (b:=L0.cb) (o:=L0.co+off*es+(i+(n - j))*es) (ty:=cty) (fr:=cfr) (P' zw.cells (j - i)).toList 0 W1 _ s2
        (CW.ones (vK xn (j - i))) (by rw[bK,KK];omega) (λk qv di=>r5.1 k (by omega) (by rw[KK] at di;omega))
       simp only[QT] at t2;have hA:∃A:Wi,(if c=j then Ot (⟨L0.cb,L0.co+off*es,OG⟩:Wi) else Ot ⟨L0.cb,L0.co+off*es+j*es,OG⟩)=Ot A /\
         (Xm A 0 ((n - j)*es) #[]).run P W.drew=.ok (os.drop (j*es)).toArray W.drew:=by
        by_cases KL:c=j
        ·refine⟨⟨L0.cb,L0.co+off*es,OG⟩,by simp[KL],?_⟩;have h0:n - j=0:=by omega
         have:os.drop (j*es)=[]:=QU (by rw[dm,h0];simp)
         rw[this,h0];simp[Xm]
        ·refine⟨⟨L0.cb,L0.co+off*es+j*es,OG⟩,by simp[KL],?_⟩
         have:=TZ (P:=P) W.drew ⟨L0.cb,L0.co+off*es+j*es,OG⟩ (os.drop (j*es)) (λq w hq=>by
          rw[Ub,SO]
          have:W.cell? ⟨L0.cb,L0.co+off*es+(j*es+q),OG⟩=Ot w:=by
           rw[dJ dv];exact o2 _ w (by rw[PP] at hq;exact hq)
          exact this)
         rw[dm] at this;exact this
       obtain⟨A,hA,da⟩:=hA;have gj:∀ty cx,(Ss #[T] ty #[.slice (Ot ⟨L0.cb,L0.co+off*es+(i+(n - j))*es,OG⟩) (n - (i+(n - j))) cx]).run P W1=.ok (.tuple #[]) W2:=by
        intro ty cx;rw[show n - (i+(n - j))=j - i by omega];obtain⟨m,hm⟩:∃m,j - i=m+1:=⟨j - i - 1,by omega⟩;rw[hm] at t1|-
        simp[Ss,OW L.tT,ro];rw[t1];rfl
       have hw:=aVr L L0.cb (L0.co+off*es) es n c i j W W1 W2 ag AY ky wn A hA (by unfold eG at zi;omega) (by omega) _ da (by simpa using s1) gj;refine hw.mono ?_;rintro e1 W' ⟨rfl,rfl⟩;have Dn:∀x∈old.drop j++PT (j - i) z,x.length=es:=by
        intro x hx;rcases Qf.1 hx with hx | hx
        ·exact eg x (QM hx)
        ·exact jp x hx
       have Do:(old.drop j++PT (j - i) z).length=n - i:=by simp[ru];omega
       have jf:off+i+(old.drop j++PT (j - i) z).length<=elems.length:=by rw[Do];omega
       have hcs:elems.length*es<=L0.cap*es:=Po _ r3;have cg:W'.heap[L0.cb]?=Ot (.cells (bH ca (L0.co+(off+i)*es) (os.drop (j*es)++(P' zw.cells (j - i)).toList)) cty cfr):=by
        rw[t2,aEv,dm];rw[show L0.co+(off+i)*es=L0.co+off*es+i*es by rw[Qn];omega];rw[show L0.co+off*es+i*es+(n - j)*es=L0.co+off*es+(i+(n - j))*es by omega]
       refine⟨G,_,rfl,⟨G.le_refl,?_,((VF W).trans s5).trans t5,Ov _,λ_ _ _ _=>⟨rfl,rfl⟩,λx hx _ _=>?_,λ_ _ h=>.inl h⟩,?_⟩
       ·refine R.keepRow hr sj (λk hk=>(t3 k hk).trans (s3 k hk)) (t4.trans s4) ⟨r1,r2,by rw[pO _ _ _ jf];exact r3,_,cty,cfr,cg,by rw[bK];exact r4,⟨r5.1,by rw[bK];exact r5.2⟩,?_⟩;refine r6.over Dn ?_ jf (by omega);rw[SC];exact(VRs.dropRows eg o1 j (by omega)).append CW
       ·show(S.heap.put a0 _).get x=OG;rw[OJ _ _ _ _ (R.small a0 _ hr) (λe=>by rw[e,hr] at hx;cases hx)];exact hx
       ·rw[show n - (j - i)=i+(n - j) by omega];refine .sl _ _ _ _ _ _ _ _ ⟨rfl,by omega,L0,sj,.inr ⟨by omega,by omega,nh,λ_=>by rw[r2]⟩⟩
      ·cases h
     ·cases h
 ·cases h
end
end Go.AM
end
section
namespace Go.AM
section
theorem Tr.get_cut{α:Type}:∀(t:Tr α) (n m:Nat),(t.cut n).get m=if m=n then OG else t.get m
 | .nil,n,m=>by simp only[Tr.cut,Wy,ite_self]
 | .node l v r,n,m=>by
  have il:=λa b=>Tr.get_cut l a b;have ir:=λa b=>Tr.get_cut r a b;simp only[Tr.cut,cond_eq_ite,QE];by_cases hn:n=0
  ·rw[OE hn,Tj,Tj];by_cases hm:m=0
   ·rw[OE hm,OE (by omega)]
   ·rw[Oz hm,Oz hm,Oz (by omega:¬m=n)]
  ·rw[Oz hn];by_cases h2:n % 2=1
   ·rw[OE h2,Tj,Tj];by_cases hm:m=0
    ·simp only[hm,Oy];rw[Oz (by omega)]
    ·simp only[hm,Ou];by_cases h3:m % 2=1
     ·simp only[h3,Oy,il];by_cases e:m=n
      ·subst e;simp
      ·rw[Oz (by omega),Oz e]
     ·simp only[h3,Ou];rw[Oz (by omega)]
   ·rw[Oz h2,Tj,Tj];by_cases hm:m=0
    ·simp only[hm,Oy];rw[Oz (by omega)]
    ·simp only[hm,Ou];by_cases h3:m % 2=1
     ·simp only[h3,Oy];rw[Oz (by omega)]
     ·simp only[h3,Ou,ir];by_cases e:m=n
      ·subst e;simp
      ·rw[Oz (by omega),Oz e]
theorem sD{a:Nat}:∀{l:On Nat},iT a l=OB↔a∈l
 | []=>by simp[iT]
 | b::l=>by simp only[iT,Ra,QE,sD (l:=l),Pu]
theorem aEw{a:Nat}{l:On Nat}(h:iT a l=OA):¬a∈l:=λc=>by rw[sD.2 c] at h;cases h
theorem aCg:∀l:On Nat,(jH l).Nodup/\∀a,a∈jH l↔a∈l
 | []=>⟨Wn,λ_=>Iff.rfl⟩
 | b::l=>by
  obtain⟨h1,h2⟩:=aCg l;simp only[jH,cond_eq_ite];by_cases c:iT b l=OB
  ·rw[OE c];refine⟨h1,λa=>?_⟩;rw[h2,Pu];exact⟨.inr,λh=>h.elim (λe=>e▸sD.1 c) id⟩
  ·rw[Oz c];refine⟨SF.2 ⟨λh=>c (sD.2 ((h2 b).1 h)),h1⟩,λa=>?_⟩;rw[Pu,Pu,h2]
theorem aQ5:∀(l:On Nat) (i:Nat),aGs l i=l[i]?
 | [],i=>by simp[aGs]
 | a::l,0=>by simp[aGs]
 | a::l,i+1=>by simp[aGs,aQ5 l i]
theorem xD{a:Nat}:∀{l:On Nat} {i k:Nat},uS a i l=Ot k->i<=k/\l[k - i]?=Ot a
 | [],i,k,h=>by cases h
 | b::l,i,k,h=>by
  simp only[uS,cond_eq_ite,QE] at h;split at h
  ·rename_i e;cases h;subst e;simp
  ·obtain⟨h1,h2⟩:=xD h;refine⟨by omega,?_⟩;rw[show k - i=(k - (i+1))+1 by omega,SD];exact h2
theorem aDs{a:Nat}:∀{n i:Nat},a∈qH i n↔i<=a/\a<i+n
 | 0,i=>by simp[qH]
 | n+1,i=>by simp only[qH,Pu,aDs (n:=n)];omega
theorem aJu:∀{n i k:Nat},(qH i n)[k]?=if k<n then Ot (i+k) else OG
 | 0,i,k=>by simp[qH]
 | n+1,i,0=>by simp[qH]
 | n+1,i,k+1=>by
  simp only[qH,SD,aJu (n:=n)];by_cases h:k<n
  ·rw[OE h,OE (by omega)];congr 1;omega
  ·rw[Oz h,Oz (by omega)]
theorem pA{α β:Type}{φ:α->R β}:∀{l:On α} {r:On β},kU φ l=.ok r->r.length=l.length/\∀(i:Nat) (x:α),l[i]?=Ot x->∃y,r[i]?=Ot y/\φ x=.ok y
 | [],r,h=>by cases h;exact⟨rfl,λi x h=>by simp at h⟩
 | a::l,r,h=>by
  simp only[kU] at h;split at h
  ·rename_i y hy;split at h
   ·rename_i l' hl;cases h;obtain⟨h1,h2⟩:=pA hl;refine⟨by simp[h1],λi x hx=>?_⟩;cases i with
    | zero=>simp at hx;subst hx;exact⟨y,by simp,hy⟩
    | succ i=>simp at hx;simpa using h2 i x hx
   ·cases h
  ·cases h
theorem aBt{α β:Type}{φ:α->R β}{l:On α}{r:On β}(h:kU φ l=.ok r){i:Nat}{y:β}(hy:r[i]?=Ot y):∃x,l[i]?=Ot x/\φ x=.ok y:=by
 obtain⟨h1,h2⟩:=pA h;have hi:i<l.length:=by rw[<-h1];exact(Oq.1 hy).1
 obtain⟨y',e1,e2⟩:=h2 i l[i] (OF hi);rw[hy] at e1;cases e1;exact⟨_,OF hi,e2⟩
theorem aAp{ρ:Nat->Ow Nat}{σ:V->R V}:∀{l r:On V},Sm ρ σ l=.ok r->r.length=l.length
 | [],r,h=>by cases h;rfl
 | a::l,r,h=>by
  simp only[Sm] at h;split at h
  ·split at h
   ·rename_i hl;cases h;simp[aAp hl]
   ·cases h
  ·cases h
section
variable{G Gt:Gh}{ρ:Nat->Ow Nat}{σ:V->R V}{τ:V->On Nat}{A:Nat->Prop}
structure Over (G Gt:Gh) (ρ:Nat->Ow Nat):Prop where
 pr:∀i o,G.pr i=Ot o->Gt.pr i=Ot o
 sy:Gt.sy=G.sy
 loc:∀a k,ρ a=Ot k->∀L,G.loc a=Ot L->∃L',Gt.loc k=Ot L'/\(L'=L\/L.ver<L'.ver)
theorem Over.shut(h:Over G Gt ρ):G.shut.le Gt.shut:=⟨λ_ _ h=>(by cases h),λ_ _ h=>(by cases h),h.pr,h.sy⟩
theorem Over.shutIn(h:Over G Gt ρ):Over G Gt.shut kP:=⟨h.pr,h.sy,λ_ _ h=>by cases h⟩
mutual
theorem aJv(ho:Over G Gt ρ)(hσ:∀v w v',VR G v w->σ v=.ok v'->(∀a,a∈τ v->A a)->(∃a ver es off len,v=.sl a ver es off len)->VR Gt v' w):∀(v:V) {w:O'} {v':V},VR G v w->cP ρ σ v=.ok v'->(∀a,a∈fF τ v->A a)->VR Gt v' w
 | .bool b,w,v',h,hf,_=>by cases hf;cases h;exact .bool b
 | .int k n,w,v',h,hf,_=>by cases hf;cases h;exact .int k n
 | .str s,w,v',h,hf,_=>by cases hf;cases h;exact .str s
 | .nilp,w,v',h,hf,_=>by cases hf;cases h;exact .nilp
 | .ptr a ver i j,w,v',h,hf,_=>by
  simp only[cP] at hf;split at hf
  ·rename_i k hk;cases hf;cases h with
   | ptr _ _ _ _ p hp=>
    obtain⟨L,hL,hp⟩:=hp;obtain⟨L',cy,e⟩:=ho.loc a k hk L hL;refine .ptr _ _ _ _ p ⟨L',cy,?_⟩;rcases e with rfl | e
    ·exact hp
    ·rcases hp with hp | ⟨hp,_⟩
     ·exact .inl (Ut hp e)
     ·exact .inl (hp▸e)
  ·cases hf
 | .iptr cs j,w,v',h,hf,_=>by
  cases hf;cases h with
  | iptr _ _ b o c ty fr hb vs hv h=>exact .iptr cs j b o c ty fr (ho.pr _ _ hb) vs hv (h.mono ho.shut)
 | .nils,w,v',h,hf,_=>by cases hf;cases h;exact .imm0
 | .sl a ver es off len,w,v',h,hf,ha=>hσ _ _ _ h hf ha ⟨a,ver,es,off,len,rfl⟩
 | .imm es,w,v',h,hf,_=>by
  cases hf;cases h with
  | imm0=>exact .imm0
  | imm _ p n c e hn hc vs h he hp=>
   refine .imm es p n c e hn hc vs (h.mono ho.shut) he (hp.imp id ?_);rintro⟨ca,ty,fr,h1,h2,h3⟩;exact⟨ca,ty,fr,ho.pr _ _ h1,h2,h3⟩
 | .agg cs,w,v',h,hf,ha=>by
  simp only[cP] at hf;split at hf
  ·rename_i ef hc;cases hf;cases h with
   | agg _ vs h=>exact .agg _ vs (frzVs_ok ho hσ cs h hc ha)
  ·cases hf
 | .tup cs,w,v',h,hf,ha=>by
  simp only[cP] at hf;split at hf
  ·rename_i ef hc;cases hf;cases h with
   | tup _ vs h=>exact .tup _ vs (frzVs_ok ho hσ cs h hc ha)
  ·cases hf
 | .nili,w,v',h,hf,_=>by cases hf;cases h;exact .nili
 | .iface t v,w,v',h,hf,ha=>by
  simp only[cP] at hf;split at hf
  ·rename_i u hu;cases hf;cases h with
   | iface _ _ _ h=>exact .iface _ _ _ (aJv ho hσ v h hu ha)
  ·cases hf
 | .nilf,w,v',h,hf,_=>by cases hf;cases h;exact .nilf
 | .func f a b,w,v',h,hf,ha=>by
  simp only[cP] at hf;split at hf
  ·rename_i a' h1;split at hf
   ·rename_i b' h2;cases hf;cases h with
    | func _ _ _ x y hx hy=>
     exact .func _ _ _ x y (frzVs_ok ho hσ a hx h1 λz hz=>ha z (QA _ hz)) (frzVs_ok ho hσ b hy h2 λz hz=>ha z (QB _ hz))
   ·cases hf
  ·cases hf
 | .nilm,w,v',h,hf,_=>by cases hf;cases h;exact .nilm
 | .mp a,w,v',h,hf,_=>by cases hf
 | .res m r,w,v',h,hf,_=>by
  cases hf;cases h with
  | res _ _ k n h=>exact .res m r k n (by rw[ho.sy];exact h)
theorem frzVs_ok(ho:Over G Gt ρ)(hσ:∀v w v',VR G v w->σ v=.ok v'->(∀a,a∈τ v->A a)->(∃a ver es off len,v=.sl a ver es off len)->VR Gt v' w):∀(l:On V) {ws:On O'} {l':On V},VRs G l ws->Sm ρ σ l=.ok l'->(∀a,a∈TM τ l->A a)->VRs Gt l' ws
 | [],ws,l',h,hf,_=>by cases hf;cases h;exact .nil
 | v::l,ws,l',h,hf,ha=>by
  simp only[Sm] at hf;split at hf
  ·rename_i v1 h1;split at hf
   ·rename_i l1 h2;cases hf;cases h with
    | cons _ w _ ws h t=>exact .cons _ _ _ _ (aJv ho hσ v h h1 λz hz=>ha z (QA _ hz)) (frzVs_ok ho hσ l t h2 λz hz=>ha z (QB _ hz))
   ·cases hf
  ·cases hf
end
end
theorem aEx{φ:On V->On Nat}{a:Nat}:∀{l:On (On V)} {i:Nat} {x:On V},l[i]?=Ot x->a∈φ x->a∈lK φ l
 | [],i,x,h,_=>by simp at h
 | y::l,0,x,h,ha=>by simp at h;subst h;exact QA _ ha
 | y::l,i+1,x,h,ha=>by simp at h;exact QB _ (aEx h ha)
theorem VRss.build{G:Gh}{f:Nat->On O'}:∀{es:On (On V)} (i0:Nat),(∀i cs,es[i]?=Ot cs->VRs G cs (f (i0+i)))->VRss G es ((List.range' i0 es.length).map f)
 | [],i0,_=>.nil
 | x::es,i0,h=>by
  rw[OQ,List.range'_succ,Qd];refine .cons _ _ _ _ (by simpa using h 0 x (by simp)) (VRss.build (i0+1) λi cs hc=>?_)
  have:=h (i+1) cs (by simpa using hc)
  rwa [show i0+(i+1)=i0+1+i by omega] at this
theorem aJw{F:Nat->Ow Obj}{G Gt:Gh}{S:St}{H:Pa Obj}(Rl:gJ F G S H){φ:On V->R (On V)}{β:On V->On Nat}{A:Nat->Prop}
  (hA:∀a ver es ae L,A a->S.heap.get a=Ot (.row ver es ae)->G.loc a=Ot L->Gt.pr L.cb=H[L.cb]?)
  (hlen:∀cs ef,φ cs=.ok ef->ef.length=cs.length)
  (hφ:∀cs ws ef,VRs G cs ws->φ cs=.ok ef->(∀a,a∈β cs->A a)->VRs Gt.shut ef ws):
  ∀v w v',VR G v w->kV φ S v=.ok v'->(∀a,a∈jS β S v->A a)->(∃a ver es off len,v=.sl a ver es off len)->VR Gt v' w:=by
 rintro v w v' h hf ha ⟨a,ver,sx,off,len,rfl⟩;unfold kV at hf;split at hf
 ·rename_i es he;split at hf
  ·rename_i dz hm;cases hf;cases h with
   | sl _ _ _ _ _ p n c hs=>
    obtain⟨rfl,ky,L,hL,hs⟩:=hs;have Nr:A a:=ha a (by simp[jS]);have GT:∀z,z∈lK β es->A z:=λz hz=>ha z (by simp only[jS,he];exact OY _ hz);unfold aK at he;simp only at he;split at he
    ·cases he
    ·rename_i Ae elems hg;rw[cond_eq_ite] at he;split at he
     ·rename_i Dp;have Dp:=Nat.le_of_ble_eq_true Dp;cases he;unfold aC at hg;split at hg
      ·rename_i v0 es2 GU Af;rw[cond_eq_ite] at hg;split at hg
       ·rename_i hv;have hv:=Qv hv;cases hg;subst hv;obtain⟨L',cy,r1,r2,r3,ca,ty,fr,hc,r4,r5,r6⟩:=Rl.blk a _ Af;rw[hL] at cy;cases cy;rcases hs with hs | ⟨_,Kt,Cj,yb⟩
        ·omega
        have Ns:Gt.pr L.cb=Ot (.cells ca ty fr):=by rw[hA a _ _ _ L Nr Af hL];exact hc
        obtain⟨jp,hmg⟩:=pA hm;have px:((elems.drop off).take n).length=n:=by simp only[PY,PQ];omega
        rw[px] at jp;have bg:∀i cs,((elems.drop off).take n)[i]?=Ot cs->i<n/\elems[off+i]?=Ot cs:=by
         intro i cs hi;rw[Qp] at hi;split at hi
         ·rename_i ag;rw[PP] at hi;exact⟨ag,hi⟩
         ·cases hi
        have jl:∀i cs,((elems.drop off).take n)[i]?=Ot cs->cs.length=Ae/\VRs G cs ((RC Ae).map λj=>ca.getD (L.co+(off+i)*Ae+j) Vz):=by
         intro i cs hi;obtain⟨ag,df⟩:=bg i cs hi;obtain⟨q1,q2⟩:=r6 _ _ df;refine⟨q1,VRs.of (by simp[q1]) λj v w hv hw=>?_⟩;obtain⟨w',e1,e2⟩:=q2 j v hv;rw[Pc] at hw;have hj:j<Ae:=by rw[<-q1];exact(Oq.1 hv).1
         rw[TU hj] at hw;simp only[Rv,Qy] at hw;rw[<-hw,RP,e1];exact e2
        refine .imm dz p n c Ae jp.symm ky ((List.range' 0 dz.length).map λi=>(RC Ae).map λj=>ca.getD (L.co+(off+i)*Ae+j) Vz) (VRss.build 0 λi cs hi=>?_) (λcs hcs=>?_) ?_
        ·obtain⟨x,hx,GV⟩:=aBt hm hi;rw[Px];exact hφ x _ cs (jl i x hx).2 GV (λz hz=>GT z (aEx hx hz))
        ·obtain⟨i,hi⟩:=PA.1 hcs;obtain⟨x,hx,GV⟩:=aBt hm hi;rw[hlen _ _ GV];exact(jl i x hx).1
        ·by_cases h0:n=0
         ·exact .inl h0
         ·right
          rw[yb (by omega)];refine⟨ca,ty,fr,Ns,rfl,λi l hl k v hk=>?_⟩;rw[Pc,jp] at hl;have ba:i<n:=by
           by_cases ba:i<n
           ·exact ba
           ·rw[Re (by simp;omega)] at hl;cases hl
          rw[List.getElem?_range' ba] at hl;simp only[Rv,Qy] at hl;subst hl;rw[Pc] at hk;by_cases KN:k<Ae
          ·rw[TU KN] at hk;simp only[Rv,Qy] at hk;have hi:((elems.drop off).take n)[i]?=Ot (((elems.drop off).take n)[i]'(by omega)):=OF _;obtain⟨_,df⟩:=bg _ _ hi;obtain⟨q1,q2⟩:=r6 _ _ df;obtain⟨u,hu⟩:∃u,(((elems.drop off).take n)[i]'(by omega))[k]?=Ot u:=⟨_,OF (by rw[q1];exact KN)⟩;obtain⟨w',e1,e2⟩:=q2 k u hu;rw[RP,Px,Nat.one_mul,e1] at hk;rw[<-hk];simp only[<-r2];simp only[<-r2] at e1;rw[show L.co+off*L.es+i*L.es+k=L.co+(off+i)*L.es+k by rw[Qn];omega];exact e1
          ·rw[Re (by simp;omega)] at hk;cases hk
       ·cases hg
      ·cases hg
     ·cases he
  ·cases hf
 ·cases hf
theorem aAq{S:St}:∀(n:Nat) (cs ef:On V),iS S n cs=.ok ef->ef.length=cs.length
 | 0,cs,ef,h=>by cases h
 | n+1,cs,ef,h=>aAp h
section
variable{F:Nat->Ow Obj}{G Gt:Gh}{S:St}{H:Pa Obj}{A:Nat->Prop}
theorem aJx(Rl:gJ F G S H){ρ:Nat->Ow Nat}(ho:Over G Gt ρ)(hA:∀a ver es ae L,A a->S.heap.get a=Ot (.row ver es ae)->G.loc a=Ot L->Gt.pr L.cb=H[L.cb]?):
  ∀(n:Nat) (cs:On V) (ws:On O') (ef:On V),VRs G cs ws->iS S n cs=.ok ef->(∀a,a∈iA S n cs->A a)->VRs Gt.shut ef ws
 | 0,cs,ws,ef,_,h,_=>by cases h
 | n+1,cs,ws,ef,hv,h,ha=>frzVs_ok ho.shutIn (aJw Rl (Gt:=Gt.shut) hA (aAq n) (aJx Rl ho hA n)) cs hv h ha
theorem aVs(Rl:gJ F G S H){ρ:Nat->Ow Nat}(ho:Over G Gt ρ)(hA:∀a ver es ae L,A a->S.heap.get a=Ot (.row ver es ae)->G.loc a=Ot L->Gt.pr L.cb=H[L.cb]?)
  {v v':V} {w:O'} (hv:VR G v w) (h:cP ρ (kV (iS S 3) S) v=.ok v') (ha:∀a,a∈fF (jS (iA S 3) S) v->A a):VR Gt v' w:=
 aJv ho (aJw Rl hA (aAq 3) (aJx Rl ho hA 3)) v hv h ha
theorem aJy(Rl:gJ F G S H){ρ:Nat->Ow Nat}(ho:Over G Gt ρ)(hA:∀a ver es ae L,A a->S.heap.get a=Ot (.row ver es ae)->G.loc a=Ot L->Gt.pr L.cb=H[L.cb]?)
  {v v':On V} {w:On O'} (hv:VRs G v w) (h:Sm ρ (kV (iS S 3) S) v=.ok v') (ha:∀a,a∈TM (jS (iA S 3) S) v->A a):VRs Gt v' w:=
 frzVs_ok ho (aJw Rl hA (aAq 3) (aJx Rl ho hA 3)) v hv h ha
theorem aO7(Rl:gJ F G S H){ρ:Nat->Ow Nat}(ho:Over G Gt ρ)(hA:∀a ver es ae L,A a->S.heap.get a=Ot (.row ver es ae)->G.loc a=Ot L->Gt.pr L.cb=H[L.cb]?)
  {c:Pa O'} {o es:Nat} {ae aj:On (On V)} (h:RowR G c o es ae) (hm:kU (iS S 3) ae=.ok aj) (ha:∀a,a∈lK (iA S 3) ae->A a):RowR Gt c o es aj:=by
 intro i cs hi;obtain⟨x,hx,hφ⟩:=aBt hm hi;obtain⟨q1,q2⟩:=h i x hx;refine⟨(aAq 3 _ _ hφ).trans q1,λj v hj=>?_⟩;have ed:j<es:=by
  have:=(Oq.1 hj).1
  rw[aAq 3 _ _ hφ,q1] at this;exact this
 have hv:VRs G x ((RC es).map λj=>c.getD (o+i*es+j) Vz):=VRs.of (by simp[q1]) λj v w hv hw=>by
  obtain⟨w',e1,e2⟩:=q2 j v hv;have hj:j<es:=by rw[<-q1];exact(Oq.1 hv).1
  rw[Pc,TU hj] at hw;simp only[Rv,Qy] at hw;rw[<-hw,RP,e1];exact e2
 have hz:=aJx Rl ho hA 3 x _ cs hv hφ (λz hz=>ha z (aEx hx hz));obtain⟨w,e1,e2⟩:=hz.get hj;rw[Pc,TU ed] at e1;simp only[Rv,Qy] at e1;obtain⟨u,hu⟩:∃u,x[j]?=Ot u:=⟨_,OF (by rw[q1];exact ed)⟩;obtain⟨w',e3,_⟩:=q2 j u hu;rw[RP,e3] at e1;simp only[Option.getD_some] at e1;exact⟨w',e3,by rw[e1];exact e2.mono Gt.shut_le⟩
end
theorem tS{S:St}:∀{l:On Nat} {rs:Rows},gP S l=.ok rs->rs.length=l.length/\∀(k a:Nat),l[k]?=Ot a->∃ver es ae aj,S.heap.get a=Ot (.row ver es ae)/\kU (iS S 3) ae=.ok aj/\rs[k]?=Ot (ver,es,aj) /\
  ∀x,x∈lK (iA S 3) ae->x∈cZ S l
 | [],rs,h=>by cases h;exact⟨rfl,λk a h=>by simp at h⟩
 | a::l,rs,h=>by
  simp only[gP] at h;split at h
  ·rename_i ver es ae hg;split at h
   ·rename_i aj hm;split at h
    ·rename_i rs' hr;cases h;obtain⟨h1,h2⟩:=tS hr;refine⟨by simp[h1],λk b hk=>?_⟩;cases k with
     | zero=>
      simp at hk;subst hk;exact⟨ver,es,ae,aj,hg,hm,by simp,λx hx=>by simp only[cZ,hg];exact QA _ hx⟩
     | succ k=>
      simp at hk;obtain⟨a1,a2,a3,a4,b1,b2,b3,b4⟩:=h2 k b hk;exact⟨a1,a2,a3,a4,b1,b2,by simpa using b3,λx hx=>by simp only[cZ];exact QB _ (b4 x hx)⟩
    ·cases h
   ·cases h
  ·cases h
theorem aLy:∀(rs:Rows) (i:Nat) (h:Tr Blk) (k:Nat),(vF i rs h).get k=if i<=k/\k<i+rs.length then(rs[k - i]?).map λr=>Blk.row r.1 r.2.1 r.2.2 else h.get k
 | [],i,h,k=>by simp[vF];intro h1 h2;omega
 | (ver,es,ae)::rs,i,h,k=>by
  simp only[vF];rw[aLy rs (i+1)];simp only[OQ];by_cases e:k=i
  ·subst e;rw[Oz (by omega),OE (by omega),Ox _ _ _ trivial];simp
  ·rw[OJ _ _ _ _ trivial e];by_cases c:i+1<=k/\k<i+1+rs.length
   ·rw[OE c,OE (by omega),show k - i=(k - (i+1))+1 by omega,SD]
   ·rw[Oz c,Oz (by omega)]
theorem sE:∀(l:On Nat) (rs:Rows) (h:Tr Blk) (a:Nat),¬a∈l->(nR l rs h).get a=h.get a
 | [],rs,h,a,_=>by cases rs<;>rfl
 | b::l,[],h,a,_=>rfl
 | b::l,(ver,es,ae)::rs,h,a,hn=>by
  simp only[nR];rw[sE l rs _ a (λc=>hn (OY _ c)),OJ _ _ _ _ trivial (λe=>hn (by rw[e];exact Ph ..))]
theorem aBu:∀(l:On Nat) (rs:Rows) (h:Tr Blk) (k a:Nat),l.Nodup->rs.length=l.length->l[k]?=Ot a->(nR l rs h).get a=(rs[k]?).map λr=>Blk.row r.1 r.2.1 r.2.2
 | [],rs,h,k,a,_,_,hk=>by simp at hk
 | b::l,[],h,k,a,_,hl,hk=>by simp at hl
 | b::l,(ver,es,ae)::rs,h,k,a,hn,hl,hk=>by
  simp only[nR];have qx:=SF.1 hn;cases k with
  | zero=>
   simp at hk;subst hk;rw[sE l rs _ _ qx.1,Ox _ _ _ trivial];simp
  | succ k=>
   simp at hk;rw[aBu l rs _ k a qx.2 (by simpa using hl) hk];simp
theorem aAr:∀(l:On Nat) (h:Tr Blk) (a:Nat),(rQ l h).get a=if a∈l then OG else h.get a
 | [],h,a=>by simp[rQ]
 | b::l,h,a=>by
  simp only[rQ];rw[aAr l,Tr.get_cut];by_cases e:a=b
  ·subst e;simp
  ·simp[e]
theorem aJz{p:Nat->Ps}{l:On Nat}(h:l.any p=OA){a:Nat}(ha:a∈l):p a=false:=by
 cases hp:p a with
 | false=>rfl
 | true=>rw[VE.2 ⟨a,ha,hp⟩] at h;cases h
mutual
theorem aDt{G G':Gh}(hl:G.loc=G'.loc)(hm:G.ml=G'.ml)(hs:G'.sy=G.sy):∀(v:V) {w:O'},jG v=OB->VR G v w->VR G' v w
 | .bool b,w,_,h=>by cases h;exact .bool b
 | .int k n,w,_,h=>by cases h;exact .int k n
 | .str s,w,_,h=>by cases h;exact .str s
 | .nilp,w,_,h=>by cases h;exact .nilp
 | .ptr a ver i j,w,_,h=>by
  cases h with
  | ptr _ _ _ _ p hp=>exact .ptr _ _ _ _ p (by unfold PtrAt at hp|-;rw[<-hl];exact hp)
 | .iptr cs j,w,hb,h=>by cases hb
 | .nils,w,_,h=>by cases h;exact .nils
 | .sl a ver es off len,w,_,h=>by
  cases h with
  | sl _ _ _ _ _ p n c hp=>exact .sl _ _ _ _ _ p n c (by unfold SlAt at hp|-;rw[<-hl];exact hp)
 | .imm es,w,hb,h=>by
  have:es=[]:=by simpa[jG] using hb
  subst this;cases h with
  | imm0=>exact .imm0
  | imm _ p n c e hn hc vs h he hp=>exact .imm [] p n c e hn hc [] .nil he (.inl (by simpa using hn))
 | .agg cs,w,hb,h=>by cases h with | agg _ vs h=>exact .agg _ vs (bare_VRs hl hm hs cs hb h)
 | .tup cs,w,hb,h=>by cases h with | tup _ vs h=>exact .tup _ vs (bare_VRs hl hm hs cs hb h)
 | .nili,w,_,h=>by cases h;exact .nili
 | .iface t v,w,hb,h=>by cases h with | iface _ _ _ h=>exact .iface _ _ _ (aDt hl hm hs v hb h)
 | .nilf,w,_,h=>by cases h;exact .nilf
 | .func f a b,w,hb,h=>by
  simp only[jG,OU] at hb;cases h with | func _ _ _ x y hx hy=>exact .func _ _ _ x y (bare_VRs hl hm hs a hb.1 hx) (bare_VRs hl hm hs b hb.2 hy)
 | .nilm,w,_,h=>by cases h;exact .nilm
 | .mp a,w,_,h=>by cases h with | mp _ cb h=>exact .mp a cb (by rw[<-hm];exact h)
 | .res m r,w,_,h=>by cases h with | res _ _ k n h=>exact .res m r k n (by rw[hs];exact h)
theorem bare_VRs{G G':Gh}(hl:G.loc=G'.loc)(hm:G.ml=G'.ml)(hs:G'.sy=G.sy):∀(l:On V) {ws:On O'},bareVs l=OB->VRs G l ws->VRs G' l ws
 | [],ws,_,h=>by cases h;exact .nil
 | v::l,ws,hb,h=>by
  simp only[bareVs,OU] at hb;cases h with | cons _ w _ ws h t=>exact .cons _ _ _ _ (aDt hl hm hs v hb.1 h) (bare_VRs hl hm hs l hb.2 t)
end
end
open Classical in
noncomputable def jE(G:Gh)(S:St)(H:Pa Obj)(A:On Nat)(i:Nat):Ow Obj:=
 if∃a L b,a∈A/\S.heap.get a=Ot b/\G.loc a=Ot L/\L.cb=i then H[i]? else G.pr i
open Classical in
noncomputable def aEy(F:Nat->Ow Obj)(G:Gh)(H:Pa Obj)(R:On Nat)(i:Nat):Ow Obj:=
 if∃a L,a∈R/\G.loc a=Ot L/\L.cb=i then OG else H[i]?
theorem lP{F:Nat->Ow Obj}{G:Gh}{S:St}{H:Pa Obj}(Rl:gJ F G S H){A:On Nat}:∀i o,G.pr i=Ot o->jE G S H A i=Ot o:=by
 intro i o h;unfold jE;rw[Oz]
 ·exact h
 ·rintro⟨a,L,b,_,hb,hL,rfl⟩;rw[(Rl.own a b L.cb hb (.inl ⟨L,hL,rfl⟩)).2] at h;cases h
theorem aBv{G:Gh}{S:St}{H:Pa Obj}{A:On Nat}:∀a ver es ae L,a∈A->S.heap.get a=Ot (.row ver es ae)->G.loc a=Ot L->jE G S H A L.cb=H[L.cb]?:=by
 intro a ver es ae L ha hb hL;unfold jE;rw[OE ⟨a,L,_,ha,hb,hL,rfl⟩]
theorem aEz{F:Nat->Ow Obj}{G:Gh}{S:St}{H:Pa Obj}(Rl:gJ F G S H){A:On Nat}{i:Nat}{o:Obj}(h:jE G S H A i=Ot o):H[i]?=Ot o:=by
 unfold jE at h;split at h
 ·exact h
 ·exact Rl.pr i o h
theorem aT9{P:OI}{f:PU}{run:On V->St->Go.AM.R (V×St)}
  (az:∀{bs:On V} {S1 S2:St} {v:V},run bs S1=.ok (v,S2)->∀{F:Nat->Ow Obj} {G:Gh} {W:PE} {cs:On O'},gJ F G S1 W.heap->VRs G bs cs->
   Ty P f cs.toArray W λe W'=>∃G' w,e=.returned w/\Sim F OG G S1 W G' S2 W'/\VR G' v w)
  {args:On V} {S S':St} {v:V} (h:vG run args S=.ok (v,S')) {F:Nat->Ow Obj} {G:Gh} {W:PE} {cs:On O'} (Rl:gJ F G S W.heap) (hv:VRs G args cs):
  Ty P f cs.toArray W λe W'=>∃G' w,e=.returned w/\Sim F OG G S W G' S' W'/\VR G' v w:=by
 unfold vG at h;obtain⟨py,_⟩:=aCg (ptrsVs args);generalize jH (ptrsVs args)=R at h py;split at h
 ·cases h
 rename_i bs Ac;split at h
 ·cases h
 rename_i rows mf;obtain⟨yc,Fw⟩:=tS mf;have Fx:∀a,a∈TM (jS (iA S 3) S) args->a∈TM (jS (iA S 3) S) args++cZ S R:=λa ha=>QA _ ha;have KO:∀a,a∈cZ S R->a∈TM (jS (iA S 3) S) args++cZ S R:=λa ha=>QB _ ha;generalize TM (jS (iA S 3) S) args++cZ S R=A at h Fx KO;rw[cond_eq_ite] at h;split at h
 ·cases h
 rename_i rh;have rh:∀a,a∈A->¬a∈R:=λa ha=>aEw (aJz (by simpa using rh) ha);split at h
 ·cases h
 rename_i v0 S2 hx;split at h
 ·cases h
 rename_i v' ft;split at h
 ·cases h
 rename_i cl uh;obtain⟨Dq,Dr⟩:=tS uh;have AZ:∀a,a∈fF (jS (iA S2 3) S2) v0->a∈fF (jS (iA S2 3) S2) v0++cZ S2 (qH 0 R.length):=λa ha=>QA _ ha;have yd:∀a,a∈cZ S2 (qH 0 R.length)->a∈fF (jS (iA S2 3) S2) v0++cZ S2 (qH 0 R.length):=λa ha=>QB _ ha;generalize fF (jS (iA S2 3) S2) v0++cZ S2 (qH 0 R.length)=B at h AZ yd;rw[cond_eq_ite] at h;split at h
 ·cases h
 rename_i A';have A':∀a,a∈B->R.length<=a:=λa ha=>by
  have:=aJz (by simpa only[Bool.not_eq_true] using A') ha
  rcases Q' a R.length with c | c
  ·have c:QI a R.length=true:=by rw[Sx];exact c
   rw[c] at this;cases this
  ·exact c
 obtain⟨rfl,rfl⟩:=TI (SL h);clear h;have GW:(qH 0 R.length).length=R.length:=by
  have h1:∀n i,(qH i n).length=n:=by
   intro n
   induction n with
   | zero=>intro i;rfl
   | succ n ih=>intro i;simp[qH,ih]
  exact h1 _ _
 rw[GW] at Dq;have Ba:∀k,k<R.length->∃ver es ae aj,S2.heap.get k=Ot (.row ver es ae)/\kU (iS S2 3) ae=.ok aj/\cl[k]?=Ot (ver,es,aj)/\∀x,x∈lK (iA S2 3) ae->x∈B:=by
  intro k hk;obtain⟨ver,es,ae,aj,q1,q2,q3,q4⟩:=Dr k k (by rw[aJu,OE hk,Px]);exact⟨ver,es,ae,aj,q1,q2,q3,λx hx=>yd x (q4 x hx)⟩
 clear Dr yd uh mf;have gw:∀{k a:Nat},R[k]?=Ot a->∃ver es ae aj L,S.heap.get a=Ot (.row ver es ae)/\kU (iS S 3) ae=.ok aj/\rows[k]?=Ot (ver,es,aj)/\(∀x,x∈lK (iA S 3) ae->x∈A)/\G.loc a=Ot L/\G.ml a=OG /\
   aLf G W.heap L ver es ae:=by
  intro k a hk;obtain⟨ver,es,ae,aj,q1,q2,q3,q4⟩:=Fw k a hk;obtain⟨L,hL,al⟩:=Rl.blk a _ q1;exact⟨ver,es,ae,aj,L,q1,q2,q3,λx hx=>KO x (q4 x hx),hL,Rl.sep a L hL,al⟩
 have qd:∀{a:Nat} {L:Loc},a∈R->G.loc a=Ot L->F L.cb=OG/\G.pr L.cb=OG/\L.cb<W.heap.size:=by
  intro a L ha hL;obtain⟨k,hk⟩:=PA.1 ha;obtain⟨ver,es,ae,aj,L',q1,_⟩:=gw hk
  have:=Rl.own a _ L.cb q1 (.inl ⟨L,hL,rfl⟩)
  exact⟨this.1,this.2,Rl.lt a _ (.inl ⟨L,hL,rfl⟩)⟩
 let G1:Gh:=⟨λk=>(R[k]?).bind G.loc,λ_=>OG,jE G S W.heap A,G.sy⟩
 have gy:∀k,G1.loc k=(R[k]?).bind G.loc:=λ_=>rfl;have zk:Over G G1 (λa=>uS a 0 R):=by
  refine⟨lP Rl,rfl,λa k hk L hL=>⟨L,?_,.inl rfl⟩⟩;obtain⟨_,hk⟩:=xD hk;rw[gy,show R[k]?=Ot a by simpa using hk];exact hL
 have Ck:∀a ver es ae L,a∈A->S.heap.get a=Ot (.row ver es ae)->G.loc a=Ot L->G1.pr L.cb=W.heap[L.cb]?:=aBv;have av:∀k,(vF 0 rows .nil).get k=(rows[k]?).map λr=>Blk.row r.1 r.2.1 r.2.2:=by
  intro k;rw[aLy];by_cases c:k<rows.length
  ·rw[OE (by omega),UK]
  ·rw[Oz (by omega),Wy,Re (by omega)];rfl
 have Bb:∀{k:Nat} {b:Blk},(vF 0 rows .nil).get k=Ot b->∃a ver es ae aj L,R[k]?=Ot a/\b=.row ver es aj/\S.heap.get a=Ot (.row ver es ae)/\kU (iS S 3) ae=.ok aj/\(∀x,x∈lK (iA S 3) ae->x∈A)/\G.loc a=Ot L/\G1.loc k=Ot L/\aLf G W.heap L ver es ae:=by
  intro k b hb;rw[av] at hb;have dw:k<R.length:=by
   rw[<-yc];by_cases c:k<rows.length
   ·exact c
   ·rw[Re (by omega)] at hb;cases hb
  have hk:R[k]?=Ot R[k]:=OF dw;obtain⟨ver,es,ae,aj,L,q1,q2,q3,q4,q5,q6,q7⟩:=gw hk;rw[q3] at hb;cases hb;exact⟨_,ver,es,ae,aj,L,hk,rfl,q1,q2,q4,q5,by rw[gy,hk];exact q5,q7⟩
 have Ag:∀{k k' a:Nat},R[k]?=Ot a->R[k']?=Ot a->k=k':=by
  intro k k' a h1 h2;obtain⟨i1,e1⟩:=Oq.1 h1;obtain⟨i2,e2⟩:=Oq.1 h2;exact(XM py).1 (e1.trans e2.symm)
 have fi:∀{k i:Nat},dC G1 k i->∃a L,R[k]?=Ot a/\G.loc a=Ot L/\L.cb=i:=by
  rintro k i (⟨L,hL,e⟩ | h)
  ·rw[gy] at hL;cases hk:R[k]? with
   | none=>rw[hk] at hL;cases hL
   | some a=>rw[hk] at hL;exact⟨a,L,rfl,hL,e⟩
  ·cases h
 have ye:∀{k i:Nat},dC G1 k i->aEy F G W.heap R i=none:=by
  intro k i hh;obtain⟨a,L,hk,hL,e⟩:=fi hh;unfold aEy;rw[OE ⟨a,L,PA.2 ⟨k,hk⟩,hL,e⟩]
 have R1:gJ (aEy F G W.heap R) G1 ⟨R.length,vF 0 rows .nil⟩ W.heap:=by
  refine⟨λk hk=>⟨?_,rfl⟩,λ_ _ _=>rfl,λk b hb=>?_,λk k' b b' i hb bm h1 h2=>?_,λi o hi=>?_,λi o hi=>aEz Rl hi,λk b i hb hh=>⟨ye hh,?_⟩,λk i hh=>?_,λa _ _=>Qb a⟩
  ·rw[gy,Re hk];rfl
  ·obtain⟨a,ver,es,ae,aj,L,hk,rfl,q1,q2,q4,q5,q6,q7,q8,q9,ca,ty,fr,Nt,Nu,Nv,Nw⟩:=Bb hb;exact⟨L,q6,q7,q8,by rw[(pA q2).1];exact q9,ca,ty,fr,Nt,Nu,Nv,aO7 Rl zk Ck Nw q2 q4⟩
  ·obtain⟨a,ver,es,ae,aj,L,hk,_,q1,_⟩:=Bb hb;obtain⟨a',bd,dz,yf,qe,L2,dl,_,nr,_⟩:=Bb bm;obtain⟨x,K,e1,e2,e3⟩:=fi h1;obtain⟨x',K',AJ,Nx,Fh⟩:=fi h2;rw[hk] at e1;cases e1;rw[dl] at AJ;cases AJ
   have:=Rl.inj a a' _ _ i q1 nr (.inl ⟨K,e2,e3⟩) (.inl ⟨K',Nx,Fh⟩)
   subst this;exact Ag hk dl
  ·unfold aEy at hi;split at hi
   ·cases hi
   ·exact hi
  ·obtain⟨a,L,hk,hL,rfl⟩:=fi hh;show jE G S W.heap A L.cb=OG;unfold jE;rw[Oz]
   ·exact(qd (PA.2 ⟨k,hk⟩) hL).2.1
   ·rintro⟨a2,L2,b2,h1,h2,h3,h4⟩;obtain⟨_,_,_,_,_,q1,_⟩:=gw hk
    have:=Rl.inj a a2 _ _ _ q1 h2 (.inl ⟨L,hL,rfl⟩) (.inl ⟨L2,h3,h4⟩)
    subst this;exact rh _ h1 (PA.2 ⟨k,hk⟩)
  ·obtain⟨a,L,hk,hL,rfl⟩:=fi hh;exact(qd (PA.2 ⟨k,hk⟩) hL).2.2
 refine(az hx R1 (aJy Rl zk Ck hv Ac Fx)).mono ?_;rintro e W' ⟨dp,w,rfl,sim,hw⟩;have ba:∀{i:Nat} {o:Obj},aEy F G W.heap R i=Ot o->W'.heap[i]?=Ot o:=λhi=>sim.rel.fr _ _ hi;have hF:∀{i:Nat} {o:Obj},F i=Ot o->aEy F G W.heap R i=Ot o:=by
  intro i o hi;unfold aEy;rw[Oz]
  ·exact Rl.fr i o hi
  ·rintro⟨a,L,ha,hL,rfl⟩;rw[(qd ha hL).1] at hi;cases hi
 have Ds:∀{i:Nat},aEy F G W.heap R i=OG->F i=none:=by
  intro i hi;cases hq:F i with
  | none=>rfl
  | some o=>rw[hF hq] at hi;cases hi
 have db:∀{a i:Nat} {b:Blk},S.heap.get a=Ot b->¬a∈R->dC G a i->∃o,W.heap[i]?=Ot o/\aEy F G W.heap R i=Ot o:=by
  intro a i b hb ha hh;refine⟨_,Qu (Rl.lt a i hh),?_⟩;unfold aEy;rw[Oz]
  ·exact Qu (Rl.lt a i hh)
  ·rintro⟨a2,L,GX,hL,rfl⟩;obtain⟨k,hk⟩:=PA.1 GX;obtain⟨_,_,_,_,_,q1,_⟩:=gw hk
   have:=Rl.inj a a2 _ _ _ hb q1 hh (.inl ⟨L,hL,rfl⟩)
   exact ha (this▸GX)
 have ui:∀k,k<R.length->∃a L L',R[k]?=Ot a/\G.loc a=Ot L/\dp.loc k=Ot L'/\(L'=L\/L.ver<L'.ver):=by
  intro k hk;have dl:R[k]?=Ot R[k]:=OF hk;obtain⟨_,_,_,_,L,_,_,_,_,q5,_⟩:=gw dl;obtain⟨L',h1,h2⟩:=sim.le.loc k L (by rw[gy,dl];exact q5);exact⟨_,L,L',dl,q5,h1,h2⟩
 have Ah:∀a ver es ae L,a∈B->S2.heap.get a=Ot (.row ver es ae)->dp.loc a=Ot L->jE dp S2 W'.heap B L.cb=W'.heap[L.cb]?:=aBv;have Bc:∀i o,G.pr i=Ot o->jE dp S2 W'.heap B i=Ot o:=λi o hi=>lP sim.rel i o (sim.le.pr i o (lP Rl i o hi))
 let cu:Ps->Nat->Ow Loc:=λcut a=>match uS a 0 R with
  | some k=>dp.loc k
  | none=>bif cut&&iT a A&&(S.heap.get a).isSome then(G.loc a).map λL=>{ L with ver:=L.ver+1 } else G.loc a
 let Ny:Ps->Nat->Ow Obj:=λcut=>match cut with
  | true=>jE dp S2 W'.heap B
  | false=>G.pr
 let G2:Ps->Gh:=λcut=>⟨cu cut,G.ml,Ny cut,G.sy⟩
 have ri:∀{a:Nat},a∈R->∃k,uS a 0 R=Ot k/\k<R.length/\R[k]?=Ot a:=by
  intro a ha
  have:∀(l:On Nat) (i:Nat),a∈l->∃k,uS a i l=Ot k:=by
   intro l
   induction l with
   | nil=>intro i h;cases h
   | cons b l ih=>
    intro i h;simp only[uS,cond_eq_ite,QE];by_cases e:a=b
    ·exact⟨i,by rw[OE e]⟩
    ·rw[Oz e];exact ih (i+1) ((Pu.1 h).resolve_left e)
  obtain⟨k,hk⟩:=this R 0 ha;obtain⟨_,h2⟩:=xD hk;rw[UK] at h2;exact⟨k,hk,(Oq.1 h2).1,h2⟩
 have Dt:∀{a:Nat},¬a∈R->uS a 0 R=none:=by
  intro a ha;cases hq:uS a 0 R with
  | none=>rfl
  | some k=>
   obtain⟨_,h2⟩:=xD hq;exact absurd (PA.2 ⟨_,h2⟩) ha
 have mg:∀cut {a k:Nat},R[k]?=Ot a->cu cut a=dp.loc k:=by
  intro cut a k hk;obtain⟨k',h1,_,h3⟩:=ri (PA.2 ⟨k,hk⟩)
  have:=Ag hk h3
  subst this;show(match uS a 0 R with | some k=>dp.loc k | none=>_)=_;rw[h1]
 have fj:∀cut {a:Nat},¬a∈R->cu cut a=bif cut&&iT a A&&(S.heap.get a).isSome then(G.loc a).map λL=>{ L with ver:=L.ver+1 } else G.loc a:=by
  intro cut a ha;show(match uS a 0 R with | some k=>dp.loc k | none=>_)=_;rw[Dt ha]
 have hle:∀cut,G.le (G2 cut):=by
  intro cut;refine⟨λa L hL=>?_,λ_ _ h=>h,?_,rfl⟩
  ·by_cases ha:a∈R
   ·obtain⟨k,_,hk,di⟩:=ri ha;obtain⟨a',L0,L',e1,e2,e3,e4⟩:=ui k hk;rw[di] at e1;cases e1;rw[hL] at e2;cases e2;exact⟨L',(mg cut di).trans e3,e4⟩
   ·show∃L',cu cut a=Ot L'/\_;rw[fj cut ha,cond_eq_ite];split
    ·exact⟨{ L with ver:=L.ver+1 },by rw[hL];rfl,.inr (Qb _)⟩
    ·exact⟨L,hL,.inl rfl⟩
  ·cases cut with
   | true=>exact Bc
   | false=>exactλ_ _ h=>h
 have Du:dp.sy=G.sy:=sim.le.sy
 let Gm:Ps->Gh:=λcut=>⟨cu cut,G.ml,jE dp S2 W'.heap B,G.sy⟩
 have nj:∀cut,Over dp (Gm cut) (aGs R):=by
  intro cut;refine⟨lP sim.rel,Du.symm,λk a hk L hL=>⟨L,?_,.inl rfl⟩⟩;rw[aQ5] at hk;exact(mg cut hk).trans hL
 have KP:∀cut,VR (Gm cut) v' w:=λcut=>aVs sim.rel (nj cut) Ah hw ft AZ;have Dv:∀cut,(cut=OA->jG v'=OB/\pK cl=OB)->Sim F OG G S W (G2 cut) ⟨S.next,nR R cl (bif cut then rQ A S.heap else S.heap)⟩ W'/\VR (G2 cut) v' w:=by
  intro cut Dw;have GY:∀{i:Nat} {o:Obj},(G2 cut).pr i=Ot o->W'.heap[i]?=Ot o:=by
   intro i o hi;cases cut with
   | true=>exact aEz sim.rel hi
   | false=>
    refine ba (o:=o) ?_;unfold aEy;rw[Oz]
    ·exact Rl.pr i o hi
    ·rintro⟨a,L,ha,hL,rfl⟩;have hi:G.pr L.cb=Ot o:=hi;rw[(qd ha hL).2.1] at hi;cases hi
  have jk:∀{i:Nat} {o:Obj},(G2 cut).pr i=Ot o->(cut=OB/\∃a L b,a∈B/\S2.heap.get a=Ot b/\dp.loc a=Ot L/\L.cb=i)\/(cut=OB/\dp.pr i=Ot o)\/G.pr i=Ot o:=by
   intro i o hi;cases cut with
   | false=>exact .inr (.inr hi)
   | true=>
    have hi:jE dp S2 W'.heap B i=Ot o:=hi;unfold jE at hi;split at hi
    ·rename_i hq;exact .inl ⟨rfl,hq⟩
    ·exact .inr (.inl ⟨rfl,hi⟩)
  have Dx:∀{a k:Nat},R[k]?=Ot a->(nR R cl (bif cut then rQ A S.heap else S.heap)).get a=(cl[k]?).map λr=>Blk.row r.1 r.2.1 r.2.2:=λhk=>aBu R cl _ _ _ py Dq hk;have Ai:∀{a:Nat},¬a∈R->(nR R cl (bif cut then rQ A S.heap else S.heap)).get a=if cut=OB/\a∈A then OG else S.heap.get a:=by
   intro a ha;rw[sE R cl _ a ha];cases cut with
   | true=>simp only[PW,aAr,true_and]
   | false=>simp
  have Dy:∀{a:Nat},a∈R->G.ml a=none:=by
   intro a ha;obtain⟨k,_,_,di⟩:=ri ha;obtain⟨_,_,_,_,_,_,_,_,_,_,jp,_⟩:=gw di;exact jp
  have oe:∀{a:Nat},a∈R->∃b,S.heap.get a=Ot b:=by
   intro a ha;obtain⟨k,_,_,di⟩:=ri ha;obtain⟨_,_,_,_,_,q1,_⟩:=gw di;exact⟨_,q1⟩
  have ee:∀{a:Nat} {b:Blk},(nR R cl (bif cut then rQ A S.heap else S.heap)).get a=Ot b->
    (∃k ver es ae aj,R[k]?=Ot a/\k<R.length/\b=.row ver es aj/\S2.heap.get k=Ot (.row ver es ae)/\kU (iS S2 3) ae=.ok aj/\cl[k]?=Ot (ver,es,aj)/\(∀x,x∈lK (iA S2 3) ae->x∈B)/\∀i,dC (G2 cut) a i↔dC dp k i) \/
    (¬a∈R/\¬(cut=OB/\a∈A)/\S.heap.get a=Ot b/\(G2 cut).loc a=G.loc a/\∀i,dC (G2 cut) a i↔dC G a i):=by
   intro a b hb;by_cases ha:a∈R
   ·obtain⟨k,_,hk,di⟩:=ri ha;obtain⟨ver,es,ae,aj,q1,q2,q3,q4⟩:=Ba k hk;rw[Dx di,q3] at hb;cases hb;refine .inl ⟨k,ver,es,ae,aj,di,hk,rfl,q1,q2,q3,q4,λi=>?_⟩;obtain⟨_,_,L',_,_,e3,_⟩:=ui k hk;have GZ:=sim.rel.sep k L' e3;unfold dC;show(∃L,cu cut a=Ot L/\L.cb=i)\/G.ml a=Ot i↔_;rw[mg cut di,Dy ha,GZ]
   ·rw[Ai ha] at hb;split at hb
    ·cases hb
    ·rename_i hq;have en:cu cut a=G.loc a:=by
      rw[fj cut ha,cond_eq_ite,Oz];simp only[OU,sD];rintro⟨⟨c1,c2⟩,_⟩;exact hq ⟨c1,c2⟩
     refine .inr ⟨ha,hq,hb,en,λi=>?_⟩;unfold dC;show(∃L,cu cut a=Ot L/\L.cb=i)\/G.ml a=Ot i↔_;rw[en]
  have oh:∀{a i:Nat} {b:Blk},S.heap.get a=Ot b->¬a∈R->dC G a i->W'.heap[i]?=W.heap[i]?:=by
   intro a i b hb ha hh;obtain⟨o,h1,h2⟩:=db hb ha hh;rw[h1];exact ba h2
  have Fp:VR (G2 cut) v' w:=by
   cases cut with
   | true=>exact KP OB
   | false=>exact aDt (G:=Gm OA) (G':=G2 OA) rfl rfl rfl v' (Dw rfl).1 (KP OA)
  have mh:∀{a:Nat} {L:Loc},¬a∈R->cu cut a=Ot L->∃L0,G.loc a=Ot L0/\L.cb=L0.cb:=by
   intro a L ha hL;rw[fj cut ha,cond_eq_ite] at hL;split at hL
   ·cases hq:G.loc a with
    | none=>rw[hq] at hL;cases hL
    | some L0=>rw[hq] at hL;cases hL;exact⟨L0,rfl,rfl⟩
   ·exact⟨L,hL,rfl⟩
  refine⟨⟨hle cut,?_,sim.same,Ov _,λa h1 h2 _=>⟨?_,rfl⟩,λa h1 h2 _=>?_,λi o hi=>?_⟩,Fp⟩
  ·constructor
   ·intro a ha;have qz:S.next<=a:=ha;have Nz:¬a∈R:=λhc=>by
     obtain⟨b,hb⟩:=oe hc
     have:=Rl.alive hb;omega
    refine⟨?_,(Rl.fresh a qz).2⟩;show cu cut a=OG;rw[fj cut Nz,(Rl.fresh a qz).1,cond_eq_ite];split<;>rfl
   ·intro a L hL;by_cases ha:a∈R
    ·exact Dy ha
    ·obtain⟨L0,h1,_⟩:=mh ha hL;exact Rl.sep a L0 h1
   ·intro a b hb;rcases ee hb with ⟨k,ver,es,ae,aj,di,hk,rfl,q1,q2,q3,q4,_⟩ | ⟨ha,hq,hb,en,_⟩
    ·obtain⟨L,hL,r1,r2,r3,ca,ty,fr,r4,r5,r6,r7⟩:=sim.rel.blk k _ q1;refine⟨L,(mg cut di).trans hL,r1,r2,by rw[(pA q2).1];exact r3,ca,ty,fr,r4,r5,r6,?_⟩;have Ha:RowR (Gm cut) ca L.co es aj:=aO7 sim.rel (nj cut) Ah r7 q2 q4;cases cut with
     | true=>exact Ha
     | false=>
      intro i cs hi;refine⟨(Ha i cs hi).1,λj v hj=>?_⟩;obtain⟨u,u1,u2⟩:=(Ha i cs hi).2 j v hj;refine⟨u,u1,aDt (G:=Gm OA) (G':=G2 OA) rfl rfl rfl v ?_ u2⟩;have ea:=(Dw rfl).2;unfold pK at ea;have wl:=PD.1 (PD.1 ea _ (OM q3)) cs (OM hi)
      have:∀(l:On V),bareVs l=OB->∀u,u∈l->jG u=true:=by
       intro l
       induction l with
       | nil=>intro _ u hu;cases hu
       | cons x l ih=>
        intro hl u hu;simp only[bareVs,OU] at hl;rcases Pu.1 hu with rfl | hu
        ·exact hl.1
        ·exact ih hl.2 u hu
      exact this cs wl v (OM hj)
    ·have old:=Rl.blk a b hb;cases b with
     | row ver es elems=>
      obtain⟨L,hL,r1,r2,r3,c,ty,fz,hc,r4,r5,r6⟩:=old;exact⟨L,en.trans hL,r1,r2,r3,c,ty,fz,by rw[oh hb ha (.inl ⟨L,hL,rfl⟩)];exact hc,r4,r5,r6.mono (hle cut)⟩
     | mp kvs=>
      obtain⟨i,es,clock,hi,hH,r1,r2⟩:=old;exact⟨i,es,clock,hi,by rw[oh hb ha (.inr hi)];exact hH,r1.mono (hle cut),r2⟩
     | iter s pos=>
      obtain⟨L,hL,r1,r2,hH⟩:=old;exact⟨L,en.trans hL,r1,r2,by rw[oh hb ha (.inl ⟨L,hL,rfl⟩)];exact hH⟩
   ·intro a a' b b' i hb bm h1 h2;rcases ee hb with ⟨k,ver,es,ae,aj,di,hk,rfl,q1,q2,q3,q4,q5⟩ | ⟨ha,hq,hb,en,q5⟩
    ·rcases ee bm with ⟨k',bd,dz,yf,qe,Be,dl,rfl,nr,Fy,NA,Hb,oi⟩ | ⟨qz,jo,bm,uj,oi⟩
     ·have:=sim.rel.inj k k' _ _ i q1 nr ((q5 i).1 h1) ((oi i).1 h2)
      subst this;rw[di] at Be;exact Qz Be
     ·have e1:=(sim.rel.own k _ i q1 ((q5 i).1 h1)).1;obtain⟨o,_,e2⟩:=db bm qz ((oi i).1 h2);rw[e1] at e2;cases e2
    ·rcases ee bm with ⟨k',bd,dz,yf,qe,Be,dl,rfl,nr,Fy,NA,Hb,oi⟩ | ⟨qz,jo,bm,uj,oi⟩
     ·have e1:=(sim.rel.own k' _ i nr ((oi i).1 h2)).1;obtain⟨o,_,e2⟩:=db hb ha ((q5 i).1 h1);rw[e1] at e2;cases e2
     ·exact Rl.inj a a' b b' i hb bm ((q5 i).1 h1) ((oi i).1 h2)
   ·exactλi o hi=>ba (hF hi)
   ·exactλi o hi=>GY hi
   ·intro a b i hb hh;rcases ee hb with ⟨k,ver,es,ae,aj,di,hk,rfl,q1,q2,q3,q4,q5⟩ | ⟨ha,hq,hb,en,q5⟩
    ·have own:=sim.rel.own k _ i q1 ((q5 i).1 hh);refine⟨Ds own.1,?_⟩;cases hp:(G2 cut).pr i with
     | none=>rfl
     | some o=>
      exfalso;rcases jk hp with ⟨_,a2,L2,b2,h1,h2,h3,h4⟩ | ⟨_,h1⟩ | h1
      ·have:=sim.rel.inj k a2 _ _ i q1 h2 ((q5 i).1 hh) (.inl ⟨L2,h3,h4⟩)
       subst this
       have:=A' _ h1;omega
      ·rw[own.2] at h1;cases h1
      ·have:=sim.le.pr i o (lP Rl i o h1)
       rw[own.2] at this;cases this
    ·have hG:=(q5 i).1 hh;have own:=Rl.own a b i hb hG;refine⟨own.1,?_⟩;obtain⟨o1,_,qt⟩:=db hb ha hG;cases hp:(G2 cut).pr i with
     | none=>rfl
     | some o=>
      exfalso;rcases jk hp with ⟨_,a2,L2,b2,h1,h2,h3,h4⟩ | ⟨hc,h1⟩ | h1
      ·have:=(sim.rel.own a2 b2 i h2 (.inl ⟨L2,h3,h4⟩)).1
       rw[qt] at this;cases this
      ·rcases sim.prn i o h1 with h1 | h1
       ·have h1:jE G S W.heap A i=Ot o:=h1;unfold jE at h1;split at h1
        ·rename_i Hc;obtain⟨a2,L2,b2,e1,e2,e3,e4⟩:=Hc
         have:=Rl.inj a a2 b b2 i hb e2 hG (.inl ⟨L2,e3,e4⟩)
         subst this;exact hq ⟨hc,e1⟩
        ·rw[own.2] at h1;cases h1
       ·rw[qt] at h1;cases h1
      ·rw[own.2] at h1;cases h1
   ·intro a i hh;have bk:=sim.same.size;rcases hh with ⟨L,hL,rfl⟩ | hh
    ·by_cases ha:a∈R
     ·obtain⟨k,_,hk,di⟩:=ri ha;exact sim.rel.lt k _ (.inl ⟨L,(mg cut di).symm.trans hL,rfl⟩)
     ·obtain⟨L0,h1,h2⟩:=mh ha hL
      have:=Rl.lt a L0.cb (.inl ⟨L0,h1,rfl⟩)
      rw[h2];omega
    ·have:=Rl.lt a i (.inr hh);omega
   ·exactλa _ _=>Qb a
  ·have ha:¬a∈R:=λhc=>by
    obtain⟨b,hb⟩:=oe hc;rw[h1] at hb;cases hb
   show cu cut a=G.loc a;rw[fj cut ha,h1];simp
  ·have ha:¬a∈R:=λhc=>by
    obtain⟨b,hb⟩:=oe hc;rw[h1] at hb;cases hb
   show(nR R cl (bif cut then rQ A S.heap else S.heap)).get a=OG;rw[Ai ha,h1,ite_self]
  ·rcases jk hi with ⟨_,a2,L2,b2,h1,h2,h3,h4⟩ | ⟨hc,h1⟩ | h1
   ·exact .inr (Ds (sim.rel.own a2 b2 i h2 (.inl ⟨L2,h3,h4⟩)).1)
   ·rcases sim.prn i o h1 with h1 | h1
    ·have h1:jE G S W.heap A i=Ot o:=h1;unfold jE at h1;split at h1
     ·rename_i Hc;obtain⟨a2,L2,b2,e1,e2,e3,e4⟩:=Hc;exact .inr (Rl.own a2 b2 i e2 (.inl ⟨L2,e3,e4⟩)).1
     ·exact .inl h1
    ·exact .inr (Ds h1)
   ·exact .inl h1
 obtain⟨s1,s2⟩:=Dv (!(jG v'&&pK cl)) (λhc=>by simpa using hc);refine⟨_,w,rfl,?_,s2⟩;cases hc:(jG v'&&pK cl) with
 | true=>rw[hc] at s1;exact s1
 | false=>rw[hc] at s1;exact s1
theorem aCh:∀{l:On Nat},aHj l=OB->l.Nodup
 | [],_=>Wn
 | a::l,h=>by
  simp only[aHj,OU,Su] at h;exact SF.2 ⟨aEw h.1,aCh h.2⟩
theorem aDu{F:Nat->Ow Obj}{G Gt:Gh}{S:St}{H:Pa Obj}{A:Nat->Prop}(Rl:gJ F G S H)(ho:Over G Gt kP)(hA:∀a ver es ae L,A a->S.heap.get a=Ot (.row ver es ae)->G.loc a=Ot L->Gt.pr L.cb=H[L.cb]?)
  {mask:On Nat}:∀{l:On V} {i nx:Nat} {ws:On O'} {r:On V×On Nat},aDf S mask i nx l=.ok r->VRs G l ws->(∀a,a∈yP S mask i l->A a)->(∀t j,r.2[t]?=Ot j->∀L,G.loc j=Ot L->Gt.loc (nx+t)=Ot L)->VRs Gt r.1 ws
 | [],i,nx,ws,r,h,hv,_,_=>by cases h;cases hv;exact .nil
 | v::l,i,nx,ws,r,h,hv,hB,hl=>by
  cases hv with
  | cons _ w _ ws hv ht=>
   simp only[aDf,cond_eq_ite] at h;split at h
   ·rename_i hm;have Ah:∀a,a∈yP S mask (i+1) l->A a:=λa ha=>hB a (by simp only[yP];exact QB _ ha);split at h
    ·split at h
     ·rename_i r' hr;cases h;cases hv;exact .cons _ _ _ _ .nils (aDu Rl ho hA hr ht Ah hl)
     ·cases h
    ·rename_i j ver es off len;split at h
     ·rename_i r' hr;cases h;refine .cons _ _ _ _ ?_ (aDu Rl ho hA hr ht Ah λt k hk L hL=>?_)
      ·cases hv with
       | sl _ _ _ _ _ p n c hs=>
        obtain⟨q1,q2,L,hL,q3⟩:=hs;exact .sl _ _ _ _ _ p n c ⟨q1,q2,L,by have:=hl 0 j (by simp) L hL;simpa using this,q3⟩
      ·have:=hl (t+1) k (by simpa using hk) L hL
       rwa [show nx+(t+1)=nx+1+t by omega] at this
     ·cases h
    ·cases h
   ·rename_i hm;have hm:iT i mask=false:=by simpa using hm
    split at h
    ·rename_i v' hf;split at h
     ·rename_i r' hr;cases h;refine .cons _ _ _ _ (aVs Rl ho hA hv hf λa ha=>hB a ?_) (aDu Rl ho hA hr ht (λa ha=>hB a ?_) hl)
      ·simp only[yP,hm,QF];exact QA _ ha
      ·simp only[yP];exact QB _ ha
     ·cases h
    ·cases h
theorem aO8{G G':Gh}{v v':V}{cs:On V}(h:tM v cs=.ok v'){w:O'}(hv:VR G v w)(hc:VRs G' cs w.cells.toList):VR G' v' w:=by
 unfold tM at h;split at h
 ·cases h;cases hv with
  | agg _ vs _=>exact .agg _ vs hc
 ·cases h;cases hv with
  | sl _ _ _ _ _ p n c _=>cases hc with | cons _ _ _ _ h _=>exact h
 ·cases h;cases hv with
  | nils=>cases hc with | cons _ _ _ _ h _=>exact h
 ·cases h
theorem aLz{G G':Gh}:∀(v:V) {w:O'},nV v=OB->VR G v w->VR G' v w
 | .bool b,_,_,h=>by cases h;exact .bool b
 | .int k n,_,_,h=>by cases h;exact .int k n
 | .str s,_,_,h=>by cases h;exact .str s
 | .nilp,_,_,h=>by cases h;exact .nilp
 | .nili,_,_,h=>by cases h;exact .nili
 | .nilf,_,_,h=>by cases h;exact .nilf
 | .nilm,_,_,h=>by cases h;exact .nilm
theorem aHv{G G':Gh}:∀(l:On V) {ws:On O'},l.all nV=OB->VRs G l ws->VRs G' l ws
 | [],_,_,h=>by cases h;exact .nil
 | v::l,_,hl,h=>by
  simp only[SR,OU] at hl;cases h with
  | cons _ w _ ws hv ht=>exact .cons _ _ _ _ (aLz v hl.1 hv) (aHv l hl.2 ht)
theorem aHw{ρ:Nat->Ow Nat}{σ:V->R V}(v:V)(h:nV v=OB):cP ρ σ v=.ok v:=by
 cases v<;>first | rfl | cases h
theorem aF0{ρ:Nat->Ow Nat}{σ:V->R V}:∀(l:On V),l.all nV=OB->Sm ρ σ l=.ok l
 | [],_=>rfl
 | v::l,hl=>by
  simp only[SR,OU] at hl;simp only[Sm,aHw v hl.1,aF0 l hl.2]
theorem aF1{φ:On V->R (On V)}:∀{l:On (On V)},(∀x,x∈l->φ x=.ok x)->kU φ l=.ok l
 | [],_=>rfl
 | x::l,h=>by simp only[kU,h x (Ph ..),aF1 λy hy=>h y (OY _ hy)]
theorem aHx:∀l:On (On V),lK (λ_=>[]) l=[]
 | []=>rfl
 | _::l=>by simp only[lK,aHx l,List.append_nil]
theorem aQ6{F:Nat->Ow Obj}{G Gt:Gh}{S:St}{H:Pa Obj}(Rl:gJ F G S H){A:Nat->Prop}(hA:∀a ver es ae L,A a->S.heap.get a=Ot (.row ver es ae)->G.loc a=Ot L->Gt.pr L.cb=H[L.cb]?)
  {v v':V} {w:O'} (hv:VR G v w) (hn:newV S v=OB) (h:cP kP (kV (iS S 3) S) v=.ok v') (ha:∀a,a∈fF (jS (iA S 3) S) v->A a):VR Gt v' w:=by
 unfold newV at hn;split at hn
 ·cases h;cases hv;exact .imm0
 ·rename_i a ver es off len;split at hn
  ·rename_i ae he;have hp:∀x,x∈ae->x.all nV=true:=PD.1 hn;have e1:kV (iS S 3) S (.sl a ver es off len)=.ok (.imm ae):=by
    simp only[kV,he];rw[aF1 (φ:=iS S 3) λx hx=>aF0 x (hp x hx)]
   have h:kV (iS S 3) S (.sl a ver es off len)=.ok v':=h;have e2:kV (λcs=>if cs.all nV=OB then(.ok cs:R (On V)) else .error "") S (.sl a ver es off len)=.ok v':=by
    rw[<-h,e1];simp only[kV,he];rw[aF1 (φ:=λcs=>if cs.all nV=OB then(.ok cs:R (On V)) else .error "") λx hx=>by simp only[hp x hx,Oy]]
   refine aJw Rl (β:=λ_=>[]) (A:=A) hA ?_ ?_ _ _ _ hv e2 ?_ ⟨a,ver,es,off,len,rfl⟩
   ·intro cs ef hc;split at hc
    ·cases hc;rfl
    ·cases hc
   ·intro cs ws ef hc hf _;split at hf
    ·rename_i hq;cases hf;exact aHv _ hq hc
    ·cases hf
   ·intro x hx;refine ha x ?_;have hx:x∈jS (λ_=>[]) S (.sl a ver es off len):=hx;show x∈jS (iA S 3) S (.sl a ver es off len);simp only[jS,he,aHx,List.mem_singleton] at hx|-
    rw[hx];exact Ph ..
  ·cases hn
 ·rw[aHw v hn] at h;cases h;exact aLz _ hn hv
theorem aM0{F:Nat->Ow Obj}{G Gt:Gh}{S:St}{H:Pa Obj}(Rl:gJ F G S H){A:Nat->Prop}(hA:∀a ver es ae L,A a->S.heap.get a=Ot (.row ver es ae)->G.loc a=Ot L->Gt.pr L.cb=H[L.cb]?):
  ∀{l l':On V} {ws:On O'},VRs G l ws->l.all (newV S)=OB->Sm kP (kV (iS S 3) S) l=.ok l'->(∀a,a∈TM (jS (iA S 3) S) l->A a)->VRs Gt l' ws
 | [],l',ws,hv,_,h,_=>by cases h;cases hv;exact .nil
 | v::l,l',ws,hv,hn,h,ha=>by
  simp only[SR,OU] at hn;simp only[Sm] at h;split at h
  ·rename_i v1 h1;split at h
   ·rename_i l1 h2;cases h;cases hv with
    | cons _ w _ ws h t=>exact .cons _ _ _ _ (aQ6 Rl hA h hn.1 h1 λz hz=>ha z (QA _ hz)) (aM0 Rl hA t hn.2 h2 λz hz=>ha z (QB _ hz))
   ·cases h
  ·cases h
theorem aVt{F:Nat->Ow Obj}{G Gt:Gh}{S:St}{H:Pa Obj}(Rl:gJ F G S H){A:Nat->Prop}(hA:∀a ver es ae L,A a->S.heap.get a=Ot (.row ver es ae)->G.loc a=Ot L->Gt.pr L.cb=H[L.cb]?)
  {v v':V} {w:O'} (hv:VR G v w) (hn:aEl S v=OB) (h:cP kP (kV (iS S 3) S) v=.ok v') (ha:∀a,a∈fF (jS (iA S 3) S) v->A a):VR Gt v' w:=by
 unfold aEl at hn;split at hn
 ·simp only[cP] at h;split at h
  ·rename_i l1 h1;cases h;cases hv with
   | tup _ vs hv=>exact .tup _ vs (aM0 Rl hA hv hn h1 ha)
  ·cases h
 ·exact aQ6 Rl hA hv hn h ha
theorem aO9{P:OI}{f:PU}{run:On V->St->Go.AM.R (V×St)}
  (az:∀{bs:On V} {S1 S2:St} {v:V},run bs S1=.ok (v,S2)->∀{F:Nat->Ow Obj} {G:Gh} {W:PE} {cs:On O'},gJ F G S1 W.heap->VRs G bs cs->
   Ty P f cs.toArray W λe W'=>∃G' w,e=.returned w/\Sim F OG G S1 W G' S2 W'/\VR G' v w)
  {args:On V} {S S':St} {v:V} (h:aLc run args S=.ok (v,S')) {F:Nat->Ow Obj} {G:Gh} {W:PE} {cs:On O'} (Rl:gJ F G S W.heap) (hv:VRs G args cs):
  Ty P f cs.toArray W λe W'=>∃G' w,e=.returned w/\Sim F OG G S W G' S' W'/\VR G' v w:=by
 unfold aLc at h;split at h
 ·cases h
 rename_i bs Ac;split at h
 ·cases h
 rename_i v0 S2 hx;split at h
 ·cases h
 rename_i v' ft;rw[cond_eq_ite] at h;split at h;rotate_left
 ·cases h
 rename_i qt;obtain⟨rfl,rfl⟩:=TI (SL h)
 let G1:Gh:=⟨λ_=>OG,λ_=>OG,jE G S W.heap (TM (jS (iA S 3) S) args),G.sy⟩
 have zk:Over G G1 kP:=⟨lP Rl,rfl,λ_ _ h=>by cases h⟩;have Ck:∀a ver es ae L,a∈TM (jS (iA S 3) S) args->S.heap.get a=Ot (.row ver es ae)->G.loc a=Ot L->G1.pr L.cb=W.heap[L.cb]?:=aBv;have R1:gJ (λi=>W.heap[i]?) G1 ⟨0,.nil⟩ W.heap:=
  ⟨λ_ _=>⟨rfl,rfl⟩,λ_ _ _=>rfl,λa b h=>(by cases h),λa a' b b' i h=>(by cases h),λi o h=>h,λi o h=>aEz Rl h,λa b i h=>(by cases h),λa i h=>(by rcases h with ⟨L,h,_⟩ | h<;>cases h),λa b h=>(by cases h)⟩
 refine(az hx R1 (aJy Rl zk (A:=(·∈TM (jS (iA S 3) S) args)) Ck hv Ac λa ha=>ha)).mono ?_;rintro e W' ⟨dp,w,rfl,sim,hw⟩;have ba:∀{i:Nat} {o:Obj},W.heap[i]?=Ot o->W'.heap[i]?=Ot o:=λhi=>sim.rel.fr _ _ hi;have ye:∀{j i:Nat} {b:Blk},S2.heap.get j=Ot b->dC dp j i->W.heap[i]?=OG/\dp.pr i=none:=λhb hh=>sim.rel.own _ _ _ hb hh
 let Gq:Gh:=⟨dp.loc,dp.ml,G.pr,G.sy⟩
 let G2:Gh:=⟨G.loc,G.ml,jE Gq S2 W'.heap (fF (jS (iA S2 3) S2) v0),G.sy⟩
 have Hd:∀i o,G.pr i=Ot o->G2.pr i=Ot o:=by
  intro i o h;show jE Gq S2 W'.heap _ i=Ot o;unfold jE;rw[Oz]
  ·exact h
  ·rintro⟨a,L,b,_,hb,hL,rfl⟩;have h1:=(ye hb (.inl ⟨L,hL,rfl⟩)).2;rw[sim.le.pr _ o (lP Rl _ o h)] at h1;cases h1
 have hle:G.le G2:=⟨λa L hL=>⟨L,hL,.inl rfl⟩,λ_ _ h=>h,Hd,rfl⟩;have jk:∀{i:Nat} {o:Obj},G2.pr i=Ot o->(W.heap[i]?=OG/\W'.heap[i]?=Ot o)\/G.pr i=Ot o:=by
  intro i o hi;have hi:jE Gq S2 W'.heap (fF (jS (iA S2 3) S2) v0) i=Ot o:=hi;unfold jE at hi;split at hi
  ·rename_i hq;obtain⟨a,L,b,h1,h2,h3,h4⟩:=hq;exact .inl ⟨(ye h2 (.inl ⟨L,h3,h4⟩)).1,hi⟩
  ·exact .inr hi
 have hold:∀{a i:Nat},dC G a i->W'.heap[i]?=W.heap[i]?:=λhh=>by
  have e:=Qu (Rl.lt _ _ hh);rw[e,ba e]
 refine⟨G2,w,rfl,⟨hle,?_,sim.same,Ov _,λa h1 h2 _=>⟨rfl,rfl⟩,λa h1 h2 _=>h1,λi o hi=>?_⟩,aVt sim.rel (A:=(·∈fF (jS (iA S2 3) S2) v0)) (aBv (G:=Gq)) hw qt ft λa ha=>ha⟩
 ·constructor
  ·exact Rl.fresh
  ·exact Rl.sep
  ·intro a b hb;have old:=Rl.blk a b hb;cases b with
   | row ver es elems=>
    obtain⟨L,hL,r1,r2,r3,c,ty,fz,hc,r4,r5,r6⟩:=old;exact⟨L,hL,r1,r2,r3,c,ty,fz,by rw[hold (.inl ⟨L,hL,rfl⟩)];exact hc,r4,r5,r6.mono hle⟩
   | mp kvs=>
    obtain⟨i,es,clock,hi,hH,r1,r2⟩:=old;exact⟨i,es,clock,hi,by rw[hold (.inr hi)];exact hH,r1.mono hle,r2⟩
   | iter s pos=>
    obtain⟨L,hL,r1,r2,hH⟩:=old;exact⟨L,hL,r1,r2,by rw[hold (.inl ⟨L,hL,rfl⟩)];exact hH⟩
  ·exact Rl.inj
  ·exactλi o hi=>ba (Rl.fr i o hi)
  ·exactλi o hi=>(jk hi).elim (λh=>h.2) λh=>ba (Rl.pr i o h)
  ·intro a b i hb hh;have own:=Rl.own a b i hb hh;refine⟨own.1,?_⟩;cases hp:G2.pr i with
   | none=>rfl
   | some o=>
    exfalso;rcases jk hp with h1 | h1
    ·have:=Qu (Rl.lt _ _ hh)
     rw[h1.1] at this;cases this
    ·rw[own.2] at h1;cases h1
  ·intro a i hh
   have:=Rl.lt a i hh
   have:=sim.same.size
   omega
  ·exact Rl.small
 ·rcases jk hi with h1 | h1
  ·right
   cases hq:F i with
   | none=>rfl
   | some o'=>rw[Rl.fr i o' hq] at h1;cases h1.1
  ·exact .inl h1
theorem aOa{P:OI}{f:PU}{mask:On Nat}{run:On V->St->Go.AM.R (V×St)}
  (az:∀{bs:On V} {S1 S2:St} {v:V},run bs S1=.ok (v,S2)->∀{F:Nat->Ow Obj} {G:Gh} {W:PE} {cs:On O'},gJ F G S1 W.heap->VRs G bs cs->
   Ty P f cs.toArray W λe W'=>∃G' w,e=.returned w/\Sim F OG G S1 W G' S2 W'/\VR G' v w)
  {args:On V} {S S':St} {v:V} (h:aVe mask run args S=.ok (v,S')) {F:Nat->Ow Obj} {G:Gh} {W:PE} {cs:On O'} (Rl:gJ F G S W.heap) (hv:VRs G args cs):
  Ty P f cs.toArray W λe W'=>∃G' w,e=.returned w/\Sim F OG G S W G' S' W'/\VR G' v w:=by
 unfold aVe at h;split at h
 ·cases h
 rename_i bs Ac;obtain⟨A,He⟩:∃A,A=TM (jS (iA S 3) S) args:=⟨_,rfl⟩;have Fx:∀a,a∈TM (jS (iA S 3) S) args->a∈A:=by rw[He];exactλa ha=>ha
 rw[<-He] at h;clear He;split at h
 ·cases h
 rename_i v0 S2 hx;split at h
 ·cases h
 rename_i r hr;obtain⟨rc,js⟩:=r;simp only at h;split at h
 ·cases h
 rename_i rows mf;obtain⟨yc,Fw⟩:=tS mf;split at h
 ·cases h
 rename_i v' ft;rw[cond_eq_ite] at h;split at h;rotate_left
 ·cases h
 rename_i hc;simp only[OU,Su] at hc;have py:=aCh hc.1;have rh:∀a,a∈yP S2 mask 0 v0.cells++cZ S2 js->¬a∈js:=λa ha=>aEw (aJz hc.2 ha);have AZ:∀a,a∈yP S2 mask 0 v0.cells->a∈yP S2 mask 0 v0.cells++cZ S2 js:=λa ha=>QA _ ha;have yd:∀a,a∈cZ S2 js->a∈yP S2 mask 0 v0.cells++cZ S2 js:=λa ha=>QB _ ha;generalize yP S2 mask 0 v0.cells++cZ S2 js=B at rh AZ yd;obtain⟨rfl,rfl⟩:=TI (SL h);clear h hc;have Ba:∀k j:Nat,js[k]?=Ot j->∃ver es ae aj,S2.heap.get j=Ot (.row ver es ae)/\kU (iS S2 3) ae=.ok aj/\rows[k]?=Ot (ver,es,aj)/\∀x,x∈lK (iA S2 3) ae->x∈B:=by
  intro k j hk;obtain⟨ver,es,ae,aj,q1,q2,q3,q4⟩:=Fw k j hk;exact⟨ver,es,ae,aj,q1,q2,q3,λx hx=>yd x (q4 x hx)⟩
 clear Fw yd mf
 let G1:Gh:=⟨λ_=>OG,λ_=>OG,jE G S W.heap A,G.sy⟩
 have zk:Over G G1 kP:=⟨lP Rl,rfl,λ_ _ h=>by cases h⟩;have Ck:∀a ver es ae L,a∈A->S.heap.get a=Ot (.row ver es ae)->G.loc a=Ot L->G1.pr L.cb=W.heap[L.cb]?:=aBv;have R1:gJ (λi=>W.heap[i]?) G1 ⟨0,.nil⟩ W.heap:=
  ⟨λ_ _=>⟨rfl,rfl⟩,λ_ _ _=>rfl,λa b h=>(by cases h),λa a' b b' i h=>(by cases h),λi o h=>h,λi o h=>aEz Rl h,λa b i h=>(by cases h),λa i h=>(by rcases h with ⟨L,h,_⟩ | h<;>cases h),λa b h=>(by cases h)⟩
 refine(az hx R1 (aJy Rl zk Ck hv Ac Fx)).mono ?_;rintro e W' ⟨dp,w,rfl,sim,hw⟩;have ba:∀{i:Nat} {o:Obj},W.heap[i]?=Ot o->W'.heap[i]?=Ot o:=λhi=>sim.rel.fr _ _ hi;have ye:∀{j i:Nat} {b:Blk},S2.heap.get j=Ot b->dC dp j i->W.heap[i]?=OG/\dp.pr i=none:=λhb hh=>sim.rel.own _ _ _ hb hh;have hold:∀{a i:Nat},dC G a i->∃o,W.heap[i]?=Ot o/\W'.heap[i]?=Ot o:=λhh=>⟨_,Qu (Rl.lt _ _ hh),ba (Qu (Rl.lt _ _ hh))⟩;have Ah:∀a ver es ae L,a∈B->S2.heap.get a=Ot (.row ver es ae)->dp.loc a=Ot L->jE dp S2 W'.heap B L.cb=W'.heap[L.cb]?:=aBv;have Bc:∀i o,G.pr i=Ot o->jE dp S2 W'.heap B i=Ot o:=λi o hi=>lP sim.rel i o (sim.le.pr i o (lP Rl i o hi))
 let cu:Nat->Ow Loc:=λa=>if S.next<=a then(js[a - S.next]?).bind dp.loc else
  bif iT a A&&(S.heap.get a).isSome then(G.loc a).map λL=>{ L with ver:=L.ver+1 } else G.loc a
 let G2:Gh:=⟨cu,G.ml,jE dp S2 W'.heap B,G.sy⟩
 have fj:∀{t j:Nat},js[t]?=Ot j->cu (S.next+t)=dp.loc j:=by
  intro t j hj;show(if S.next<=S.next+t then _ else _)=_;rw[OE (by omega),show S.next+t - S.next=t by omega,hj];rfl
 have qf:∀{a:Nat},a<S.next->cu a=bif iT a A&&(S.heap.get a).isSome then(G.loc a).map λL=>{ L with ver:=L.ver+1 } else G.loc a:=by
  intro a ha;show(if S.next<=a then _ else _)=_;rw[Oz (by omega)]
 have Aj:∀{a:Nat} {L:Loc},a<S.next->cu a=Ot L->∃L0,G.loc a=Ot L0/\L.cb=L0.cb:=by
  intro a L ha hL;rw[qf ha,cond_eq_ite] at hL;split at hL
  ·cases hq:G.loc a with
   | none=>rw[hq] at hL;cases hL
   | some L0=>rw[hq] at hL;cases hL;exact⟨L0,rfl,rfl⟩
  ·exact⟨L,hL,rfl⟩
 have ag:∀{a:Nat} {L:Loc},G.loc a=Ot L->a<S.next:=by
  intro a L hL;rcases Q' a S.next with c | c
  ·exact c
  ·rw[(Rl.fresh a c).1] at hL;cases hL
 have hle:G.le G2:=by
  refine⟨λa L hL=>?_,λ_ _ h=>h,Bc,rfl⟩;show∃L',cu a=Ot L'/\_;rw[qf (ag hL),cond_eq_ite];split
  ·exact⟨{ L with ver:=L.ver+1 },by rw[hL];rfl,.inr (Qb _)⟩
  ·exact⟨L,hL,.inl rfl⟩
 have Du:dp.sy=G.sy:=sim.le.sy;have nj:Over dp G2 kP:=⟨lP sim.rel,Du.symm,λ_ _ h=>by cases h⟩;have Fp:VR G2 v' w:=aO8 ft hw (aDu sim.rel nj (A:=(·∈B)) Ah hr hw.cells AZ λt j hj L hL=>(fj hj).trans hL);have ed:∀{j:Nat},j∈js->∃t,t<js.length/\js[t]?=Ot j:=λhj=>by
  obtain⟨t,ht⟩:=PA.1 hj;exact⟨t,(Oq.1 ht).1,ht⟩
 have Hf:∀n i,(qH i n).length=n:=by
  intro n
  induction n with
  | zero=>intro i;rfl
  | succ n ih=>intro i;simp[qH,ih]
 have Hg:∀n i,(qH i n).Nodup:=by
  intro n
  induction n with
  | zero=>intro i;exact Wn
  | succ n ih=>intro i;exact SF.2 ⟨λh=>by have:=(aDs.1 h).1;omega,ih (i+1)⟩
 have ee:∀{a:Nat} {b:Blk},(nR (qH S.next js.length) rows (rQ A S.heap)).get a=Ot b->
   (∃t j ver es ae aj,js[t]?=Ot j/\a=S.next+t/\b=.row ver es aj/\S2.heap.get j=Ot (.row ver es ae)/\kU (iS S2 3) ae=.ok aj/\(∀x,x∈lK (iA S2 3) ae->x∈B)/\∀i,dC G2 a i↔dC dp j i) \/
   (a<S.next/\¬a∈A/\S.heap.get a=Ot b/\G2.loc a=G.loc a/\∀i,dC G2 a i↔dC G a i):=by
  intro a b hb;by_cases ha:a∈qH S.next js.length
  ·have Fq:=aDs.1 ha;obtain⟨t,rfl⟩:∃t,a=S.next+t:=⟨a - S.next,by omega⟩;have jj:t<js.length:=by omega
   have ht:js[t]?=Ot js[t]:=OF jj;obtain⟨ver,es,ae,aj,q1,q2,q3,q4⟩:=Ba t _ ht;rw[aBu _ _ _ t _ (Hg _ _) (by rw[yc,Hf]) (by rw[aJu,OE jj]),q3] at hb;cases hb;refine .inl ⟨t,_,ver,es,ae,aj,ht,rfl,rfl,q1,q2,q4,λi=>?_⟩;obtain⟨L,hL,_⟩:=sim.rel.blk _ _ q1;have jp:=sim.rel.sep _ L hL;unfold dC;show(∃L,cu (S.next+t)=Ot L/\L.cb=i)\/G.ml (S.next+t)=Ot i↔_;rw[fj ht,(Rl.fresh _ (by omega)).2,jp]
  ·rw[sE _ _ _ _ ha,aAr] at hb;split at hb
   ·cases hb
   ·rename_i hq;have halt:=Rl.alive hb;have en:cu a=G.loc a:=by
     rw[qf halt,cond_eq_ite,Oz];simp only[OU,sD]
     exactλh=>hq h.1
    refine .inr ⟨halt,hq,hb,en,λi=>?_⟩;unfold dC;show(∃L,cu a=Ot L/\L.cb=i)\/G.ml a=Ot i↔_;rw[en]
 have oh:∀{a i:Nat},dC G a i->W'.heap[i]?=W.heap[i]?:=λhh=>by
  obtain⟨o,h1,h2⟩:=hold hh;rw[h1,h2]
 have jk:∀{i:Nat} {o:Obj},jE dp S2 W'.heap B i=Ot o->W.heap[i]?=OG\/(∃a L b,a∈A/\S.heap.get a=Ot b/\G.loc a=Ot L/\L.cb=i)\/G.pr i=Ot o:=by
  intro i o hi;unfold jE at hi;split at hi
  ·rename_i hq;obtain⟨a,L,b,h1,h2,h3,h4⟩:=hq;exact .inl (ye h2 (.inl ⟨L,h3,h4⟩)).1
  ·rcases sim.prn i o hi with hi | hi
   ·have hi:jE G S W.heap A i=Ot o:=hi;unfold jE at hi;split at hi
    ·rename_i hq;exact .inr (.inl hq)
    ·exact .inr (.inr hi)
   ·exact .inl hi
 have eh:∀{i:Nat},W.heap[i]?=OG->F i=none:=by
  intro i hi;cases hq:F i with
  | none=>rfl
  | some o=>rw[Rl.fr i o hq] at hi;cases hi
 refine⟨G2,w,rfl,⟨hle,?_,sim.same,Nat.le_add_right _ _,λa h1 h2 _=>⟨?_,rfl⟩,λa h1 h2 _=>?_,λi o hi=>?_⟩,Fp⟩
 ·constructor
  ·intro a ha;have qz:S.next+js.length<=a:=ha;refine⟨?_,(Rl.fresh a (by omega)).2⟩;show(if S.next<=a then _ else _)=_;rw[OE (by omega),Re (by omega)];rfl
  ·intro a L hL;rcases Q' a S.next with c | c
   ·obtain⟨L0,h1,_⟩:=Aj c hL;exact Rl.sep a L0 h1
   ·exact(Rl.fresh a c).2
  ·intro a b hb;rcases ee hb with ⟨t,j,ver,es,ae,aj,hj,rfl,rfl,q1,q2,q4,_⟩ | ⟨halt,hq,hb,en,_⟩
   ·obtain⟨L,hL,r1,r2,r3,ca,ty,fr,r4,r5,r6,r7⟩:=sim.rel.blk j _ q1;exact⟨L,(fj hj).trans hL,r1,r2,by rw[(pA q2).1];exact r3,ca,ty,fr,r4,r5,r6,aO7 sim.rel nj (A:=(·∈B)) Ah r7 q2 q4⟩
   ·have old:=Rl.blk a b hb;cases b with
    | row ver es elems=>
     obtain⟨L,hL,r1,r2,r3,c,ty,fz,hc,r4,r5,r6⟩:=old;exact⟨L,en.trans hL,r1,r2,r3,c,ty,fz,by rw[oh (.inl ⟨L,hL,rfl⟩)];exact hc,r4,r5,r6.mono hle⟩
    | mp kvs=>
     obtain⟨i,es,clock,hi,hH,r1,r2⟩:=old;exact⟨i,es,clock,hi,by rw[oh (.inr hi)];exact hH,r1.mono hle,r2⟩
    | iter s pos=>
     obtain⟨L,hL,r1,r2,hH⟩:=old;exact⟨L,en.trans hL,r1,r2,by rw[oh (.inl ⟨L,hL,rfl⟩)];exact hH⟩
  ·intro a a' b b' i hb bm h1 h2;rcases ee hb with ⟨t,j,ver,es,ae,aj,hj,rfl,rfl,q1,q2,q4,q5⟩ | ⟨halt,hq,hb,en,q5⟩
   ·rcases ee bm with ⟨t',j',bd,dz,yf,qe,rm,rfl,rfl,nr,Fy,Hb,oi⟩ | ⟨Dz,jo,bm,uj,oi⟩
    ·have:=sim.rel.inj j j' _ _ i q1 nr ((q5 i).1 h1) ((oi i).1 h2)
     subst this;obtain⟨i1,e1⟩:=Oq.1 hj;obtain⟨i2,e2⟩:=Oq.1 rm
     have:=(XM py).1 (e1.trans e2.symm)
     omega
    ·have e1:=(ye q1 ((q5 i).1 h1)).1;obtain⟨o,e2,_⟩:=hold ((oi i).1 h2);rw[e1] at e2;cases e2
   ·rcases ee bm with ⟨t',j',bd,dz,yf,qe,rm,rfl,rfl,nr,Fy,Hb,oi⟩ | ⟨Dz,jo,bm,uj,oi⟩
    ·have e1:=(ye nr ((oi i).1 h2)).1;obtain⟨o,e2,_⟩:=hold ((q5 i).1 h1);rw[e1] at e2;cases e2
    ·exact Rl.inj a a' b b' i hb bm ((q5 i).1 h1) ((oi i).1 h2)
  ·exactλi o hi=>ba (Rl.fr i o hi)
  ·exactλi o hi=>aEz sim.rel hi
  ·intro a b i hb hh;rcases ee hb with ⟨t,j,ver,es,ae,aj,hj,rfl,rfl,q1,q2,q4,q5⟩ | ⟨halt,hq,hb,en,q5⟩
   ·have own:=ye q1 ((q5 i).1 hh);refine⟨eh own.1,?_⟩;show jE dp S2 W'.heap B i=OG;unfold jE;rw[Oz]
    ·exact own.2
    ·rintro⟨a2,L2,b2,h1,h2,h3,h4⟩
     have:=sim.rel.inj j a2 _ _ i q1 h2 ((q5 i).1 hh) (.inl ⟨L2,h3,h4⟩)
     subst this;exact rh _ h1 (PA.2 ⟨t,hj⟩)
   ·have hG:=(q5 i).1 hh;have own:=Rl.own a b i hb hG;refine⟨own.1,?_⟩;obtain⟨o1,ho,_⟩:=hold hG;cases hp:jE dp S2 W'.heap B i with
    | none=>exact hp
    | some o=>
     exfalso;rcases jk hp with h1 | ⟨a2,L2,b2,e1,e2,e3,e4⟩ | h1
     ·rw[ho] at h1;cases h1
     ·have:=Rl.inj a a2 b b2 i hb e2 hG (.inl ⟨L2,e3,e4⟩)
      subst this;exact hq e1
     ·rw[own.2] at h1;cases h1
  ·intro a i hh;have bk:=sim.same.size;rcases hh with ⟨L,hL,rfl⟩ | hh
   ·rcases Q' a S.next with c | c
    ·obtain⟨L0,h1,h2⟩:=Aj c hL
     have:=Rl.lt a L0.cb (.inl ⟨L0,h1,rfl⟩)
     rw[h2];omega
    ·have hL:cu a=Ot L:=hL;have cy:(js[a - S.next]?).bind dp.loc=Ot L:=by
      have:cu a=(js[a - S.next]?).bind dp.loc:=OE c
      rw[this] at hL;exact hL
     cases hj:js[a - S.next]? with
     | none=>rw[hj] at cy;cases cy
     | some j=>rw[hj] at cy;exact sim.rel.lt j _ (.inl ⟨L,cy,rfl⟩)
   ·have:=Rl.lt a i (.inr hh);omega
  ·exactλa _ _=>Qb a
 ·show cu a=G.loc a;rw[qf h2,h1];simp
 ·show(nR _ rows (rQ A S.heap)).get a=OG;rw[sE _ _ _ _ (λhc=>by have:=(aDs.1 hc).1;omega),aAr,h1,ite_self]
 ·rcases jk hi with h1 | ⟨a2,L2,b2,e1,e2,e3,e4⟩ | h1
  ·exact .inr (eh h1)
  ·exact .inr (Rl.own a2 b2 i e2 (.inl ⟨L2,e3,e4⟩)).1
  ·exact .inl h1
theorem aTa{P:OI}{f:PU}{mask:On Nat}{run:On V->St->Go.AM.R (V×St)}
  (az:∀{bs:On V} {S1 S2:St} {v:V},run bs S1=.ok (v,S2)->∀{F:Nat->Ow Obj} {G:Gh} {W:PE} {cs:On O'},gJ F G S1 W.heap->VRs G bs cs->
   Ty P f cs.toArray W λe W'=>∃G' w,e=.returned w/\Sim F OG G S1 W G' S2 W'/\VR G' v w)
  {args:On V} {S S':St} {v:V} (h:aNv mask run args S=.ok (v,S')) {F:Nat->Ow Obj} {G:Gh} {W:PE} {cs:On O'} (Rl:gJ F G S W.heap) (hv:VRs G args cs):
  Ty P f cs.toArray W λe W'=>∃G' w,e=.returned w/\Sim F OG G S W G' S' W'/\VR G' v w:=by
 unfold aNv at h;rw[cond_eq_ite] at h;split at h
 ·exact aO9 az h Rl hv
 ·exact aOa az h Rl hv
theorem aBw{α:Type}{n:Nat}{x:α}:∀{l:On (Nat×α)},kC n l=Ot x->(n,x)∈l
 | [],h=>by cases h
 | (m,y)::l,h=>by
  simp only[kC,cond_eq_ite] at h;split at h
  ·rename_i hb
   have:=Qv hb
   cases h;subst this;exact Ph ..
  ·exact OY _ (aBw h)
structure SpecOK (P:OI) (f:PU) (g:On V->St->R (V×St)):Prop where
 enters:∃fn c,P.funcs[f]?=Ot fn/\(fn.name == "runtime.NumGoroutine")=OA/\fn.body=Ot c
 calls:∀{args:On V} {S S':St} {v:V},g args S=.ok (v,S')->∀{F:Nat->Ow Obj} {G:Gh} {W:PE} {cs:On O'},gJ F G S W.heap->VRs G args cs->
  Ty P f cs.toArray W λe W'=>∃G' w,e=.returned w/\Sim F OG G S W G' S' W'/\VR G' v w
structure PlansOK (P:OI) (pl:kA):Prop where
 mixed:P.follows .mixedOrders=OB
 ok:∀f p,pl f=Ot (.code p)\/pl f=Ot (.val p)\/(∃m,pl f=Ot (.own p m))->aBp P p f=OB
 sp:∀f g,pl f=Ot (.spec g)->SpecOK P f g
def SpAll(P:OI):aHk->Prop
 | []=>True
 | (f,x)::l=>SpecOK P f (x.run P)/\SpAll P l
theorem SpAll.mem{P:OI}{f:PU}{x:Sp}:∀{l:aHk},SpAll P l->(f,x)∈l->SpecOK P f (x.run P)
 | (_,_)::_,h,hm=>by
  rcases Pu.1 hm with e | hm
  ·cases e;exact h.1
  ·exact SpAll.mem h.2 hm
theorem aF2{P:OI}{sp:aHk}{t:kE}{vl:On Nat}{ol:On (Nat×On Nat)}(hm:P.follows .mixedOrders=OB)(hs:SpAll P sp)(h:jJ P t=OB):PlansOK P (tN P sp t vl ol):=by
 have key:∀f,(∃x,kC f sp=Ot x/\tN P sp t vl ol f=Ot (.spec (x.run P)))\/(kC f sp=OG/\((∃l,kC f t=Ot l/\∀e,tN P sp t vl ol f=Ot e->e=.val (λid=>kC id l)\/e=.code (λid=>kC id l)\/∃m,e=.own (λid=>kC id l) m)\/tN P sp t vl ol f=OG)):=by
  intro f;unfold tN;cases h1:kC f sp with
  | some x=>exact .inl ⟨x,rfl,rfl⟩
  | none=>
   refine .inr ⟨rfl,?_⟩;cases h2:kC f t with
   | none=>exact .inr rfl
   | some l=>
    refine .inl ⟨l,rfl,λe he=>?_⟩;cases h3:kC f ol with
    | some m=>simp only[h3] at he;exact .inr (.inr ⟨m,(Qz he).symm⟩)
    | none=>
     simp only[h3] at he;cases h4:iT f vl with
     | true=>rw[h4] at he;exact .inl (Qz he).symm
     | false=>rw[h4] at he;exact .inr (.inl (Qz he).symm)
 refine⟨hm,λf p hp=>?_,λf g hp=>?_⟩
 ·rcases key f with ⟨x,_,h2⟩ | ⟨_,⟨l,h1,h2⟩ | h2⟩
  ·rcases hp with hp | hp | ⟨m,hp⟩<;>(rw[h2] at hp;cases hp)
  ·have:=PD.1 h (f,l) (aBw h1)
   rcases hp with hp | hp | ⟨m,hp⟩<;>rcases h2 _ hp with h3 | h3 | ⟨m',h3⟩<;>cases h3<;>exact this
  ·rcases hp with hp | hp | ⟨m,hp⟩<;>(rw[h2] at hp;cases hp)
 ·rcases key f with ⟨x,h1,h2⟩ | ⟨_,⟨l,h1,h2⟩ | h2⟩
  ·rw[h2] at hp;cases hp;exact hs.mem (aBw h1)
  ·rcases h2 _ hp with h3 | h3 | ⟨m',h3⟩<;>cases h3
  ·rw[h2] at hp;cases hp
theorem sp3{P:OI}{f:PU}{args:On V}{S S':St}{v:V}{s i x:V}(he:args=[s,i,x])
  {F:Nat->Ow Obj} {G:Gh} {W:PE} {cs:On O'} (dh:VRs G args cs)
  (K:∀{a b c:O'},VR G s a->VR G i b->VR G x c->Ty P f #[a,b,c] W λe W'=>∃G' w,e=.returned w/\Sim F OG G S W G' S' W'/\VR G' v w):
  Ty P f cs.toArray W λe W'=>∃G' w,e=.returned w/\Sim F OG G S W G' S' W'/\VR G' v w:=by
 subst he;cases dh with
 | cons _ a1 _ _ h1 t=>cases t with
  | cons _ a2 _ _ h2 t=>cases t with
   | cons _ a3 _ _ h3 t=>cases t with
    | nil=>exact K h1 h2 h3
theorem lF{P:OI}{f:PU}{T e I B:OH}{ov rr:PU}{fn:Un}(L:InsAt P f T e I B ov rr fn)(hn:(fn.name == "runtime.NumGoroutine")=OA):SpecOK P f ((Sp.ins T).run P):=by
 refine⟨⟨fn,_,L.hf,hn,L.hb⟩,λ{args S S' v} h=>?_⟩;intro F G W cs R dh;have hd:∃s i x,args=[s,i,x]/\jR P T s i x S=.ok (v,S'):=by
  match args,h with
  | [s,i,x],h=>exact⟨s,i,x,rfl,h⟩
 obtain⟨s,i,x,he,h⟩:=hd;exact sp3 he dh λh1 h2 h3=>aJs L h R h1 h2 h3
theorem aM1{P:OI}{f:PU}{T e I B:OH}{fn:Un}(L:DelAt P f T e I B fn)(hn:(fn.name == "runtime.NumGoroutine")=OA):SpecOK P f ((Sp.del T).run P):=by
 refine⟨⟨fn,_,L.hf,hn,L.hb⟩,λ{args S S' v} h=>?_⟩;intro F G W cs R dh;have hd:∃s i x,args=[s,i,x]/\tG P T s i x S=.ok (v,S'):=by
  match args,h with
  | [s,i,x],h=>exact⟨s,i,x,rfl,h⟩
 obtain⟨s,i,x,he,h⟩:=hd;exact sp3 he dh λh1 h2 h3=>aJt L h R h1 h2 h3
theorem aCi:∀(l:On V) (i:Nat) (e:bD) (t:Nat),i+l.length<=eG->(fQ i l e).get t=if i<=t/\t<i+l.length then l[t - i]? else e.get t
 | [],i,e,t,_=>by simp[fQ];intro h1 h2;omega
 | v::l,i,e,t,h=>by
  simp only[OQ] at h;simp only[fQ,OQ];rw[aCi l (i+1) _ t (by omega)];by_cases h1:t=i
  ·subst h1;rw[Oz (by omega),OE (by omega),Ys _ _ _ (by omega)];simp
  ·rw[Tr.get_put_ne _ _ _ _ (by omega) h1];by_cases h2:i+1<=t/\t<i+1+l.length
   ·rw[OE h2,OE (by omega),show t - i=(t - (i+1))+1 by omega];simp
   ·rw[Oz h2,Oz (by omega)]
theorem aH0{P:OI}{t:OH}{p:V}{v:V}{G:Gh}{q w:O'}{W:PE}{S:St}(hv:oG P t p S=.ok v)(hq:VR G p q)(h:(Instr.loadAt t q).run P W=.ok w W):
  (do loadVar t (<-asAddr q):Sem O').run P W=.ok w W:=by
 cases hq with
 | ptr _ _ _ _ ad hp=>exact h
 | iptr _ _ b o c ty fr hb vs hv dh=>exact h
 | _=>cases hv
theorem yY{P:OI}{F:Nat->Ow Obj}{G:Gh}{S:St}{W:PE}(R:gJ F G S W.heap){n:Nat}{e:bD}{tmps:Pa O'}(he:Xl G n e tmps):
  ∀{l:On Ud} {vs:On V},aJi P e S l=.ok vs->∃ws:On O',(l.mapM (yX tmps)).run P W=Vw ws W/\VRs G vs ws
 | [],vs,h=>by
  cases h;exact⟨[],rfl,.nil⟩
 | .tmp t::l,vs,h=>by
  simp only[aJi] at h;split at h
  ·rename_i v ia hv dh;cases h;obtain⟨ws,w1,w2⟩:=yY R he dh;obtain⟨w,h1,h2⟩:=he.2 t v hv;refine⟨w::ws,?_,.cons _ _ _ _ h2 w2⟩;have hd:tmps.getD t Vz=w:=by simp[h1]
   simp only[Wj,Pk,yX,hd,Qs,Pb,w1]
  ·cases h
  ·cases h
 | .cell a t::l,vs,h=>by
  simp only[aJi] at h;split at h
  ·cases h
  ·rename_i p hp;split at h
   ·rename_i v ia hv dh;cases h;obtain⟨ws,w1,w2⟩:=yY R he dh;obtain⟨w,h1,h2⟩:=he.2 a p hp;have hd:tmps.getD a Vz=w:=by simp[h1]
    obtain⟨u,u1,u2⟩:=aEo hv R h2;refine⟨u::ws,?_,.cons _ _ _ _ u2 w2⟩
    have:=aH0 hv h2 u1
    simp only[Wj,Pk (f:=λ_=>_),yX,hd];rw[Pk,this];simp only[Pb,Pk,w1,Qs]
   ·cases h
   ·cases h
theorem aTb{G:Gh}{vs:On V}{ws:On O'}(h:VRs G vs ws):VR G (tL vs) (aVn ws):=by
 cases h with
 | nil=>exact .tup [] #[] .nil
 | cons v w vs ws h t=>
  cases t with
  | nil=>exact h
  | cons v2 w2 vs2 ws2 h2 t2=>exact .tup _ _ (.cons _ _ _ _ h (.cons _ _ _ _ h2 t2))
theorem vO{P:OI}{call:Call}{k:Nat}{p:Nat->Ow (On bY)}{f:PU}(bh:aBp P p f=OB){args:On V}{S:St}{r:V×St}(h:uN P call k p f args S=.ok r)(cs:Pa O')(W:PE):
  (UZ f cs).run P W=.ok (.enter f cs) W:=by
 unfold uN at h;split at h
 ·cases h
 ·rename_i fn hf;split at h
  ·cases h
  ·rename_i c hb;unfold aBp at bh;rw[hf] at bh;simp only[OU,Su] at bh;unfold UZ;rw[Pk,show Sem.run P program W=.ok P W from rfl];simp only[Pb,hf,bh.1,hb];rfl
theorem yZ{P:OI}{call:Call}(hc:Xa P call)(hm:P.follows .mixedOrders=OB){k:Nat}{p:Nat->Ow (On bY)}{f:PU}(bh:aBp P p f=OB){args:On V}{S S':St}{v:V}
  (h:uN P call k p f args S=.ok (v,S')) {F:Nat->Ow Obj} {G:Gh} {W:PE} {cs:On O'} (R:gJ F G S W.heap) (dh:VRs G args cs):
  Ty P f cs.toArray W λe W'=>∃G' w,e=.returned w/\Sim F OG G S W G' S' W'/\VR G' v w:=by
 unfold uN at h;split at h
 ·cases h
 ·rename_i fn hf;split at h
  ·cases h
  ·rename_i c hb;unfold aBp at bh;rw[hf] at bh;simp only[OU,hb] at bh;rw[cond_eq_ite] at h;split at h
   ·rename_i bk;simp only[OU,RA,Sx] at bk;obtain⟨hl,hn⟩:=bk;have gj:=dh.length;refine UH hf hb ?_;have he:Xl G fn.ntmps (fQ 0 args .nil) (cs.toArray++TQ (fn.ntmps - cs.toArray.size) Vz):=by
     refine⟨by simp;omega,λt v ht=>?_⟩;rw[aCi _ _ _ _ (by omega)] at ht;split at ht
     ·rename_i ag;obtain⟨w,w1,w2⟩:=dh.get (i:=t) (by simpa using ht);refine⟨w,?_,w2⟩;rw[RY (by simp;omega)];simpa using w1
     ·rw[Wy] at ht;cases ht
    split at h
    ·cases h
    ·cases h
    ·rename_i x e1 S1 ah hx;split at h
     ·rename_i vs hr;cases h;refine aO5 hc hm hn c bh.2 hx R he λG' W' a' q1 q2 q3=>?_;obtain⟨ws,w1,w2⟩:=yY q1.rel q2 hr;have fy:=yH w1
      have:a'.defers=[]/\∃v,(results fn a'.tmps).run P W'=.ok v W'/\∃G' w,Ending.returned v=.returned w/\Sim F OG G S W G' S' W'/\VR G' (tL vs) w:=
       ⟨q3,_,fy,G',_,rfl,q1,aTb w2⟩
      cases x with
      | normal=>exact this
      | ret=>exact this
      | exit id=>exact(ah id rfl).elim
     ·cases h
   ·cases h
theorem aTc{run:On V->St->Go.AM.R (V×St)}{args:On V}{S:St}{r:V×St}(h:vG run args S=.ok r):∃bs S1 r1,run bs S1=.ok r1:=by
 unfold vG at h;split at h
 ·cases h
 split at h
 ·cases h
 rw[cond_eq_ite] at h;split at h
 ·cases h
 split at h
 ·cases h
 ·rename_i hx;exact⟨_,_,_,hx⟩
theorem aTd{mask:On Nat}{run:On V->St->Go.AM.R (V×St)}{args:On V}{S:St}{r:V×St}(h:aNv mask run args S=.ok r):∃bs S1 r1,run bs S1=.ok r1:=by
 unfold aNv aVe aLc at h;rw[cond_eq_ite] at h;split at h
 all_goals
  split at h
  ·cases h
  split at h
  ·cases h
  ·rename_i hx;exact⟨_,_,_,hx⟩
theorem vP{P:OI}{pl:kA}(hp:PlansOK P pl):∀k,Xa P (fG P pl k)
 | 0=>by
  refine⟨?_,?_⟩
  ·intro f args S r h;cases h
  ·intro f args S v S' h;cases h
 | k+1=>by
  have ih:=vP hp k;refine⟨?_,?_⟩
  ·intro f args S r h cs W;simp only[fG] at h;split at h
   ·cases h
   ·rename_i g bc;obtain⟨fn,c,hf,hn,hb⟩:=(hp.sp f g bc).enters;unfold UZ;rw[Pk,show Sem.run P program W=.ok P W from rfl];simp only[Pb,hf,hn,hb];rfl
   ·rename_i p bc;exact vO (hp.ok f p (.inl bc)) h cs W
   ·rename_i p bc;obtain⟨bs,S1,r1,h1⟩:=aTc h;exact vO (hp.ok f p (.inr (.inl bc))) h1 cs W
   ·rename_i p mask bc;obtain⟨bs,S1,r1,h1⟩:=aTd h;exact vO (hp.ok f p (.inr (.inr ⟨mask,bc⟩))) h1 cs W
  ·intro f args S v S' h F G W cs R dh;simp only[fG] at h;split at h
   ·cases h
   ·rename_i g bc;exact(hp.sp f g bc).calls h R dh
   ·rename_i p bc;exact yZ ih hp.mixed (hp.ok f p (.inl bc)) h R dh
   ·rename_i p bc;refine aT9 (run:=λbs S=>uN P (fG P pl k) k p f bs S) ?_ h R dh;intro bs S1 S2 v h F G W cs R hv;exact yZ ih hp.mixed (hp.ok f p (.inr (.inl bc))) h R hv
   ·rename_i p mask bc;refine aTa (run:=λbs S=>uN P (fG P pl k) k p f bs S) ?_ h R dh;intro bs S1 S2 v h F G W cs R hv;exact yZ ih hp.mixed (hp.ok f p (.inr (.inr ⟨mask,bc⟩))) h R hv
def Gh.none:Gh:=⟨λ_=>.none,λ_=>.none,λ_=>.none,λ_=>0⟩
def St.empty:St:=⟨0,.nil⟩
theorem aTe(W:PE):gJ (λi=>W.heap[i]?) Gh.none St.empty W.heap:=
 ⟨λ_ _=>⟨rfl,rfl⟩,λ_ _ h=>(by cases h),λa b h=>(by cases h),λa a' b b' i h=>(by cases h),λi o h=>h,λi o h=>(by cases h),λa b i h=>(by cases h),
  λa i h=>(by rcases h with ⟨L,h,_⟩ | h<;>cases h),λa b h=>(by cases h)⟩
theorem aOb{P:OI}{pl:kA}(hp:PlansOK P pl){k:Nat}{f:PU}(h:aEm (fG P pl k f [] St.empty)=OB)(W:PE):
  Ty P f #[] W λe W'=>e=.returned (.bool OB)/\RowKit.Below W.heap.size W W':=by
 unfold aEm at h;split at h
 ·rename_i b S' hx;subst h;refine((vP hp k).calls hx (aTe W) .nil).mono ?_;rintro e W' ⟨G',w,rfl,q1,q2⟩;cases q2;refine⟨rfl,q1.same.os,q1.same.tape,q1.same.output,q1.same.size,λi hi=>?_⟩
  have:=Qu hi
  rw[this];exact q1.rel.fr i _ this
 ·cases h
abbrev An:=Ow (V×St)
def dIf(b:Ps)(x:An):An:=match b with
 | true=>x
 | false=>OG
def bXt(v:V)(x y:An):An:=match v with
 | .bool OB=>x
 | .bool OA=>y
 | _=>OG
def aM2(c a b:V):R V:=match c with
 | .bool OB=>.ok a
 | .bool OA=>.ok b
 | _=>.error "pick"
def aVu(j:Nat):On Nat->Ps
 | []=>OA
 | i::l=>match Pw i j with
  | true=>OB
  | false=>aVu j l
def aVv:On Un->Nat->Ow Un
 | [],_=>OG
 | f::_,0=>Ot f
 | _::l,n+1=>aVv l n
def cV(P:OI)(g:PU):Ow (Ow Un):=match aVv P.funcs.toList g with
 | none=>OG
 | some fn=>match fn.body with
  | some _=>Ot OG
  | none=>Ot (Ot fn)
def aK0(P:OI)(t:OH):Bool:=match P.underlying t with
 | some .string=>OB
 | _=>OA
def aK1(v:V)(fr:Ow Nat)(S:St):R (V×St):=match v with
 | .str s=>(match bR fr S (.iter s 0) with
  | .ok (a,S')=>.ok (.ptr a 0 0 0,S')
  | .error e=>.error e)
 | _=>.error "range"
def aAs(v:V)(S:St):R (V×St):=match v with
 | .ptr a 0 0 0=>(match S.heap.get a with
  | some (.iter s pos)=>(match QI pos s.length with
   | true=>(match s[pos]? with
    | some b=>(match QI b.toNat 128 with
     | true=>.ok (.tup [.bool OB,.int J pos,.int .i32 b.toNat],⟨S.next,S.heap.put a (.iter s (pos+1))⟩)
     | false=>.ok (.tup [.bool OB,.int J pos,.int .i32 (QZ ⟨⟨s⟩⟩ pos).1],⟨S.next,S.heap.put a (.iter s (pos+(QZ ⟨⟨s⟩⟩ pos).2))⟩))
    | none=>.error "next")
   | false=>.ok (.tup [.bool OA],S))
  | _=>.error "next")
 | _=>.error "next"
def pB(ops:Pa Qh)(j:Nat):Ow Tmp:=match ops[j]? with
 | none=>OG
 | some o=>o.dst
def aAt(ran:Ps)(i:Nat)(sk:On Nat):On Nat:=match ran with
 | true=>sk
 | false=>i::sk
def aAu(P:OI)(o:Qh)(i:Nat)(e:bD)(ran:Ps)(v:V)(recs:On uZ):On uZ:=
 match Pw (eV P o.op) 1&&ran&&o.dst.isSome with
 | true=>(i,e,v)::recs
 | false=>recs
def bZ:ST->Nat
 | .region id _ _=>id
 | .seq a _=>bZ a
 | .block _ a=>bZ a
 | .loop a=>bZ a
 | _=>0
def aF3:On Qh->Nat->Ps
 | [],_=>OA
 | o::l,t=>(match o.dst with
  | some d=>Pw d t
  | none=>OA)||aF3 l t
def oM:ST->Nat->Ps
 | .region _ ops _,t=>aF3 ops.toList t
 | .seq a b,t=>oM a t||oM b t
 | .cond _ a b,t=>oM a t||oM b t
 | .block _ a,t=>oM a t
 | .loop a,t=>oM a t
 | _,_=>OA
def Tr.filt{α:Type}(p:Nat->Ps):Tr α->Tr α
 | .nil=>.nil
 | .node l v r=>.node (l.filt (λm=>p (2*m+1))) (match p 0 with
  | true=>v
  | false=>OG) (r.filt (λm=>p (2*m+2)))
def aCj(e:bD)(c:Pj)(b:Ps):bD:=match c with
 | .tmp t=>e.put t (.bool b)
 | _=>e
def aAv(P:OI)(f:PU):Ow (ST×Nat×On Ud):=
 match aVv P.funcs.toList f with
 | none=>OG
 | some fn=>match fn.body with
  | none=>OG
  | some c=>match QI fn.ntmps eG with
   | true=>Ot (c,fn.ntmps,fn.results.toList)
   | false=>OG
abbrev bJa:=PU->Nat->On Nat
abbrev mU:=Ow (V×St)
abbrev KM:=V->Nat->Tr Blk->mU
abbrev KV:=V->mU
abbrev bJb:=PU->On V->Nat->Tr Blk->KM->mU
noncomputable def bJc{α:Type}(x:R α)(K:α->mU):mU:=@Except.rec String α (λ_=>mU) (λ_=>OG) K x
noncomputable def ifQ(b:Ps)(x:mU):mU:=@Yh (λ_=>mU) OG x b
noncomputable def bQs(b:Ps)(x y:mU):mU:=@Yh (λ_=>mU) y x b
noncomputable def aOc(n:Nat)(K:Nat->mU):mU:=@Nat.rec (λ_=>mU) (K 0) (λm _=>K (Nat.succ m)) n
noncomputable def bHo(z:Int)(K:Int->mU):mU:=@Int.rec (λ_=>mU) (λn=>aOc n (λn=>K (.ofNat n))) (λn=>aOc n (λn=>K (.negSucc n))) z
noncomputable def bHp(b:Ps)(K:Ps->mU):mU:=@Yh (λ_=>mU) (K OA) (K OB) b
inductive Pth where
 | stop
 | here
 | left (p:Pth)
 | right (p:Pth)
def pth:Nat->Nat->Pth
 | 0,_=>.stop
 | f+1,n=>bif Pw n 0 then .here else bif Pw (Nat.mod n 2) 1 then .left (pth f (Nat.div n 2)) else .right (pth f (Nat.pred (Nat.div n 2)))
noncomputable def bJd(p:Pth):Tr Blk->(Blk->mU)->mU:=
 @Pth.rec (λ_=>Tr Blk->(Blk->mU)->mU) (λ_ _=>OG) (λt K=>@Tr.rec Blk (λ_=>mU) OG (λ_ v _ _ _=>@Option.rec Blk (λ_=>mU) OG K v) t)
  (λ_ ih t K=>@Tr.rec Blk (λ_=>mU) OG (λl _ _ _ _=>ih l K) t) (λ_ ih t K=>@Tr.rec Blk (λ_=>mU) OG (λ_ _ r _ _=>ih r K) t) p
noncomputable def bQu(t:Tr Blk)(n:Nat)(K:Blk->mU):mU:=bJd (pth 32 n) t K
noncomputable def bJe(v:V)(K:(Qa->Int->mU))(other:mU):mU:=
 @V.rec (λ_=>(Qa->Int->mU)->mU->mU) (λ_=>Unit) (λ_=>Unit) (λ_ _ o=>o) (λx0 x1 K _=>K x0 x1) (λ_ _ o=>o) (λ_ o=>o) (λ_ _ _ _ _ o=>o) (λ_ _ _ _ o=>o) (λ_ o=>o) (λ_ _ _ _ _ _ o=>o) (λ_ _ _ o=>o) (λ_ _ _ o=>o) (λ_ _ _ o=>o) (λ_ o=>o) (λ_ _ _ _ o=>o) (λ_ o=>o) (λ_ _ _ _ _ _ o=>o) (λ_ o=>o) (λ_ _ o=>o) (λ_ _ _ o=>o) () (λ_ _ _ _=>()) () (λ_ _ _ _=>()) v K other
noncomputable def asBool(v:V)(K:(Ps->mU))(other:mU):mU:=
 @V.rec (λ_=>(Ps->mU)->mU->mU) (λ_=>Unit) (λ_=>Unit) (λx0 K _=>K x0) (λ_ _ _ o=>o) (λ_ _ o=>o) (λ_ o=>o) (λ_ _ _ _ _ o=>o) (λ_ _ _ _ o=>o) (λ_ o=>o) (λ_ _ _ _ _ _ o=>o) (λ_ _ _ o=>o) (λ_ _ _ o=>o) (λ_ _ _ o=>o) (λ_ o=>o) (λ_ _ _ _ o=>o) (λ_ o=>o) (λ_ _ _ _ _ _ o=>o) (λ_ o=>o) (λ_ _ o=>o) (λ_ _ _ o=>o) () (λ_ _ _ _=>()) () (λ_ _ _ _=>()) v K other
noncomputable def bJf(v:V)(K:KV):mU:=
 bJe v (λk n=>bHo n (λn=>K (.int k n))) (asBool v (λb=>bHp b (λb=>K (.bool b))) (K v))
def tk(P:OI)(t:OH):Ow (Ow Nat):=
 match P.underlying t with
 | none=>OG
 | some d=>bif aVa d then Ot (Ot (sz P t)) else Ot OG
def fo(P:OI)(s:OH)(f:Nat):Ow Nat:=
 match aA7 P s f with
 | none=>OG
 | some fd=>bif Pw (sz P fd.type) 0 then OG else Ot fd.offset
def esT(P:OI)(t:OH):Ow Nat:=
 match P.underlying t with
 | some (.slice e)=>bif (P.underlying e).isSome then Ot (sz P e) else OG
 | _=>OG
def bDh(P:OI)(t:OH):Bool:=
 match P.underlying t with
 | some (.slice _)=>OB
 | _=>OA
def bDi(P:OI)(t:OH):Bool:=
 match P.underlying t with
 | some .string=>OB
 | _=>OA
def apT(P:OI)(t:OH):Ow (Nat×Nat):=
 match lD P t with
 | none=>OG
 | some e=>bif nF P e then Ot (sz P e,P.bytesOf e) else OG
def kn:Qa->Nat
 | .i8=>0 | .i16=>1 | .i32=>2 | J=>3 | ω=>4 | .u16=>5 | .u32=>6 | ξ=>7
def hiN:Qa->Nat
 | .i8=>127 | .i16=>32767 | .i32=>2147483647 | J=>9223372036854775807
 | ω=>255 | .u16=>65535 | .u32=>4294967295 | ξ=>18446744073709551615
noncomputable def bJg(h:Tr Blk)(a ver:Nat)(K:Nat->On (On V)->mU):mU:=
 bQu h a (λb=>@Blk.rec (λ_=>mU) (λv es elems=>ifQ (Pw v ver) (K es elems)) (λ_=>OG) (λ_ _=>OG) b)
noncomputable def aVw(op:BinOp)(j:Qa)(a b:Int)(K:KV):mU:=bJc (lJ op j a b) (λv=>bJf v K)
noncomputable def zA(op:BinOp)(j:Qa)(a b:Int)(f:Nat->Nat->Nat)(K:KV):mU:=
 @Int.rec (λ_=>mU) (λm=>@Int.rec (λ_=>mU) (λn=>aOc (f m n) (λr=>bQs (Ru r (hiN j)) (K (.int j (.ofNat r))) (aVw op j a b K))) (λ_=>aVw op j a b K) b) (λ_=>aVw op j a b K) a
noncomputable def bJh(l:On V)(K:KV):mU:=
 @List.rec V (λ_=>mU) (K (.tup [])) (λv r _=>@List.rec V (λ_=>mU) (K v) (λ_ _ _=>K (.tup l)) r) l
theorem sF{ρ ρ':Pj->Ow V}(hm:∀x v,ρ x=Ot v->ρ' x=Ot v):∀{l:On Pj} {vs:On V},tD ρ l=Ot vs->tD ρ' l=Ot vs
 | [],vs,h=>h
 | x::l,vs,h=>by
  simp only[tD] at h|-
  split at h
  ·rename_i v hv;split at h
   ·rename_i ws hw;rw[hm _ _ hv,sF hm hw];exact h
   ·cases h
  ·cases h
theorem aBx{ρ ρ':Pj->Ow V}(hm:∀x v,ρ x=Ot v->ρ' x=Ot v):∀{l:On (Nat×Pj)} {vs:On (Nat×V)},pI ρ l=Ot vs->pI ρ' l=Ot vs
 | [],vs,h=>h
 | (i,x)::l,vs,h=>by
  simp only[pI] at h|-
  split at h
  ·rename_i v hv;split at h
   ·rename_i ws hw;rw[hm _ _ hv,aBx hm hw];exact h
   ·cases h
  ·cases h
theorem aM3{ρ ρ':Pj->Ow V}(hm:∀x v,ρ x=Ot v->ρ' x=Ot v){x:Ow Pj}{v:Ow V}(h:evO ρ x=Ot v):evO ρ' x=Ot v:=by
 cases x with
 | none=>exact h
 | some x=>
  simp only[evO] at h|-
  split at h
  ·rename_i w hw;rw[hm _ _ hw];exact h
  ·cases h
theorem aCk{P:OI}{ρ ρ':Pj->Ow V}(hm:∀x v,ρ x=Ot v->ρ' x=Ot v){o:Qh}{fr:Ow Nat}{S:St}{r:Out}(h:aW P ρ o fr S=.ok r):aW P ρ' o fr S=.ok r:=by
 obtain⟨dst,op,ty,pos,after,gd⟩:=o;cases op<;>simp only[aW] at h|-<;>try exact h
 case move x=>(cases hx:ρ x with | none=>(simp only[hx] at h;cases h) | some v=>(rw[hm _ _ hx];simp only[hx] at h;exact h))
 case assign x=>(cases hx:ρ x with | none=>(simp only[hx] at h;cases h) | some v=>(rw[hm _ _ hx];simp only[hx] at h;exact h))
 case pick c a b=>
  cases hc:ρ c with
  | none=>simp only[hc] at h;cases h
  | some w=>
   rw[hm _ _ hc];simp only[hc] at h;cases w with
   | bool t=>
    cases t with
    | true=>(cases hx:ρ a with | none=>(simp only[hx] at h;cases h) | some v=>(rw[hm _ _ hx];simp only[hx] at h;exact h))
    | false=>(cases hx:ρ b with | none=>(simp only[hx] at h;cases h) | some v=>(rw[hm _ _ hx];simp only[hx] at h;exact h))
   | _=>cases h
 case box t x=>(cases hx:ρ x with | none=>(simp only[hx] at h;cases h) | some v=>(rw[hm _ _ hx];simp only[hx] at h;exact h))
 case build t ps=>(cases hx:pI ρ ps.toList with | none=>(simp only[hx] at h;cases h) | some v=>(rw[aBx hm hx];simp only[hx] at h;exact h))
 case buildSlice t n ps=>(cases hx:pI ρ ps.toList with | none=>(simp only[hx] at h;cases h) | some v=>(rw[aBx hm hx];simp only[hx] at h;exact h))
 case load t x=>(cases hx:ρ x with | none=>(simp only[hx] at h;cases h) | some v=>(rw[hm _ _ hx];simp only[hx] at h;exact h))
 case store t a x=>(cases ha:ρ a with | none=>(simp only[ha] at h;cases h) | some w=>(cases hx:ρ x with | none=>(simp only[ha,hx] at h;cases h) | some v=>(rw[hm _ _ ha,hm _ _ hx];simp only[ha,hx] at h;exact h)))
 case nilCheck x=>(cases hx:ρ x with | none=>(simp only[hx] at h;cases h) | some v=>(rw[hm _ _ hx];simp only[hx] at h;exact h))
 case binOp op t a x _=>(cases ha:ρ a with | none=>(simp only[ha] at h;cases h) | some w=>(cases hx:ρ x with | none=>(simp only[ha,hx] at h;cases h) | some v=>(rw[hm _ _ ha,hm _ _ hx];simp only[ha,hx] at h;exact h)))
 case unOp op t x=>(cases hx:ρ x with | none=>(simp only[hx] at h;cases h) | some v=>(rw[hm _ _ hx];simp only[hx] at h;exact h))
 case convert s d x=>(cases hx:ρ x with | none=>(simp only[hx] at h;cases h) | some v=>(rw[hm _ _ hx];simp only[hx] at h;exact h))
 case makeSlice t a x=>(cases ha:ρ a with | none=>(simp only[ha] at h;cases h) | some w=>(cases hx:ρ x with | none=>(simp only[ha,hx] at h;cases h) | some v=>(rw[hm _ _ ha,hm _ _ hx];simp only[ha,hx] at h;exact h)))
 case slice t x lo hi mx=>
  cases mx with
  | some m=>simp only at h;cases h
  | none=>
   cases hx:ρ x with
   | none=>simp only[hx] at h;cases h
   | some v=>
    cases hl:evO ρ lo with
    | none=>simp only[hx,hl] at h;cases h
    | some l=>
     cases hh:evO ρ hi with
     | none=>simp only[hx,hl,hh] at h;cases h
     | some u=>rw[hm _ _ hx,aM3 hm hl,aM3 hm hh];simp only[hx,hl,hh] at h;exact h
 case fieldAddr s x f=>(cases hx:ρ x with | none=>(simp only[hx] at h;cases h) | some v=>(rw[hm _ _ hx];simp only[hx] at h;exact h))
 case field s x f=>(cases hx:ρ x with | none=>(simp only[hx] at h;cases h) | some v=>(rw[hm _ _ hx];simp only[hx] at h;exact h))
 case indexAddr t a x=>(cases ha:ρ a with | none=>(simp only[ha] at h;cases h) | some w=>(cases hx:ρ x with | none=>(simp only[ha,hx] at h;cases h) | some v=>(rw[hm _ _ ha,hm _ _ hx];simp only[ha,hx] at h;exact h)))
 case index t a x=>(cases ha:ρ a with | none=>(simp only[ha] at h;cases h) | some w=>(cases hx:ρ x with | none=>(simp only[ha,hx] at h;cases h) | some v=>(rw[hm _ _ ha,hm _ _ hx];simp only[ha,hx] at h;exact h)))
 case range t x=>(cases hx:ρ x with | none=>(simp only[hx] at h;cases h) | some v=>(rw[hm _ _ hx];simp only[hx] at h;exact h))
 case next it s=>(cases hx:ρ it with | none=>(simp only[hx] at h;cases h) | some v=>(rw[hm _ _ hx];simp only[hx] at h;exact h))
 case makeMap t m=>(cases m<;>exact h)
 case lookup t a x ok=>(cases ha:ρ a with | none=>(simp only[ha] at h;cases h) | some w=>(cases hx:ρ x with | none=>(simp only[ha,hx] at h;cases h) | some v=>(rw[hm _ _ ha,hm _ _ hx];simp only[ha,hx] at h;exact h)))
 case mapUpdate t m a x=>
  cases hb:ρ m with
  | none=>simp only[hb] at h;cases h
  | some u=>(cases ha:ρ a with | none=>(simp only[hb,ha] at h;cases h) | some w=>(cases hx:ρ x with | none=>(simp only[hb,ha,hx] at h;cases h) | some v=>(rw[hm _ _ hb,hm _ _ ha,hm _ _ hx];simp only[hb,ha,hx] at h;exact h)))
 case makeFunc fn a b=>
  cases fn with
  | func f=>
   cases ha:tD ρ a.toList with
   | none=>simp only[ha] at h;cases h
   | some w=>(cases hx:tD ρ b.toList with | none=>(simp only[ha,hx] at h;cases h) | some v=>(rw[sF hm ha,sF hm hx];simp only[ha,hx] at h;exact h))
  | _=>cases h
 case makeInterface t x=>(cases hx:ρ x with | none=>(simp only[hx] at h;cases h) | some v=>(rw[hm _ _ hx];simp only[hx] at h;exact h))
 case typeAssert x _ t ok=>(cases hx:ρ x with | none=>(simp only[hx] at h;cases h) | some v=>(rw[hm _ _ hx];simp only[hx] at h;exact h))
 case extract x i=>(cases hx:ρ x with | none=>(simp only[hx] at h;cases h) | some v=>(rw[hm _ _ hx];simp only[hx] at h;exact h))
 case call c=>
  obtain⟨callee,args,ats⟩:=c;cases callee with
  | value f=>
   simp only at h|-
   cases hf:ρ f with
   | none=>simp only[hf] at h;cases h
   | some w=>(cases hx:tD ρ args.toList with | none=>(simp only[hf,hx] at h;cases w<;>cases h) | some v=>(rw[hm _ _ hf,sF hm hx];simp only[hf,hx] at h;exact h))
  | builtin b=>
   simp only at h|-
   (cases hx:tD ρ args.toList with | none=>(simp only[hx] at h;cases h) | some v=>(rw[sF hm hx];simp only[hx] at h;exact h))
  | invoke r m=>
   simp only at h|-
   cases hf:ρ r with
   | none=>simp only[hf] at h;cases h
   | some w=>(cases hx:tD ρ args.toList with | none=>(simp only[hf,hx] at h;cases w<;>cases h) | some v=>(rw[hm _ _ hf,sF hm hx];simp only[hf,hx] at h;exact h))
def After(C:bJb)(n:Nat)(h:Tr Blk)(K:KM)(z:V×St):Out->Prop
 | .val v S'=>K v S'.next S'.heap=Ot z
 | .skip S'=>K (.tup []) S'.next S'.heap=Ot z
 | .call f args=>C f args n h K=Ot z
theorem aQ7:∀(l:On Un) (i:Nat),aVv l i=l[i]?
 | [],0=>rfl
 | [],_+1=>rfl
 | _::_,0=>rfl
 | _::l,i+1=>by rw[SD];exact aQ7 l i
theorem aM4(P:OI)(i:Nat):aVv P.funcs.toList i=P.funcs[i]?:=by rw[aQ7];simp
abbrev KW:=V->St->Prop
abbrev oN:=bD->St->Prop
abbrev aL:=PU->On V->St->KW->Prop
def wO{α:Type}(x:Ow α)(K:α->Prop):Prop:=match x with
 | some a=>K a
 | none=>Sc
def wR{α:Type}(x:R α)(K:α->Prop):Prop:=match x with
 | .ok a=>K a
 | .error _=>Sc
def wIf(b:Ps)(x:Prop):Prop:=match b with
 | true=>x
 | false=>Sc
def aN(v:V)(x y:Prop):Prop:=match v with
 | .bool OB=>x
 | .bool OA=>y
 | _=>Sc
def aTf(v:V)(x:Prop):Prop:=match v with
 | .tup _=>x
 | _=>Sc
def uU(v:V)(x:Prop):Prop:=match v with
 | .ptr _ _ _ _=>x
 | .iptr _ _=>x
 | _=>Sc
def fI(v:V)(i:Nat)(K:V->Prop):Prop:=match v with
 | .tup vs=>wO vs[i]? K
 | _=>Sc
def vA(vs:On V)(K:V->On V->Prop):Prop:=match vs with
 | v::r=>K v r
 | []=>Sc
def aCl:Nat->On V->St->(On V->St->(On V->St->Prop)->Prop)->Prop
 | 0,_,_,_=>Sc
 | k+1,vs,S,F=>F vs S (λvs S=>aCl k vs S F)
def iN(vs:On V)(S:St)(F:On V->St->(On V->St->Prop)->Prop):Prop:=∃k,aCl k vs S F
def mI(P:OI)(C:aL)(g:PU)(args:On V)(S:St)(K:KW):Prop:=
 wO (cV P g) λx=>match x with
  | none=>C g args S K
  | some fn=>wR (tH fn args) λv=>K v S
def aVx(P:OI)(C:aL)(v:V)(args:On V)(S:St)(K:KW):Prop:=match v with
 | .func g first captured=>mI P C g (first++args++captured) S K
 | _=>Sc
def bJi(P:OI)(C:aL)(v:V)(name:String)(args:On V)(S:St)(K:KW):Prop:=match v with
 | .iface t v=>wO (aDo P t name) λg=>mI P C g (v::args) S K
 | _=>Sc
def aBy(P:OI)(b:Builtin)(ts:Pa OH)(args:On V)(fr:Ow Nat)(S:St)(K:KW):Prop:=
 match b,args with
 | .len,[x]=>wO ts[0]? λt=>wR (aBn P t x S) λv=>K v S
 | .min,args=>wR (aVc args) λv=>K v S
 | .max,args=>wR (aVd args) λv=>K v S
 | .append,[s,x]=>wO ts[0]? λt=>wO ts[1]? λu=>(match P.underlying u with
  | some (.slice _)=>wR (iP P t s x fr S) λr=>K r.1 r.2
  | some .string=>wR (iP P t s x fr S) λr=>K r.1 r.2
  | _=>Sc)
 | .clear,[x]=>wO ts[0]? λt=>wR (aEh P t x S) λr=>K r.1 r.2
 | .copy,[d,x]=>wO ts[0]? λt=>wR (aLa P t d x S) λr=>K r.1 r.2
 | _,_=>Sc
def lG(P:OI)(C:aL)(o:Qh)(fr:Ow Nat)(e:bD)(S:St)(K:KW):Prop:=
 match o.op with
 | .move x=>wO (ev e x) λv=>K v S
 | .assign x=>wO (ev e x) λv=>K v S
 | .pick c a b=>wO (ev e c) λc=>wO (ev e a) λa=>wO (ev e b) λb=>wR (aM2 c a b) λv=>K v S
 | .alloc t=>wO (aQ P t) λz=>wR (bR fr S (.row 0 z.cells.length [z.cells])) λr=>K (.ptr r.1 0 0 0) r.2
 | .box _ x=>wO (ev e x) λv=>wIf (aH v.cells) (wR (bR fr S (.row 0 v.cells.length [v.cells])) λr=>K (.ptr r.1 0 0 0) r.2)
 | .build t ps=>wO (pI (ev e) ps.toList) λvs=>wR (rO P t vs) λv=>K v S
 | .buildSlice t n ps=>wO (pI (ev e) ps.toList) λvs=>wR (dO P t n vs fr S) λr=>K r.1 r.2
 | .load t a=>wO (ev e a) λp=>wR (oG P t p S) λv=>K v S
 | .store t a x=>wO (ev e a) λp=>wO (ev e x) λv=>wR (rN P t p v S) λS'=>K (.tup []) S'
 | .nilCheck x=>wO (ev e x) λv=>uU v (K v S)
 | .binOp op t x y _=>wO (ev e x) λa=>wO (ev e y) λb=>wIf (aNt P op t x y a b) (wR (cC P op t a b) λv=>K v S)
 | .unOp op _ x=>wO (ev e x) λv=>wR (unV op v) λv=>K v S
 | .convert s d x=>wO (ev e x) λv=>wR (eK P s d v fr S) λr=>K r.1 r.2
 | .makeSlice t l c=>wO (ev e l) λl=>wO (ev e c) λc=>wR (fD P t l c fr S) λr=>K r.1 r.2
 | .slice t x lo hi OG=>wO (ev e x) λv=>wO (evO (ev e) lo) λl=>wO (evO (ev e) hi) λh=>wR (iZ P t v l h) λv=>K v S
 | .fieldAddr s x f=>wO (ev e x) λp=>wR (eQ P s p f) λv=>K v S
 | .field t x f=>wO (ev e x) λv=>wR (aEg P t v f) λv=>K v S
 | .indexAddr t x i=>wO (ev e x) λv=>wO (ev e i) λk=>wR (dT P t v k) λv=>K v S
 | .index t x i=>wO (ev e x) λv=>wO (ev e i) λk=>wR (aEf P t v k) λv=>K v S
 | .range t x=>wO (ev e x) λv=>wIf (aK0 P t) (wR (aK1 v fr S) λr=>K r.1 r.2)
 | .next it isS=>wO (ev e it) λv=>wIf isS (wR (aAs v S) λr=>K r.1 r.2)
 | .makeMap _ OG=>wR (bR fr S (.mp [])) λr=>K (.mp r.1) r.2
 | .lookup t m k ok=>wO (ev e m) λm=>wO (ev e k) λk=>wR (aA9 P t m k ok S) λv=>K v S
 | .mapUpdate t m k v=>wO (ev e m) λm=>wO (ev e k) λk=>wO (ev e v) λv=>wR (pH P t m k v S) λS'=>K (.tup []) S'
 | .makeFunc fn first captured=>(match fn with
  | .func f=>wO (tD (ev e) first.toList) λa=>wO (tD (ev e) captured.toList) λb=>K (.func f a b) S
  | _=>Sc)
 | .makeInterface _ _=>wR (aW P (ev e) o fr S) λout=>(match out with
  | .val v S'=>K v S'
  | _=>Sc)
 | .typeAssert x _ t ok=>wO (ev e x) λv=>wR (aAa P v t ok) λv=>K v S
 | .extract t i=>wO (ev e t) λv=>fI v i λv=>K v S
 | .call c=>(match c.callee with
  | .value f=>wO (ev e f) λv=>wO (tD (ev e) c.args.toList) λargs=>aVx P C v args S K
  | .builtin b=>wO (tD (ev e) c.args.toList) λargs=>aBy P b c.argTypes args fr S K
  | .invoke r name=>wO (ev e r) λv=>wO (tD (ev e) c.args.toList) λargs=>bJi P C v name args S K)
 | _=>Sc
def uV(n:Nat)(d:Ow Tmp)(e:bD)(v:V)(K:bD->Prop):Prop:=match d with
 | none=>K e
 | some d=>match QI d n with
  | true=>K (e.put d v)
  | false=>Sc
def doW(P:OI)(C:aL)(n:Nat)(o:Qh)(fr:Ow Nat)(e:bD)(S:St)(K:Ps->V->bD->St->Prop):Prop:=
 lG P C o fr e S λv S'=>uV n o.dst e v λe'=>K OB v e' S'
def aHy(n:Nat)(o:Qh)(e:bD)(S:St)(K:Ps->V->bD->St->Prop):Prop:=uV n o.dst e (.tup []) λe'=>K OA (.tup []) e' S
def mC(P:OI)(C:aL)(n:Nat)(ops:Pa Qh)(sk:On Nat)(o:Qh)(fr:Ow Nat)(e:bD)(S:St)(K:Ps->V->bD->St->Prop):Prop:=
 match o.guard with
 | none=>doW P C n o fr e S K
 | some (j,want)=>wO (pB ops j) λd=>wO (e.get d) λv=>
   match aVu j sk with
   | true=>aTf v (aHy n o e S K)
   | false=>aN v (match want with
    | true=>doW P C n o fr (e.put d (.bool OB)) S K
    | false=>aHy n o (e.put d (.bool OB)) S K) (match want with
    | true=>aHy n o (e.put d (.bool OA)) S K
    | false=>doW P C n o fr (e.put d (.bool OA)) S K)
def aOe(P:OI)(C:aL)(n:Nat)(ops:Pa Qh):On Qh->Nat->On Nat->bD->St->oN->Prop
 | [],_,_,e,S,K=>K e S
 | o::l,i,sk,e,S,K=>mC P C n ops sk o OG e S λran _ e' S'=>aOe P C n ops l (i+1) (aAt ran i sk) e' S' K
def eW(P:OI)(C:aL)(ops:Pa Qh)(i:Nat)(S:St)(K:Prop):On uZ->Prop
 | []=>K
 | (j,e,v)::l=>match Pw i j with
  | true=>wO ops[i]? λo=>lG P C o OG e S λv' _=>wIf (gW v v') K
  | false=>eW P C ops i S K l
def tU(P:OI)(C:aL)(ops:Pa Qh)(recs:On uZ)(S:St)(K:Prop):On Nat->Prop
 | []=>K
 | i::l=>eW P C ops i S (tU P C ops recs S K l) recs
def uP(P:OI)(C:aL)(n:Nat)(ops:Pa Qh)(base:Nat):On bY->On Nat->On uZ->bD->St->oN->Prop
 | [],_,_,e,S,K=>K e S
 | (i,re)::l,sk,recs,e,S,K=>wO ops[i]? λo=>
  mC P C n ops sk o (Ot (base+i)) e S λran v e' S'=>tU P C ops recs S' (uP P C n ops base l (aAt ran i sk) (aAu P o i e ran v recs) e' S' K) re
def pP(e:bD):On Nat->(On V->Prop)->Prop
 | [],K=>K []
 | t::l,K=>wO (e.get t) λv=>pP e l λvs=>K (v::vs)
def aK2:On Nat->On V->bD->(bD->Prop)->Prop
 | [],_,e,K=>K e
 | t::l,vs,e,K=>vA vs λv r=>aK2 l r (e.put t v) K
abbrev KXW:=Nat->oN
def fJ(P:OI)(C:aL)(n:Nat)(p:Nat->Ow (On bY))(lv:Nat->On Nat):ST->bD->St->oN->KXW->oN->Prop
 | .skip,e,S,Kn,_,_=>Kn e S
 | .label _,e,S,Kn,_,_=>Kn e S
 | .exit id,e,S,_,Kx,_=>Kx id e S
 | .ret,e,S,_,_,Kr=>Kr e S
 | .region id ops d,e,S,Kn,_,_=>(match d with
  | true=>uP P C n ops S.next (aDp (p id) ops.size) [] [] e ⟨S.next+ops.size,S.heap⟩ Kn
  | false=>aOe P C n ops ops.toList 0 [] e S Kn)
 | .seq a b,e,S,Kn,Kx,Kr=>fJ P C n p lv a e S (λe S=>fJ P C n p lv b e S Kn Kx Kr) Kx Kr
 | .cond c a b,e,S,Kn,Kx,Kr=>wO (ev e c) λv=>aN v (fJ P C n p lv a (aCj e c OB) S Kn Kx Kr) (fJ P C n p lv b (aCj e c OA) S Kn Kx Kr)
 | .block id a,e,S,Kn,Kx,Kr=>fJ P C n p lv a e S Kn (λj e S=>match Pw j id with
  | true=>Kn e S
  | false=>Kx j e S) Kr
 | .loop a,e,S,Kn,Kx,Kr=>pP e (lv (bZ a)) λvs=>
   iN vs S λvs S aE=>aK2 (lv (bZ a)) vs (e.filt λt=>!oM a t) λe=>
    fJ P C n p lv a e S (λe S=>pP e (lv (bZ a)) λvs=>aE vs S) Kx Kr
 | .scope _,_,_,_,_,_=>Sc
 | .rangeFunc ..,_,_,_,_,_=>Sc
 | .goto _,_,_,_,_,_=>Sc
 | .refuse _,_,_,_,_,_=>Sc
def aH2(P:OI)(e:bD)(S:St):On Ud->(On V->Prop)->Prop
 | [],K=>K []
 | .tmp t::l,K=>wO (e.get t) λv=>aH2 P e S l λvs=>K (v::vs)
 | .cell a t::l,K=>wO (e.get a) λp=>wR (oG P t p S) λv=>aH2 P e S l λvs=>K (v::vs)
def aTg(P:OI)(rs:On Ud)(K:KW):oN:=λe S=>aH2 P e S rs λvs=>K (tL vs) S
def aVy(P:OI)(C:aL)(p:Nat->Ow (On bY))(lv:Nat->On Nat)(args:On V)(S:St)(K:KW)(c:ST)(n:Nat)(rs:On Ud):Prop:=
 wIf (Ru args.length n) (fJ P C n p lv c (fQ 0 args .nil) S (aTg P rs K) (λ_ _ _=>Sc) (aTg P rs K))
def dR(P:OI)(C:aL)(p:Nat->Ow (On bY))(lv:Nat->On Nat)(f:PU)(args:On V)(S:St)(K:KW):Prop:=
 wO (aAv P f) λb=>aVy P C p lv args S K b.1 b.2.1 b.2.2
theorem aVz{P:OI}{ρ:Pj->Ow V}{o:Qh}{fr:Ow Nat}{S:St}{r:Out}(hc:eV P o.op=1)(h:aW P ρ o fr S=.ok r):∃v S',r=.val v S':=by
 obtain⟨v,e,_⟩:=bB3 hc h;exact⟨v,_,e⟩
def SubE(E e:bD):Prop:=∀t v,E.get t=Ot v->e.get t=Ot v
theorem SubE.refl(e:bD):SubE e e:=λ_ _ h=>h
theorem SubE.put{E e:bD}(h:SubE E e)(d:Nat)(v:V):SubE (E.put d v) (e.put d v):=by
 intro t u hu;rw[VI _ _ _ _ trivial] at hu|-
 split at hu
 ·rename_i e1;rw[OE e1];exact hu
 ·rename_i e1;rw[Oz e1];exact h t u hu
theorem SubE.putl{E e:bD}(h:SubE E e){d:Nat}{v:V}(hv:e.get d=Ot v):SubE (E.put d v) e:=by
 intro t u hu;rw[VI _ _ _ _ trivial] at hu;split at hu
 ·rename_i e1;cases hu;rw[e1];exact hv
 ·exact h t u hu
theorem SubE.ev{E e:bD}(h:SubE E e)(x:Pj)(v:V)(hv:ev E x=Ot v):ev e x=Ot v:=by
 cases x with
 | tmp t=>exact h t v hv
 | const c=>exact hv
 | global g=>cases hv
 | func f=>exact hv
inductive RecsD (P:OI) (ops:Pa Qh):On uZ->On uZ->Prop
 | nil:RecsD P ops [] []
 | cons (i:Nat) (E e:bD) (v:V) (a b:On uZ) (hs:SubE E e) (hc:∀o,ops[i]?=Ot o->eV P o.op=1) (t:RecsD P ops a b):RecsD P ops ((i,E,v)::a) ((i,e,v)::b)
theorem aTh{l:On Qh}{t:Nat}(h:aF3 l t=OA):∀o∈l,o.dst≠Ot t:=by
 induction l with
 | nil=>intro o ho;cases ho
 | cons x l ih=>
  intro o ho;simp only[aF3,RI] at h;rcases Pu.1 ho with rfl | ho
  ·intro hd;rw[hd] at h;simp only[Nat.beq_refl] at h;cases h.1
  ·exact ih h.2 o ho
theorem aM5{n:Nat}{e e':bD}{d:Ow Tmp}{v:V}{t:Nat}(h:hM n e d v=.ok e')(hd:d≠Ot t):e'.get t=e.get t:=by
 unfold hM at h;split at h
 ·cases h;rfl
 ·rename_i d;rw[cond_eq_ite] at h;split at h
  ·cases h;exact OJ _ _ _ _ trivial (λe=>hd (by rw[e]))
  ·cases h
theorem aCm{P:OI}{call:Call}{n:Nat}{ops:Pa Qh}{o:Qh}{fr:Ow Nat}{e e':bD}{S S':St}{t:Nat}(h:gG P call n ops o fr e S=.ok (e',S'))(hd:o.dst≠Ot t):e'.get t=e.get t:=by
 have fin:∀{v:V} {S1:St},(match hM n e o.dst v with
   | .ok e'=>Except.ok (e',S1)
   | .error w=>.error w:R (bD×St))=.ok (e',S')->e'.get t=e.get t:=by
  intro v S1 h;split at h
  ·rename_i e1 h1;cases h;exact aM5 h1 hd
  ·cases h
 unfold gG at h;split at h
 ·cases h
 ·exact fin h
 ·split at h
  ·cases h
  ·exact fin h
  ·exact fin h
  ·split at h
   ·cases h
   ·exact fin h
theorem aCn{P:OI}{call:Call}{n:Nat}{ops:Pa Qh}{t:Nat}:∀{l:On Qh} {e e':bD} {S S':St},tJ P call n ops l e S=.ok (e',S')->(∀o∈l,o.dst≠Ot t)->e'.get t=e.get t
 | [],e,e',S,S',h,hd=>by cases h;rfl
 | o::l,e,e',S,S',h,hd=>by
  simp only[tJ] at h;split at h
  ·rename_i e1 S1 h1;rw[aCn h (λo ho=>hd o (OY _ ho)),aCm h1 (hd o (Ph ..))]
  ·cases h
theorem aCo{P:OI}{call:Call}{n:Nat}{ops:Pa Qh}{base t:Nat}(hd:∀o∈ops.toList,o.dst≠Ot t):∀{l:On bY} {r:On uZ} {e e':bD} {S S':St},tK P call n ops base l r e S=.ok (e',S')->e'.get t=e.get t
 | [],r,e,e',S,S',h=>by cases h;rfl
 | (i,re)::l,r,e,e',S,S',h=>by
  simp only[tK] at h;split at h
  ·cases h
  ·rename_i o ho;split at h
   ·cases h
   ·rename_i e1 S1 h1;rw[cond_eq_ite] at h;split at h
    ·rw[aCo hd h,aCm h1 (hd o (by rw[Array.mem_toList_iff];exact Array.mem_of_getElem? ho))]
    ·cases h
theorem aTi{P:OI}{pl:Nat->Ow (On bY)}{call:Call}{k n t:Nat}:∀(c:ST) {e e':bD} {S S':St} {x:Ex},oM c t=OA->fY P pl call k n c e S=.ok (x,e',S')->e'.get t=e.get t:=by
 intro c
 induction c with
 | skip=>intro e e' S S' x hp h;cases h;rfl
 | label l=>intro e e' S S' x hp h;cases h;rfl
 | exit id=>intro e e' S S' x hp h;cases h;rfl
 | ret=>intro e e' S S' x hp h;cases h;rfl
 | region id ops d=>
  intro e e' S S' x hp h;simp only[fY] at h;have hd:=aTh hp;split at h
  ·rename_i e1 S1 h1;cases h;cases d
   ·exact aCn (by simpa using h1) hd
   ·exact aCo hd (by simpa[bB2] using h1)
  ·cases h
 | seq a b iha ihb=>
  intro e e' S S' x hp h;simp only[oM,RI] at hp;simp only[fY] at h;split at h
  ·rename_i e1 S1 h1;rw[ihb hp.2 h,iha hp.1 h1]
  ·exact iha hp.1 h
 | cond c a b iha ihb=>
  intro e e' S S' x hp h;simp only[oM,RI] at hp;simp only[fY] at h;split at h
  ·exact iha hp.1 h
  ·exact ihb hp.2 h
  ·cases h
 | block id a iha=>
  intro e e' S S' x hp h;simp only[oM] at hp;simp only[fY] at h;split at h
  ·rename_i j e1 S1 h1;rw[cond_eq_ite] at h;split at h
   ·cases h;exact iha hp h1
   ·cases h;exact iha hp h1
  ·exact iha hp h
 | loop a iha=>
  intro e e' S S' x hp h;simp only[oM] at hp;simp only[fY] at h;have key:∀(m:Nat) {e:bD} {S:St},iter (fY P pl call k n a) m e S=.ok (x,e',S')->e'.get t=e.get t:=by
   intro m
   induction m with
   | zero=>intro e S h;cases h
   | succ m ihm=>
    intro e S h;simp only[iter] at h;split at h
    ·rename_i e1 S1 h1;rw[ihm h,iha hp h1]
    ·exact iha hp h
  exact key k h
 | scope a _=>intro e e' S S' x hp h;cases h
 | rangeFunc f ps a b _ _=>intro e e' S S' x hp h;cases h
 | goto l=>intro e e' S S' x hp h;cases h
 | refuse w=>intro e e' S S' x hp h;cases h
theorem vQ{α:Type}:∀(t:Tr α) (p:Nat->Ps) (n:Nat),(t.filt p).get n=if p n=OB then t.get n else OG
 | .nil,p,n=>by simp[Tr.filt,Wy]
 | .node l v r,p,n=>by
  simp only[Tr.filt];rw[Tj,Tj];by_cases h0:n=0
  ·subst h0;simp only[Oy];cases p 0<;>simp
  ·rw[Oz h0,Oz h0];by_cases h1:n % 2=1
   ·rw[OE h1,OE h1,vQ l];rw[show 2*(n / 2)+1=n by omega]
   ·rw[Oz h1,Oz h1,vQ r];rw[show 2*(n / 2 - 1)+2=n by omega]
inductive SlotsR (e:bD):On Nat->On V->Prop
 | nil:SlotsR e [] []
 | cons {t:Nat} {v:V} {l:On Nat} {vs:On V} (h:e.get t=Ot v) (r:SlotsR e l vs):SlotsR e (t::l) (v::vs)
section
theorem aR{α:Type}{x:Ow α}{K:α->Prop}(h:wO x K):∃a,x=Ot a/\K a:=by
 cases x with
 | none=>cases h
 | some a=>exact⟨a,rfl,h⟩
theorem cQ{α:Type}{x:R α}{K:α->Prop}(h:wR x K):∃a,x=.ok a/\K a:=by
 cases x with
 | error w=>cases h
 | ok a=>exact⟨a,rfl,h⟩
theorem sG{b:Ps}{x:Prop}(h:wIf b x):b=OB/\x:=by
 cases b with
 | false=>cases h
 | true=>exact⟨rfl,h⟩
theorem aF4{v:V}{x y:Prop}(h:aN v x y):(v=.bool OB/\x)\/(v=.bool OA/\y):=by
 unfold aN at h;split at h
 ·exact .inl ⟨rfl,h⟩
 ·exact .inr ⟨rfl,h⟩
 ·cases h
theorem aTj{v:V}{x:Prop}(h:uU v x):((∃a b c d,v=.ptr a b c d)\/∃cs j,v=.iptr cs j)/\x:=by
 unfold uU at h;split at h
 ·exact⟨.inl ⟨_,_,_,_,rfl⟩,h⟩
 ·exact⟨.inr ⟨_,_,rfl⟩,h⟩
 ·cases h
theorem aTk{v:V}{i:Nat}{K:V->Prop}(h:fI v i K):∃vs x,v=.tup vs/\vs[i]?=Ot x/\K x:=by
 unfold fI at h;split at h
 ·obtain⟨x,h1,h2⟩:=aR h;exact⟨_,x,rfl,h1,h2⟩
 ·cases h
theorem aW0{vs:On V}{K:V->On V->Prop}(h:vA vs K):∃v r,vs=v::r/\K v r:=by
 cases vs with
 | nil=>cases h
 | cons v r=>exact⟨v,r,rfl,h⟩
def aOf(C:aL)(K:KW)(S:St):Out->Prop
 | .val v S'=>K v S'
 | .skip S'=>K (.tup []) S'
 | .call f args=>C f args S K
theorem aCp{P:OI}{C:aL}{g:PU}{args:On V}{S:St}{K:KW}(H:mI P C g args S K):
  ∃out,yO P S g args=.ok out/\aOf C K S out:=by
 obtain⟨x,h1,H⟩:=aR H;unfold cV at h1;rw[aM4] at h1;split at h1
 ·cases h1
 ·rename_i fn Cg;split at h1
  ·rename_i c hc;cases h1;exact⟨.call g args,by simp only[yO,Cg,hc],H⟩
  ·rename_i hc;cases h1;obtain⟨v,h2,H⟩:=cQ H;exact⟨.val v S,by simp only[yO,Cg,hc,h2,dQ],H⟩
theorem aM6{P:OI}{C:aL}{b:Builtin}{ts:Pa OH}{args:On V}{fr:Ow Nat}{S:St}{K:KW}(H:aBy P b ts args fr S K):
  ∃out,fE P b ts args fr S=.ok out/\aOf C K S out:=by
 unfold aBy at H;split at H
 ·obtain⟨t,h1,H⟩:=aR H;obtain⟨v,h2,H⟩:=cQ H;exact⟨.val v S,by simp only[fE,h1,h2,dQ],H⟩
 ·obtain⟨v,h2,H⟩:=cQ H;exact⟨.val v S,by simp only[fE,h2,dQ],H⟩
 ·obtain⟨v,h2,H⟩:=cQ H;exact⟨.val v S,by simp only[fE,h2,dQ],H⟩
 ·obtain⟨t,h1,H⟩:=aR H;obtain⟨u,h2,H⟩:=aR H;split at H
  ·rename_i hu;obtain⟨r,h3,H⟩:=cQ H;exact⟨.val r.1 r.2,by simp only[fE,h1,h2,hu,h3,eT],H⟩
  ·rename_i hu;obtain⟨r,h3,H⟩:=cQ H;exact⟨.val r.1 r.2,by simp only[fE,h1,h2,hu,h3,eT],H⟩
  ·cases H
 ·obtain⟨t,h1,H⟩:=aR H;obtain⟨r,h3,H⟩:=cQ H;exact⟨.val r.1 r.2,by simp only[fE,h1,h3,eT],H⟩
 ·obtain⟨t,h1,H⟩:=aR H;obtain⟨r,h3,H⟩:=cQ H;exact⟨.val r.1 r.2,by simp only[fE,h1,h3,eT],H⟩
 ·cases H
theorem aM7{P:OI}{C:aL}{o:Qh}{fr:Ow Nat}{e:bD}{S:St}{K:KW}(H:lG P C o fr e S K):
  ∃out,aW P (ev e) o fr S=.ok out/\aOf C K S out:=by
 unfold lG at H;split at H
 case h_1 ho | h_2 ho=>
  obtain⟨v,h1,H⟩:=aR H;exact⟨.val v S,by simp only[aW,ho,h1],H⟩
 case h_3 ho=>
  obtain⟨c,h1,H⟩:=aR H;obtain⟨a,h2,H⟩:=aR H;obtain⟨b,h3,H⟩:=aR H;obtain⟨v,h4,H⟩:=cQ H;refine⟨.val v S,?_,H⟩;unfold aM2 at h4;split at h4
  ·cases h4;simp only[aW,ho,h1,h2]
  ·cases h4;simp only[aW,ho,h1,h3]
  ·cases h4
 case h_4 ho=>
  obtain⟨v,h1,H⟩:=aR H;obtain⟨r,h2,H⟩:=cQ H;exact⟨.val (.ptr r.1 0 0 0) r.2,by simp only[aW,ho,h1,h2],H⟩
 case h_5 ho=>
  obtain⟨v,h1,H⟩:=aR H;obtain⟨h3,H⟩:=sG H;obtain⟨r,h2,H⟩:=cQ H;exact⟨.val (.ptr r.1 0 0 0) r.2,by simp only[aW,ho,h1,h2,h3,PW],H⟩
 case h_6 ho=>
  obtain⟨v,h1,H⟩:=aR H;obtain⟨r,h2,H⟩:=cQ H;exact⟨.val r S,by simp only[aW,ho,h1,h2,dQ],H⟩
 case h_7 ho=>
  obtain⟨v,h1,H⟩:=aR H;obtain⟨r,h2,H⟩:=cQ H;exact⟨.val r.1 r.2,by simp only[aW,ho,h1,h2,eT],H⟩
 case h_8 ho=>
  obtain⟨v,h1,H⟩:=aR H;obtain⟨r,h2,H⟩:=cQ H;exact⟨.val r S,by simp only[aW,ho,h1,h2,dQ],H⟩
 case h_9 ho=>
  obtain⟨v,h1,H⟩:=aR H;obtain⟨u,h3,H⟩:=aR H;obtain⟨r,h2,H⟩:=cQ H;exact⟨.skip r,by simp only[aW,ho,h1,h2,h3],H⟩
 case h_10 ho=>
  obtain⟨v,h1,H⟩:=aR H;obtain⟨h2,H⟩:=aTj H;rcases h2 with ⟨a,b,c,d,rfl⟩ | ⟨cs,j,rfl⟩
  ·exact⟨.val (.ptr a b c d) S,by simp only[aW,ho,h1],H⟩
  ·exact⟨.val (.iptr cs j) S,by simp only[aW,ho,h1],H⟩
 case h_11 ho=>
  obtain⟨v,h1,H⟩:=aR H;obtain⟨u,h3,H⟩:=aR H;obtain⟨h4,H⟩:=sG H;obtain⟨r,h2,H⟩:=cQ H;exact⟨.val r S,by simp only[aW,ho,h1,h2,h3,h4,PW,dQ],H⟩
 case h_12 ho=>
  obtain⟨v,h1,H⟩:=aR H;obtain⟨r,h2,H⟩:=cQ H;exact⟨.val r S,by simp only[aW,ho,h1,h2,dQ],H⟩
 case h_13 ho=>
  obtain⟨v,h1,H⟩:=aR H;obtain⟨r,h2,H⟩:=cQ H;exact⟨.val r.1 r.2,by simp only[aW,ho,h1,h2,eT],H⟩
 case h_14 ho=>
  obtain⟨v,h1,H⟩:=aR H;obtain⟨u,h3,H⟩:=aR H;obtain⟨r,h2,H⟩:=cQ H;exact⟨.val r.1 r.2,by simp only[aW,ho,h1,h2,h3,eT],H⟩
 case h_15 ho=>
  obtain⟨v,h1,H⟩:=aR H;obtain⟨u,h3,H⟩:=aR H;obtain⟨w,h4,H⟩:=aR H;obtain⟨r,h2,H⟩:=cQ H;exact⟨.val r S,by simp only[aW,ho,h1,h2,h3,h4,dQ],H⟩
 case h_16 ho | h_17 ho=>
  obtain⟨v,h1,H⟩:=aR H;obtain⟨r,h2,H⟩:=cQ H;exact⟨.val r S,by simp only[aW,ho,h1,h2,dQ],H⟩
 case h_18 ho | h_19 ho=>
  obtain⟨v,h1,H⟩:=aR H;obtain⟨u,h3,H⟩:=aR H;obtain⟨r,h2,H⟩:=cQ H;exact⟨.val r S,by simp only[aW,ho,h1,h2,h3,dQ],H⟩
 case h_20 ho=>
  obtain⟨v,h1,H⟩:=aR H;obtain⟨h3,H⟩:=sG H;obtain⟨r,h2,H⟩:=cQ H;unfold aK0 at h3;split at h3
  ·rename_i ht;unfold aK1 at h2;split at h2
   ·split at h2
    ·rename_i hn;cases h2;exact⟨.val _ _,by simp only[aW,ho,h1,ht,hn],H⟩
    ·cases h2
   ·cases h2
  ·cases h3
 case h_21 ho=>
  obtain⟨v,h1,H⟩:=aR H;obtain⟨h3,H⟩:=sG H;obtain⟨r,h2,H⟩:=cQ H;subst h3;unfold aAs at h2;split at h2
  ·rename_i a;split at h2
   ·rename_i s pos hb;split at h2
    ·rename_i hl;split at h2
     ·rename_i b hs;split at h2
      ·rename_i ha;cases h2;exact⟨.val _ _,by simp only[aW,ho,h1,PW,hb,hl,hs,ha],H⟩
      ·rename_i ha;cases h2;exact⟨.val _ _,by simp only[aW,ho,h1,PW,QF,hb,hl,hs,ha],H⟩
     ·cases h2
    ·rename_i hl;cases h2;exact⟨.val _ _,by simp only[aW,ho,h1,PW,hb,hl,QF],H⟩
   ·cases h2
  ·cases h2
 case h_22 ho=>
  obtain⟨r,h2,H⟩:=cQ H;exact⟨.val (.mp r.1) r.2,by simp only[aW,ho,h2],H⟩
 case h_23 ho=>
  obtain⟨v,h1,H⟩:=aR H;obtain⟨u,h3,H⟩:=aR H;obtain⟨r,h2,H⟩:=cQ H;exact⟨.val r S,by simp only[aW,ho,h1,h2,h3,dQ],H⟩
 case h_24 ho=>
  obtain⟨v,h1,H⟩:=aR H;obtain⟨u,h3,H⟩:=aR H;obtain⟨w,h4,H⟩:=aR H;obtain⟨r,h2,H⟩:=cQ H;exact⟨.skip r,by simp only[aW,ho,h1,h2,h3,h4],H⟩
 case h_25 ho=>
  split at H
  ·obtain⟨v,h1,H⟩:=aR H;obtain⟨u,h3,H⟩:=aR H;exact⟨.val (.func _ v u) S,by simp only[aW,ho,h1,h3],H⟩
  ·cases H
 case h_26 ho=>
  obtain⟨out,h1,H⟩:=cQ H;cases out with
  | val v S'=>exact⟨_,h1,H⟩
  | _=>cases H
 case h_27 ho=>
  obtain⟨v,h1,H⟩:=aR H;obtain⟨r,h2,H⟩:=cQ H;exact⟨.val r S,by simp only[aW,ho,h1,h2,dQ],H⟩
 case h_28 ho=>
  obtain⟨v,h1,H⟩:=aR H;obtain⟨vs,x,rfl,h2,H⟩:=aTk H;exact⟨.val x S,by simp only[aW,ho,h1,h2],H⟩
 case h_29 ho=>
  split at H
  ·rename_i hc;obtain⟨v,h1,H⟩:=aR H;obtain⟨args,h2,H⟩:=aR H;unfold aVx at H;split at H
   ·obtain⟨out,h3,h4⟩:=aCp H;exact⟨out,by simp only[aW,ho,hc,h1,h2,h3],h4⟩
   ·cases H
  ·rename_i hc;obtain⟨args,h2,H⟩:=aR H;obtain⟨out,h3,h4⟩:=aM6 (C:=C) H;exact⟨out,by simp only[aW,ho,hc,h2,h3],h4⟩
  ·rename_i hc;obtain⟨v,h1,H⟩:=aR H;obtain⟨args,h2,H⟩:=aR H;unfold bJi at H;split at H
   ·obtain⟨g,h5,H⟩:=aR H;obtain⟨out,h3,h4⟩:=aCp H;exact⟨out,by simp only[aW,ho,hc,h1,h2,h5,h3],h4⟩
   ·cases H
 case h_30 ho=>cases H
theorem aTl{v:V}{x:Prop}(h:aTf v x):(∃l,v=.tup l)/\x:=by
 unfold aTf at h;split at h
 ·exact⟨⟨_,rfl⟩,h⟩
 ·cases h
theorem xE{n:Nat}{d:Ow Tmp}{E e:bD}{v:V}{K:bD->Prop}(hs:SubE E e)(h:uV n d E v K):∃E' e',hM n e d v=.ok e'/\SubE E' e'/\K E'/\(∀t,d=Ot t->e'.get t=Ot v):=by
 unfold uV at h;split at h
 ·exact⟨E,e,rfl,hs,h,λ_ h=>by cases h⟩
 ·rename_i d;split at h
  ·rename_i hb;refine⟨E.put d v,e.put d v,by simp only[hM,hb,PW],hs.put d v,h,λt ht=>?_⟩;cases ht;exact Ox _ _ _ trivial
  ·cases h
def Evt{α:Type}(g:Nat->R α)(r:α):Prop:=∃N,∀k,N<=k->g k=.ok r
theorem Evt.of{α:Type}{g:Nat->R α}{r:α}(h:∀k,g k=.ok r):Evt g r:=⟨0,λk _=>h k⟩
theorem Evt.one{α β:Type}{g:Nat->R α}{r:α}{g':Nat->R β}{r':β}(h:Evt g r)(k:∀k,g k=.ok r->g' k=.ok r'):Evt g' r':=by
 obtain⟨N,h⟩:=h;exact⟨N,λm hm=>k m (h m hm)⟩
theorem Evt.two{α β γ:Type}{g:Nat->R α}{r:α}{g1:Nat->R β}{r1:β}{g':Nat->R γ}{r':γ}(h:Evt g r)(h1:Evt g1 r1)(k:∀k,g k=.ok r->g1 k=.ok r1->g' k=.ok r'):Evt g' r':=by
 obtain⟨N,h⟩:=h;obtain⟨M,h1⟩:=h1;exact⟨max N M,λm hm=>k m (h m (by omega)) (h1 m (by omega))⟩
theorem Evt.eq{α:Type}{g:Nat->R α}{r s:α}(h:Evt g r)(k:Evt g s):r=s:=by
 obtain⟨N,h⟩:=h;obtain⟨M,k⟩:=k;have h1:=h (max N M) (by omega);rw[k (max N M) (by omega)] at h1;exact(SL h1).symm
def qT(cf:Nat->Call)(C:aL):Prop:=∀(f:PU) (args:On V) (S:St) (K:KW),C f args S K->∃v S',Evt (λk=>cf k f args S) (v,S')/\K v S'
section
variable{P:OI}{cf:Nat->Call}{C:aL}{n:Nat}{ops:Pa Qh}
theorem bB4(hc:qT cf C){o:Qh}{fr:Ow Nat}{E e:bD}{S:St}{K:V->bD->St->Prop}(hs:SubE E e)(hw:wanted ops o e=.ok OB)
  (H:lG P C o fr E S (λv S'=>uV n o.dst E v λe'=>K v e' S')):∃E' e' S' v,Evt (λk=>gG P (cf k) n ops o fr e S) (e',S')/\SubE E' e'/\K v E' S'/\(∀t,o.dst=Ot t->e'.get t=Ot v):=by
 obtain⟨out,h1,h2⟩:=aM7 H;have h1:=aCk hs.ev h1;cases out with
 | val v S'=>
  have h2:uV n o.dst E v (λe'=>K v e' S'):=h2;obtain⟨E',e',h3,h4,h5,h6⟩:=xE hs h2;exact⟨E',e',S',v,.of λk=>by simp only[gG,hw,h1,h3],h4,h5,h6⟩
 | skip S'=>
  have h2:uV n o.dst E (.tup []) (λe'=>K (.tup []) e' S'):=h2;obtain⟨E',e',h3,h4,h5,h6⟩:=xE hs h2;exact⟨E',e',S',.tup [],.of λk=>by simp only[gG,hw,h1,h3],h4,h5,h6⟩
 | call f args=>
  have h2:C f args S (λv S'=>uV n o.dst E v λe'=>K v e' S'):=h2;obtain⟨v,S',h7,h8⟩:=hc _ _ _ _ h2;obtain⟨E',e',h3,h4,h5,h6⟩:=xE hs h8;exact⟨E',e',S',v,h7.one λk h7=>by simp only[gG,hw,h1,h7,h3],h4,h5,h6⟩
theorem zC{o:Qh}{fr:Ow Nat}{E e:bD}{S:St}{K:Ps->V->bD->St->Prop}(hs:SubE E e)(hw:wanted ops o e=.ok OA)
  (H:aHy n o E S K):∃E' e' S' ran v,Evt (λk=>gG P (cf k) n ops o fr e S) (e',S')/\SubE E' e'/\K ran v E' S'/\wanted ops o e=.ok ran/\(∀t,o.dst=Ot t->e'.get t=Ot v):=by
 obtain⟨E',e',h3,h4,h5,h6⟩:=xE hs H;exact⟨E',e',S,OA,.tup [],.of λk=>by simp only[gG,hw,h3],h4,h5,hw,h6⟩
theorem aF5(hc:qT cf C){o:Qh}{fr:Ow Nat}{E e:bD}{S:St}{K:Ps->V->bD->St->Prop}(hs:SubE E e)(hw:wanted ops o e=.ok OB)
  (H:doW P C n o fr E S K):∃E' e' S' ran v,Evt (λk=>gG P (cf k) n ops o fr e S) (e',S')/\SubE E' e'/\K ran v E' S'/\wanted ops o e=.ok ran/\(∀t,o.dst=Ot t->e'.get t=Ot v):=by
 obtain⟨E',e',S',v,h1,h2,h3,h4⟩:=bB4 (K:=λv E S=>K OB v E S) hc hs hw H;exact⟨E',e',S',OB,v,h1,h2,h3,hw,h4⟩
theorem aF6(hc:qT cf C){sk:On Nat}{o:Qh}{fr:Ow Nat}{E e:bD}{S:St}{K:Ps->V->bD->St->Prop}(hs:SubE E e)
  (H:mC P C n ops sk o fr E S K):∃E' e' S' ran v,Evt (λk=>gG P (cf k) n ops o fr e S) (e',S')/\SubE E' e'/\K ran v E' S'/\wanted ops o e=.ok ran/\(∀t,o.dst=Ot t->e'.get t=Ot v):=by
 unfold mC at H;split at H
 ·rename_i hg;have hw:wanted ops o e=.ok true:=by simp only[wanted,hg]
  exact aF5 hc hs hw H
 ·rename_i j want hg;obtain⟨d,h1,H⟩:=aR H;obtain⟨v,h2,H⟩:=aR H;have hv:=hs d v h2;unfold pB at h1;split at h1
  ·cases h1
  ·rename_i oj DA;split at H
   ·obtain⟨⟨l,hl⟩,H⟩:=aTl H;rw[hl] at hv;have hw:wanted ops o e=.ok false:=by simp only[wanted,hg,DA,h1,hv]
    exact zC hs hw H
   ·rcases aF4 H with ⟨hb,H⟩ | ⟨hb,H⟩
    ·rw[hb] at hv;cases want with
     | true=>
      have hw:wanted ops o e=.ok true:=by simp only[wanted,hg,DA,h1,hv];rfl
      exact aF5 hc (hs.putl hv) hw H
     | false=>
      have hw:wanted ops o e=.ok false:=by simp only[wanted,hg,DA,h1,hv];rfl
      exact zC (hs.putl hv) hw H
    ·rw[hb] at hv;cases want with
     | true=>
      have hw:wanted ops o e=.ok false:=by simp only[wanted,hg,DA,h1,hv];rfl
      exact zC (hs.putl hv) hw H
     | false=>
      have hw:wanted ops o e=.ok true:=by simp only[wanted,hg,DA,h1,hv];rfl
      exact aF5 hc (hs.putl hv) hw H
theorem aHz(hc:qT cf C){K:oN}:∀{l:On Qh} {i:Nat} {sk:On Nat} {E e:bD} {S:St},SubE E e->aOe P C n ops l i sk E S K->
  ∃E' e' S',Evt (λk=>tJ P (cf k) n ops l e S) (e',S')/\SubE E' e'/\K E' S'
 | [],i,sk,E,e,S,hs,H=>⟨E,e,S,.of λ_=>rfl,hs,H⟩
 | o::l,i,sk,E,e,S,hs,H=>by
  obtain⟨E1,e1,S1,ran,_,h1,h2,h3,_,_⟩:=aF6 (K:=λran _ e' S'=>aOe P C n ops l (i+1) (aAt ran i sk) e' S' K) hc hs H;obtain⟨E2,e2,S2,h4,h5,h6⟩:=aHz hc h2 h3;exact⟨E2,e2,S2,h1.two h4 λk h1 h4=>by simp only[tJ,h1,h4],h5,h6⟩
theorem aAw{i:Nat}{S:St}{x:Prop}:∀{a b:On uZ},RecsD P ops a b->eW P C ops i S x a->
  (match qK i b with
   | none=>OB
   | some (e,v)=>match ops[i]? with
    | none=>OA
    | some o=>match aW P (ev e) o OG S with
     | .ok (.val v' _)=>gW v v'
     | _=>OA)=OB/\x
 | _,_,.nil,H=>⟨rfl,H⟩
 | _,_,.cons j E e v a b hs hc t,H=>by
  simp only[eW] at H;simp only[qK];split at H
  ·rename_i hb;have GP:=Qv hb;subst GP;obtain⟨o,ho,H⟩:=aR H;obtain⟨out,h1,H⟩:=aM7 H;have h1:=aCk hs.ev h1;obtain⟨v',S',rfl⟩:=aVz (hc o ho) h1;obtain⟨h2,H⟩:=sG H;exact⟨by simp only[hb,PW,ho,h1,h2],H⟩
  ·rename_i hb;obtain⟨h1,h2⟩:=aAw t H;exact⟨by simp only[hb,QF];exact h1,h2⟩
theorem aCq{S:St}{x:Prop}{a b:On uZ}(hr:RecsD P ops a b):∀{re:On Nat},tU P C ops a S x re->aE P ops b S re=OB/\x
 | [],H=>⟨rfl,H⟩
 | i::re,H=>by
  obtain⟨h1,H⟩:=aAw hr H;obtain⟨h2,H⟩:=aCq hr H;refine⟨?_,H⟩;simp only[aE];rw[h2,Bool.and_true];exact h1
theorem aF7(hc : qT cf C){base : Nat}{K : oN} : ∀{l : On bY} {sk : On Nat} {a b : On uZ} {E e : bD} {S : St}, RecsD P ops a b -> SubE E e ->
    uP P C n ops base l sk a E S K -> ∃E' e' S', Evt (λk => tK P (cf k) n ops base l b e S) (e', S') /\ SubE E' e' /\ K E' S'
  | [], sk, a, b, E, e, S, hr, hs, H => ⟨E, e, S, .of λ_ => rfl, hs, H⟩
  | (i, re) :: l, sk, a, b, E, e, S, hr, hs, H => by
    obtain⟨o, ho, H⟩ := aR H;obtain⟨E1, e1, S1, ran, v, h1, h2, h3, hw, hv⟩ := aF6 hc hs H;obtain⟨h4, H⟩ := aCq hr h3;have mr : RecsD P ops (aAu P o i E ran v a) (bif Pw (eV P o.op) 1 && aEj (wanted ops o e) then
          (match o.dst with
          | none => b
          | some d => match e1.get d with
            | some v => (i, e, v) :: b
            | none => b) else b) := by
      rw[hw];unfold aAu;simp only[aEj];cases gj : Pw (eV P o.op) 1 with
      | false => exact hr
      | true =>
        cases ran with
        | false => exact hr
        | true =>
          cases hd : o.dst with
          | none => exact hr
          | some d =>
            have := hv d hd;simp only[this, Bool.and_self, Option.isSome, PW];exact .cons i E e v a b hs (λo' nj => by rw[ho] at nj; cases nj; exact Qv gj) hr
    obtain⟨E2, e2, S2, h5, h6, h7⟩ := aF7 hc mr h2 H;refine⟨E2, e2, S2, h1.two h5 λk h1 h5 => ?_, h6, h7⟩;simp only[tK, ho, h1, h4, PW];exact h5
end
theorem vR{E e:bD}(hs:SubE E e):∀{l:On Nat} {K:On V->Prop},pP E l K->∃vs,SlotsR e l vs/\K vs
 | [],K,H=>⟨[],.nil,H⟩
 | t::l,K,H=>by
  obtain⟨v,h1,H⟩:=aR H;obtain⟨vs,h2,H⟩:=vR hs H;exact⟨v::vs,.cons (hs t v h1) h2,H⟩
theorem aI0{e:bD}:∀{l:On Nat} {vs:On V} {E:bD} {K:bD->Prop},SubE E e->SlotsR e l vs->aK2 l vs E K->∃E',SubE E' e/\K E'
 | [],vs,E,K,hs,hf,H=>⟨E,hs,H⟩
 | t::l,vs,E,K,hs,hf,H=>by
  cases hf with
  | cons h1 h2=>
   obtain⟨v,r,e1,H⟩:=aW0 H;cases e1;exact aI0 (hs.putl h1) h2 H
def aQ8(Kn:oN)(Kx:KXW)(Kr:oN):Ex×bD×St->Prop
 | (.normal,e,S)=>∃E,SubE E e/\Kn E S
 | (.exit id,e,S)=>∃E,SubE E e/\Kx id E S
 | (.ret,e,S)=>∃E,SubE E e/\Kr E S
theorem aOg{P:OI}{cf:Nat->Call}{C:aL}(hc:qT cf C){n:Nat}{p:Nat->Ow (On bY)}{lv:Nat->On Nat}:∀(c:ST) {E e:bD} {S:St} {Kn:oN} {Kx:KXW} {Kr:oN},SubE E e->
  fJ P C n p lv c E S Kn Kx Kr->∃r,Evt (λk=>fY P p (cf k) k n c e S) r/\aQ8 Kn Kx Kr r:=by
 intro c
 induction c with
 | skip=>intro E e S Kn Kx Kr hs H;exact⟨_,.of λ_=>rfl,E,hs,H⟩
 | label l=>intro E e S Kn Kx Kr hs H;exact⟨_,.of λ_=>rfl,E,hs,H⟩
 | exit id=>intro E e S Kn Kx Kr hs H;exact⟨_,.of λ_=>rfl,E,hs,H⟩
 | ret=>intro E e S Kn Kx Kr hs H;exact⟨_,.of λ_=>rfl,E,hs,H⟩
 | region id ops d=>
  intro E e S Kn Kx Kr hs H;simp only[fJ] at H;split at H
  ·obtain⟨E',e',S',h1,h2,h3⟩:=aF7 hc .nil hs H;have h1:Evt (λk=>bB2 P (cf k) n ops (aDp (p id) ops.size) e S) (e',S'):=h1;exact⟨(.normal,e',S'),h1.one λk h1=>by simp only[fY,PW,h1],E',h2,h3⟩
  ·obtain⟨E',e',S',h1,h2,h3⟩:=aHz hc hs H;exact⟨(.normal,e',S'),h1.one λk h1=>by simp only[fY,QF,h1],E',h2,h3⟩
 | seq a b iha ihb=>
  intro E e S Kn Kx Kr hs H;obtain⟨⟨x,e1,S1⟩,h1,h2⟩:=iha hs H;cases x with
  | normal=>
   obtain⟨E1,h3,h4⟩:=h2;obtain⟨r,h5,h6⟩:=ihb h3 h4;exact⟨r,h1.two h5 λk h1 h5=>by simp only[fY,h1];exact h5,h6⟩
  | exit id=>exact⟨(.exit id,e1,S1),h1.one λk h1=>by simp only[fY,h1],h2⟩
  | ret=>exact⟨(.ret,e1,S1),h1.one λk h1=>by simp only[fY,h1],h2⟩
 | cond c a b iha ihb=>
  intro E e S Kn Kx Kr hs H;simp only[fJ] at H;obtain⟨v,h1,H⟩:=aR H;have h1:=hs.ev _ _ h1;have hk:∀b,v=.bool b->SubE (aCj E c b) e:=by
   intro b hb;subst hb;unfold aCj;split
   ·exact hs.putl h1
   ·exact hs
  rcases aF4 H with ⟨hb,H⟩ | ⟨hb,H⟩
  ·obtain⟨r,h2,h3⟩:=iha (hk _ hb) H;subst hb;exact⟨r,h2.one λk h2=>by simp only[fY,h1];exact h2,h3⟩
  ·obtain⟨r,h2,h3⟩:=ihb (hk _ hb) H;subst hb;exact⟨r,h2.one λk h2=>by simp only[fY,h1];exact h2,h3⟩
 | block id a iha=>
  intro E e S Kn Kx Kr hs H;obtain⟨⟨x,e1,S1⟩,h1,h2⟩:=iha hs H;cases x with
  | normal=>exact⟨(.normal,e1,S1),h1.one λk h1=>by simp only[fY,h1],h2⟩
  | ret=>exact⟨(.ret,e1,S1),h1.one λk h1=>by simp only[fY,h1],h2⟩
  | exit j=>
   obtain⟨E1,h3,h4⟩:=h2;split at h4
   ·rename_i hj;exact⟨(.normal,e1,S1),h1.one λk h1=>by simp only[fY,h1,hj,PW],E1,h3,h4⟩
   ·rename_i hj;exact⟨(.exit j,e1,S1),h1.one λk h1=>by simp only[fY,h1,hj,QF],E1,h3,h4⟩
 | loop a iha=>
  intro E e S Kn Kx Kr hs H;simp only[fJ] at H;obtain⟨vs,hf,m,H⟩:=vR hs H;have hb:SubE (E.filt λt=>!oM a t) e:=by
   intro t v hv;rw[vQ] at hv;split at hv
   ·exact hs t v hv
   ·cases hv
  have key:∀(m:Nat) {vs:On V} {e:bD} {S:St},SubE (E.filt λt=>!oM a t) e->SlotsR e (lv (bZ a)) vs->
    (aCl m vs S λvs S aE=>aK2 (lv (bZ a)) vs (E.filt λt=>!oM a t) λe=>
     fJ P C n p lv a e S (λe S=>pP e (lv (bZ a)) λvs=>aE vs S) Kx Kr)->∃r,(∃N,∀k j,N<=k->N<=j->iter (fY P p (cf k) k n a) j e S=.ok r)/\aQ8 Kn Kx Kr r:=by
   intro m
   induction m with
   | zero=>intro vs e S _ _ H;cases H
   | succ m ihm=>
    intro vs e S hb hf H;simp only[aCl] at H;obtain⟨E',h1,H⟩:=aI0 hb hf H;obtain⟨⟨x,e1,S1⟩,⟨N,h2⟩,h3⟩:=iha h1 H;have stop:∀{x:Ex},(∀k,N<=k->fY P p (cf k) k n a e S=.ok (x,e1,S1))->x≠.normal->∃N,∀k j,N<=k->N<=j->iter (fY P p (cf k) k n a) j e S=.ok (x,e1,S1):=by
     intro x h2 hx;refine⟨N+1,λk j hk hj=>?_⟩;obtain⟨j,rfl⟩:∃i,j=i+1:=⟨j - 1,by omega⟩;simp only[iter,h2 k (by omega)];cases x with
     | normal=>exact absurd rfl hx
     | ret=>rfl
     | exit id=>rfl
    cases x with
    | normal=>
     obtain⟨E1,h4,h5⟩:=h3;obtain⟨vs1,h6,h7⟩:=vR h4 h5;have ea:SubE (E.filt λt=>!oM a t) e1:=by
      intro t v hv;have uk:=hv;rw[vQ] at hv;split at hv
      ·rename_i hp;have hp:oM a t=false:=by simpa using hp
       rw[aTi a hp (h2 N (Ov _))];exact hb t v uk
      ·cases hv
     obtain⟨r,⟨M,h8⟩,h9⟩:=ihm ea h6 h7;refine⟨r,⟨max N M+1,λk j hk hj=>?_⟩,h9⟩;obtain⟨j,rfl⟩:∃i,j=i+1:=⟨j - 1,by omega⟩;simp only[iter,h2 k (by omega)];exact h8 k j (by omega) (by omega)
    | exit id=>exact⟨(.exit id,e1,S1),stop h2 (by intro h;cases h),h3⟩
    | ret=>exact⟨(.ret,e1,S1),stop h2 (by intro h;cases h),h3⟩
  obtain⟨r,⟨N,h1⟩,h2⟩:=key m hb hf H;exact⟨r,⟨N,λk hk=>h1 k k hk hk⟩,h2⟩
 | scope a _=>intro E e S Kn Kx Kr hs H;cases H
 | rangeFunc f ps a b _ _=>intro E e S Kn Kx Kr hs H;cases H
 | goto l=>intro E e S Kn Kx Kr hs H;cases H
 | refuse w=>intro E e S Kn Kx Kr hs H;cases H
theorem aBz{P:OI}{E e:bD}(hs:SubE E e){S:St}:∀{l:On Ud} {K:On V->Prop},aH2 P E S l K->∃vs,aJi P e S l=.ok vs/\K vs
 | [],K,H=>⟨[],rfl,H⟩
 | .tmp t::l,K,H=>by
  obtain⟨v,h1,H⟩:=aR H;obtain⟨vs,h2,H⟩:=aBz hs H;exact⟨v::vs,by simp only[aJi,hs t v h1,h2],H⟩
 | .cell a t::l,K,H=>by
  obtain⟨p,h1,H⟩:=aR H;obtain⟨v,h3,H⟩:=cQ H;obtain⟨vs,h2,H⟩:=aBz hs H;exact⟨v::vs,by simp only[aJi,hs a p h1,h3,h2],H⟩
theorem jM{P:OI}{cf:Nat->Call}{C:aL}(hc:qT cf C){p:Nat->Ow (On bY)}{lv:Nat->On Nat}{f:PU}{args:On V}{S:St}{K:KW}
  (H:dR P C p lv f args S K):∃v S',Evt (λk=>uN P (cf k) k p f args S) (v,S')/\K v S':=by
 unfold dR at H;obtain⟨b,hb,H⟩:=aR H;unfold aAv at hb;rw[aM4] at hb;split at hb
 ·cases hb
 ·rename_i fn Cg;split at hb
  ·cases hb
  ·rename_i c dv;split at hb
   ·rename_i ag;cases hb;obtain⟨hle,H⟩:=sG H;obtain⟨⟨x,e1,S1⟩,h1,h2⟩:=aOg hc c (SubE.refl _) H;have AW:(Ru args.length fn.ntmps&&QI fn.ntmps eG)=true:=by rw[ag];simpa using hle
    have fin:∀{x:Ex},(∀id,x≠.exit id)->Evt (λk=>fY P p (cf k) k fn.ntmps c (fQ 0 args .nil) S) (x,e1,S1)->(∃E,SubE E e1/\aTg P fn.results.toList K E S1)->
      ∃v S',Evt (λk=>uN P (cf k) k p f args S) (v,S')/\K v S':=by
     rintro x ah h1 ⟨E,h3,h4⟩;obtain⟨vs,h5,h6⟩:=aBz h3 h4;refine⟨tL vs,S1,h1.one λk h1=>?_,h6⟩;simp only[uN,Cg,dv,AW,PW,h1];cases x with
     | exit id=>exact absurd rfl (ah id)
     | normal=>simp only[h5]
     | ret=>simp only[h5]
    cases x with
    | normal=>exact fin (λ_=>Ex.noConfusion) h1 h2
    | ret=>exact fin (λ_=>Ex.noConfusion) h1 h2
    | exit id=>
     obtain⟨E,_,h4⟩:=h2;cases h4
   ·cases hb
end
end Go.AM
end
