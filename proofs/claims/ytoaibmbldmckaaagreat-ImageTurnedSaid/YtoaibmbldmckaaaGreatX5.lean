import Derived.ChangeArms
import Derived.ProofKit
import Derived.Test.YtoaibmbldmckaaaGreatX4
set_option linter.unusedSimpArgs false
set_option linter.unusedVariables false
set_option linter.unusedSectionVars false
set_option maxRecDepth 100000
open Go.AM.V renaming int→O
open Nat renaming reduceLT→Om,le_refl→Ov,reduceAdd→Pi,zero_add→Px,zero_le→PS,le_succ→PX,lt_succ_self→Qb,sub_self→Qt,eq_of_beq_eq_true→Qv,le_trans→QC,blt→QI,add_zero→QT,lt_of_lt_of_le→RE,sub_zero→UK,and_two_pow_sub_one_eq_mod→VW,min_self→Xc
open _root_ renaming List→On,reduceIte→Oo,if_false→Ou,Option→Ow,if_true→Oy,if_neg→Oz,if_pos→OE,not_true_eq_false→OK,not_false_eq_true→OL,UInt8→OP,Bool→Ps,decide_eq_true_eq→PB,cond_true→PW,congrArg→Qo,cond_false→QF,decide_true→Rk,decide_false→Rp,decide_eq_false→RL,False→Sc,True→UF,eq_comm→VY,decide_eq_true→WD
open List renaming getElem?_eq_some_iff→Oq,length_append→OC,getElem?_eq_getElem→OF,mem_of_getElem?→OM,length_map→ON,length_cons→OQ,append_nil→OS,mem_cons_of_mem→OY,getElem?_map→Pc,append_assoc→Pd,getElem?_append_right→Pe,length_nil→Pf,mem_cons_self→Ph,getD_eq_getElem?_getD→Pl,nil_append→Pp,getElem?_append_left→Pr,mem_cons→Pu,mem_map→Pv,map_nil→Py,mem_iff_getElem?→PA,cons_append→PJ,map_append→PK,mem_or_eq_of_mem_set→PN,getElem?_drop→PP,length_drop→PQ,mem_singleton→PR,replicate→PT,length_take→PY,zipWith→Qc,map_cons→Qd,mem_append→Qf,length_set→Qm,drop_eq_nil_of_le→QH,drop_eq_getElem_cons→QV,take_of_length_le→QW,getElem?_eq_none→Re,drop_zero→Rh,take_append_of_le_length→Rj,getElem?_set_self→Rr,map_set→RM,set_append_right→Sn,all_cons→SR,any_nil→SZ,mem_map_of_mem→Tb,drop_length→Tf,getElem_cons_drop→Ts,flatMap_cons→TK,length→TN,length_zipWith→TY,all_nil→Uc,flatMap_map→UB,drop_drop→UU,map→Vm,set_cons_zero→VJ,set_set→VZ,set_append_left→Xf,any_cons→Yx
open Option renaming some→Ot,none→OG
open Go.AM renaming Tr.get_put_sameB→Ox,Tr.get_put_neB→OJ,Own.nil→Rf,Ext.new→Rg,Pt.head→Rq,frzVs→Sm,FnR.of→Sw,cloVs→Tl,Ext.refl→Tm,V.cells→Ur,Ext.var→Wo,Tr.get_cut→WB
open Bool renaming false→OA,true→OB,false_eq_true→OO,and_eq_true→OU,true_eq_false→Pq,and_self→QG,not_true→QL,and_true→QQ,true_and→Rn,not_false→Rs,false_and→RJ,eq_iff_iff→So,not_eq_true'→Su,or_false→Ul,eq_false_iff→Uq,and_false→Yi
open Go renaming TypeId→OH,Program→OI,Value→O',World→PE,FuncId→PU,IntKind→Qa,MemPlace→Wh
open Go.Proofs.YtoaibmbldmckaaaGreat renaming Posted→OT,Posted.enc→Pg,Bal.enc→PC,Part.enc→PI,Ser.enc→PZ,Sess.enc→Qe,State→Qg,Rate.enc→Qk,Ref.zero→Qr,State.zero→Rc,Date.enc→Rz,CNE.num→Sh,State.enc→SB,Line.enc→Tg,Ref.ext_iff→Th,Rate→Tn,Part→TX,Sess→Uj,Total→Up,CNE.txt→Uw,Date→Vo,Total.zero→Wg,CNE.list→Wt,CNE.day→XP
open BitVec renaming ofInt→OX,toNat→Qj,toNat_ofInt→Rx,toNat_and→XB,xor_zero→XJ
open Int renaming lt_irrefl→OZ,toNat_natCast→Pn,eq_ofNat_of_zero_le→Qx,fdiv_eq_ediv_of_nonneg→SP,le_refl→TT,toNat→Va,fdiv→Xn,natCast_one→Yn
open Go.IntKind renaming i64→Pm,u64→PH,u8→RR,signed→Sq,wrap→Tc,bits→Td,min→TD,max→TE,i64→J,u64→ξ,u8→ω
open Eq renaming mpr→Qw
open Option.some renaming injEq→Qy,inj→Qz
open UInt8 renaming ofNat→QK
open Except.ok renaming inj→SL
open Decidable renaming not_and_iff_or_not→TF
open Except renaming ok→TO
open Go.DataW renaming trod→Ve,TrodAll→Wu,Trod→Xo
open Go.Value renaming okWide→WN
open Go.Addr renaming add→XX
section
namespace Go.Proofs.YtoaibmbldmckaaaGreat
open Go.AM Tryz
def fX(c:OP):On V:=[.int ω (c.toNat:Int)]
theorem u81(c:OP):(fX c).length=1/\aH (fX c)=true:=⟨rfl,rfl⟩
theorem bIs{n:Int}(h:0<=n)(h2:n<=9223372036854775807):wr ξ (wr ξ n*2 ^ (min (1:Int).toNat PH.bits))=((Go.Pack.zig n:Nat):Int):=by
 have e:(min (1:Int).toNat PH.bits)=1:=by decide
 rw[e];unfold Go.Pack.zig;rw[OE h];have h1:wr ξ n=n:=by simp[wr,lo,hi,Tc,TD,TE,Td,Sq];omega
 rw[h1];simp[wr,lo,hi,Tc,TD,TE,Td,Sq];omega
theorem bD0{n:Int}(h:n<0)(h2:-9223372036854775808<=n):aH3 (wr ξ (wr ξ n*2 ^ (min (1:Int).toNat PH.bits)))=((Go.Pack.zig n:Nat):Int):=by
 have e:(min (1:Int).toNat PH.bits)=1:=by decide
 rw[e];unfold Go.Pack.zig;rw[Oz (by omega)];have h1:wr ξ n=18446744073709551616+n:=by simp[wr,lo,hi,Tc,TD,TE,Td,Sq];omega
 have h3:wr ξ ((18446744073709551616+n)*2 ^ 1)=18446744073709551616+2*n:=by simp[wr,lo,hi,Tc,TD,TE,Td,Sq];omega
 rw[h1,h3,aSl (by omega) (by omega)];omega
theorem wr8(u:Nat):wr ω (u:Int)=((u % 256:Nat):Int):=by
 simp only[wr,lo,hi,Tc,TD,TE,Td,Sq,RJ,OO,Ou];by_cases h:(u:Int)<=255
 ·rw[OE ⟨by omega,h⟩];omega
 ·rw[Oz (λq=>h q.2)];omega
theorem or8(x:Nat)(h:x<256):Qj (OX 8 (x:Int) ||| OX 8 128)=x % 128+128:=by
 have:=(by decide +kernel:∀x:Fin 256,Qj (OX 8 (x.val:Int) ||| OX 8 128)=x.val % 128+128) ⟨x,h⟩
 exact this
theorem bD1(u:Nat):wr ω ((Qj (OX RR.bits (wr ω (u:Int)) ||| OX RR.bits 128):Nat):Int)=(((QK (u % 128+128)).toNat:Nat):Int):=by
 rw[wr8 u];have e:=or8 (u % 256) (Nat.mod_lt _ (by decide))
 have:Qj (OX RR.bits ((u % 256:Nat):Int) ||| OX RR.bits 128)=u % 256 % 128+128:=e
 rw[this,wr8,Go.Pack.byte_lt (by omega)]
 congr 1
 omega
theorem bA5{u:Nat}(h:u<128):wr ω (u:Int)=(((QK u).toNat:Nat):Int):=by rw[wr8,Go.Pack.byte_lt (by omega)];congr 1;omega
theorem bVo(u:Nat):Xn (u:Int) (2 ^ (min (Va 7) PH.bits))=((u / 128:Nat):Int):=by
 rw[show(min (Va 7) PH.bits)=7 from by decide,SP _ (by decide)];omega
theorem bVp(t:Nat)(k:Qa)(a:Int):cC prog .shl t (.int k a) (.int ξ 1)=.ok (.int k (wr k (a*2 ^ (min (1:Int).toNat k.bits)))):=rfl
theorem bPi(t:Nat)(k:Qa)(a:Int):cC prog .shr t (.int k a) (.int ξ 7)=.ok (.int k (Xn a (2 ^ (min (Va 7) k.bits)))):=rfl
theorem bVq(t:Nat)(a b:Int):cC prog .or t (.int ω a) (.int ω b)=.ok (.int ω (wr ω ((Qj (OX RR.bits a ||| OX RR.bits b):Nat):Int))):=rfl
theorem Own.pushX{S0 S:St}{n b:Nat}{v:V}{es:On (On V)}(h:Own S0 S n v es)(x:Ext S0 S)(w:WF S0)(he:es≠[]){u:V}{cs:On (On V)}(hu:aK S u=.ok cs)(hc:∀c,c∈cs->c.length=n/\aH c=OB)
  (h1:(es.length+cs.length)*b<=35184372088832) (h2:es.length+cs.length<eG):∃v' S',eC n b v u OG S=.ok (v',S')/\Ext S0 S'/\S'.next<=S.next+1/\Own S0 S' n v' (es++cs):=by
 by_cases ah:cs=[]
 ·subst ah;rcases h.is with ⟨rfl,rfl⟩ | ⟨a,ver,tl,rfl,q1,q2,q3⟩
  ·exact absurd rfl he
  ·have g:aC S a ver=.ok (n,es++tl):=aF q3;refine⟨.sl a (ver+1) n 0 es.length,⟨S.next,S.heap.put a (.row (ver+1) n es)⟩,?_,x.set q1 q2 w _,PX _,⟨.inr ⟨a,ver+1,[],by rw[OS],q1,q2,by rw[OS,OS];exact Ox _ _ _ trivial⟩,by rw[OS];exact h.len⟩⟩;simp only[Pf,QT] at h1 h2;simp only[eC,hu,kG,Uc,and_self,Oy,g,Px,OC,Nat.le_add_right,Pf,QT,h1,h2,Rh,OS,List.take_left']
 ·exact h.push x w hu hc ah h1 h2
theorem bD2(n:Int):Go.Pack.numP n≠[]:=λe=>by have:=Go.Pack.nb_pos (Go.Pack.zig n);unfold Go.Pack.numP at e;rw[e] at this;exact absurd this (by decide)
theorem aSm(s:On OP):txt.put s=Go.Pack.numP (s.length:Int)++s:=rfl
theorem aNc(f:Ps):Go.Pack.flag.put f=Go.Pack.numP (if f=OB then 1 else 0):=by cases f<;>rfl
def eI(ns:On Int):On UInt8:=ns.flatMap Go.Pack.numP
theorem nC(s:On OP)(h:s.length<1000000):(txt.put s).length<=10+s.length:=by
 rw[aSm,OC]
 have:=Go.Pack.numP_len (n:=(s.length:Int)) ⟨by omega,by omega⟩
 omega
theorem sW:∀ns:On Int,(∀n∈ns,I64 n)->(eI ns).length<=10*ns.length
 | [],_=>Ov _
 | n::ns,h=>by
  have:=sW ns λm hm=>h m (OY _ hm)
  have:=Go.Pack.numP_len (h n (Ph ..))
  simp only[eI,TK,OC,OQ] at *
  omega
theorem alc{a:Int}{l:On Int}(h:I64 a)(t:∀n∈l,I64 n):∀n∈a::l,I64 n:=List.forall_mem_cons.2 ⟨h,t⟩
theorem al0:∀n∈([]:On Int),I64 n:=λ_ h=>by cases h
def aNd(d:Vo):Prop:=I64 d.y/\I64 d.m/\I64 d.d
theorem bD3(d:Vo):mE.put d=eI [d.y,d.m,d.d]:=by
 show Go.Pack.numP d.y++(Go.Pack.numP d.m++Go.Pack.numP d.d)=_;simp[eI]
def aDa(p:TX):On UInt8:=txt.put p.cat++eI [p.bp,p.net]
structure PostI' (p:OT):Prop where
 ser:p.ref.ser.length<=64
 day:aNd p.day
 ofs:p.of.ser.length<=64
 num:I64 p.of.num
 len:p.total.parts.length<=12
 parts:∀q∈p.total.parts,q.cat.length<=64/\I64 q.bp/\I64 q.net
def wQ(p:OT):On UInt8:=txt.put p.ref.ser++(mE.put p.day++(txt.put p.of.ser++(eI [p.of.num,(p.total.parts.length:Int)]++p.total.parts.flatMap aDa)))
theorem bA6(p:OT):aHa.put (wM p)=wQ p:=by
 show txt.put p.ref.ser++(mE.put p.day++(txt.put p.of.ser++(Go.Pack.numP p.of.num++(Go.Pack.numP (((p.total.parts.map aD8).length:Nat):Int)++(p.total.parts.map aD8).flatMap aD7.put))))=_;have e:(p.total.parts.map aD8).flatMap aD7.put=p.total.parts.flatMap aDa:=by
  rw[UB]
  congr 1
  funext q;show txt.put q.cat++(Go.Pack.numP q.bp++Go.Pack.numP q.net)=_;simp[aDa,eI]
 rw[e,ON];simp[wQ,eI]
theorem aG9{n:Nat}(h:n<1000000000):I64 (n:Int):=⟨by omega,by omega⟩
theorem aNe{p:TX}(h:p.cat.length<=64/\I64 p.bp/\I64 p.net):(aDa p).length<=94:=by
 have h1:=nC p.cat (by omega);have h2:=sW [p.bp,p.net] (alc h.2.1 (alc h.2.2 al0));simp only[aDa,OC,OQ,Pf] at *
 omega
structure ImgOK (s:Qg):Prop where
 t1:s.table.length<=24
 t2:∀r∈s.table,r.cat.length<=64/\aNd r.day/\I64 r.bp
 s1:s.ser.length<=8
 s2:∀x∈s.ser,x.name.length<=64/\I64 x.limit
 p1:s.posted.length<=40
 p2:∀p∈s.posted,PostI' p
 e1:s.sess.length<=8
 e2:∀x∈s.sess,I64 x.id/\I64 x.last/\I64 x.reply.why/\I64 x.reply.number/\I64 x.reply.gross
 n:I64 s.next
theorem ImgOK.of{s:Qg}(h:aN4.ok (aPt s)):ImgOK s:=by
 obtain⟨⟨t1,t2⟩,⟨s1,s2⟩,⟨p1,p2⟩,⟨e1,e2⟩,n⟩:=h;refine⟨t1,λr hr=>t2 r hr,?_,λx hx=>?_,?_,λp hp=>?_,?_,λx hx=>?_,n⟩
 ·simpa[aPt] using s1
 ·obtain⟨a,b,c⟩:=s2 (aL1 x) (Tb hx);exact⟨a,b⟩
 ·simpa[aPt] using p1
 ·obtain⟨a,b,c,d,e1,e2⟩:=p2 (wM p) (Tb hp);refine⟨a,b,c,d,by simpa[wM] using e1,λq hq=>?_⟩;obtain⟨x,y,z⟩:=e2 (aD8 q) (Tb hq);exact⟨x,y,z⟩
 ·simpa[aPt] using e1
 ·exact e2 (aBf x) (Tb hx)
def yN(r:Tn):On UInt8:=txt.put r.cat++(mE.put r.day++eI [r.bp])
def aHb(x:Ser):On UInt8:=txt.put x.name++(eI [x.limit]++Go.Pack.flag.put x.shut)
def aDb(x:Uj):On UInt8:=eI [x.id,x.last,x.reply.why,x.reply.number,x.reply.gross]
def aGa(s:Qg):On UInt8:=eI [(s.table.length:Int)]++s.table.flatMap yN++eI [(s.ser.length:Int)]++s.ser.flatMap aHb++eI [(s.posted.length:Int)]++s.posted.flatMap wQ++eI [(s.sess.length:Int)]++s.sess.flatMap aDb++eI [s.next]
theorem bD4(s:Qg):aN4.put (aPt s)=aGa s:=by
 show(Go.Pack.numP (s.table.length:Nat)++s.table.flatMap aBd.put)++((Go.Pack.numP (((s.ser.map aL1).length:Nat):Int)++(s.ser.map aL1).flatMap aL0.put)++((Go.Pack.numP (((s.posted.map wM).length:Nat):Int)++(s.posted.map wM).flatMap aHa.put)++((Go.Pack.numP (((s.sess.map aBf).length:Nat):Int)++(s.sess.map aBf).flatMap aBe.put)++Go.Pack.numP s.next)))=_;have e1:aBd.put=yN:=by funext r;show txt.put r.cat++(mE.put r.day++Go.Pack.numP r.bp)=_;simp[yN,eI]
 have e2:(s.ser.map aL1).flatMap aL0.put=s.ser.flatMap aHb:=by
  rw[UB];congr 1;funext x;show txt.put x.name++(Go.Pack.numP x.limit++Go.Pack.flag.put x.shut)=_;simp[aHb,eI]
 have e3:(s.posted.map wM).flatMap aHa.put=s.posted.flatMap wQ:=by
  rw[UB];congr 1;funext p;exact bA6 p
 have e4:(s.sess.map aBf).flatMap aBe.put=s.sess.flatMap aDb:=by
  rw[UB];congr 1;funext x;show Go.Pack.numP x.id++(Go.Pack.numP x.last++(Go.Pack.numP x.reply.why++(Go.Pack.numP x.reply.number++Go.Pack.numP x.reply.gross)))=_;simp[aDb,eI]
 rw[e1,e2,e3,e4];simp[aGa,eI]
def grow{α:Type}(f:α->On OP)(b:On OP)(x:α):On OP⊕On UInt8:=.inr (b++f x)
theorem bHe{α:Type}(f:α->On OP):∀(l:On α) (b:On OP),aD (grow f) id l b=b++l.flatMap f
 | [],b=>by simp[aD]
 | x::l,b=>by
  show aD (grow f) id l (b++f x)=_;rw[bHe f l];simp
theorem xV{n:Int}(h:I64 n):(eI [n]).length<=10:=sW [n] (alc h al0)
theorem bA7(f:Ps):(Go.Pack.flag.put f).length<=10:=by rw[aNc];cases f<;>exact Go.Pack.numP_len ⟨by decide,by decide⟩
theorem aBg{d:Vo}(h:aNd d):(mE.put d).length<=30:=by rw[bD3];exact sW _ (alc h.1 (alc h.2.1 (alc h.2.2 al0)))
theorem aNf{r:Tn}(h:r.cat.length<=64/\aNd r.day/\I64 r.bp):(yN r).length<=114:=by
 have h1:=nC r.cat (by omega);have h2:=aBg h.2.1;have h3:=xV h.2.2
 simp only[yN,OC];omega
theorem aSn{x:Ser}(h:x.name.length<=64/\I64 x.limit):(aHb x).length<=94:=by
 have h1:=nC x.name (by omega);have h2:=xV h.2;have h3:=bA7 x.shut
 simp only[aHb,OC];omega
theorem xW{α:Type}(f:α->On OP){n:Nat}:∀l:On α,(∀a∈l,(f a).length<=n)->(l.flatMap f).length<=n*l.length
 | [],_=>PS _
 | x::l,h=>by
  have h1:=h x (Ph ..);have h2:=xW f l λa ha=>h a (OY _ ha);simp only[TK,OC,OQ,Nat.mul_add];omega
theorem aJ6{p:OT}(h:PostI' p):(wQ p).length<=1326:=by
 have h1:=nC p.ref.ser (by have:=h.ser;omega);have h2:=aBg h.day;have h3:=nC p.of.ser (by have:=h.ofs;omega)
 have h4:=sW [p.of.num,(p.total.parts.length:Int)] (alc h.num (alc (aG9 (by have:=h.len;omega)) al0));have h5:=xW aDa (n:=94) p.total.parts λq hq=>aNe (h.parts q hq)
 have:=h.ser;have:=h.ofs;have:=h.len
 simp only[wQ,OC,OQ,Pf] at *;omega
theorem aNg{x:Uj}(h:I64 x.id/\I64 x.last/\I64 x.reply.why/\I64 x.reply.number/\I64 x.reply.gross):(aDb x).length<=50:=sW _ (alc h.1 (alc h.2.1 (alc h.2.2.1 (alc h.2.2.2.1 (alc h.2.2.2.2 al0)))))
theorem bIt(t:Nat)(a:Int):cC prog .shr t (O J a) (.int ξ 63)=.ok (O J (a.fdiv (2 ^ 63))):=rfl
theorem bVr(t:Nat)(a b:Int):cC prog .xor t (.int ξ a) (.int ξ b)=.ok (.int ξ (wr ξ ((Qj (OX PH.bits a ^^^ OX PH.bits b):Nat):Int))):=rfl
theorem bA8(t:Nat)(a b:Int):cC prog .and t (.int ξ a) (.int ξ b)=.ok (.int ξ (wr ξ ((Qj (OX PH.bits a &&& OX PH.bits b):Nat):Int))):=rfl
theorem aDc{u:Nat}(h:u<2 ^ 64):wr ξ (u:Int)=(u:Int):=by
 unfold wr;rw[OE ⟨by show(0:Int)<=_;omega,by show _<=(18446744073709551615:Int);omega⟩]
theorem bIu{u:Nat}(h:u<2 ^ 64):wr ξ ((Qj (OX PH.bits (u:Int) &&& OX PH.bits 127):Nat):Int)=((u % 128:Nat):Int):=by
 have e:Qj (OX PH.bits (u:Int) &&& OX PH.bits 127)=u % 128:=by
  rw[XB];have e1:(OX PH.bits (u:Int)).toNat=u:=by rw[Rx];show((u:Int) % ((2 ^ 64:Nat):Int)).toNat=u;omega
  have e2:(OX PH.bits 127).toNat=2 ^ 7 - 1:=by decide
  rw[e1,e2,VW]
 rw[e,aDc (by omega)]
theorem bVs{n:Int}(hn:I64 n):wr ξ ((Qj (OX PH.bits (wr ξ (wr ξ n*2 ^ (min (1:Int).toNat PH.bits))) ^^^ OX PH.bits (wr ξ (n.fdiv (2 ^ 63)))):Nat):Int)=((Go.Pack.zig n:Nat):Int):=by
 have hz:=Go.Pack.zig_lt hn;have qx:=hn;obtain⟨h1,h2⟩:=qx;by_cases h:n<0
 ·have e:wr ξ (n.fdiv (2 ^ 63))=18446744073709551615:=by
   rw[SP _ (by decide),show n / 2 ^ 63=-1 by omega];decide
  rw[e,BitVec.xor_comm];exact bD0 h hn.1
 ·have e:wr ξ (n.fdiv (2 ^ 63))=0:=by
   rw[SP _ (by decide),show n / 2 ^ 63=0 by omega];decide
  rw[e,bIs (by omega) hn.2];have e2:Qj (OX PH.bits ((Go.Pack.zig n:Nat):Int) ^^^ OX PH.bits 0)=Go.Pack.zig n:=by
   have:OX PH.bits 0=0#_:=by decide
   rw[this,XJ,Rx];show(((Go.Pack.zig n:Nat):Int) % ((2 ^ 64:Nat):Int)).toNat=_;omega
  rw[e2,aDc hz]
theorem g97{S:St}{v:V}{b:On OP}(w:WF S)(hv:Sl S 1 v (b.map fX))(hb:b.length<10000000)(n:Int)(hn:I64 n){K:KW}(H:∀v' S',Ext S S'->Own S S' 1 v' ((b++Go.Pack.numP n).map fX)->K v' S'):C 97 [v,O J n] S K:=by
 refine v97 ?_;have x0:Ext S ⟨S.next+1,S.heap.put S.next (.row 0 1 [])⟩:=Rg w _;have q:=aJ5 (b:=1) u81 b (S:=⟨S.next+1,S.heap.put S.next (.row 0 1 [])⟩) (a:=S.next) (hv.ext x0).elems (aA _ _ _ _ _ _) (by omega) (by unfold eG;omega) OG;have b0:∀(z:On V) (fr:Ow Nat) (S:St),cX 1 z 0 [] fr S=(match bR fr S (.row 0 1 []) with
  | .error e=>.error e
  | .ok (a,S')=>.ok (.sl a 0 1 0 0,S')):=λz fr S=>by unfold cX;rw[OE (by decide)];rfl
 delta Tryz.f97;simp only[↓cw,↓Oo,Om,kk,b0,q,bVp,bIt,bVr,bVs hn];refine eH (λi vs X=>∃v' done,vs=[v',.int ξ (i:Int)]/\Own S X 1 v' (done.map fX)/\Ext S X/\done++Go.Pack.nb i=b++Go.Pack.numP n/\i<2 ^ 64) ?_ ⟨_,b,rfl,⟨.inr ⟨S.next,1,[],by rw[ON],Ov _,Qb _,by rw[OS];exact Ox _ _ _ trivial⟩,λc hc=>by obtain⟨x,_,rfl⟩:=Pv.1 hc;exact u81 x⟩,x0.set (Ov _) (Qb _) w _,rfl,Go.Pack.zig_lt hn⟩;rintro u vs X ⟨v',done,rfl,o,x,e,hu⟩ aE ha;have hX:=x.wf w;have hl:done.length+(Go.Pack.nb u).length=b.length+(Go.Pack.numP n).length:=by rw[<-OC,e,OC]
 have CM:=Go.Pack.numP_len hn;have hnu:=Go.Pack.nb_pos u;by_cases h:u<128
 ·have ea:Go.Pack.nb u=[QK u]:=Go.Pack.nb_low h;have x2:Ext X ⟨X.next+1,X.heap.put X.next (.row 0 1 [fX (QK u)])⟩:=Rg hX _;obtain⟨v2,X2,q1,x3,n3,o2⟩:=(o.ext x2).push (b:=1) (x.trans x2) w (u:=.sl X.next 0 1 0 1) (cs:=[fX (QK u)]) (by simp only[aK,aA];rfl) (λc hc=>by rcases PR.1 hc with rfl;exact u81 _) (by simp) (by simp;omega) (by simp[eG];omega);simp only[fX] at q1;simp only[↓cw,↓Oo,Om,kk,show¬(128:Int)<=(u:Int) by omega,Ou,bA5 h,aUb,q1];exact H _ _ x3 (by rw[<-e,ea];simpa using o2)
 ·have ea:Go.Pack.nb u=QK (u % 128+128)::Go.Pack.nb (u / 128):=Go.Pack.nb_high h;have x2:Ext X ⟨X.next+1,X.heap.put X.next (.row 0 1 [fX (QK (u % 128+128))])⟩:=Rg hX _;obtain⟨v2,X2,q1,x3,n3,o2⟩:=(o.ext x2).push (b:=1) (x.trans x2) w (u:=.sl X.next 0 1 0 1) (cs:=[fX (QK (u % 128+128))]) (by simp only[aK,aA];rfl) (λc hc=>by rcases PR.1 hc with rfl;exact u81 _) (by simp) (by simp;omega) (by simp[eG];omega);simp only[fX] at q1;have nbm:=bD1 (u % 128);rw[Nat.mod_mod] at nbm;simp only[↓cw,↓Oo,Om,kk,show(128:Int)<=(u:Int) by omega,Oy,bA8,bIu hu,bVq,nbm,aUb,q1,bPi,bVo];exact ha (u / 128) _ _ (by omega) ⟨v2,done++[QK (u % 128+128)],rfl,by simpa using o2,x3,by rw[<-e,ea];simp,by omega⟩
theorem g99{S:St}{v:V}{b:On OP}(w:WF S)(hv:Sl S 1 v (b.map fX))(hb:b.length<1000000)(s:On OP)(hs:s.length<1000000){K:KW}(H:∀v' S',Ext S S'->Own S S' 1 v' ((b++txt.put s).map fX)->K v' S'):C 99 [v,.str s] S K:=by
 refine v99 ?_;delta Tryz.f99;simp only[↓cw,↓Oo,Om,kk];refine g97 w hv (by omega) _ (by constructor<;>omega) λv2 S2 x2 o2=>?_;have CM:=Go.Pack.numP_len (n:=(s.length:Int)) ⟨by omega,by omega⟩;obtain⟨v3,S3,q1,x3,n3,o3⟩:=Own.pushX (b:=1) o2 x2 w (by simp[bD2]) (u:=.str s) (cs:=s.map fX) rfl (λc hc=>by obtain⟨y,_,rfl⟩:=Pv.1 hc;exact u81 y) (by simp;omega) (by simp[eG];omega);simp only[↓cw,↓Oo,Om,kk,q1];exact H _ _ x3 (by rw[aSm,<-Pd,PK];exact o3)
theorem bVt{S:St}{v:V}{b:On OP}(w:WF S)(hv:Sl S 1 v (b.map fX))(hb:b.length<1000000)(f:Ps){K:KW}(H:∀v' S',Ext S S'->Own S S' 1 v' ((b++Go.Pack.flag.put f).map fX)->K v' S'):C 100 [v,.bool f] S K:=by
 refine bQv ?_;rw[aNc] at H;delta Tryz.f100;cases f<;>simp only[↓cw,↓Oo,Om,kk,OO,Oy,Ou]
 ·exact g97 w hv (by omega) 0 (by constructor<;>omega) λv' S' x o=>H v' S' x o
 ·exact g97 w hv (by omega) 1 (by constructor<;>omega) λv' S' x o=>H v' S' x o
theorem g98{S:St}{v:V}{b:On OP}(w:WF S)(hv:Sl S 1 v (b.map fX))(hb:b.length<1000000)(d:Vo)(hd:aNd d){K:KW}(H:∀v' S',Ext S S'->Own S S' 1 v' ((b++mE.put d).map fX)->K v' S'):C 98 [v,.agg [O J d.y,O J d.m,O J d.d]] S K:=by
 refine v98 ?_;obtain⟨S1,av⟩:∃S1:St,S1=⟨S.next+1+11,S.heap.put S.next (.row 0 3 [d.enc])⟩:=⟨_,rfl⟩;have x1:Ext S S1:=by rw[av];exact(Rg w _).bump 11
 have r1:aC S1 S.next 0=.ok (3,[d.enc]):=by rw[av];exact aA _ _ _ _ _ _
 simp only[Rz] at av r1;have p1:=Go.Pack.numP_len hd.1;have p2:=Go.Pack.numP_len hd.2.1
 delta Tryz.f98;simp only[↓cw,↓Oo,Om,kk,<-av,r1];refine g97 (x1.wf w) (hv.ext x1) (by omega) d.y hd.1 λv2 S2 x2 o2=>?_;have w2:=x2.wf (x1.wf w);simp only[↓cw,↓Oo,Om,kk,x2.row r1];refine g97 w2 o2.sl (by rw[OC];omega) d.m hd.2.1 λv3 S3 x3 o3=>?_;have w3:=x3.wf w2;simp only[↓cw,↓Oo,Om,kk,(x2.trans x3).row r1];refine g97 w3 o3.sl (by simp only[OC];omega) d.d hd.2.2 λv4 S4 x4 o4=>?_;simp only[Pd] at o4;exact H v4 S4 (((x1.trans x2).trans x3).trans x4) ((o4.weaken (((x1.trans x2).trans x3)).next:Own S S4 1 v4 _))
theorem bVu{S:St}{v:V}{b:On OP}(w:WF S)(hv:Sl S 1 v (b.map fX))(hb:b.length<1000000)(r:Rep)(hr:I64 r.why/\I64 r.number/\I64 r.gross){K:KW}(H:∀v' S',Ext S S'->Own S S' 1 v' ((b++eI [r.why,r.number,r.gross]).map fX)->K v' S'):C 101 [v,.agg [O J r.why,O J r.number,O J r.gross]] S K:=by
 refine bQw ?_;obtain⟨S1,av⟩:∃S1:St,S1=⟨S.next+1+11,S.heap.put S.next (.row 0 3 [[O J r.why,O J r.number,O J r.gross]])⟩:=⟨_,rfl⟩;have x1:Ext S S1:=by rw[av];exact(Rg w _).bump 11
 have r1:aC S1 S.next 0=.ok (3,[[O J r.why,O J r.number,O J r.gross]]):=by rw[av];exact aA _ _ _ _ _ _
 have p1:=Go.Pack.numP_len hr.1;have p2:=Go.Pack.numP_len hr.2.1
 delta Tryz.f101;simp only[↓cw,↓Oo,Om,kk,<-av,r1];refine g97 (x1.wf w) (hv.ext x1) (by omega) r.why hr.1 λv2 S2 x2 o2=>?_;have w2:=x2.wf (x1.wf w);simp only[↓cw,↓Oo,Om,kk,x2.row r1];refine g97 w2 o2.sl (by rw[OC];omega) r.number hr.2.1 λv3 S3 x3 o3=>?_;have w3:=x3.wf w2;simp only[↓cw,↓Oo,Om,kk,(x2.trans x3).row r1];refine g97 w3 o3.sl (by simp only[OC];omega) r.gross hr.2.2 λv4 S4 x4 o4=>?_;have e:b++Go.Pack.numP r.why++Go.Pack.numP r.number++Go.Pack.numP r.gross=b++eI [r.why,r.number,r.gross]:=by simp[eI]
 rw[e] at o4;exact H v4 S4 (((x1.trans x2).trans x3).trans x4) (o4.weaken (((x1.trans x2).trans x3)).next)
theorem aGb{α:Type}(f:α->On OP)(l:On α){B:Nat}{X0 Y:St}{v:V}{b:On OP}{F:On V->St->(On V->St->Prop)->Prop}(hlen:∀x∈l,(f x).length<=B)(h0:Ext X0 Y)(hv:Sl Y 1 v (b.map fX))
  (hs:∀i x d v X,l[i]?=Ot x->Ext X0 X->Sl X 1 v (d.map fX)->d.length<=b.length+B*i->∀aE:On V->St->Prop,(∀v' X',Ext X0 X'->Sl X' 1 v' ((d++f x).map fX)->aE [v',O J ((i+1:Nat):Int)] X')->F [v,O J (i:Int)] X aE)
  (he:∀v X aE,Ext X0 X->Sl X 1 v ((b++l.flatMap f).map fX)->F [v,O J (l.length:Int)] X aE):iN [v,O J 0] Y F:=by
 refine aG l (step:=grow f) (fin:=id) (λi d vs X=>∃v,vs=[v,O J (i:Int)]/\Ext X0 X/\Sl X 1 v (d.map fX)/\d.length<=b.length+B*i) (λd=>d=b++l.flatMap f) ?_ ?_ (s:=b) ⟨v,rfl,h0,hv,Ov _⟩ (bHe f l b)
 ·rintro i x d vs X hi ⟨v,rfl,bt,Iq,hd⟩ aE Hq;refine hs i x d v X hi bt Iq hd aE λv' X' h1 h2=>Hq _ _ ⟨v',rfl,h1,h2,?_⟩
  have:=hlen x (OM hi)
  rw[OC,Nat.mul_add];omega
 ·rintro d vs X ⟨v,rfl,bt,Iq,hd⟩ aE Hq;have Hq:d=b++l.flatMap f:=Hq;exact he v X aE bt (by rw[<-Hq];exact Iq)
theorem aGc(n:Int):Go.Pack.numP n=eI [n]:=by simp[eI]
theorem bPl(t:Up)(hf:oP t):FnK prog lS 121 [.agg [O J t.net,O J t.tax,O J t.gross,.imm (t.parts.map PI)]] (.tup [.imm ((bQ t).1.map PC),O J (bQ t).2]):=by
 refine bR9 ?_;delta Tryz.f121;simp only[↓cw,↓Oo,Om,kk,bCf,eY,gm];have bc:=hf.1;refine aG t.parts (step:=kQ) (fin:=λl=>(l,0)) (λi s vs S=>∃v,vs=[.nils,O J 0,v,O J (i:Int)]/\Own E0 S 2 v (s.map PC)/\WF S/\s.length=1+2*i/\aC S 0 0=.ok (4,[t.enc])/\AM.blkOf v≠Ot 0/\2<=S.next) (λr=>r=bQ t) ?_ ?_ (s:=[⟨[111,119,101,100],t.gross⟩]) ⟨_,rfl,⟨.inr ⟨1,0,[],rfl,PS _,Qb 1,rfl⟩,?_⟩,gO (gO (m:=1) mB (by decide) (by decide)) (by decide) (by decide),rfl,rfl,λh=>(by cases h),Ov _⟩ rfl
 ·rintro i p s vs S hi ⟨v,rfl,own,w,cd,r0,uk,hn⟩ aE H;have ai:=(Oq.1 hi).1;have HN:=hf.2 p (OM hi);simp only[↓cw,↓Oo,Om,kQ,kk] at H;have e1:zL.length+p.cat.length<2000000:=by simp only[zL,OQ,Pf];omega
  have e2:zM.length+p.cat.length<2000000:=by simp only[zM,OQ,Pf];omega
  have c1:=aE5 (P:=prog) (t:=9) e1;have c2:=aE5 (P:=prog) (t:=9) e2;simp only[zL,zM] at c1 c2;simp only[Total.enc] at r0;simp only[↓cw,↓Oo,Om,kk,r0,bG hi,Oy,kJ hi,PI,gM (show i<1000000000 by omega),bIb,dU,gm,c1,c2,bH2];by_cases h1:(cM 0 p.net).2=0
  ·by_cases h2:(cM 0 p.tax).2=0
   ·simp only[↓cw,↓Oo,Om,h1,h2,kk,OK,Ou] at H|-
    have f1:S.heap.get (S.next+19)=none:=fresh w (by omega);have f2:S.heap.get (S.next+20)=none:=fresh w (by omega);have w1:WF ⟨S.next+22,S.heap.put (S.next+19) (.row 0 2 [PC ⟨zL++p.cat,(cM 0 p.net).1⟩,PC ⟨zM++p.cat,(cM 0 p.tax).1⟩])⟩:=gO (n:=S.next) w (by omega) (by omega);have o1:Own E0 ⟨S.next+22,S.heap.put (S.next+19) (.row 0 2 [PC ⟨zL++p.cat,(cM 0 p.net).1⟩,PC ⟨zM++p.cat,(cM 0 p.tax).1⟩])⟩ 2 v (s.map PC):=own.same (by show S.next<=S.next+22;omega) λa ha=>OJ _ _ _ _ trivial (by have:=(cE own ha).2;omega);have hu:aK ⟨S.next+22,S.heap.put (S.next+19) (.row 0 2 [PC ⟨zL++p.cat,(cM 0 p.net).1⟩,PC ⟨zM++p.cat,(cM 0 p.tax).1⟩])⟩ (.sl (S.next+19) 0 2 0 2)=.ok [PC ⟨zL++p.cat,(cM 0 p.net).1⟩,PC ⟨zM++p.cat,(cM 0 p.tax).1⟩]:=by
     simp only[aK,aA];rfl
    have f3:(⟨S.next+22,S.heap.put (S.next+19) (.row 0 2 [PC ⟨zL++p.cat,(cM 0 p.net).1⟩,PC ⟨zM++p.cat,(cM 0 p.tax).1⟩])⟩:St).heap.get (S.next+20)=none:=by
     show(S.heap.put (S.next+19) _).get (S.next+20)=OG;rw[OJ _ _ _ _ trivial (by omega)];exact f2
    obtain⟨v',S',q1,q2,q3,q4,q5,q6⟩:=o1.pushAt (b:=24) (k:=S.next+20) (rV w1) mB hu (λd hd=>by
     rcases Pu.1 hd with rfl | hd
     ·exact aH7 _
     ·rcases Pu.1 hd with rfl | hd
      ·exact aH7 _
      ·cases hd) (by simp) (PS _) (by show S.next+20<S.next+22;omega) f3 (by simp;omega) (by simp[eG];omega)
    simp only[↓cw,↓Oo,Om,PC,zL,zM,kk] at q1;simp only[↓cw,↓Oo,Om,q1,kk];have wS:WF S':=q2.wf mB;have LA:S'.next=S.next+22:=q3;refine H _ _ ⟨_,rfl,by rw[PK];exact q4,wS,by rw[OC,cd];simp;omega,?_,?_,by omega⟩
    ·refine aX (S:=S) r0 ?_;rw[q6 0 (by omega) uk];exact OJ _ _ _ _ trivial (by omega)
    ·rcases q5 with e | e
     ·rw[e];intro h;cases h
     ·rw[e];exact uk
   ·simp only[↓cw,↓Oo,Om,h1,h2,kk,OK,OL,Ou,Oy] at H|-
    exact⟨rfl,by simp only[oo,<-H,Py]⟩
  ·simp only[↓cw,↓Oo,Om,h1,kk,OL,Oy] at H|-
   exact⟨rfl,by simp only[oo,<-H,Py]⟩
 ·rintro s vs S ⟨v,rfl,own,w,cd,r0,uk,hn⟩ aE H;have H':bQ t=(s,0):=H.symm;simp only[Total.enc] at r0;simp only[↓cw,↓Oo,Om,kk,r0,OZ,Ou];exact⟨by simp only[aEl,SR,Uc,own.newV (aFn (λ_=>rfl) _),Rn,QQ];rfl,by simp only[oo,own.frz (aU (λ_=>rfl) _),H']⟩
 ·intro c hc;simp at hc;subst hc;exact⟨rfl,rfl⟩
theorem bVv(t:Up)(hf:oP t)(S:St)(K:KW):C 121 [.agg [O J t.net,O J t.tax,O J t.gross,.imm (t.parts.map PI)]] S K=K (.tup [.imm ((bQ t).1.map PC),O J (bQ t).2]) S:=(bPl t hf).eq (by simp only[Tl,nK,aU (enc:=PI) (λ_=>rfl) t.parts,QG]) S K
theorem bPm(book l:On Bal)(so:book.length+l.length<1000000)(S:St)(K:KW):C 122 [.imm (book.map PC),.imm (l.map PC)] S K=K (.tup [.imm ((aV book l).1.map PC),O J (aV book l).2]) S:=by
 refine(bTe rfl ?_).eq S K;simp only[bBu,kk,bVl book (by omega),aV];cases h:yI book
 ·simp only[h,kk,Rs,Oy,oo,Py]
 simp only[h,kk,QL,Pq,OO,Ou,bs0];have q0:=aZv (b:=24) aH7 book (S:=⟨0+1,Tr.nil.put 0 (.row 0 2 [])⟩) (a:=0) (aA _ _ _ _ _ _) (by omega) (by unfold eG;omega) OG;simp only[q0];refine aG l (step:=bN) (fin:=λl=>(l,0)) (λi cur vs X=>∃a ver,vs=[.nils,O J 0,.sl a ver 2 0 cur.length,O J (i:Int)]/\X.heap.get a=Ot (.row ver 2 (cur.map PC))/\WF X/\cur.length<=book.length+i) (λr=>r=aD bN (λl=>(l,0)) l book) ?_ ?_ (s:=book) ⟨0,1,rfl,Ox _ _ _ trivial,gO (n:=1) (gO mB (by decide) (by decide)) (by decide) (by decide),Ov _⟩ rfl
 ·rintro i x cur vs X hi ⟨a,ver,rfl,hg,w,hlen⟩ aE H;have ai:=(Oq.1 hi).1;have haX:=w _ _ hg;have bc:=qW cur x.acc;have ay:(bX cur x.acc).length<=cur.length+1:=by
   unfold bX;split
   ·rw[pC _ _ _ bc];exact Ov _
   ·omega
  have ug:∀(a' bd:Nat) (Y:St),Y.heap.get a'=Ot (.row bd 2 ((bX cur x.acc).map PC))->WF Y->aDw C (λv0 S0=>eX S0 v0=TO (V.tup [.imm ((aD bN (λl=>(l,0)) l book).1.map PC),O J (aD bN (λl=>(l,0)) l book).2])) aE (.imm (l.map PC)) .nils (O J 0) (.sl a' bd 2 0 (bX cur x.acc).length) (O J (i:Int)) (O J (aM cur x.acc:Int)) Y:=by
   intro a' bd Y hY wY;have ag:aM cur x.acc<(bX cur x.acc).length:=by
    by_cases c:aM cur x.acc<cur.length
    ·unfold bX;split
     ·rw[pC _ _ _ bc];omega
     ·exact c
    ·have hm:gY cur x.acc=true:=by unfold gY;rw[Re (by omega)]
     unfold bX;rw[OE hm,pC _ _ _ bc];omega
   obtain⟨r,hr⟩:∃r,(bX cur x.acc)[aM cur x.acc]?=Ot r:=⟨_,OF ag⟩;have mr:((bX cur x.acc).map PC)[aM cur x.acc]?=Ot r.enc:=by rw[Pc,hr];rfl
   have da:∀m,fZ OG (.ptr a' bd (aM cur x.acc) 1) ⟨m,Y.heap⟩=.ok (O J r.amount):=λm=>by
    rw[bA4 (X:=⟨m,Y.heap⟩) hY mr];rfl
   have fq:=bHd (X:=⟨Y.next+16,Y.heap⟩) (v:=O J (dH r.amount x.amount).1) (j:=1) hY mr rfl rfl (by show 1+1<=2;decide);simp only[bN,hr] at H;simp only[aDw,kk,aNb ag,da,oJ hi,PC,bI9,dU,gM (show i<1000000000 by omega),Px];by_cases c:(dH r.amount x.amount).2=0
   ·simp only[c,OK,Ou] at H|-
    have tj:eL 1 (.ptr a' bd (aM cur x.acc) 1) (O J (dH r.amount x.amount).1) ⟨Y.next+16,Y.heap⟩=.ok ⟨Y.next+16,Y.heap.put a' (.row bd 2 (((bX cur x.acc).map PC).set (aM cur x.acc) (splice r.enc 1 [O J (dH r.amount x.amount).1])))⟩:=fq;simp only[tj,kk];have ce:((bX cur x.acc).map PC).set (aM cur x.acc) (splice r.enc 1 [O J (dH r.amount x.amount).1])=((bX cur x.acc).set (aM cur x.acc) ⟨r.acc,(dH r.amount x.amount).1⟩).map PC:=by rw[RM];rfl
    rw[ce];refine H _ _ ⟨a',bd,by rw[Qm],Ox _ _ _ trivial,gO (n:=Y.next+16) (λb c hb=>by have:=wY b c hb;show b<Y.next+16;omega) (by have:=wY _ _ hY;omega) (Ov _),by rw[Qm];omega⟩
   ·simp only[c,ne_eq,OL,Oy] at H|-
    simp only[oo,<-H,Py]
  have mu:∀Y:St,Y.heap=X.heap->X.next<=Y.next->aAy C (λv0 S0=>eX S0 v0=TO (V.tup [.imm ((aD bN (λl=>(l,0)) l book).1.map PC),O J (aD bN (λl=>(l,0)) l book).2])) aE (.imm (l.map PC)) .nils (O J 0) (.sl a ver 2 0 cur.length) (O J (i:Int)) (O J (aM cur x.acc:Int)) (.bool (gY cur x.acc)) Y:=by
   intro Y hh hn;have wY:WF Y:=λb c hb=>by rw[hh] at hb;have:=w b c hb;omega
   have LH:Y.heap.get a=Ot (.row ver 2 (cur.map PC)):=by rw[hh];exact hg
   cases hm:gY cur x.acc
   ·have e:bX cur x.acc=cur:=by unfold bX;rw[hm];rfl
    have:=ug a ver Y (by rw[e];exact LH) wY
    rw[e] at this;simp only[aAy,kk,OO,Ou];exact this
   ·have e:bX cur x.acc=fU cur (aM cur x.acc) ⟨x.acc,0⟩:=by unfold bX;rw[hm];rfl
    obtain⟨Z,hZ⟩:∃Z:St,Z=⟨Y.next+18,Y.heap.put Y.next (.row 0 2 [])⟩:=⟨_,rfl⟩;have wZ:WF Z:=by rw[hZ];exact gO (n:=Y.next) wY (by omega) (by omega)
    have gZ:aC Z Y.next 0=.ok (2,[]):=by rw[hZ];exact aA _ _ _ _ _ _
    have nZ:Z.next=Y.next+18:=by rw[hZ]
    have sZ:Z.heap.get a=Ot (.row ver 2 (cur.map PC)):=by rw[hZ];show(Y.heap.put Y.next _).get a=_;rw[OJ _ _ _ _ trivial (by omega)];exact LH
    obtain⟨S1,S2,S3,q1,m1,q2,q3,n3,w3,g3,k1,k3⟩:=bPh (b:=24) aH7 cur ⟨x.acc,0⟩ bc (S:=Z) (k1:=Y.next) (k2:=Y.next+11) (m:=Z.next) (s:=a) (vs:=ver) (by omega) (by omega) (by omega) sZ (by omega) (Ov _) gZ wZ (by omega) (by omega) (by unfold eG;omega) (Ot (Y.next+4)) (Ot (Y.next+12)) (Ot (Y.next+16));have mm:∀b,(⟨Z.next,S1.heap.put (Y.next+11) b⟩:St)=⟨S1.next,S1.heap.put (Y.next+11) b⟩:=λb=>by rw[m1]
    rw[mm] at q2;simp only[PC] at q2;have b1:eR cur.length OG (Ot (O J (aM cur x.acc:Int)))=.ok (0,aM cur x.acc):=by
     have:(decide ((0:Int)<=(aM cur x.acc:Int))&&decide ((aM cur x.acc:Int)<=(cur.length:Int)))=true:=by simp;omega
     simp only[eR,this,PW];rfl
    have b2:eR cur.length (Ot (O J (aM cur x.acc:Int))) OG=.ok (aM cur x.acc,cur.length):=by
     simp only[eR];simp[bc]
    have fm:=ug Y.next 3 S3 (by rw[e];exact g3) w3;have yc:(bX cur x.acc).length=cur.length+1:=by rw[e,pC _ _ _ bc]
    rw[yc] at fm;simp only[aAy,kk,Oy,bI2,b1,b2,oJ hi,PC,bs0,QT,Px,UK,<-hZ,q1,bCf,q2,q3];exact fm
  have kz:∀Y:St,Y.heap=X.heap->X.next<=Y.next->aAz C (λv0 S0=>eX S0 v0=TO (V.tup [.imm ((aD bN (λl=>(l,0)) l book).1.map PC),O J (aD bN (λl=>(l,0)) l book).2])) aE (.imm (l.map PC)) .nils (O J 0) (.sl a ver 2 0 cur.length) (O J (i:Int)) (O J (aM cur x.acc:Int)) Y:=by
   intro Y hh hn;have h2:=mu ⟨Y.next+17,Y.heap⟩ hh (by show X.next<=Y.next+17;omega);by_cases c:aM cur x.acc<cur.length
   ·obtain⟨r,hr⟩:∃r,cur[aM cur x.acc]?=Ot r:=⟨_,OF c⟩;have mr:(cur.map PC)[aM cur x.acc]?=Ot r.enc:=by rw[Pc,hr];rfl
    have da:fZ OG (.ptr a ver (aM cur x.acc) 0) ⟨Y.next+17,Y.heap⟩=.ok (.str r.acc):=by
     rw[bA4 (X:=⟨Y.next+17,Y.heap⟩) (by rw[<-hh] at hg;exact hg) mr];rfl
    have hm:gY cur x.acc=!(r.acc == x.acc):=by unfold gY;rw[hr]
    rw[hm] at h2;simp only[aAz,kk,show¬((aM cur x.acc:Nat):Int)=(cur.length:Int) by omega,Ou,aNb c,QT,da,oJ hi,PC];exact h2
   ·have e:aM cur x.acc=cur.length:=by omega
    have hm:gY cur x.acc=true:=by unfold gY;rw[Re (by omega)]
    rw[hm] at h2;simp only[aAz,kk,show((aM cur x.acc:Nat):Int)=(cur.length:Int) by omega,Oy];rw[show((aM cur x.acc:Nat):Int)=(cur.length:Int) by omega] at h2;exact h2
  simp only[aKd,kk,bG hi,Oy];refine aG cur (step:=gE (λb:Bal=>iL b.acc x.acc)) (fin:=id) (λk n vs Y=>n=k/\vs=[O J (k:Int)]/\Y.heap=X.heap/\X.next<=Y.next) (λn=>n=aM cur x.acc) ?_ ?_ (s:=0) ⟨rfl,rfl,rfl,Ov _⟩ rfl
  ·rintro k b n vs Y hk ⟨rfl,rfl,hh,hn⟩ dk H';have dw:=(Oq.1 hk).1;have dl:(cur.map PC)[n]?=Ot b.enc:=by rw[Pc,hk];rfl
   have da:fZ OG (.ptr a ver n 0) ⟨Y.next+17,Y.heap⟩=.ok (.str b.acc):=by
    rw[bA4 (X:=⟨Y.next+17,Y.heap⟩) (by rw[<-hh] at hg;exact hg) dl];rfl
   simp only[gE] at H';simp only[aKc,kk,bG hk,Oy,aNb dw,QT,da,oJ hi,PC,gM (show n<1000000000 by omega)];cases c:iL b.acc x.acc<;>simp only[c,kk,Oy,Ou,OO] at H'|-
   ·have H':n=aM cur x.acc:=H';rw[H'];exact kz _ hh (by show X.next<=Y.next+17;omega)
   ·exact H' _ _ ⟨rfl,hh,by show X.next<=Y.next+17;omega⟩
  ·rintro n vs Y ⟨rfl,rfl,hh,hn⟩ dk H';have H':cur.length=aM cur x.acc:=H';simp only[aKc,kk,OZ,Ou]
   have:=kz ⟨Y.next+17,Y.heap⟩ hh (by show X.next<=Y.next+17;omega)
   rw[<-H'] at this;exact this
 ·rintro cur vs X ⟨a,ver,rfl,hg,w,hlen⟩ aE H;have H:(cur,(0:Int))=aD bN (λl=>(l,0)) l book:=H;obtain⟨v,hv⟩:∃v,v=V.sl a ver 2 0 cur.length:=⟨_,rfl⟩;have own:=bPd aH7 (l:=cur) hg (w _ _ hg);rw[<-hv] at own|-
  have of:=own.out λ_=>rfl;simp only[aKd,kk,OZ,Ou,oo,of,<-H]
theorem aBh{a b:Int}(h:(cM a b).2≠0):(cM a b).2=7:=by
 unfold cM at h|-
 split at h
 ·rename_i c;rw[OE c]
 ·exact absurd rfl h
theorem bVw(x y:Int):iF [x,y]=if(cM 0 x).2≠0\/(cM 0 y).2≠0 then([],7) else([(cM 0 x).1,(cM 0 y).1],0):=by
 simp only[iF,aD,rE];by_cases c1:(cM 0 x).2=0
 ·by_cases c2:(cM 0 y).2=0
  ·simp[c1,c2,aD]
  ·simp[c1,c2,aD,aBh c2]
 ·simp[c1,aD,aBh c1]
theorem bVx(x y z:Int):iF [x,y,z]=if(cM 0 x).2≠0\/(cM 0 y).2≠0\/(cM 0 z).2≠0 then([],7) else([(cM 0 x).1,(cM 0 y).1,(cM 0 z).1],0):=by
 simp only[iF,aD,rE];by_cases c1:(cM 0 x).2=0
 ·by_cases c2:(cM 0 y).2=0
  ·by_cases c3:(cM 0 z).2=0
   ·simp[c1,c2,c3,aD]
   ·simp[c1,c2,c3,aD,aBh c3]
  ·simp[c1,c2,aD,aBh c2]
 ·simp[c1,aD,aBh c1]
set_option maxHeartbeats 2000000 in
theorem bVy(t:Up)(hf:t.parts.length<=1100000)(S:St)(K:KW):C 197 [.agg [O J t.net,O J t.tax,O J t.gross,.imm (t.parts.map PI)]] S K=K (aDl (bI t)) S:=by
 refine(bS9 rfl ?_).eq S K;have zero:∀(X:St) (e:Int),eX X (.tup [.agg [O J 0,O J 0,O J 0,.nils],O J e])=.ok (aDl (Wg,e)):=λX e=>by
  simp only[oo,aDl,Wg,Py]
 have hx:=bVx t.net t.tax t.gross;delta Tryz.f197;simp only[↓cw,↓Oo,Om,kk,gm,eY,bIb,dU];have bad:¬((cM 0 t.net).2=0/\(cM 0 t.tax).2=0/\(cM 0 t.gross).2=0)->bI t=(Wg,7):=λh=>by
  unfold bI;rw[hx];rw[OE (show(cM 0 t.net).2≠0\/(cM 0 t.tax).2≠0\/(cM 0 t.gross).2≠0 by by_cases a:(cM 0 t.net).2=0<;>by_cases b:(cM 0 t.tax).2=0<;>simp_all)];rfl
 by_cases c1:(cM 0 t.net).2=0;rotate_left
 ·simp only[↓cw,↓Oo,Om,c1,OL,Oy,kk,eY,zero,bad (λh=>c1 h.1)]
 by_cases c2:(cM 0 t.tax).2=0;rotate_left
 ·simp only[↓cw,↓Oo,Om,c1,c2,OK,Ou,OL,Oy,kk,eY,zero,bad (λh=>c2 h.2.1)]
 by_cases c3:(cM 0 t.gross).2=0;rotate_left
 ·simp only[↓cw,↓Oo,Om,c1,c2,c3,OK,Ou,OL,Oy,kk,eY,zero,bad (λh=>c3 h.2.2),Rp,Rs]
 have hx:iF [t.net,t.tax,t.gross]=([(cM 0 t.net).1,(cM 0 t.tax).1,(cM 0 t.gross).1],0):=by rw[hx,Oz (by simp[c1,c2,c3])]
 obtain⟨x,ve⟩:∃x,x=(cM 0 t.net).1:=⟨_,rfl⟩;obtain⟨y,LI⟩:∃y,y=(cM 0 t.tax).1:=⟨_,rfl⟩;obtain⟨z,xn⟩:∃z,z=(cM 0 t.gross).1:=⟨_,rfl⟩;rw[<-ve,<-LI,<-xn] at hx;obtain⟨R,hR⟩:∃R,R=aD dW (λl=>(l,0)) t.parts []:=⟨_,rfl⟩;have hb:bI t=if R.2≠0 then(Wg,R.2) else(⟨x,y,z,R.1⟩,0):=by
  unfold bI;rw[hx,<-hR];rfl
 rw[hb];obtain⟨S0,gc⟩:∃S0:St,S0=⟨1+1+1,(((Tr.nil.put 0 (.row 0 (1+1+1+1) [[O J t.net,O J t.tax,O J t.gross,.imm (t.parts.map PI)]])).put 1 (.row 0 4 [[O J 0,O J 0,O J 0,.nils]])).put (1+1) (.row 0 4 [[O J 0,O J 0,O J 0,.nils]])).put (1+1) (.row 0 4 [[O J x,O J y,O J z,.nils]])⟩:=⟨_,rfl⟩;have w0:WF S0:=by rw[gc];exact gO (n:=3) (gO (n:=2) (gO (n:=1) (gO mB (by decide) (by decide)) (by decide) (by decide)) (by decide) (by decide)) (by decide) (by decide)
 have n0:S0.next=3:=by rw[gc]
 have r0:aC S0 0 0=.ok (4,[[O J t.net,O J t.tax,O J t.gross,.imm (t.parts.map PI)]]):=by rw[gc];rfl
 have r1:aC S0 1 0=.ok (4,[[O J 0,O J 0,O J 0,.nils]]):=by rw[gc];rfl
 have r2:aC S0 2 0=.ok (4,[[O J x,O J y,O J z,.nils]]):=by rw[gc];rfl
 simp only[↓cw,↓Oo,Om,c1,c2,c3,OK,Ou,Rk,QL,kk,OO,<-ve,<-LI,<-xn,<-gc];refine aG t.parts (step:=dW) (fin:=λl=>(l,0)) (λi acc vs X=>vs=[O J 0,O J (i:Int)]/\∃v,Own E0 X 4 v (acc.map PI)/\WF X/\aC X 0 0=.ok (4,[[O J t.net,O J t.tax,O J t.gross,.imm (t.parts.map PI)]])/\aC X 1 0=.ok (4,[[O J 0,O J 0,O J 0,.nils]])/\aC X 2 0=.ok (4,[[O J x,O J y,O J z,v]])/\3<=X.next/\acc.length=i/\∀k,k<3->AM.blkOf v≠Ot k) (λr=>r=R) ?_ ?_ (s:=[]) ⟨rfl,.nils,⟨.inl ⟨rfl,rfl⟩,λc h=>by cases h⟩,w0,r0,r1,r2,by omega,rfl,λk _ h=>by cases h⟩ hR.symm
 ·rintro i p acc vs X hi ⟨rfl,v,own,w,r0,r1,r2,n3,vg,hv⟩ aE H;have ai:=(Oq.1 hi).1;obtain⟨B,hB⟩:∃B:St,B=⟨X.next+1,(X.heap.put X.next (.row 0 4 [[.str [],O J 0,O J 0,O J 0]])).put X.next (.row 0 4 [p.enc])⟩:=⟨_,rfl⟩;have wB:WF B:=by rw[hB];exact gO (n:=X.next+1) (gO (n:=X.next) w (by omega) (PX _)) (by omega) (Ov _)
  have nB:B.next=X.next+1:=by rw[hB]
  have kB:∀y,y<X.next->B.heap.get y=X.heap.get y:=λy hy=>by
   rw[hB];show((X.heap.put X.next _).put X.next _).get y=_;rw[OJ _ _ _ _ trivial (by omega),OJ _ _ _ _ trivial (by omega)]
  have oB:Own E0 B 4 v (acc.map PI):=own.same (by omega) λa ha=>kB a (cE own ha).2;have b1:=aX r1 (kB 1 (by omega));have b2:=aX r2 (kB 2 (by omega));have rP:aC B X.next 0=.ok (4,[p.enc]):=by rw[hB];exact aA _ _ _ _ _ _
  simp only[PI] at hB rP;have nj:=bVw p.net p.tax;simp only[dW] at H;simp only[↓cw,↓Oo,Om,kk,gm,r0,bG hi,Oy,kJ hi,PI,<-hB,rP,bIb,dU,gM (show i<1000000000 by omega)];have bad:¬((cM 0 p.net).2=0/\(cM 0 p.tax).2=0)->R=([],7):=λh=>by
   have:iF [p.net,p.tax]=([],7):=by rw[nj,OE (by by_cases a:(cM 0 p.net).2=0<;>simp_all)]
   rw[this,OE (by decide)] at H;exact H.symm
  by_cases d1:(cM 0 p.net).2=0;rotate_left
  ·simp only[↓cw,↓Oo,Om,d1,OL,Oy,kk,b1,bad (λh=>d1 h.1)];exact zero _ _
  by_cases d2:(cM 0 p.tax).2=0;rotate_left
  ·simp only[↓cw,↓Oo,Om,d1,d2,OK,Ou,Rp,Rs,kk,Oy,b1,bad (λh=>d2 h.2)];exact zero _ _
  have nj:iF [p.net,p.tax]=([(cM 0 p.net).1,(cM 0 p.tax).1],0):=by rw[nj,Oz (by simp[d1,d2])]
  rw[nj,Oz (show¬(0:Int)≠0 by decide)] at H;obtain⟨v',Z,q1,oZ,wZ,nZ,vZ,kZ⟩:=bP8 (b:=40) oB wB (c:=PI { p with net:=(cM 0 p.net).1,tax:=(cM 0 p.tax).1 }) (aIf _) (by rw[ON];omega) (by rw[ON];unfold eG;omega);simp only[PI] at q1;have z0:=aX r0 ((kZ 0 (by omega) (hv 0 (by decide))).trans (kB 0 (by omega)));have z1:=aX r1 ((kZ 1 (by omega) (hv 1 (by decide))).trans (kB 1 (by omega)));have z2:=aX r2 ((kZ 2 (by omega) (hv 2 (by decide))).trans (kB 2 (by omega)));have vn:∀k,k<3->AM.blkOf v'≠Ot k:=λk hk e=>by
   rcases vZ with q | q
   ·exact hv k hk (q▸e)
   ·rw[q] at e;cases e;omega
  simp only[↓cw,↓Oo,Om,d1,d2,OK,Ou,Rk,QL,kk,OO,gm,b2,rP,aMp,q1,z2,oZ.one,oZ.cells,gM (show i<1000000000 by omega)];refine H _ _ ⟨rfl,v',?_,gO (n:=Z.next) wZ (show 2<Z.next by omega) (Ov _),aI (n:=Z.next) (by decide) z0,aI (n:=Z.next) (by decide) z1,aA _ _ _ _ _ _,by show 3<=Z.next;omega,by simp[vg],vn⟩;rw[PK];exact oZ.same (S':=⟨Z.next,Z.heap.put 2 (.row 0 4 [[O J x,O J y,O J z,v']])⟩) (Ov _) λa ha=>OJ _ _ _ _ trivial λe=>vn 2 (by decide) (by rw[<-e];exact ha)
 ·rintro acc vs X ⟨rfl,v,own,w,r0,r1,r2,n3,vg,hv⟩ aE H;have H:(acc,(0:Int))=R:=H;have of:=(own.same (S':=⟨X.next,X.heap.put 1 (.row 0 4 [[O J x,O J y,O J z,v]])⟩) (Ov _) λa ha=>OJ _ _ _ _ trivial λe=>hv 1 (by decide) (by rw[<-e];exact ha)).out λ_=>rfl;simp only[↓cw,↓Oo,Om,kk,gm,r0,r1,r2,OZ,Ou,<-H,own.one,own.cells];simp only[oo,aDl,of,ne_eq,OK,Ou]
def sX(r:Ref)(n:Nat)(q:OT):Ps⊕Nat:=.inr (n+if q.of=r then 1 else 0)
theorem bA9(r:Ref)(fin:Nat->Ps):∀(l:On OT) (n:Nat),aD (sX r) fin l n=fin (n+lZ l r)
 | [],n=>rfl
 | q::l,n=>by
  simp only[aD,sX];rw[bA9 r fin l,wP,Nat.add_assoc]
def aBi(p:OT)(u:Unit)(q:OT):Ps⊕Unit:=if q.ref=p.of then .inl (aJ1 q p) else .inr ()
theorem aJ7(p:OT):∀(l:On OT) (u:Unit),aD (aBi p) (λ_=>OA) l u=rJ p l
 | [],u=>rfl
 | q::l,u=>by
  simp only[aD,aBi,rJ];by_cases c:q.ref=p.of
  ·rw[OE c,OE c]
  ·rw[Oz c,Oz c];exact aJ7 p l ()
def aEb(l:On OT)(i:Nat)(p:OT)(n:Nat):Bool:=
 if 1<n then OA else if p.back≠decide (n=1) then OA else if p.of=Qr then OB else if p.back=OB then OA else rJ p (l.take i)
theorem aUu(l:On OT)(i:Nat)(p:OT):sV l i p=aD (sX p.ref) (aEb l i p) (l.drop (i+1)) 0:=by
 rw[bA9,Px];rfl
set_option maxHeartbeats 2000000 in
theorem bVz(l:On OT)(hb:l.length<1000000)(hq:∀q∈l,q.total.parts.length<=1100000){i:Nat}{p:OT}(hi:l[i]?=Ot p)(S:St)(K:KW):C 120 [.imm (l.map Pg),O J (i:Int)] S K=K (.bool (sV l i p)) S:=by
 refine(bR8 rfl ?_).eq S K;have ai:=(Oq.1 hi).1;have hpb:=hq p (OM hi);have ei:l.drop (i+1)=l.drop (i+1):=rfl;delta Tryz.f120;simp only[↓cw,↓Oo,Om,kk,mP hi,Pg,gM (show i<1000000000 by omega)];obtain⟨S0,gc⟩:∃S0:St,S0=⟨0+1,(Tr.nil.put 0 (.row 0 12 [aDk])).put 0 (.row 0 12 [p.enc])⟩:=⟨_,rfl⟩;have r0:aC S0 0 0=.ok (12,[p.enc]):=by rw[gc];rfl
 have n0:1<=S0.next:=by rw[gc];exact Ov _
 simp only[aDk,Pg] at gc;simp only[<-gc];refine aG (l.drop (i+1)) (step:=sX p.ref) (fin:=aEb l i p) (λk n vs X=>vs=[O J (n:Int),O J ((i+1+k:Nat):Int)]/\n<=k/\aC X 0 0=.ok (12,[p.enc])/\1<=X.next) (λr=>r=sV l i p) ?_ ?_ (s:=0) ⟨rfl,Ov _,r0,n0⟩ (aUu l i p).symm
 ·rintro k q n vs X hk ⟨rfl,hn,r0,n1⟩ aE H;rw[PP] at hk;have dw:=(Oq.1 hk).1;simp only[sX] at H;simp only[Pg] at r0;simp only[↓cw,↓Oo,Om,kk,gm,bG hk,Oy,mP hk,Pg,r0,gM (show i+1+k<1000000000 by omega),gM (show n<1000000000 by omega)];by_cases c:q.of=p.ref
  ·have c':(q.of.ser == p.ref.ser&&decide (q.of.num=p.ref.num))=true:=by rw[c];simp
   simp only[c,Oy] at H;simp only[c',Oy];exact H _ _ ⟨rfl,by omega,r0,by show 1<=X.next+8;omega⟩
  ·have c':¬(q.of.ser == p.ref.ser&&decide (q.of.num=p.ref.num))=true:=by rw[Th] at c;simpa using c
   simp only[c,Ou,QT] at H;simp only[c',Ou];exact H _ _ ⟨rfl,by omega,r0,by show 1<=X.next+8;omega⟩
 ·rintro n vs X ⟨rfl,hn,r0,n1⟩ aE H;have H:aEb l i p n=sV l i p:=H;have hge:¬((i+1+(l.drop (i+1)).length:Nat):Int)<(l.length:Int):=by rw[PQ];omega
  simp only[Pg] at r0;rw[<-H];simp only[↓cw,↓Oo,Om,aEb,kk,hge,Ou,r0,aC2,gm];by_cases c1:1<n
  ·simp only[c1,show(1:Int)<(n:Int) by omega,Oy,oo]
  simp only[c1,show¬(1:Int)<(n:Int) by omega,Ou];have e1:decide ((n:Int)=1)=decide (n=1):=by rw[So];simp;omega
  rw[e1];by_cases c2:p.back=decide (n=1);rotate_left
  ·have uu:(p.back == decide (n=1))=false:=by simpa using c2
   simp only[c2,uu,ne_eq,OL,Oy,Rs,oo]
  have uu:(p.back == decide (n=1))=true:=by simpa using c2
  rw[Oz (show¬p.back≠decide (n=1) fromλh=>h c2)];simp only[uu,QL,OO,Ou];by_cases c3:p.of=Qr
  ·have Ir:(p.of.ser == []&&decide (p.of.num=0))=true:=by rw[c3];rfl
   rw[OE c3,OE Ir]
  have Ir:¬(p.of.ser == []&&decide (p.of.num=0))=true:=by rw[Th] at c3;simpa[Qr] using c3
  simp only[↓cw,↓Oo,Om,c3,Ir,Ou,kk];cases c4:p.back;rotate_left
  ·simp only[c4,Oy,oo]
  simp only[c4,OO,Ou];have lt:(l.take i).length=i:=by rw[PY];omega
  refine aG (l.take i) (step:=aBi p) (fin:=λ_=>OA) (λk u vs X=>vs=[.bool OA,O J (k:Int)]/\aC X 0 0=.ok (12,[p.enc])/\1<=X.next) (λr=>r=rJ p (l.take i)) ?_ ?_ (s:=()) ⟨rfl,r0,n1⟩ (aJ7 p (l.take i) ())
  ·rintro k q u vs X hk ⟨rfl,r0,n1⟩ aE H;have By:=(Oq.1 hk).1;rw[lt] at By;rw[List.getElem?_take,OE By] at hk;have hqb:=hq q (OM hk);have gg:=xL q.total;simp only[aBi] at H;simp only[Pg] at r0;simp only[↓cw,↓Oo,Om,kk,gm,show(k:Int)<(i:Int) by omega,Oy,mP hk,Pg,r0,gM (show k<1000000000 by omega),bVy q.total hqb,aDl];obtain⟨T,hT⟩:∃T,T=(bI q.total).1:=⟨_,rfl⟩;simp only[aJ1,<-hT] at H;rw[<-hT] at gg;simp only[<-hT];obtain⟨B,hB⟩:∃B:St,B=⟨X.next+8+1+49,(X.heap.put (X.next+8) (Blk.row 0 4 [[V.int Pm 0,V.int Pm 0,V.int Pm 0,V.nils]])).put (X.next+8) (Blk.row 0 4 [[V.int Pm T.net,V.int Pm T.tax,V.int Pm T.gross,V.imm (Vm PI T.parts)]])⟩:=⟨_,rfl⟩;have b0:∀m,aC ⟨m,B.heap⟩ 0 0=.ok (12,[p.enc]):=λm=>by rw[hB];exact aI (n:=X.next) (by omega) (aI (n:=X.next) (by omega) r0)
   have b8:∀m,aC ⟨m,B.heap⟩ (X.next+8) 0=.ok (4,[[V.int Pm T.net,V.int Pm T.tax,V.int Pm T.gross,V.imm (Vm PI T.parts)]]):=λm=>by rw[hB];exact aA _ _ _ _ _ _
   have bn:X.next+58=B.next:=by rw[hB]
   have EC:=b0 (X.next+8+1);have b1:=b0 B.next;have b8':=b8 B.next;simp only[Pg] at b0 EC b1;have hh:B.heap=(X.heap.put (X.next+8) (Blk.row 0 4 [[V.int Pm 0,V.int Pm 0,V.int Pm 0,V.nils]])).put (X.next+8) (Blk.row 0 4 [[V.int Pm T.net,V.int Pm T.tax,V.int Pm T.gross,V.imm (Vm PI T.parts)]]):=by rw[hB]
   have hBe:(⟨X.next+8+1+49,B.heap⟩:St)=B:=by rw[hB]
   rw[<-hh,hBe];by_cases d0:q.ref=p.of;rotate_left
   ·have Is:(!(q.ref.ser == p.of.ser&&decide (q.ref.num=p.of.num)))=true:=by rw[Th] at d0;simp;exact TF.1 d0
    simp only[d0,Ou] at H;simp only[Is,Oy];exact H _ _ ⟨rfl,r0,by show 1<=X.next+8;omega⟩
   have Is:¬(!(q.ref.ser == p.of.ser&&decide (q.ref.num=p.of.num)))=true:=by rw[d0];simp
   rw[OE d0] at H;rw[Oz Is];by_cases d1:(bI q.total).2=0;rotate_left
   ·rw[OE d1] at H;rw[OE d1,<-H]
   rw[Oz (λh=>h d1)] at H;rw[Oz (λh=>h d1)];by_cases d2:q.of=Qr;rotate_left
   ·have BC:(!(q.of.ser == []&&decide (q.of.num=0)))=true:=by rw[Th] at d2;simp;exact TF.1 d2
    rw[OE d2] at H;rw[OE BC,<-H]
   have BC:¬(!(q.of.ser == []&&decide (q.of.num=0)))=true:=by rw[d2];decide
   rw[Oz (λh=>h d2)] at H;rw[Oz BC];simp only[↓cw,↓Oo,Om,EC,kk,bNz];by_cases d3:p.day.days<q.day.days
   ·rw[OE d3] at H;rw[OE d3,<-H]
   rw[Oz d3] at H;rw[Oz d3];simp only[↓cw,↓Oo,Om,b1,b8',kk];by_cases d4:T.net=p.total.net;rotate_left
   ·rw[RL d4,RJ] at H;rw[OE d4,<-H]
   rw[Oz (λh=>h d4)];by_cases d5:T.tax=p.total.tax;rotate_left
   ·rw[RL d5,RJ,Yi] at H;rw[OE d5,<-H]
   rw[Oz (λh=>h d5)];rw[WD d4,WD d5,Rn,Rn] at H;by_cases d6:T.parts.length=p.total.parts.length;rotate_left
   ·have:¬T.parts=p.total.parts:=λh=>d6 (by rw[h])
    rw[RL this] at H;rw[OE (show¬((T.parts.length:Nat):Int)=(p.total.parts.length:Int) by omega),<-H]
   rw[Oz (show¬¬((T.parts.length:Nat):Int)=(p.total.parts.length:Int) by omega)];refine aG T.parts (step:=fM p.total.parts) (fin:=λ_=>OB) (λj n vs Y=>n=j/\vs=[.bool OA,O J (j:Int)]/\Y.heap=B.heap) (λr=>r=rJ p (l.take i)) ?_ ?_ (s:=0) ⟨rfl,rfl,rfl⟩ (by rw[eqL d6];exact H)
   ·rintro j x n vs Y hj ⟨rfl,rfl,hY⟩ dk H';have ed:=(Oq.1 hj).1;have mu:p.total.parts[n]?=Ot p.total.parts[n]:=OF (by omega);have y8:∀m,aC ⟨m,Y.heap⟩ (X.next+8) 0=.ok (4,[[V.int Pm T.net,V.int Pm T.tax,V.int Pm T.gross,V.imm (Vm PI T.parts)]]):=λm=>by rw[hY];exact b8 m
    have y0:∀m,aC ⟨m,Y.heap⟩ 0 0=.ok (12,[p.enc]):=λm=>by rw[hY];exact b0 m
    have y8':aC Y (X.next+8) 0=.ok (4,[[V.int Pm T.net,V.int Pm T.tax,V.int Pm T.gross,V.imm (Vm PI T.parts)]]):=y8 Y.next;simp only[Pg] at y0;generalize hz:p.total.parts[n]=z at mu;have he:(z=x)=(x.cat=z.cat/\x.bp=z.bp/\x.net=z.net/\x.tax=z.tax):=by
     obtain⟨_,_,_,_⟩:=x;obtain⟨_,_,_,_⟩:=z;simp[and_assoc,VY]
    simp only[fM,mu,Qy,he] at H';simp only[↓cw,↓Oo,Om,kk,gm,y8,y0,y8',bG hj,Oy,kJ hj,kJ mu,PI,gM (show n<1000000000 by omega)];by_cases c:x.cat=z.cat/\x.bp=z.bp/\x.net=z.net/\x.tax=z.tax
    ·have c':¬(!(x.cat == z.cat&&decide (x.bp=z.bp)&&decide (x.net=z.net)&&decide (x.tax=z.tax)))=true:=by simp[c]
     rw[OE c] at H';rw[Oz c'];exact H' _ _ ⟨rfl,rfl,hY⟩
    ·have c':(!(x.cat == z.cat&&decide (x.bp=z.bp)&&decide (x.net=z.net)&&decide (x.tax=z.tax)))=true:=by
      rw[Su,Uq];intro h;simp only[OU,PB,beq_iff_eq] at h;exact c ⟨h.1.1.1,h.1.1.2,h.1.2,h.2⟩
     rw[Oz c] at H';have H':OA=rJ p (l.take i):=H';rw[OE c',<-H']
   ·rintro n vs Y ⟨rfl,rfl,hY⟩ dk H';have H':OB=rJ p (l.take i):=H';have y8:aC Y (X.next+8) 0=.ok (4,[[V.int Pm T.net,V.int Pm T.tax,V.int Pm T.gross,V.imm (Vm PI T.parts)]]):=by have:=b8 Y.next;rw[<-hY] at this;exact this
    simp only[↓cw,↓Oo,Om,kk,gm,y8,OZ,Ou,oo,<-H']
  ·rintro u vs X ⟨rfl,r0,n1⟩ aE H;have H:OA=rJ p (l.take i):=H;simp only[↓cw,↓Oo,Om,kk,lt,OZ,Ou,oo,<-H]
theorem bPn{v:V}(book l:On Bal)(hv:v=.imm (book.map PC)\/(v=.nils/\book=[]))(so:book.length+l.length<1000000)(S:St)(K:KW):C 122 [v,.imm (l.map PC)] S K=K (.tup [.imm ((aV book l).1.map PC),O J (aV book l).2]) S:=by
 rcases hv with rfl | ⟨rfl,rfl⟩
 ·exact bPm book l so S K
 ·exact(Fn.back (args:=[.imm [],.imm (l.map PC)]) λS K=>bPm [] l so S K).frz bKc rfl rfl rfl (.inr rfl) K
def oC(n:Int):On V:=[O J n]
theorem bW0{n:Nat}(hn:n<=8)(S:St):fD prog 96 (O J (n:Int)) (O J (n:Int)) OG S=.ok (.sl S.next 0 1 0 n,⟨S.next+1,S.heap.put S.next (.row 0 1 ((PT n (0:Int)).map oC))⟩):=by
 have h1:lD prog 96=Ot 3:=by kernel_rfl
 have h2:aQ prog 3=Ot (O J 0):=by kernel_rfl
 have h3:sz prog 3=1:=by kernel_rfl
 have h4:room prog 3 n=true:=match n,hn with
  | 0,_=>by kernel_rfl
  | 1,_=>by kernel_rfl
  | 2,_=>by kernel_rfl
  | 3,_=>by kernel_rfl
  | 4,_=>by kernel_rfl
  | 5,_=>by kernel_rfl
  | 6,_=>by kernel_rfl
  | 7,_=>by kernel_rfl
  | 8,_=>by kernel_rfl
  | k+9,h=>absurd h (by omega)
 have h5:(decide ((0:Int)<=(n:Int))&&decide ((n:Int)<=(n:Int))&&decide ((n:Int)<2147483648))=true:=by simp;omega
 simp only[fD,h1,h2,h3,Pn,h4,Ur,OQ,Pf,Px,Nat.beq_refl,Rn,QQ,h5,PW,dX,List.map_replicate,oC]
theorem bAa(b:Ps):∀(l:On Ser) (is:On Int),aD iJ (λ_=>b) l is=(aD iJ (λ_=>OB) l is&&b)
 | [],is=>by simp[aD]
 | s::l,is=>by
  simp only[aD,iJ];by_cases c:is.headD 0=wr J (s.next - 1)
  ·rw[OE c];exact bAa b l _
  ·rw[Oz c];rfl
set_option maxHeartbeats 4000000 in
theorem g38(s:Qg)(hI:oS s)(hp:s.posted.length<1000000)(hq:∀q∈s.posted,q.total.parts.length<=1100000)(S:St)(K:KW):C 38 [.agg [.imm (s.table.map Qk),.imm (s.ser.map PZ),.imm (s.posted.map Pg),.imm (s.book.map PC),.imm (s.sess.map Qe),O J s.next]] S K=K (.bool (aG7 s)) S:=by
 refine(v38 rfl ?_).eq S K;obtain⟨R,hR⟩:∃R,R=aG7 s:=⟨_,rfl⟩;rw[<-hR];unfold aG7 at hR;simp only[m38,kk,gm,bVi,bVj,bVk];cases c1:fL s.table
 ·rw[OE c1] at hR;rw[hR];simp only[kk,Oy,oo]
 rw[Oz (by rw[c1];decide)] at hR;cases c2:mM s.ser
 ·rw[OE c2] at hR;rw[hR];simp only[kk,OO,Ou,Oy,oo]
 rw[Oz (by rw[c2];decide)] at hR;cases c3:gD s.sess
 ·rw[OE c3] at hR;rw[hR];simp only[kk,OO,Ou,Oy,oo]
 rw[Oz (by rw[c3];decide)] at hR;have cd:=pS c2;have ff:=mK c3;simp only[kk,Pq,OO,Ou];by_cases c4:40<s.posted.length
 ·rw[OE c4] at hR;rw[hR];simp only[show(40:Int)<(s.posted.length:Int) by omega,kk,Oy,oo]
 rw[Oz c4] at hR;simp only[show¬(40:Int)<(s.posted.length:Int) by omega,Ou];by_cases c5:s.next<1
 ·rw[OE c5] at hR;rw[hR];simp only[c5,Oy,oo]
 rw[Oz c5] at hR;simp only[c5,Ou];by_cases c6:1099511627776<s.next
 ·rw[OE c6] at hR;rw[hR];simp only[c6,Oy,oo]
 rw[Oz c6] at hR;simp only[c6,Ou];have kz:∀Y:St,aC Y 0 0=.ok (6,[s.enc])->1<=Y.next->R=aD (uQ s) (aN9 s) s.posted ⟨[],PT s.ser.length 0,[]⟩->aKa C (λv0 S0=>eX S0 v0=.ok (.bool R)) (.ptr 0 0 0 0) Y:=by
  intro Y y0 yn hR;have y0':=y0;simp only[SB] at y0;simp only[aKa,kk,gm,y0,bW0 cd];obtain⟨tb,htb⟩:∃tb,tb=Y.next:=⟨_,rfl⟩;rw[<-htb];refine aG s.posted (step:=uQ s) (fin:=aN9 s) (λi st vs X=>∃v,vs=[.bool OA,v,O J (i:Int)]/\(v=.imm (st.book.map PC)\/(v=.nils/\st.book=[]))/\aC X 0 0=.ok (6,[s.enc])/\X.heap.get tb=Ot (.row 0 1 (st.taken.map oC))/\tb<X.next/\st.taken.length=s.ser.length/\st.done.length=i/\st.book.length<=25*i) (λr=>r=R) ?_ ?_ (s:=⟨[],PT s.ser.length 0,[]⟩) ⟨.nils,rfl,.inr ⟨rfl,rfl⟩,aI (n:=Y.next) (by omega) y0',Ox _ _ _ trivial,Qb _,List.length_replicate,rfl,PS _⟩ hR.symm
  ·rintro i p ⟨done,taken,book⟩ vs X hi ⟨v,rfl,hv,x0,hg,htX,jj,dm,gg⟩ aE H;simp only at hv hg jj dm gg;have ai:=(Oq.1 hi).1;have rk:=OM hi;simp only[SB] at x0;simp only[uQ,dm] at H;simp only[aPc,kk,gm,x0,bG hi,Oy,mP hi,Pg,bIn s.ser p.ref.ser (by omega),gM (show i<1000000000 by omega)];obtain⟨B,hB⟩:∃B:St,B=⟨X.next+1,(X.heap.put X.next (.row 0 12 [aDk])).put X.next (.row 0 12 [p.enc])⟩:=⟨_,rfl⟩;have kB:∀y,y≠X.next->B.heap.get y=X.heap.get y:=λy hy=>by
    rw[hB];show((X.heap.put X.next _).put X.next _).get y=_;rw[OJ _ _ _ _ trivial hy,OJ _ _ _ _ trivial hy]
   have h0X:0<X.next:=by omega
   have b0:∀m,aC ⟨m,B.heap⟩ 0 0=.ok (6,[s.enc]):=λm=>aX (S:=X) x0 (kB 0 (by omega));have bP:∀m,aC ⟨m,B.heap⟩ X.next 0=.ok (12,[p.enc]):=λm=>by rw[hB];exact aA _ _ _ _ _ _
   have bT:B.heap.get tb=Ot (.row 0 1 (taken.map oC)):=by rw[kB tb (by omega)];exact hg
   have bn:B.next=X.next+1:=by rw[hB]
   have EC:aC B 0 0=.ok (6,[s.enc]):=b0 B.next;have LJ:aC B X.next 0=.ok (12,[p.enc]):=bP B.next;simp only[SB] at b0 EC;simp only[Pg] at bP LJ;simp only[aDk,Pg] at hB;simp only[<-hB,EC,LJ,kk,bIn s.ser p.ref.ser (show s.ser.length<1000000 by omega)];by_cases d0:cD s.ser p.ref.ser<0
   ·rw[OE d0] at H;rw[OE d0,<-H]
   rw[Oz d0] at H;rw[Oz d0];obtain⟨k,x,e,hk⟩:=aUq d0;have dw:=(Oq.1 hk).1;have sg:(taken.map oC)[k]?=Ot (oC (taken.getD k 0)):=by
    rw[Pc,Pl,OF (by omega)];rfl
   have da:∀m,fZ OG (.ptr tb 0 k 0) ⟨m,B.heap⟩=.ok (O J (taken.getD k 0)):=λm=>by rw[bA4 (X:=⟨m,B.heap⟩) bT sg];rfl
   have fq:=λm=>bHd (X:=⟨m,B.heap⟩) (v:=O J (wr J (taken.getD k 0+1))) (j:=0) bT sg rfl rfl (Ov _);have ce:(taken.map oC).set k (splice (oC (taken.getD k 0)) 0 [O J (wr J (taken.getD k 0+1))])=(taken.set k (wr J (taken.getD k 0+1))).map oC:=by rw[RM];rfl
   simp only[e,Pn] at H;simp only[e,aNb dw,da,kk,bP];by_cases d1:p.ref.num=wr J (taken.getD k 0+1);rotate_left
   ·rw[OE d1] at H;rw[OE d1,<-H]
   rw[Oz (λh=>h d1)] at H;rw[Oz (λh=>h d1)];simp only[bI8,kk,bP];cases d2:p.day.right
   ·rw[OE d2] at H;simp only[Rs,Oy,<-H]
   rw[Oz (by rw[d2];decide)] at H;simp only[QL,OO,Ou,bVn p.total (hI p rk),kk,b0];cases d3:cN p.total
   ·rw[OE d3] at H;simp only[Rs,Oy,<-H]
   rw[Oz (by rw[d3];decide)] at H;simp only[QL,OO,Ou,bVz s.posted hp hq hi,kk];cases d4:sV s.posted i p
   ·rw[OE d4] at H;simp only[Rs,Oy,<-H]
   rw[Oz (by rw[d4];decide)] at H;have FO:=vX d3;obtain⟨D,hD⟩:∃D:St,D=⟨B.next+32,B.heap.put tb (.row 0 1 ((taken.set k (wr J (taken.getD k 0+1))).map oC))⟩:=⟨_,rfl⟩;have tj:eL 1 (.ptr tb 0 k 0) (O J (wr J (taken.getD k 0+1))) ⟨B.next+32,B.heap⟩=.ok D:=by rw[fq,ce,hD]
   have dP:aC D X.next 0=.ok (12,[p.enc]):=by rw[hD];exact aI (n:=B.next) (by omega) (bP B.next)
   have d0r:aC D 0 0=.ok (6,[s.enc]):=by rw[hD];exact aI (n:=B.next) (by omega) (b0 B.next)
   have dn:D.next=B.next+32:=by rw[hD]
   simp only[Pg] at dP;simp only[QL,OO,Ou,da,tj,dP,bVv p.total FO,kk];by_cases d5:(bQ p.total).2=0;rotate_left
   ·rw[OE d5] at H;rw[OE d5,<-H]
   have hle:=(pT p.total).resolve_right (not_not_intro d5);have h12:=FO.1;have hle2:=mN book (bQ p.total).1;rw[Oz (λh=>h d5)] at H;rw[Oz (λh=>h d5),bPn book _ hv (show book.length+(bQ p.total).1.length<1000000 by omega)];simp only[kk];by_cases d6:(aV book (bQ p.total).1).2=0;rotate_left
   ·rw[OE d6] at H;rw[OE d6,<-H]
   rw[Oz (λh=>h d6)] at H;rw[Oz (λh=>h d6)];exact H _ _ ⟨_,rfl,.inl rfl,d0r,by rw[hD];exact Ox _ _ _ trivial,by omega,by rw[Qm];exact jj,by rw[OC,dm];rfl,by show(aV book (bQ p.total).1).1.length<=_;omega⟩
  ·rintro⟨done,taken,book⟩ vs X ⟨v,rfl,hv,x0,hg,htX,jj,dm,gg⟩ aE H;simp only at hv hg jj dm gg;have H:aN9 s ⟨done,taken,book⟩=R:=H;unfold aN9 at H;rw[<-bAa] at H;simp only[SB] at x0;simp only[aPc,kk,gm,x0,OZ,Ou];have lv:lenW v=.ok (O J (book.length:Int)):=by rcases hv with rfl | ⟨rfl,rfl⟩<;>simp[lenW]
   refine aG s.ser (step:=iJ) (fin:=λ_=>decide (book=s.book)) (λi is vs Z=>vs=[.bool OA,O J (i:Int)]/\is=taken.drop i/\Z.heap=X.heap) (λr=>r=R) ?_ ?_ (s:=taken) ⟨rfl,rfl,rfl⟩ H
   ·rintro i x is vs Z hi ⟨rfl,rfl,hZ⟩ dk H';have ai:=(Oq.1 hi).1;have sg:(taken.map oC)[i]?=Ot (oC (taken.getD i 0)):=by
     rw[Pc,Pl,OF (by omega)];rfl
    have Ec:(taken.drop i).headD 0=taken.getD i 0:=by rw[QV (by omega),Pl,OF (by omega)];rfl
    have It:(taken.drop i).tail=taken.drop (i+1):=by rw[QV (by omega)];rfl
    have da:∀m,fZ OG (.ptr tb 0 i 0) ⟨m,Z.heap⟩=.ok (O J (taken.getD i 0)):=λm=>by rw[bA4 (X:=⟨m,Z.heap⟩) (by rw[<-hZ] at hg;exact hg) sg];rfl
    have z0:∀m,aC ⟨m,Z.heap⟩ 0 0=.ok (6,[s.enc]):=λm=>by rw[hZ];exact x0
    simp only[SB] at z0;simp only[iJ,Ec,It] at H';simp only[aPb,kk,gm,bG hi,Oy,aNb ai,da,z0,nO hi,PZ,gM (show i<1000000000 by omega)];by_cases c:taken.getD i 0=wr J (x.next - 1)
    ·rw[OE c] at H';rw[Oz (λh=>h c)];exact H' _ _ ⟨rfl,rfl,hZ⟩
    ·rw[Oz c] at H';have H':OA=R:=H';rw[OE c,<-H']
   ·rintro is vs Z ⟨rfl,rfl,hZ⟩ dk H';have H':decide (book=s.book)=R:=H';have z0:∀m,aC ⟨m,Z.heap⟩ 0 0=.ok (6,[s.enc]):=λm=>by rw[hZ];exact x0
    have FP:aC Z 0 0=.ok (6,[s.enc]):=z0 Z.next;simp only[SB] at z0 FP;simp only[aPb,kk,gm,OZ,Ou,lv,FP];by_cases c:book.length=s.book.length;rotate_left
    ·have:¬book=s.book:=λh=>c (by rw[h])
     rw[RL this] at H';rw[OE (show¬((book.length:Nat):Int)=(s.book.length:Int) by omega),<-H']
    rw[Oz (show¬¬((book.length:Nat):Int)=(s.book.length:Int) by omega)];refine aG book (step:=fM s.book) (fin:=λ_=>OB) (λi n vs U=>n=i/\vs=[.bool OA,O J (i:Int)]/\U.heap=X.heap) (λr=>r=R) ?_ ?_ (s:=0) ⟨rfl,rfl,hZ⟩ (by rw[eqL c];exact H')
    ·rintro i q n vs U hi ⟨rfl,rfl,hU⟩ cz H2;have ai:=(Oq.1 hi).1;have hj:s.book[n]?=Ot s.book[n]:=OF (by omega);have Fu:v=.imm (book.map PC):=hv.resolve_right λh=>by rw[h.2] at hi;cases hi
     have u0:∀m,aC ⟨m,U.heap⟩ 0 0=.ok (6,[s.enc]):=λm=>by rw[hU];exact x0
     simp only[SB] at u0;generalize hz:s.book[n]=z at hj;have he:(z=q)=(q.acc=z.acc/\q.amount=z.amount):=by
      obtain⟨_,_⟩:=q;obtain⟨_,_⟩:=z;simp[and_assoc,VY]
     simp only[fM,hj,Qy,he] at H2;simp only[aPa,kk,gm,Fu,bG hi,Oy,oJ hi,oJ hj,PC,u0,gM (show n<1000000000 by omega)];by_cases c:q.acc=z.acc/\q.amount=z.amount
     ·have c':¬(!(q.acc == z.acc&&decide (q.amount=z.amount)))=true:=by simp[c]
      rw[OE c] at H2;rw[Oz c'];exact H2 _ _ ⟨rfl,rfl,hU⟩
     ·have c':(!(q.acc == z.acc&&decide (q.amount=z.amount)))=true:=by
       rw[Su,Uq];intro h;simp only[OU,PB,beq_iff_eq] at h;exact c h
      rw[Oz c] at H2;have H2:OA=R:=H2;rw[OE c',<-H2]
    ·rintro n vs U ⟨rfl,rfl,hU⟩ cz H2;have H2:OB=R:=H2;simp only[aPa,kk,lv,OZ,Ou,oo,<-H2]
 obtain⟨Z,hZ⟩:∃Z:St,Z=⟨1,Tr.nil.put 0 (Blk.row 0 (1+1+1+1+1+1) [s.enc])⟩:=⟨_,rfl⟩;have z0:∀m,aC ⟨m,Z.heap⟩ 0 0=.ok (6,[s.enc]):=λm=>by rw[hZ];rfl
 have zh:Z.heap=Tr.nil.put 0 (Blk.row 0 (1+1+1+1+1+1) [s.enc]):=by rw[hZ]
 simp only[SB] at zh;rw[<-zh];have FP:=z0;simp only[SB] at FP;by_cases c7:s.sess.length=0
 ·have:s.sess=[]:=List.length_eq_zero_iff.1 c7
  rw[Oz (by simp[tZ,this])] at hR;rw[Oz (show¬(0:Int)<(s.sess.length:Int) by omega)];exact kz _ (z0 _) (by show 1<=1+14;decide) hR
 ·obtain⟨j,hj⟩:∃j,s.sess.length=j+1:=⟨s.sess.length - 1,by omega⟩;have ed:s.sess[j]?=Ot s.sess[j]:=OF (by omega);rw[OE (show(0:Int)<(s.sess.length:Int) by omega)];simp only[tZ,hj,Nat.add_sub_cancel,ed] at hR;simp only[hj,wrm (show j+1<1000000000 by omega),mO ed,Qe,kk,gm];by_cases c8:s.sess[j].id<s.next
  ·rw[Oz (by simp[c8])] at hR;rw[Oz (by omega)];exact kz _ (z0 _) (by show 1<=1+14;decide) hR
  ·rw[OE (by simp[c8])] at hR;rw[OE (by omega),hR]
def jG(r:Cmd×Ps):V:=.tup [.agg [O J r.1.kind,.str r.1.series,O J r.1.limit,.str r.1.row.cat,O J r.1.row.day.y,O J r.1.row.day.m,O J r.1.row.day.d,O J r.1.row.bp,O J r.1.day.y,O J r.1.day.m,O J r.1.day.d,.imm (r.1.lines.map Tg),.str r.1.of.ser,O J r.1.of.num,O J r.1.session],.bool r.2]
theorem Rate.same_iff(a b:Tn):(a=b)=(b.cat=a.cat/\b.day.y=a.day.y/\b.day.m=a.day.m/\b.day.d=a.day.d/\b.bp=a.bp):=by
 obtain⟨_,⟨_,_,_⟩,_⟩:=a;obtain⟨_,⟨_,_,_⟩,_⟩:=b;simp[and_assoc,VY]
theorem Ser.same_iff(a b:Ser):(a=b)=(b.name=a.name/\b.next=a.next/\b.limit=a.limit/\b.shut=a.shut):=by
 obtain⟨_,_,_,_⟩:=a;obtain⟨_,_,_,_⟩:=b;simp[and_assoc,VY]
theorem Bal.same_iff(a b:Bal):(a=b)=(b.acc=a.acc/\b.amount=a.amount):=by
 obtain⟨_,_⟩:=a;obtain⟨_,_⟩:=b;simp[and_assoc,VY]
theorem Sess.same_iff(a b:Uj):(a=b)=(b.id=a.id/\b.last=a.last/\b.reply.why=a.reply.why/\b.reply.number=a.reply.number/\b.reply.gross=a.reply.gross):=by
 obtain⟨_,_,⟨_,_,_⟩⟩:=a;obtain⟨_,_,⟨_,_,_⟩⟩:=b;simp[and_assoc,VY]
theorem Part.same_iff(a b:TX):(a=b)=(b.cat=a.cat/\b.bp=a.bp/\b.net=a.net/\b.tax=a.tax):=by
 obtain⟨_,_,_,_⟩:=a;obtain⟨_,_,_,_⟩:=b;simp[and_assoc,VY]
theorem g80(l r:On Tn)(hb:l.length<1000000)(S:St)(K:KW):C 80 [.imm (l.map Qk),.imm (r.map Qk)] S K=K (.bool (decide (l=r))) S:=by
 refine(v80 rfl ?_).eq S K;delta Tryz.f80;simp only[↓cw,↓Oo,Om,kk];by_cases h:l.length=r.length
 ·simp only[↓cw,↓Oo,Om,show(l.length:Int)=(r.length:Int) by omega,kk,OK,Ou];refine aG l (step:=fM r) (fin:=λ_=>OB) (λi n vs S=>n=i/\vs=[.bool OA,O J (i:Int)]) (λx=>x=decide (l=r)) ?_ ?_ (s:=0) ⟨rfl,rfl⟩ (eqL h)
  ·rintro i p n vs S hi ⟨rfl,rfl⟩ aE H;have ai:=(Oq.1 hi).1;have hj:r[n]?=Ot r[n]:=OF (by omega);have ag:((n:Int)<(r.length:Int))=True:=bG hj;simp only[fM,hj,Qy,Rate.same_iff] at H;simp only[↓cw,↓Oo,Om,kk,bG hi,ag,pV hi,pV hj,Qk,gM (show n<1000000000 by omega),oo]
   grind
  ·rintro n vs S ⟨rfl,rfl⟩ aE H;simp only[↓cw,↓Oo,Om,kk,h,OZ,Ou,oo,<-H]
 ·simp only[↓cw,↓Oo,Om,show¬(l.length:Int)=(r.length:Int) by omega,kk,OL,Oy,oo]
  have:decide (l=r)=false:=by simpa usingλe=>h (by rw[e])
  rw[this]
theorem g81(l r:On Ser)(hb:l.length<1000000)(S:St)(K:KW):C 81 [.imm (l.map PZ),.imm (r.map PZ)] S K=K (.bool (decide (l=r))) S:=by
 refine(v81 rfl ?_).eq S K;delta Tryz.f81;simp only[↓cw,↓Oo,Om,kk];by_cases h:l.length=r.length
 ·simp only[↓cw,↓Oo,Om,show(l.length:Int)=(r.length:Int) by omega,kk,OK,Ou];refine aG l (step:=fM r) (fin:=λ_=>OB) (λi n vs S=>n=i/\vs=[.bool OA,O J (i:Int)]) (λx=>x=decide (l=r)) ?_ ?_ (s:=0) ⟨rfl,rfl⟩ (eqL h)
  ·rintro i p n vs S hi ⟨rfl,rfl⟩ aE H;have ai:=(Oq.1 hi).1;have hj:r[n]?=Ot r[n]:=OF (by omega);have ag:((n:Int)<(r.length:Int))=True:=bG hj;simp only[fM,hj,Qy,Ser.same_iff] at H;simp only[↓cw,↓Oo,Om,kk,bG hi,ag,nO hi,nO hj,PZ,gM (show n<1000000000 by omega),oo]
   grind
  ·rintro n vs S ⟨rfl,rfl⟩ aE H;simp only[↓cw,↓Oo,Om,kk,h,OZ,Ou,oo,<-H]
 ·simp only[↓cw,↓Oo,Om,show¬(l.length:Int)=(r.length:Int) by omega,kk,OL,Oy,oo]
  have:decide (l=r)=false:=by simpa usingλe=>h (by rw[e])
  rw[this]
theorem g83(l r:On Bal)(hb:l.length<1000000)(S:St)(K:KW):C 83 [.imm (l.map PC),.imm (r.map PC)] S K=K (.bool (decide (l=r))) S:=by
 refine(v83 rfl ?_).eq S K;delta Tryz.f83;simp only[↓cw,↓Oo,Om,kk];by_cases h:l.length=r.length
 ·simp only[↓cw,↓Oo,Om,show(l.length:Int)=(r.length:Int) by omega,kk,OK,Ou];refine aG l (step:=fM r) (fin:=λ_=>OB) (λi n vs S=>n=i/\vs=[.bool OA,O J (i:Int)]) (λx=>x=decide (l=r)) ?_ ?_ (s:=0) ⟨rfl,rfl⟩ (eqL h)
  ·rintro i p n vs S hi ⟨rfl,rfl⟩ aE H;have ai:=(Oq.1 hi).1;have hj:r[n]?=Ot r[n]:=OF (by omega);have ag:((n:Int)<(r.length:Int))=True:=bG hj;simp only[fM,hj,Qy,Bal.same_iff] at H;simp only[↓cw,↓Oo,Om,kk,bG hi,ag,oJ hi,oJ hj,PC,gM (show n<1000000000 by omega),oo]
   grind
  ·rintro n vs S ⟨rfl,rfl⟩ aE H;simp only[↓cw,↓Oo,Om,kk,h,OZ,Ou,oo,<-H]
 ·simp only[↓cw,↓Oo,Om,show¬(l.length:Int)=(r.length:Int) by omega,kk,OL,Oy,oo]
  have:decide (l=r)=false:=by simpa usingλe=>h (by rw[e])
  rw[this]
theorem g84(l r:On Uj)(hb:l.length<1000000)(S:St)(K:KW):C 84 [.imm (l.map Qe),.imm (r.map Qe)] S K=K (.bool (decide (l=r))) S:=by
 refine(v84 rfl ?_).eq S K;delta Tryz.f84;simp only[↓cw,↓Oo,Om,kk];by_cases h:l.length=r.length
 ·simp only[↓cw,↓Oo,Om,show(l.length:Int)=(r.length:Int) by omega,kk,OK,Ou];refine aG l (step:=fM r) (fin:=λ_=>OB) (λi n vs S=>n=i/\vs=[.bool OA,O J (i:Int)]) (λx=>x=decide (l=r)) ?_ ?_ (s:=0) ⟨rfl,rfl⟩ (eqL h)
  ·rintro i p n vs S hi ⟨rfl,rfl⟩ aE H;have ai:=(Oq.1 hi).1;have hj:r[n]?=Ot r[n]:=OF (by omega);have ag:((n:Int)<(r.length:Int))=True:=bG hj;simp only[fM,hj,Qy,Sess.same_iff] at H;simp only[↓cw,↓Oo,Om,kk,bG hi,ag,mO hi,mO hj,Qe,gM (show n<1000000000 by omega),oo]
   grind
  ·rintro n vs S ⟨rfl,rfl⟩ aE H;simp only[↓cw,↓Oo,Om,kk,h,OZ,Ou,oo,<-H]
 ·simp only[↓cw,↓Oo,Om,show¬(l.length:Int)=(r.length:Int) by omega,kk,OL,Oy,oo]
  have:decide (l=r)=false:=by simpa usingλe=>h (by rw[e])
  rw[this]
theorem bW1(l r:On TX)(hb:l.length<1000000)(S:St)(K:KW):C 224 [.imm (l.map PI),.imm (r.map PI)] S K=K (.bool (decide (l=r))) S:=by
 refine(bSl rfl ?_).eq S K;delta Tryz.f224;simp only[↓cw,↓Oo,Om,kk];by_cases h:l.length=r.length
 ·simp only[↓cw,↓Oo,Om,show(l.length:Int)=(r.length:Int) by omega,kk,OK,Ou];refine aG l (step:=fM r) (fin:=λ_=>OB) (λi n vs S=>n=i/\vs=[.bool OA,O J (i:Int)]) (λx=>x=decide (l=r)) ?_ ?_ (s:=0) ⟨rfl,rfl⟩ (eqL h)
  ·rintro i p n vs S hi ⟨rfl,rfl⟩ aE H;have ai:=(Oq.1 hi).1;have hj:r[n]?=Ot r[n]:=OF (by omega);have ag:((n:Int)<(r.length:Int))=True:=bG hj;simp only[fM,hj,Qy,Part.same_iff] at H;simp only[↓cw,↓Oo,Om,kk,bG hi,ag,kJ hi,kJ hj,PI,gM (show n<1000000000 by omega),oo]
   grind
  ·rintro n vs S ⟨rfl,rfl⟩ aE H;simp only[↓cw,↓Oo,Om,kk,h,OZ,Ou,oo,<-H]
 ·simp only[↓cw,↓Oo,Om,show¬(l.length:Int)=(r.length:Int) by omega,kk,OL,Oy,oo]
  have:decide (l=r)=false:=by simpa usingλe=>h (by rw[e])
  rw[this]
theorem bW2(a b:Up)(hb:a.parts.length<1000000)(S:St)(K:KW):C 162 [.agg [O J a.net,O J a.tax,O J a.gross,.imm (a.parts.map PI)],.agg [O J b.net,O J b.tax,O J b.gross,.imm (b.parts.map PI)]] S K=K (.bool (decide (a=b))) S:=by
 refine(bRn rfl ?_).eq S K;delta Tryz.f162;simp only[↓cw,↓Oo,Om,kk,eY,gm,bW1 a.parts b.parts hb,Total.ext_iff,oo]
 grind
theorem Posted.same_iff(a b:OT):(a=b)=(b.ref=a.ref/\b.day=a.day/\b.of=a.of/\b.back=a.back/\b.total=a.total):=by
 obtain⟨_,_,_,_,_⟩:=a;obtain⟨_,_,_,_,_⟩:=b;simp only[Posted.mk.injEq,eq_iff_iff];constructor
 ·rintro⟨rfl,rfl,rfl,rfl,rfl⟩;exact⟨rfl,rfl,rfl,rfl,rfl⟩
 ·rintro⟨rfl,rfl,rfl,rfl,rfl⟩;exact⟨rfl,rfl,rfl,rfl,rfl⟩
theorem Date.same_iff(a b:Vo):(a=b)=(a.y=b.y/\a.m=b.m/\a.d=b.d):=by obtain⟨_,_,_⟩:=a;obtain⟨_,_,_⟩:=b;simp
theorem g82(l r:On OT)(hb:l.length<1000000)(hq:∀p∈l,p.total.parts.length<1000000)(S:St)(K:KW):C 82 [.imm (l.map Pg),.imm (r.map Pg)] S K=K (.bool (decide (l=r))) S:=by
 refine(v82 rfl ?_).eq S K;delta Tryz.f82;simp only[↓cw,↓Oo,Om,kk];by_cases h:l.length=r.length
 ·simp only[↓cw,↓Oo,Om,show(l.length:Int)=(r.length:Int) by omega,kk,OK,Ou];refine aG l (step:=fM r) (fin:=λ_=>OB) (λi n vs S=>n=i/\vs=[.bool OA,O J (i:Int)]) (λx=>x=decide (l=r)) ?_ ?_ (s:=0) ⟨rfl,rfl⟩ (eqL h)
  ·rintro i p n vs S hi ⟨rfl,rfl⟩ aE H;have ai:=(Oq.1 hi).1;have hj:r[n]?=Ot r[n]:=OF (by omega);have ag:((n:Int)<(r.length:Int))=True:=bG hj;generalize r[n]=q at hj;simp only[fM,hj,Qy,Posted.same_iff q p] at H;simp only[↓cw,↓Oo,Om,kk,gm,bG hi,ag,Oy,mP hi,mP hj,Pg,bW2 p.total q.total (hq p (OM hi)),gM (show n<1000000000 by omega),aC2];by_cases c1:p.ref=q.ref;rotate_left
   ·have c':(!(p.ref.ser == q.ref.ser&&decide (p.ref.num=q.ref.num)))=true:=by rw[Th] at c1;simp;exact TF.1 c1
    rw[Oz (λh=>c1 h.1)] at H;have H:OA=decide (l=r):=H;rw[OE c',<-H]
   have c':¬(!(p.ref.ser == q.ref.ser&&decide (p.ref.num=q.ref.num)))=true:=by rw[c1];simp
   rw[Oz c'];by_cases c2:p.day=q.day;rotate_left
   ·rw[Oz (λh=>c2 h.2.1)] at H;have H:OA=decide (l=r):=H;rw[Date.same_iff] at c2;rw[OE (by simp;grind),<-H]
   rw[Oz (by rw[c2];simp)];by_cases c3:p.of=q.of;rotate_left
   ·rw[Oz (λh=>c3 h.2.2.1)] at H;have H:OA=decide (l=r):=H;rw[Th] at c3;rw[OE (by simp;grind),<-H]
   rw[Oz (by rw[c3];simp)];by_cases c4:p.back=q.back;rotate_left
   ·rw[Oz (λh=>c4 h.2.2.2.1)] at H;have H:OA=decide (l=r):=H;rw[OE (by simpa using c4),<-H]
   rw[Oz (by rw[c4];simp)];by_cases c5:p.total=q.total
   ·rw[OE ⟨c1,c2,c3,c4,c5⟩] at H;rw[Oz (by simp[c5])];exact H _ _ ⟨rfl,rfl⟩
   ·rw[Oz (λh=>c5 h.2.2.2.2)] at H;have H:OA=decide (l=r):=H;rw[OE (by simpa using c5),<-H]
  ·rintro n vs S ⟨rfl,rfl⟩ aE H;simp only[↓cw,↓Oo,Om,kk,h,OZ,Ou,oo,<-H]
 ·simp only[↓cw,↓Oo,Om,show¬(l.length:Int)=(r.length:Int) by omega,kk,OL,Oy,oo]
  have:decide (l=r)=false:=by simpa usingλe=>h (by rw[e])
  rw[this]
theorem State.same_iff(a b:Qg):(a=b)=(a.table=b.table/\a.ser=b.ser/\a.posted=b.posted/\a.book=b.book/\a.sess=b.sess/\a.next=b.next):=by
 obtain⟨_,_,_,_,_,_⟩:=a;obtain⟨_,_,_,_,_,_⟩:=b;simp
def aSo(a b:Qg):Bool:=decide (a.table=b.table)&&(decide (a.ser=b.ser)&&(decide (a.posted=b.posted)&&(decide (a.book=b.book)&&(decide (a.sess=b.sess)&&decide (a.next=b.next)))))
theorem aUv(a b:Qg):aSo a b=OB↔a=b:=by
 rw[State.same_iff];unfold aSo;simp
structure SmlS (s:Qg):Prop where
 tab:s.table.length<1000000
 ser:s.ser.length<1000000
 post:s.posted.length<1000000
 parts:∀p∈s.posted,p.total.parts.length<1000000
 book:s.book.length<1000000
 sess:s.sess.length<1000000
theorem g22(a b:Qg)(h:SmlS a)(S:St)(K:KW):C 22 [.agg [.imm (a.table.map Qk),.imm (a.ser.map PZ),.imm (a.posted.map Pg),.imm (a.book.map PC),.imm (a.sess.map Qe),O J a.next],.agg [.imm (b.table.map Qk),.imm (b.ser.map PZ),.imm (b.posted.map Pg),.imm (b.book.map PC),.imm (b.sess.map Qe),O J b.next]] S K=K (.bool (aSo a b)) S:=by
 refine(v22 rfl ?_).eq S K;delta Tryz.f22;simp only[↓cw,↓Oo,Om,kk,eY,gm,g80 a.table b.table h.tab,g81 a.ser b.ser h.ser,g82 a.posted b.posted h.post h.parts,g83 a.book b.book h.book,g84 a.sess b.sess h.sess,aSo];by_cases c1:a.table=b.table;rotate_left
 ·simp only[c1,Ou,Rp,RJ,oo]
 by_cases c2:a.ser=b.ser;rotate_left
 ·simp only[c1,c2,Oy,Ou,Rp,Rk,RJ,Rn,oo]
 by_cases c3:a.posted=b.posted;rotate_left
 ·simp only[c1,c2,c3,Oy,Ou,Rp,Rk,RJ,Rn,oo]
 by_cases c4:a.book=b.book;rotate_left
 ·simp only[c1,c2,c3,c4,Oy,Ou,Rp,Rk,RJ,Rn,oo]
 by_cases c5:a.sess=b.sess;rotate_left
 ·simp only[c1,c2,c3,c4,c5,Oy,Ou,Rp,Rk,RJ,Rn,oo]
 simp only[c1,c2,c3,c4,c5,Oy,Rk,Rn,oo]
theorem aPw{s:Qg}(hr:bB s=OB):∀x∈s.ser,I64 x.next:=λx hx=>by
 obtain⟨_,b⟩:=((fN _).1 ((cJ s).1 hr).2.1).2.1 x hx;unfold mL at b;simp only[Bool.or_eq_false_iff,decide_eq_false_iff_not] at b;obtain⟨b1,b2,b3,b4⟩:=b;rw[eZ ⟨by omega,by omega⟩] at b4;exact⟨by omega,by omega⟩
theorem Ext.b{S:St}(n:Nat):Ext S ⟨S.next+n,S.heap⟩:=(Tm S).bump n
theorem g29(s:Qg)(hI:oS s)(hn:∀x∈s.ser,I64 x.next)(hp:s.posted.length<1000000)(hq:∀q∈s.posted,q.total.parts.length<=1100000)(h:bB s=OB->ImgOK s){S:St}(w:WF S){K:KW}(H:∀v X,Ext S X->Own S X 1 v ((sB s).map fX)->K v X):C 29 [.agg [.imm (s.table.map Qk),.imm (s.ser.map PZ),.imm (s.posted.map Pg),.imm (s.book.map PC),.imm (s.sess.map Qe),O J s.next]] S K:=by
 refine v29 ?_;delta Tryz.f29;simp only[↓cw,↓Oo,Om,kk,gm,eY,g38 s hI hp hq,aJ4 hI hn];cases c1:bB s
 ·have e:sB s=[]:=by unfold sB;rw[OE c1]
  simp only[↓cw,↓Oo,Om,kk,gm,c1,Oy,Rs];exact H _ _ (by first | exact Tm _ | exact Rg w _) (by rw[e];exact Rf _ _ _)
 have ok:=h c1;have e:sB s=aGa s:=by unfold sB;rw[Oz (by rw[c1];decide),bD4]
 obtain⟨R,hR⟩:∃R,R=aGa s:=⟨_,rfl⟩;rw[e] at H;obtain⟨S0,gc⟩:∃S0:St,S0=⟨S.next+1,S.heap.put S.next (.row 0 6 [s.enc])⟩:=⟨_,rfl⟩;have xS:Ext S S0:=by rw[gc];exact Rg w _
 have w0:WF S0:=xS.wf w;have r0:aC S0 S.next 0=.ok (6,[s.enc]):=by rw[gc];exact aA _ _ _ _ _ _
 have rr:∀{X:St},Ext S0 X->aC X S.next 0=.ok (6,[s.enc]):=λ{X} x=>x.row r0;have wf:∀{X:St},Ext S0 X->WF X:=λ{X} x=>x.wf w0;simp only[SB] at gc rr r0;simp only[↓cw,↓Oo,Om,kk,gm,c1,eY,QL,OO,Ou,<-gc,r0];have o1:=ok.t1;have o2:=ok.s1;have o3:=ok.p1;have o4:=ok.e1
 have fl1:=xW yN (n:=114) s.table λr hr=>aNf (ok.t2 r hr);have fl2:=xW aHb (n:=94) s.ser λr hr=>aSn (ok.s2 r hr);have fl3:=xW wQ (n:=1326) s.posted λr hr=>aJ6 (ok.p2 r hr);have fl4:=xW aDb (n:=50) s.sess λr hr=>aNg (ok.e2 r hr);have l1:=xV (aG9 (n:=s.table.length) (by omega));have l2:=xV (aG9 (n:=s.ser.length) (by omega));have l3:=xV (aG9 (n:=s.posted.length) (by omega));have l4:=xV (aG9 (n:=s.sess.length) (by omega));refine g97 (b:=[]) w0 (Sl.nilv _ _) (by simp) _ (aG9 (by omega)) λv1 S1 x1 Eo=>?_;rw[aGc] at Eo;refine aGb yN s.table (X0:=S0) (B:=114) (λr hr=>aNf (ok.t2 r hr)) x1 Eo.sl (λi x d v X hi bt hv hd aE H=>?_) λv X aE bt hv=>?_
 ·have ai:=(Oq.1 hi).1;have hx:=ok.t2 x (OM hi);have q1:=nC x.cat (by omega);have q2:=aBg hx.2.1
  have fe:d.length<=10000:=by simp only[Pp] at hd;omega
  have xb:Ext S0 ⟨X.next+23,X.heap⟩:=bt.bump 23;simp only[↓cw,↓Oo,Om,kk,gm,rr bt,bG hi,Oy,pV hi,Qk];refine g99 (wf xb) (hv.ext (Ext.b 23)) (by omega) _ (by omega) λv2 Y1 y1 k1=>?_;have z1:=xb.trans y1;simp only[↓cw,↓Oo,Om,kk,gm,rr z1,pV hi,Qk];refine g98 (wf z1) k1.sl (by rw[OC];omega) x.day hx.2.1 λv3 Y2 y2 k2=>?_;have z2:=z1.trans y2;simp only[↓cw,↓Oo,Om,kk,gm,rr z2,pV hi,Qk];refine g97 (wf z2) k2.sl (by simp only[OC];omega) x.bp hx.2.2 λv4 Y3 y3 k3=>?_;simp only[↓cw,↓Oo,Om,kk,gm,gM (show i<1000000000 by omega)];exact H _ _ (z2.trans y3) (by have:=k3.sl;rw[aGc] at this;simpa[yN] using this)
 simp only[↓cw,↓Oo,Om,kk,gm,OZ,Ou,rr bt];have z1:([]++eI [(s.table.length:Int)]++s.table.flatMap yN).length<=2746:=by simp only[OC,Pf];omega
 generalize AZ:([]++eI [(s.table.length:Int)]++s.table.flatMap yN:On OP)=B1 at hv z1;refine g97 (wf bt) hv (by omega) _ (aG9 (n:=s.ser.length) (by omega)) λv2 S2 x2 Ep=>?_;rw[aGc] at Ep;have b2:=bt.trans x2;clear hv;refine aGb aHb s.ser (X0:=S0) (B:=94) (λr hr=>aSn (ok.s2 r hr)) b2 Ep.sl (λi x d v X hi bt hv hd aE H=>?_) λv X aE bt hv=>?_
 ·have ai:=(Oq.1 hi).1;have hx:=ok.s2 x (OM hi);have q1:=nC x.name (by omega);have fe:d.length<=10000:=by rw[OC] at hd;omega
  have xb:Ext S0 ⟨X.next+23,X.heap⟩:=bt.bump 23;simp only[↓cw,↓Oo,Om,kk,gm,rr bt,bG hi,Oy,nO hi,PZ];refine g99 (wf xb) (hv.ext (Ext.b 23)) (by omega) _ (by omega) λv2 Y1 y1 k1=>?_;have z1:=xb.trans y1;simp only[↓cw,↓Oo,Om,kk,gm,rr z1,nO hi,PZ];refine g97 (wf z1) k1.sl (by rw[OC];omega) x.limit hx.2 λv3 Y2 y2 k2=>?_;have z2:=z1.trans y2;have q2:=Go.Pack.numP_len hx.2;simp only[↓cw,↓Oo,Om,kk,gm,rr z2,nO hi,PZ];refine bVt (wf z2) k2.sl (by simp only[OC];omega) x.shut λv4 Y3 y3 k3=>?_;simp only[↓cw,↓Oo,Om,kk,gm,gM (show i<1000000000 by omega)];exact H _ _ (z2.trans y3) (by have:=k3.sl;rw[aGc] at this;simpa[aHb] using this)
 simp only[↓cw,↓Oo,Om,kk,gm,OZ,Ou,rr bt];have z2:(B1++eI [(s.ser.length:Int)]++s.ser.flatMap aHb).length<=3508:=by simp only[OC];omega
 generalize yd:(B1++eI [(s.ser.length:Int)]++s.ser.flatMap aHb:On OP)=B2 at hv z2;refine g97 (wf bt) hv (by omega) _ (aG9 (n:=s.posted.length) (by omega)) λv3 S3 x3 Er=>?_;rw[aGc] at Er;have b3:=bt.trans x3;clear hv;refine aGb wQ s.posted (X0:=S0) (B:=1326) (λr hr=>aJ6 (ok.p2 r hr)) b3 Er.sl (λi x d v X hi bt hv hd aE H=>?_) λv X aE bt hv=>?_
 ·have ai:=(Oq.1 hi).1;have hx:=ok.p2 x (OM hi);have fe:d.length<=70000:=by rw[OC] at hd;omega
  have q1:=nC x.ref.ser (by have:=hx.ser;omega);have q2:=aBg hx.day;have q3:=nC x.of.ser (by have:=hx.ofs;omega)
  have Cj:=hx.ser;have yb:=hx.ofs;have hs3:=hx.len
  have wX:=wf bt;obtain⟨X1,fg⟩:∃X1:St,X1=⟨X.next+1,(X.heap.put X.next (.row 0 12 [aDk])).put X.next (.row 0 12 [x.enc])⟩:=⟨_,rfl⟩;have xX:Ext X X1:=by rw[fg];exact Wo wX 12 _ _
  have rq:aC X1 X.next 0=.ok (12,[x.enc]):=by rw[fg];exact aA _ _ _ _ _ _
  have BK:∀{Y:St},Ext X1 Y->aC Y X.next 0=.ok (12,[x.enc]):=λ{Y} y=>y.row rq;simp only[aDk,Pg] at fg;simp only[Pg] at BK rq;simp only[↓cw,↓Oo,Om,kk,gm,rr bt,bG hi,Oy,mP hi,Pg,<-fg,rq];have CA:=xX.wf wX;have y0:Ext X1 ⟨X1.next+9,X1.heap⟩:=Ext.b 9;refine g99 (y0.wf CA) (hv.ext (xX.trans y0)) (by omega) _ (by omega) λv2 Y1 y1 k1=>?_;have t1:=y0.trans y1;simp only[↓cw,↓Oo,Om,kk,gm,BK t1];refine g98 (t1.wf CA) k1.sl (by rw[OC];omega) x.day hx.day λv3 Y2 y2 k2=>?_;have t2:=(t1.trans y2).trans (Ext.b (S:=Y2) 10);simp only[↓cw,↓Oo,Om,kk,gm,BK (t1.trans y2)];refine g99 (t2.wf CA) (k2.sl.ext (Ext.b 10)) (by simp only[OC];omega) _ (by omega) λv4 Y3 y3 k3=>?_;have t3:=t2.trans y3;simp only[↓cw,↓Oo,Om,kk,gm,BK t3];refine g97 (t3.wf CA) k3.sl (by simp only[OC];omega) _ hx.num λv5 Y4 y4 k4=>?_;have t4:=t3.trans y4;have q4:=Go.Pack.numP_len hx.num;simp only[↓cw,↓Oo,Om,kk,gm,BK t4];refine g97 (t4.wf CA) k4.sl (by simp only[OC];omega) _ (aG9 (n:=x.total.parts.length) (by omega)) λv6 Y5 y5 k5=>?_;have t5:=t4.trans y5;have q5:=Go.Pack.numP_len (aG9 (n:=x.total.parts.length) (by omega));refine aGb aDa x.total.parts (X0:=X1) (B:=94) (λr hr=>aNe (hx.parts r hr)) t5 k5.sl (λi2 x2 d2 v X od CB Au DU cz H2=>?_) λv X' cz CB Au=>?_
  ·have ED:=(Oq.1 od).1;have xa:=hx.parts x2 (OM od);have e1:=nC x2.cat (by omega);have hd2':d2.length<=80000:=by simp only[OC] at DU;omega
   have wZ:=CB.wf CA;obtain⟨Z1,FQ⟩:∃Z1:St,Z1=⟨X.next+1,(X.heap.put X.next (.row 0 4 [[.str [],O J 0,O J 0,O J 0]])).put X.next (.row 0 4 [x2.enc])⟩:=⟨_,rfl⟩;have xZ:Ext X Z1:=by rw[FQ];exact Wo wZ 4 _ _
   have rz:aC Z1 X.next 0=.ok (4,[x2.enc]):=by rw[FQ];exact aA _ _ _ _ _ _
   have Iu:∀{Y:St},Ext Z1 Y->aC Y X.next 0=.ok (4,[x2.enc]):=λ{Y} y=>y.row rz;simp only[PI] at FQ Iu rz;have Iv:=xZ.wf wZ;simp only[↓cw,↓Oo,Om,kk,gm,BK CB,bG od,Oy,kJ od,PI,<-FQ,rz];have f0:Ext Z1 ⟨Z1.next+11,Z1.heap⟩:=Ext.b 11;refine g99 (f0.wf Iv) (Au.ext (xZ.trans f0)) (by omega) _ (by omega) λv2 U1 u1 m1=>?_;have f1:=f0.trans u1;simp only[↓cw,↓Oo,Om,kk,gm,Iu f1];refine g97 (f1.wf Iv) m1.sl (by rw[OC];omega) _ xa.2.1 λv3 U2 u2 m2=>?_;have f2:=f1.trans u2;have e2:=Go.Pack.numP_len xa.2.1;simp only[↓cw,↓Oo,Om,kk,gm,Iu f2];refine g97 (f2.wf Iv) m2.sl (by simp only[OC];omega) _ xa.2.2 λv4 U3 u3 m3=>?_;simp only[↓cw,↓Oo,Om,kk,gm,gM (show i2<1000000000 by omega)];exact H2 _ _ (CB.trans (xZ.trans (f2.trans u3))) (by have:=m3.sl;simpa[aDa,eI] using this)
  ·simp only[↓cw,↓Oo,Om,kk,gm,BK CB,OZ,Ou,gM (show i<1000000000 by omega)];exact H _ _ (bt.trans (xX.trans CB)) (by simpa[wQ,eI] using Au)
 simp only[↓cw,↓Oo,Om,kk,gm,OZ,Ou,rr bt];have z3:(B2++eI [(s.posted.length:Int)]++s.posted.flatMap wQ).length<=60000:=by simp only[OC];omega
 generalize hB3:(B2++eI [(s.posted.length:Int)]++s.posted.flatMap wQ:On OP)=B3 at hv z3;refine g97 (wf bt) hv (by omega) _ (aG9 (n:=s.sess.length) (by omega)) λv4 S4 x4 Es=>?_;rw[aGc] at Es;have b4:=bt.trans x4;clear hv;refine aGb aDb s.sess (X0:=S0) (B:=50) (λr hr=>aNg (ok.e2 r hr)) b4 Es.sl (λi x d v X hi bt hv hd aE H=>?_) λv X aE bt hv=>?_
 ·have ai:=(Oq.1 hi).1;have hx:=ok.e2 x (OM hi);have fe:d.length<=70000:=by rw[OC] at hd;omega
  have q1:=Go.Pack.numP_len hx.1;have q2:=Go.Pack.numP_len hx.2.1
  have xb:Ext S0 ⟨X.next+23,X.heap⟩:=bt.bump 23;simp only[↓cw,↓Oo,Om,kk,gm,rr bt,bG hi,Oy,mO hi,Qe];refine g97 (wf xb) (hv.ext (Ext.b 23)) (by omega) _ hx.1 λv2 Y1 y1 k1=>?_;have z1:=xb.trans y1;simp only[↓cw,↓Oo,Om,kk,gm,rr z1,mO hi,Qe];refine g97 (wf z1) k1.sl (by rw[OC];omega) _ hx.2.1 λv3 Y2 y2 k2=>?_;have z2:=z1.trans y2;simp only[↓cw,↓Oo,Om,kk,gm,rr z2,mO hi,Qe];refine bVu (wf z2) k2.sl (by simp only[OC];omega) x.reply hx.2.2 λv4 Y3 y3 k3=>?_;simp only[↓cw,↓Oo,Om,kk,gm,gM (show i<1000000000 by omega)];exact H _ _ (z2.trans y3) (by have:=k3.sl;simpa[aDb,eI] using this)
 simp only[↓cw,↓Oo,Om,kk,gm,OZ,Ou,rr bt];refine g97 (wf bt) hv (by simp only[OC];omega) _ ok.n λv5 S5 x5 o5=>?_;have fm:B3++eI [(s.sess.length:Int)]++s.sess.flatMap aDb++Go.Pack.numP s.next=R:=by rw[hR,<-hB3,<-yd,<-AZ,aGc];simp[aGa]
 rw[fm] at o5;rw[<-hR] at H;exact H _ _ (xS.trans (bt.trans x5)) (o5.weaken (QC xS.next bt.next))
structure Rd where
 pos:Nat
 err:Int
def Rd.cells(b:On OP)(r:Rd):On V:=[.imm (b.map fX),O J (r.pos:Int),O J r.err]
theorem Rd.clo(b:On OP)(r:Rd):[r.cells b].all Tl=true:=by
 simp only[Rd.cells,SR,Uc,Tl,nK,aU (enc:=fX) (λ_=>rfl) b,QG]
abbrev FRd(f:PU)(ws:On V)(b:On OP)(r:Rd)(v:V)(r':Rd):Prop:=Fr f (λa=>.ptr a 0 0 0::ws) 3 (r.cells b) v (r'.cells b)
theorem bPo:lS 151=Ot (.val (dD [])):=by kernel_rfl
theorem bIv:VT 151 Tryz.f151 [] []:=vt
theorem bW3(b:On OP)(r:Rd)(n:Nat)(e:Int):FRd 151 [O J (n:Int),O J e] b r (O J 0) ⟨n,e⟩:=by
 refine Sw bPo (lv:=dY []) (Rq rfl) (Rd.clo b r) ?_ rfl (Rd.clo b _);rw[bIv];delta Tryz.f151;simp only[↓cw,↓Oo,Om,kk,Rd.cells,aA];trivial
theorem bPp:lS 139=Ot (.val (dD [])):=by kernel_rfl
theorem bIw:VT 139 Tryz.f139 [] []:=vt
theorem bAb(b:On OP)(r:Rd):FRd 139 [] b r (O J r.err) r:=by
 refine Sw bPp (lv:=dY []) (Rq rfl) (Rd.clo b r) ?_ rfl (Rd.clo b _);rw[bIw];delta Tryz.f139;simp only[↓cw,↓Oo,Om,kk,Rd.cells,aA];trivial
theorem bW4:lS 69=Ot (.val (dD [])):=by kernel_rfl
theorem t69:VT 69 Tryz.f69 [] [(6,[2,3,4])]:=vt
def aZ(b:On OP)(r:Rd):Int×Rd:=if r.err=0 then(match Go.Pack.rdL 0 0 (b.drop r.pos) with
 | .ok (u,t)=>(Go.Pack.zag u,⟨b.length - t.length,0⟩)
 | .error e=>(0,⟨r.pos,e⟩)) else(0,r)
theorem aL3{l:On OP}{i:Nat}{a:OP}(hi:l[i]?=Ot a)(k:Qa):fV 1 (.imm (l.map fX)) (.int k (i:Int))=.ok (.iptr (fX a) 0):=ixI (enc:=fX) hi rfl k
theorem bW5(t:Nat)(k:Qa)(a:Int)(s:Nat):cC prog .shl t (.int k a) (.int ξ (s:Int))=.ok (.int k (wr k (a*2 ^ (min s k.bits)))):=by
 have h:¬((s:Int)<0):=by omega
 simp[cC,aA6,h,wr]
theorem bHf(t:Nat)(a b:Int):cC prog .and t (.int ω a) (.int ω b)=.ok (.int ω (wr ω ((Qj (OX RR.bits a &&& OX RR.bits b):Nat):Int))):=rfl
theorem orK(t:Nat)(a b:Int):cC prog .or t (.int ξ a) (.int ξ b)=.ok (.int ξ (wr ξ ((Qj (OX PH.bits a ||| OX PH.bits b):Nat):Int))):=rfl
theorem bW6(x:Nat)(h:x<256):Qj (OX 8 (x:Int) &&& OX 8 127)=x % 128:=
 (by decide +kernel:∀x:Fin 256,Qj (OX 8 (x.val:Int) &&& OX 8 127)=x.val % 128) ⟨x,h⟩
theorem aSp(c:OP):wr ω ((Qj (OX RR.bits (c.toNat:Int) &&& OX RR.bits 127):Nat):Int)=((c.toNat % 128:Nat):Int):=by
 have hc:c.toNat<256:=c.toNat_lt
 have:=bW6 c.toNat hc
 have e:Qj (OX RR.bits (c.toNat:Int) &&& OX RR.bits 127)=c.toNat % 128:=this;rw[e,wr8];congr 1;omega
theorem aNh(i acc:Nat)(c:OP)(t:On OP):Go.Pack.rdL i acc (c::t)=if i=9/\1<c.toNat then .error 4 else if 128<=c.toNat then Go.Pack.rdL (i+1) (acc+c.toNat % 128*2 ^ (7*i)) t else if c.toNat=0/\0<i then .error 4 else .ok (acc+c.toNat % 128*2 ^ (7*i),t):=by rw[Go.Pack.rdL]
theorem bD5{u:Nat}(h:u<2 ^ 64):wr ξ ((Qj (OX PH.bits (u:Int) &&& OX PH.bits 1):Nat):Int)=((u % 2:Nat):Int):=by
 have e:Qj (OX PH.bits (u:Int) &&& OX PH.bits 1)=u % 2:=by
  rw[XB];have e1:(OX PH.bits (u:Int)).toNat=u:=by rw[Rx];show((u:Int) % ((2 ^ 64:Nat):Int)).toNat=u;omega
  have e2:(OX PH.bits 1).toNat=2 ^ 1 - 1:=by decide
  rw[e1,e2,VW]
 rw[e,aDc (by omega)]
theorem aSq(t:Nat)(k:Qa)(a:Int):cC prog .shr t (.int k a) (.int ξ 1)=.ok (.int k (Xn a (2 ^ (min (Va 1) k.bits)))):=rfl
theorem bD6(u:Nat):Xn (u:Int) (2 ^ (min (Va 1) PH.bits))=((u / 2:Nat):Int):=by
 rw[show(min (Va 1) PH.bits)=1 from by decide,SP _ (by decide)];omega
theorem bW7{m:Nat}(h:m<2 ^ 63):wr J (aH3 (m:Int))=-(m:Int) - 1:=by
 rw[aSl (by omega) (by omega)];simp[wr,lo,hi,Tc,TD,TE,Td,Sq];omega
theorem aHc{b:On OP}{pos:Nat}{e0:Int}{S:St}{a:Nat}(hS:S.heap.get a=Ot (.row 0 3 [[.imm (b.map fX),O J (pos:Int),O J e0]]))(n:Nat)(e:Int)(K:KW):C 151 [.ptr a 0 0 0,O J (n:Int),O J e] S K=K (O J 0) ⟨S.next,S.heap.put a (.row 0 3 [[.imm (b.map fX),O J (n:Int),O J e]])⟩:=(bW3 b ⟨pos,e0⟩ n e).eq hS K
theorem bHg{i acc c:Nat}(hi:i<=9)(ha:acc<2 ^ (7*i))(h9:¬(i=9/\1<c)):c % 128*2 ^ (7*i)<2 ^ 64/\acc+c % 128*2 ^ (7*i)<2 ^ 64/\acc<2 ^ 64/\(i<=8->acc+c % 128*2 ^ (7*i)<2 ^ (7*(i+1)))/\7*i<=63:=by
 rcases Go.Pack.pow_step hi with rfl | rfl | rfl | rfl | rfl | rfl | rfl | rfl | rfl | rfl<;>simp only[Nat.reduceMul,Nat.reduceSub,Nat.reducePow,Pi] at ha|-<;>omega
theorem bHh{acc m i:Nat}(ha:acc<2 ^ (7*i))(h1:m*2 ^ (7*i)<2 ^ 64)(h2:acc+m*2 ^ (7*i)<2 ^ 64)(h3:acc<2 ^ 64):wr ξ ((Qj (OX PH.bits (acc:Int) ||| OX PH.bits ((m*2 ^ (7*i):Nat):Int)):Nat):Int)=((acc+m*2 ^ (7*i):Nat):Int):=by
 have k1:m <<< (7*i)=m*2 ^ (7*i):=Nat.shiftLeft_eq m (7*i);have k2:=Nat.shiftLeft_add_eq_or_of_lt ha m;rw[k1] at k2;generalize m*2 ^ (7*i)=w at h1 h2 k2|-
 have e:Qj (OX PH.bits (acc:Int) ||| OX PH.bits (w:Int))=acc+w:=by
  rw[BitVec.toNat_or];have e1:(OX PH.bits (acc:Int)).toNat=acc:=by rw[Rx];show((acc:Int) % ((2 ^ 64:Nat):Int)).toNat=acc;omega
  have e2:(OX PH.bits (w:Int)).toNat=w:=by rw[Rx];show((w:Int) % ((2 ^ 64:Nat):Int)).toNat=_;omega
  rw[e1,e2,Nat.or_comm,<-k2,Nat.add_comm]
 rw[e,aDc h2]
theorem sh7{i m:Nat}(h7:7*i<=63)(h:m*2 ^ (7*i)<2 ^ 64):wr ξ ((m:Int)*2 ^ (min (7*i) PH.bits))=((m*2 ^ (7*i):Nat):Int):=by
 rw[show min (7*i) PH.bits=7*i by show min (7*i) 64=_;omega];have e:(m:Int)*2 ^ (7*i)=((m*2 ^ (7*i):Nat):Int):=by rw[Int.natCast_mul,Int.natCast_pow];rfl
 rw[e,aDc h]
theorem i7{i:Nat}(h:7*i<=63):wr ξ (wr J (7*(i:Int)))=((7*i:Nat):Int):=by
 rw[fB (by omega) (by omega),show(7*(i:Int))=((7*i:Nat):Int) by omega,aDc (by omega)]
theorem b69{b:On OP}(hb:b.length<1000000000){r:Rd}(hr:r.pos<=b.length):dR prog C (dD []) (dY [(6,[2,3,4])]) 69 [.ptr 0 0 0 0] ⟨1,Tr.nil.put 0 (.row 0 3 [r.cells b])⟩ λv0 S0=>v0=O J (aZ b r).1/\S0.heap.get 0=Ot (.row 0 3 [(aZ b r).2.cells b]):=by
 rw[t69];delta Tryz.f69;simp only[↓cw,↓Oo,Om,kk,Rd.cells,aA];by_cases he:r.err=0
 ·simp only[↓cw,↓Oo,Om,kk,he,Oy,Ou,OK];refine eH (λm vs X=>∃i acc:Nat,m=10 - i/\i<=9/\vs=[O J 0,.int ξ (acc:Int),O J (i:Int)]/\X.heap=Tr.nil.put 0 (Blk.row 0 3 [[V.imm (b.map fX),V.int Pm (r.pos:Int),V.int Pm 0]])/\acc<2 ^ (7*i)/\r.pos+i<=b.length/\Go.Pack.rdL i acc (b.drop (r.pos+i))=Go.Pack.rdL 0 0 (b.drop r.pos)) ?_ ⟨0,0,rfl,by omega,rfl,rfl,by decide,by omega,rfl⟩;rintro m vs ⟨nx,hp⟩ ⟨i,acc,rfl,hi,rfl,hX,ha,FG,pf⟩ aE gv;simp only at hX;subst hX;have hw:wr J ((r.pos:Int)+(i:Int))=((r.pos+i:Nat):Int):=by rw[fB (by omega) (by omega)];omega
  simp only[↓cw,↓Oo,Om,kk,aA,hw];by_cases hs:b.length<=r.pos+i
  ·simp only[↓cw,↓Oo,Om,kk,show((b.length:Int)<=((r.pos+i:Nat):Int))=UF by simp;omega,Oy];refine Qw (aHc (b:=b) (pos:=r.pos) (e0:=0) (Ox _ _ _ trivial) r.pos 3 _) ?_;have hN:aZ b r=(0,⟨r.pos,3⟩):=by unfold aZ;rw[OE he,<-pf,QH hs];rfl
   rw[hN];exact⟨rfl,Ox _ _ _ trivial⟩
  ·obtain⟨c,hc⟩:∃c,b[r.pos+i]?=Ot c:=⟨_,OF (by omega)⟩;have hd:b.drop (r.pos+i)=c::b.drop (r.pos+(i+1)):=by
    obtain⟨hl,Ev⟩:=Oq.1 hc;rw[<-Ev];exact(Ts hl).symm
   rw[hd,aNh] at pf;have hN:aZ b r=(match Go.Pack.rdL 0 0 (b.drop r.pos) with
    | .ok (u,t)=>(Go.Pack.zag u,⟨b.length - t.length,0⟩)
    | .error e=>(0,⟨r.pos,e⟩)):=by unfold aZ;rw[OE he]
   rw[<-pf] at hN;have EE:(fX c)[0]?=Ot (.int ω (c.toNat:Int)):=rfl;by_cases yr:i=9/\1<c.toNat
   ·rw[OE yr] at hN;simp only[↓cw,↓Oo,Om,kk,show((b.length:Int)<=((r.pos+i:Nat):Int))=Sc by simp;omega,Ou,aL3 hc,EE,show((i:Int)=9)=UF by simp;omega,Oy,show((1:Int)<(c.toNat:Int))=UF by simp;omega];refine Qw (aHc (b:=b) (pos:=r.pos) (e0:=0) (Ox _ _ _ trivial) r.pos 4 _) ?_;rw[hN];exact⟨rfl,Ox _ _ _ trivial⟩
   rw[Oz yr] at hN;obtain⟨q1,q2,q3,q4,q5⟩:=bHg hi ha yr;have np:wr ξ ((c.toNat % 128:Nat):Int)=((c.toNat % 128:Nat):Int):=aDc (by omega);have Iw:∀(A B:Prop),(if(i:Int)=9 then(if(1:Int)<(c.toNat:Int) then A else B) else B)=B:=by
    intro A B;split
    ·rw[Oz (by omega)]
    ·rfl
   simp only[↓cw,↓Oo,Om,kk,show((b.length:Int)<=((r.pos+i:Nat):Int))=Sc by simp;omega,Ou,aL3 hc,EE,Iw,bHf,aSp,np,i7 q5,bW5,sh7 q5 q1,orK,bHh ha q1 q2 q3,gM (show i<1000000000 by omega)];by_cases pe:128<=c.toNat
   ·rw[OE pe] at pf;simp only[show((128:Int)<=(c.toNat:Int))=UF by simp;omega,Oy];exact gv (10 - (i+1)) _ _ (by omega) ⟨i+1,_,rfl,by omega,rfl,rfl,q4 (by omega),by omega,by rw[Oz yr] at pf;exact pf⟩
   rw[Oz pe] at hN;simp only[show((128:Int)<=(c.toNat:Int))=Sc by simp;omega,Ou];by_cases h0:c.toNat=0/\0<i
   ·rw[OE h0] at hN;simp only[show((c.toNat:Int)=0)=UF by simp;omega,show((0:Int)<(i:Int))=UF by simp;omega,Oy];refine Qw (aHc (b:=b) (pos:=r.pos) (e0:=0) (Ox _ _ _ trivial) r.pos 4 _) ?_;rw[hN];exact⟨rfl,Ox _ _ _ trivial⟩
   rw[Oz h0] at hN;have EF:∀(A B:Prop),(if(c.toNat:Int)=0 then(if(0:Int)<(i:Int) then A else B) else B)=B:=by
    intro A B;split
    ·rw[Oz (by omega)]
    ·rfl
   have hv:wr J ((r.pos:Int)+((i+1:Nat):Int))=((b.length - (b.drop (r.pos+(i+1))).length:Nat):Int):=by rw[fB (by omega) (by omega),PQ];omega
   generalize acc+c.toNat % 128*2 ^ (7*i)=u at *
   by_cases pg:u % 2=1
   ·have hz:Go.Pack.zag u=-((u / 2:Nat):Int) - 1:=by unfold Go.Pack.zag;rw[OE pg]
    simp only[↓cw,↓Oo,Om,kk,EF,hv,bA8,unK,bD5 q2,pg,aSq,bD6,bW7 (show u / 2<2 ^ 63 by omega),Yn,Oy];rw[hN];exact⟨Qo (V.int J) hz.symm,Ox _ _ _ trivial⟩
   ·have hz:Go.Pack.zag u=((u / 2:Nat):Int):=by unfold Go.Pack.zag;rw[Oz pg]
    simp only[↓cw,↓Oo,Om,kk,EF,hv,bA8,unK,bD5 q2,show(((u % 2:Nat):Int)=1)=Sc by simp;omega,aSq,bD6,Ou,fB (show -9223372036854775808<=((u / 2:Nat):Int) by omega) (show((u / 2:Nat):Int)<=9223372036854775807 by omega)];rw[hN];exact⟨Qo (V.int J) hz.symm,Ox _ _ _ trivial⟩
 ·simp only[↓cw,↓Oo,Om,kk,he,Oy,Ou,OL,aZ];trivial
theorem r69{b:On OP}(hb:b.length<1000000000){r:Rd}(hr:r.pos<=b.length):FRd 69 [] b r (O J (aZ b r).1) (aZ b r).2:=Sw bW4 (lv:=dY [(6,[2,3,4])]) (Rq rfl) (Rd.clo b r) (b69 hb hr) rfl (Rd.clo b _)
theorem aO{b:On OP}{r:Rd}(hr:r.pos<=b.length):(aZ b r).2.pos<=b.length:=by
 unfold aZ;split
 ·split
  ·exact Nat.sub_le _ _
  ·exact hr
 ·exact hr
def fO(b:On OP)(lo hi:Int)(r:Rd):Int×Rd:=if(aZ b r).2.err=0 then(if(aZ b r).1<lo then(0,⟨r.pos,2⟩) else if hi<(aZ b r).1 then(0,⟨r.pos,2⟩) else aZ b r) else aZ b r
theorem mA{b:On OP}{lo hi:Int}{r:Rd}(hr:r.pos<=b.length):(fO b lo hi r).2.pos<=b.length:=by
 unfold fO
 repeat' split
 all_goals first | exact hr | exact aO hr
theorem bPq:lS 216=Ot (.val (dD [])):=by kernel_rfl
theorem bW8:VT 216 Tryz.f216 [] []:=vt
theorem bD7{b:On OP}(hb:b.length<1000000000){r:Rd}(hr:r.pos<=b.length)(lo hi:Int):FRd 216 [O J lo,O J hi] b r (O J (fO b lo hi r).1) (fO b lo hi r).2:=by
 refine Sw bPq (lv:=dY []) (Rq rfl) (Rd.clo b r) ?_ rfl (Rd.clo b _);rw[bW8];delta Tryz.f216;simp only[↓cw,↓Oo,Om,kk,Rd.cells,aA];refine Qw ((r69 hb hr).eq (Ox _ _ _ trivial) _) ?_;unfold fO;generalize aZ b r=x;obtain⟨n,p,e⟩:=x;simp only[↓cw,↓Oo,Om,kk,Rd.cells,aA];by_cases he:e=0
 ·by_cases h1:n<lo
  ·simp only[↓cw,↓Oo,Om,kk,he,h1,Oy,aA];refine Qw (aHc (b:=b) (pos:=p) (e0:=0) (Ox _ _ _ trivial) r.pos 2 _) ?_
   first | exact⟨rfl,Ox _ _ _ trivial⟩ | exact Ox _ _ _ trivial
  ·by_cases h2:hi<n
   ·simp only[↓cw,↓Oo,Om,kk,he,h1,h2,Oy,Ou,aA];refine Qw (aHc (b:=b) (pos:=p) (e0:=0) (Ox _ _ _ trivial) r.pos 2 _) ?_
    first | exact⟨rfl,Ox _ _ _ trivial⟩ | exact Ox _ _ _ trivial
   ·simp only[↓cw,↓Oo,Om,kk,he,h1,h2,Oy,Ou,aA]
    first | exact⟨rfl,Ox _ _ _ trivial⟩ | exact Ox _ _ _ trivial
 ·simp only[↓cw,↓Oo,Om,kk,he,Oy,Ou,aA]
  first | exact⟨rfl,Ox _ _ _ trivial⟩ | exact Ox _ _ _ trivial
def cB(b:On OP)(most:Int)(r:Rd):Int×Rd:=if(fO b 0 most r).2.err=0 then(if(b.length:Int) - (fO b 0 most r).2.pos<(fO b 0 most r).1 then(0,⟨r.pos,3⟩) else fO b 0 most r) else fO b 0 most r
theorem fC{b:On OP}{most:Int}{r:Rd}(hr:r.pos<=b.length):(cB b most r).2.pos<=b.length:=by
 unfold cB
 repeat' split
 all_goals first | exact hr | exact mA hr
theorem bAc:lS 145=Ot (.val (dD [])):=by kernel_rfl
theorem bAd:VT 145 Tryz.f145 [] []:=vt
theorem bD8{b:On OP}(hb:b.length<1000000000){r:Rd}(hr:r.pos<=b.length)(most:Int):FRd 145 [O J most] b r (O J (cB b most r).1) (cB b most r).2:=by
 refine Sw bAc (lv:=dY []) (Rq rfl) (Rd.clo b r) ?_ rfl (Rd.clo b _);rw[bAd];delta Tryz.f145;simp only[↓cw,↓Oo,Om,kk,Rd.cells,aA];refine Qw ((bD7 hb hr 0 most).eq (Ox _ _ _ trivial) _) ?_;have hp:=mA (lo:=0) (hi:=most) hr;unfold cB;generalize fO b 0 most r=x at hp|-
 obtain⟨n,p,e⟩:=x;simp only at hp;have hw:wr J ((b.length:Int) - (p:Int))=(b.length:Int) - (p:Int):=fB (by omega) (by omega);simp only[↓cw,↓Oo,Om,kk,Rd.cells,aA,hw];by_cases he:e=0
 ·by_cases h1:(b.length:Int) - (p:Int)<n
  ·simp only[↓cw,↓Oo,Om,kk,he,h1,Oy,aA,hw];refine Qw (aHc (b:=b) (pos:=p) (e0:=0) (Ox _ _ _ trivial) r.pos 3 _) ?_
   first | exact⟨rfl,Ox _ _ _ trivial⟩ | exact Ox _ _ _ trivial
  ·simp only[↓cw,↓Oo,Om,kk,he,h1,Oy,Ou,aA,hw]
   first | exact⟨rfl,Ox _ _ _ trivial⟩ | exact Ox _ _ _ trivial
 ·simp only[↓cw,↓Oo,Om,kk,he,Oy,Ou,aA]
  first | exact⟨rfl,Ox _ _ _ trivial⟩ | exact Ox _ _ _ trivial
def mF(b:On OP)(r:Rd):Ps×Rd:=if(aZ b r).2.err=0 then(if(aZ b r).1=0 then(OA,(aZ b r).2) else if(aZ b r).1=1 then(OB,(aZ b r).2) else(OA,⟨r.pos,4⟩)) else(OA,(aZ b r).2)
theorem aC9{b:On OP}{r:Rd}(hr:r.pos<=b.length):(mF b r).2.pos<=b.length:=by
 unfold mF
 repeat' split
 all_goals first | exact hr | exact aO hr
theorem bPr:lS 148=Ot (.val (dD [])):=by kernel_rfl
theorem bW9:VT 148 Tryz.f148 [] []:=vt
theorem bWa{b:On OP}(hb:b.length<1000000000){r:Rd}(hr:r.pos<=b.length):FRd 148 [] b r (.bool (mF b r).1) (mF b r).2:=by
 refine Sw bPr (lv:=dY []) (Rq rfl) (Rd.clo b r) ?_ rfl (Rd.clo b _);rw[bW9];delta Tryz.f148;simp only[↓cw,↓Oo,Om,kk,Rd.cells,aA];refine Qw ((r69 hb hr).eq (Ox _ _ _ trivial) _) ?_;unfold mF;generalize aZ b r=x;obtain⟨n,p,e⟩:=x;simp only[↓cw,↓Oo,Om,kk,Rd.cells,aA];by_cases he:e=0
 ·by_cases h1:n=0
  ·simp only[↓cw,↓Oo,Om,kk,he,h1,Oy,Ou,OK,aA,show((0:Int)=1)=Sc by simp,Rp]
   first | exact⟨rfl,Ox _ _ _ trivial⟩ | exact Ox _ _ _ trivial
  ·by_cases h2:n=1
   ·simp only[↓cw,↓Oo,Om,kk,he,h2,Oy,Ou,OK,OL,aA,show((1:Int)=0)=Sc by simp,Rk]
    first | exact⟨rfl,Ox _ _ _ trivial⟩ | exact Ox _ _ _ trivial
   ·simp only[↓cw,↓Oo,Om,kk,he,h1,h2,Oy,Ou,OK,OL,aA];refine Qw (aHc (b:=b) (pos:=p) (e0:=0) (Ox _ _ _ trivial) r.pos 4 _) ?_;simp only[↓cw,↓Oo,Om,kk,aA,show((4:Int)=0)=Sc by simp,Ou]
    first | exact⟨rfl,Ox _ _ _ trivial⟩ | exact Ox _ _ _ trivial
 ·simp only[↓cw,↓Oo,Om,kk,he,Oy,Ou,aA]
  first | exact⟨rfl,Ox _ _ _ trivial⟩ | exact Ox _ _ _ trivial
def lI(b:On OP)(r:Rd):Rd:=if r.err=0 then(if r.pos<b.length then⟨r.pos,5⟩ else r) else r
theorem bWb:lS 70=Ot (.val (dD [])):=by kernel_rfl
theorem t70:VT 70 Tryz.f70 [] []:=vt
theorem r70{b:On OP}{r:Rd}:FRd 70 [] b r (O J (lI b r).err) (lI b r):=by
 refine Sw bWb (lv:=dY []) (Rq rfl) (Rd.clo b r) ?_ rfl (Rd.clo b _);rw[t70];obtain⟨p,e⟩:=r;delta Tryz.f70;simp only[↓cw,↓Oo,Om,kk,Rd.cells,aA,lI];by_cases he:e=0
 ·by_cases h1:p<b.length
  ·simp only[↓cw,↓Oo,Om,kk,he,show((p:Int)<(b.length:Int))=UF by simp;exact h1,OE h1,Oy,aA];trivial
  ·simp only[↓cw,↓Oo,Om,kk,he,show((p:Int)<(b.length:Int))=Sc by simp;omega,Oz h1,Oy,Ou,aA];trivial
 ·simp only[↓cw,↓Oo,Om,kk,he,Oy,Ou,aA];trivial
theorem aBj{b:On OP}{lo hi:Int}{r:Rd}(he:(fO b lo hi r).2.err=0):lo<=(fO b lo hi r).1/\(fO b lo hi r).1<=hi:=by
 unfold fO at he|-
 split
 ·rename_i h;rw[OE h] at he;split
  ·rename_i h1;rw[OE h1] at he;cases he
  ·rename_i h1;rw[Oz h1] at he;split
   ·rename_i h2;rw[OE h2] at he;cases he
   ·exact⟨by omega,by omega⟩
 ·rename_i h;rw[Oz h] at he;exact absurd he h
def gV(b:On OP)(most:Int)(r:Rd):On OP×Rd:=if(fO b 0 most r).2.err=0 then(if(b.length:Int) - (fO b 0 most r).2.pos<(fO b 0 most r).1 then([],⟨r.pos,3⟩) else((b.drop (fO b 0 most r).2.pos).take (fO b 0 most r).1.toNat,⟨(fO b 0 most r).2.pos+(fO b 0 most r).1.toNat,0⟩)) else([],(fO b 0 most r).2)
theorem dS{b:On OP}{most:Int}{r:Rd}(hr:r.pos<=b.length):(gV b most r).2.pos<=b.length:=by
 unfold gV
 have:=mA (lo:=0) (hi:=most) hr
 repeat' split
 all_goals first | exact hr | exact this | (show _+_<=_;omega)
theorem bHi{b:On OP}{p m:Nat}(h:p+m<=b.length):iZ prog 22 (.imm (b.map fX)) (Ot (O J (p:Int))) (Ot (O J ((p+m:Nat):Int)))=.ok (.imm (((b.drop p).take m).map fX)):=by
 have hb:eR (b.map fX).length (Ot (O J (p:Int))) (Ot (O J ((p+m:Nat):Int)))=.ok (p,p+m):=by
  have t1:(decide ((0:Int)<=((p+m:Nat):Int))&&decide (((p+m:Nat):Int)<=((b.map fX).length:Int)))=true:=by simp;omega
  have t2:(decide ((0:Int)<=(p:Int))&&decide ((p:Int)<=((p+m:Nat):Int)))=true:=by simp;omega
  simp only[eR,t1,t2,PW,Pn]
 rw[bMt _ (cU (n:=1) (λc hc=>by obtain⟨x,_,rfl⟩:=Pv.1 hc;exact u81 x)).1,hb];simp only[<-List.map_take,<-List.map_drop,List.drop_take,Nat.add_sub_cancel_left]
theorem bAe:∀l:On OP,eJ (l.map fX)=Ot l
 | []=>rfl
 | c::l=>by simp only[Qd,fX,eJ,bAe l];simp
theorem bPs(l:On OP)(fr:Ow Nat)(S:St):eK prog 22 9 (.imm (l.map fX)) fr S=.ok (.str l,S):=by
 have e1:prog.underlying 22=Ot (.slice 5):=by kernel_rfl
 have e2:prog.underlying 9=Ot .string:=by kernel_rfl
 have e3:prog.underlying 5=Ot (.int ω):=by kernel_rfl
 have e4:aK S (.imm (l.map fX))=.ok (l.map fX):=rfl;simp only[eK,e1,e2,e3,e4,bAe]
theorem bPt:lS 146=Ot (.val (dD [])):=by kernel_rfl
theorem bWc:VT 146 Tryz.f146 [] []:=vt
theorem bAf{b:On OP}(hb:b.length<1000000000){r:Rd}(hr:r.pos<=b.length)(most:Int):FRd 146 [O J most] b r (.str (gV b most r).1) (gV b most r).2:=by
 refine Sw bPt (lv:=dY []) (Rq rfl) (Rd.clo b r) ?_ rfl (Rd.clo b _);rw[bWc];delta Tryz.f146;simp only[↓cw,↓Oo,Om,kk,Rd.cells,aA];refine Qw ((bD7 hb hr 0 most).eq (Ox _ _ _ trivial) _) ?_;have hp:=mA (lo:=0) (hi:=most) hr;have hk:=aBj (b:=b) (lo:=0) (hi:=most) (r:=r);unfold gV;generalize fO b 0 most r=x at hp hk|-
 obtain⟨n,p,e⟩:=x;simp only at hp hk;have hw:wr J ((b.length:Int) - (p:Int))=(b.length:Int) - (p:Int):=fB (by omega) (by omega);simp only[↓cw,↓Oo,Om,kk,Rd.cells,aA,hw];by_cases he:e=0
 ·obtain⟨k1,k2⟩:=hk he;obtain⟨m,rfl⟩:=Qx k1;by_cases h1:(b.length:Int) - (p:Int)<(m:Int)
  ·simp only[↓cw,↓Oo,Om,kk,he,h1,Oy,aA,hw,OK,Ou];refine Qw (aHc (b:=b) (pos:=p) (e0:=0) (Ox _ _ _ trivial) r.pos 3 _) ?_
   first | exact⟨rfl,Ox _ _ _ trivial⟩ | exact Ox _ _ _ trivial
  ·have nc:wr J ((p:Int)+(m:Int))=((p+m:Nat):Int):=by rw[fB (by omega) (by omega)];omega
   simp only[↓cw,↓Oo,Om,kk,he,h1,Oy,Ou,OK,aA,hw,nc];have hm:((m:Int)).toNat=m:=by omega
   simp only[↓cw,↓Oo,Om,kk,bHi (show p+m<=b.length by omega),bPs,aA,nc,hm]
   first | exact⟨rfl,Ox _ _ _ trivial⟩ | exact Ox _ _ _ trivial
 ·simp only[↓cw,↓Oo,Om,kk,he,Oy,Ou,OL,aA]
  first | exact⟨rfl,Ox _ _ _ trivial⟩ | exact Ox _ _ _ trivial
theorem gS{α:Type}{t:Tr α}{n:Nat}{x:α}:(t.put n x).get n=Ot x:=Ox _ _ _ trivial
theorem gN{α:Type}{t:Tr α}{n m:Nat}{x:α}{y:Ow α}(g:t.get m=y)(h:m≠n:=by omega):(t.put n x).get m=y:=(OJ _ _ _ _ trivial h).trans g
theorem nP:type_of% (A2 (eY (show(2:Nat)≠0 by decide)) <| A2 (eY (show(1:Nat)≠0 by decide)) <| A2 (eY (show(1:Nat)≠2 by decide)) <| A2 (eY (show(2:Nat)≠1 by decide)) <| A2 (eY (show(0:Nat)≠1 by decide)) (eY (show(0:Nat)≠2 by decide))):=A2 (eY (show(2:Nat)≠0 by decide)) <| A2 (eY (show(1:Nat)≠0 by decide)) <| A2 (eY (show(1:Nat)≠2 by decide)) <| A2 (eY (show(2:Nat)≠1 by decide)) <| A2 (eY (show(0:Nat)≠1 by decide)) (eY (show(0:Nat)≠2 by decide))
def rM(b:On OP)(r:Rd):Vo×Rd:=(⟨(aZ b r).1,(aZ b (aZ b r).2).1,(aZ b (aZ b (aZ b r).2).2).1⟩,(aZ b (aZ b (aZ b r).2).2).2)
theorem sY{b:On OP}{r:Rd}(hr:r.pos<=b.length):(rM b r).2.pos<=b.length:=aO (aO (aO hr))
theorem bPu:lS 147=Ot (.val (dD [])):=by kernel_rfl
theorem bIx:VT 147 Tryz.f147 [] []:=vt
theorem bPv{b:On OP}(hb:b.length<1000000000){r:Rd}(hr:r.pos<=b.length):FRd 147 [] b r (.agg (rM b r).1.enc) (rM b r).2:=by
 refine Sw bPu (lv:=dY []) (Rq rfl) (Rd.clo b r) ?_ rfl (Rd.clo b _);rw[bIx];delta Tryz.f147;simp only[↓cw,↓Oo,Om,Pi,kk,Rd.cells,aA,nP];refine Qw ((r69 hb hr).eq (by repeat' first | exact gS | refine gN ?_) _) ?_;simp only[↓cw,↓Oo,Om,Pi,kk,Rd.cells,aA,nP];refine Qw ((r69 hb (aO hr)).eq (by repeat' first | exact gS | refine gN ?_) _) ?_;simp only[↓cw,↓Oo,Om,Pi,kk,Rd.cells,aA,nP];refine Qw ((r69 hb (aO (aO hr))).eq (by repeat' first | exact gS | refine gN ?_) _) ?_;simp only[↓cw,↓Oo,Om,Pi,kk,Rd.cells,aA,nP];exact⟨rfl,by repeat' first | exact gS | refine gN ?_⟩
def eE(b:On OP)(r:Rd):Tn×Rd:=
 let x:=gV b 64 r
 let y:=rM b x.2
 let z:=aZ b y.2
 (⟨x.1,y.1,z.1⟩,z.2)
theorem aUw{b:On OP}{r:Rd}(hr:r.pos<=b.length):(eE b r).2.pos<=b.length:=aO (sY (dS hr))
theorem bWd:lS 62=Ot (.val (dD [])):=by kernel_rfl
theorem t62:VT 62 Tryz.f62 [] []:=vt
theorem r62{b:On OP}(hb:b.length<1000000000){r:Rd}(hr:r.pos<=b.length):FRd 62 [] b r (.agg (eE b r).1.enc) (eE b r).2:=by
 refine Sw bWd (lv:=dY []) (Rq rfl) (Rd.clo b r) ?_ rfl (Rd.clo b _);rw[t62];delta Tryz.f62;simp only[↓cw,↓Oo,Om,Pi,kk,Rd.cells,aA,nP];refine Qw ((bAf hb hr 64).eq (by repeat' first | exact gS | refine gN ?_) _) ?_;simp only[↓cw,↓Oo,Om,Pi,kk,Rd.cells,aA,nP];refine Qw ((bPv hb (dS hr)).eq (by repeat' first | exact gS | refine gN ?_) _) ?_;simp only[Rz];simp only[↓cw,↓Oo,Om,Pi,kk,Rd.cells,aA,nP];refine Qw ((r69 hb (sY (dS hr))).eq (by repeat' first | exact gS | refine gN ?_) _) ?_;simp only[↓cw,↓Oo,Om,Pi,kk,Rd.cells,aA,nP];exact⟨rfl,by repeat' first | exact gS | refine gN ?_⟩
def eF(b:On OP)(r:Rd):Ser×Rd:=
 let x:=gV b 64 r
 let y:=aZ b x.2
 let z:=mF b y.2
 (⟨x.1,1,y.1,z.1⟩,z.2)
theorem aUx{b:On OP}{r:Rd}(hr:r.pos<=b.length):(eF b r).2.pos<=b.length:=aC9 (aO (dS hr))
theorem bWe:lS 64=Ot (.val (dD [])):=by kernel_rfl
theorem t64:VT 64 Tryz.f64 [] []:=vt
theorem r64{b:On OP}(hb:b.length<1000000000){r:Rd}(hr:r.pos<=b.length):FRd 64 [] b r (.agg (eF b r).1.enc) (eF b r).2:=by
 refine Sw bWe (lv:=dY []) (Rq rfl) (Rd.clo b r) ?_ rfl (Rd.clo b _);rw[t64];delta Tryz.f64;simp only[↓cw,↓Oo,Om,Pi,kk,Rd.cells,aA,nP];refine Qw ((bAf hb hr 64).eq (by repeat' first | exact gS | refine gN ?_) _) ?_;simp only[↓cw,↓Oo,Om,Pi,kk,Rd.cells,aA,nP];refine Qw ((r69 hb (dS hr)).eq (by repeat' first | exact gS | refine gN ?_) _) ?_;simp only[↓cw,↓Oo,Om,Pi,kk,Rd.cells,aA,nP];refine Qw ((bWa hb (aO (dS hr))).eq (by repeat' first | exact gS | refine gN ?_) _) ?_;simp only[↓cw,↓Oo,Om,Pi,kk,Rd.cells,aA,nP];exact⟨rfl,by repeat' first | exact gS | refine gN ?_⟩
def eU(b:On OP)(r:Rd):Uj×Rd:=
 let x:=aZ b r
 let y:=aZ b x.2
 let z:=aZ b y.2
 let u:=aZ b z.2
 let v:=aZ b u.2
 (⟨x.1,y.1,⟨z.1,u.1,v.1⟩⟩,v.2)
theorem aUy{b:On OP}{r:Rd}(hr:r.pos<=b.length):(eU b r).2.pos<=b.length:=aO (aO (aO (aO (aO hr))))
theorem bWf:lS 68=Ot (.val (dD [])):=by kernel_rfl
theorem t68:VT 68 Tryz.f68 [] []:=vt
theorem r68{b:On OP}(hb:b.length<1000000000){r:Rd}(hr:r.pos<=b.length):FRd 68 [] b r (.agg (eU b r).1.enc) (eU b r).2:=by
 refine Sw bWf (lv:=dY []) (Rq rfl) (Rd.clo b r) ?_ rfl (Rd.clo b _);rw[t68];delta Tryz.f68;simp only[↓cw,↓Oo,Om,Pi,kk,Rd.cells,aA,nP];refine Qw ((r69 hb hr).eq (by repeat' first | exact gS | refine gN ?_) _) ?_;simp only[↓cw,↓Oo,Om,Pi,kk,Rd.cells,aA,nP];refine Qw ((r69 hb (aO hr)).eq (by repeat' first | exact gS | refine gN ?_) _) ?_;simp only[↓cw,↓Oo,Om,Pi,kk,Rd.cells,aA,nP];refine Qw ((r69 hb (aO (aO hr))).eq (by repeat' first | exact gS | refine gN ?_) _) ?_;simp only[↓cw,↓Oo,Om,Pi,kk,Rd.cells,aA,nP];refine Qw ((r69 hb (aO (aO (aO hr)))).eq (by repeat' first | exact gS | refine gN ?_) _) ?_;simp only[↓cw,↓Oo,Om,Pi,kk,Rd.cells,aA,nP];refine Qw ((r69 hb (aO (aO (aO (aO hr))))).eq (by repeat' first | exact gS | refine gN ?_) _) ?_;simp only[↓cw,↓Oo,Om,Pi,kk,Rd.cells,aA,nP];exact⟨rfl,by repeat' first | exact gS | refine gN ?_⟩
def fA(b:On OP)(r:Rd):TX×Rd:=
 let x:=gV b 64 r
 let y:=aZ b x.2
 let z:=aZ b y.2
 (⟨x.1,y.1,z.1,0⟩,z.2)
theorem aUz{b:On OP}{r:Rd}(hr:r.pos<=b.length):(fA b r).2.pos<=b.length:=aO (aO (dS hr))
theorem bPw:lS 150=Ot (.val (dD [])):=by kernel_rfl
theorem bWg:VT 150 Tryz.f150 [] []:=vt
theorem bWh{b:On OP}(hb:b.length<1000000000){r:Rd}(hr:r.pos<=b.length):FRd 150 [] b r (.agg (fA b r).1.enc) (fA b r).2:=by
 refine Sw bPw (lv:=dY []) (Rq rfl) (Rd.clo b r) ?_ rfl (Rd.clo b _);rw[bWg];delta Tryz.f150;simp only[↓cw,↓Oo,Om,Pi,kk,Rd.cells,aA,nP];refine Qw ((bAf hb hr 64).eq (by repeat' first | exact gS | refine gN ?_) _) ?_;simp only[↓cw,↓Oo,Om,Pi,kk,Rd.cells,aA,nP];refine Qw ((r69 hb (dS hr)).eq (by repeat' first | exact gS | refine gN ?_) _) ?_;simp only[↓cw,↓Oo,Om,Pi,kk,Rd.cells,aA,nP];refine Qw ((r69 hb (aO (dS hr))).eq (by repeat' first | exact gS | refine gN ?_) _) ?_;simp only[↓cw,↓Oo,Om,Pi,kk,Rd.cells,aA,nP];exact⟨rfl,by repeat' first | exact gS | refine gN ?_⟩
def St.at(S:St)(a:Nat)(c:On V):St:=⟨S.next,S.heap.put a (.row 0 3 [c])⟩
theorem St.at_get(S:St)(a:Nat)(c:On V):(St.at S a c).heap.get a=Ot (.row 0 3 [c]):=Ox _ _ _ trivial
theorem St.at_at(S:St)(a:Nat)(c d:On V){x:Nat}(h:x≠a):(St.at S a c).heap.get x=(St.at S a d).heap.get x:=by
 unfold St.at
 rw[OJ _ _ _ _ trivial h,OJ _ _ _ _ trivial h]
theorem St.at_wf{S:St}{a:Nat}{c d:On V}(h:a<S.next)(w:WF (St.at S a c)):WF (St.at S a d):=by
 intro x bx hx;by_cases e:x=a
 ·rw[e];exact h
 ·rw[St.at_at S a d c e] at hx;exact w x bx hx
theorem St.wf_at{S:St}{a:Nat}{d:On V}(h:a<S.next)(w:WF S):WF (St.at S a d):=by
 intro x bx hx;by_cases e:x=a
 ·rw[e];exact h
 ·unfold St.at at hx;rw[OJ _ _ _ _ trivial e] at hx;exact w x bx hx
theorem Ext.at{S X:St}{a:Nat}{c d:On V}(h:a<S.next)(x:Ext (St.at S a c) X):Ext (St.at S a d) (St.at X a d):=by
 refine⟨λy b hy=>?_,x.next,λw=>St.wf_at (RE h x.next) (x.wf (St.at_wf h w))⟩;by_cases e:y=a
 ·subst e;rw[St.at_get] at hy|-;exact hy
 ·rw[St.at_at S a d c e] at hy;unfold St.at
  rw[OJ _ _ _ _ trivial e];exact x.old y b hy
theorem Own.at{S X:St}{a n:Nat}{c d e:On V}{v:V}{es:On (On V)}(h:a<S.next)(o:Own (St.at S a c) X n v es):Own (St.at S a d) (St.at X a e) n v es:=by
 refine⟨?_,o.len⟩;rcases o.is with q | ⟨y,ver,tl,q1,q2,q3,q4⟩
 ·exact .inl q
 ·have Fy:S.next<=y:=q2;refine .inr ⟨y,ver,tl,q1,q2,q3,?_⟩;unfold St.at
  rw[OJ _ _ _ _ trivial (show y≠a by omega)];exact q4
def aJ{α:Type}(f:Rd->α×Rd):Nat->Rd->On α×Rd
 | 0,r=>([],r)
 | n+1,r=>if r.err=0 then((f r).1::(aJ f n (f r).2).1,(aJ f n (f r).2).2) else([],r)
def aS{α:Type}(b:On OP)(f:Rd->α×Rd)(most:Int)(r:Rd):On α×Rd:=aJ f (cB b most r).1.toNat (cB b most r).2
theorem iK{b:On OP}{most:Int}{r:Rd}(hm:0<=most)(hq:(cB b most r).2.err≠0->(cB b most r).1=0):0<=(cB b most r).1/\(cB b most r).1<=most:=by
 by_cases he:(cB b most r).2.err=0
 ·unfold cB at he|-
  split
  ·rename_i h1;split
   ·exact⟨TT _,hm⟩
   ·exact aBj h1
  ·rename_i h1;rw[Oz h1] at he;exact absurd he h1
 ·rw[hq he];exact⟨TT _,hm⟩
theorem aGd{b:On OP}{r:Rd}(h:(aZ b r).2.err≠0):(aZ b r).1=0:=by
 unfold aZ at h|-
 split
 ·rename_i h1;rw[OE h1] at h;split
  ·rename_i e;rw[e] at h;exact absurd rfl h
  ·rfl
 ·rfl
theorem aCa{b:On OP}{lo hi:Int}{r:Rd}(h:(fO b lo hi r).2.err≠0):(fO b lo hi r).1=0:=by
 unfold fO at h|-
 split
 ·rename_i h1;split
  ·rfl
  ·split
   ·rfl
   ·rename_i h2 h3;rw[OE h1,Oz h2,Oz h3] at h;exact absurd h1 h
 ·rename_i h1;exact aGd h1
theorem fP{b:On OP}{most:Int}{r:Rd}(h:(cB b most r).2.err≠0):(cB b most r).1=0:=by
 unfold cB at h|-
 split
 ·rename_i h1;split
  ·rfl
  ·rename_i h2;rw[OE h1,Oz h2] at h;exact absurd h1 h
 ·rename_i h1;exact aCa h1
theorem aPh(z:On V)(parts:On (Nat×V))(fr:Ow Nat)(S:St):type_of% (bsl 5 z parts fr S (by decide)):=bsl 5 z parts fr S (by decide)
theorem bWi:cV prog 62=Ot none:=by kernel_rfl
theorem aMp(z:On V)(parts:On (Nat×V))(fr:Ow Nat)(S:St):type_of% (bsl 4 z parts fr S (by decide)):=bsl 4 z parts fr S (by decide)
theorem bWj:cV prog 64=Ot none:=by kernel_rfl
theorem g63{b:On OP}(hb:b.length<1000000000){S:St}{a:Nat}(ha:a<S.next){r:Rd}(hr:r.pos<=b.length)(w:WF S)(hS:S.heap.get a=Ot (.row 0 3 [r.cells b])){K:KW}
  (H:∀v X,Ext (St.at S a ((aS b (eF b) 8 r).2.cells b)) X->Own (St.at S a ((aS b (eF b) 8 r).2.cells b)) X 4 v ((aS b (eF b) 8 r).1.map PZ)->(aS b (eF b) 8 r).2.pos<=b.length->K v X):
  C 63 [.ptr a 0 0 0,O J 8,.func 64 [] []] S K:=by
 refine v63 ?_;delta Tryz.f63;simp only[↓cw,↓Oo,Om,kk];refine Qw ((bD8 hb hr 8).eq hS _) ?_;have hc:=fC (most:=8) hr;obtain⟨h0,lf⟩:=iK (b:=b) (r:=r) (show(0:Int)<=8 by decide) fP;unfold aS at H;generalize cB b 8 r=y at hc h0 lf H|-
 obtain⟨n,r0⟩:=y;simp only at hc h0 lf H|-
 obtain⟨n,rfl⟩:=Qx h0;rw[show((n:Int)).toNat=n from by omega] at H;refine eH (λm vs X=>∃(i:Nat) (r1:Rd) (v:V) (done:On Ser),i+m=n/\vs=[v,O J (i:Int)]/\Ext (St.at S a (r1.cells b)) X/\Own (St.at S a (r1.cells b)) X 4 v (done.map PZ)/\done.length=i/\r1.pos<=b.length/\done++(aJ (eF b) m r1).1=(aJ (eF b) n r0).1/\(aJ (eF b) m r1).2=(aJ (eF b) n r0).2) ?_ (n:=n) ⟨0,r0,.nils,[],by omega,rfl,Tm _,Rf _ _ _,rfl,hc,rfl,rfl⟩;rintro m vs X ⟨i,r1,v,done,hi,rfl,x,o,hd,hp,e1,e2⟩ aE gv;have qn:=x.old a _ (St.at_get S a _);have hn:S.next<=X.next:=x.next;by_cases ba:(i:Int)<(n:Int)
 ·obtain⟨m,rfl⟩:∃m',m=m'+1:=⟨m - 1,by omega⟩;simp only[↓cw,↓Oo,Om,kk,ba,Oy];refine Qw ((bAb b r1).eq_same qn _) ?_;by_cases he:r1.err=0
  ·simp only[↓cw,↓Oo,Om,kk,he,Oy,Ou,OK,↓qV prog C bWj,Pp,PJ];refine Qw ((r64 hb hp).eq qn _) ?_;have x':=Go.Proofs.YtoaibmbldmckaaaGreat.Ext.at ha x (d:=(eF b r1).2.cells b);have o':=Go.Proofs.YtoaibmbldmckaaaGreat.Own.at ha o (d:=(eF b r1).2.cells b) (e:=(eF b r1).2.cells b);have wS:=St.wf_at (d:=(eF b r1).2.cells b) ha w;rw[show(⟨X.next,X.heap.put a (.row 0 3 [(eF b r1).2.cells b])⟩:St)=St.at X a ((eF b r1).2.cells b) from rfl];generalize St.at X a ((eF b r1).2.cells b)=Y at x' o'|-
   simp only[aJ,he,Oy] at e1 e2;have hq:=aUx hp;generalize eF b r1=z at x' o' e1 e2 wS hq|-
   obtain⟨rt,r2⟩:=z;simp only at x' o' e1 e2 wS hq|-
   have x2:Ext Y ⟨Y.next+1,Y.heap.put Y.next (.row 0 4 [rt.enc])⟩:=Rg (x'.wf wS) _;obtain⟨v2,X2,q1,x3,n3,o2⟩:=(o'.ext x2).push (b:=40) (x'.trans x2) wS (u:=.sl Y.next 0 4 0 1) (cs:=[rt.enc]) (by simp only[aK,aA];rfl) (λc hc=>by rcases PR.1 hc with rfl;exact(Go.Proofs.YtoaibmbldmckaaaGreat.ser4) _) (by simp) (by simp;omega) (by simp[eG];omega);simp only[PZ] at q1;simp only[↓cw,↓Oo,Om,kk,aMp,PZ,q1,gM (show i<1000000000 by omega)];exact gv m _ _ (by omega) ⟨i+1,r2,v2,done++[rt],by omega,rfl,x3,by simpa using o2,by simp[hd],hq,by rw[<-e1];simp,e2⟩
  ·simp only[↓cw,↓Oo,Om,kk,he,Oy,Ou,OL];simp only[aJ,he,Ou] at e1 e2;rw[<-e1,<-e2] at H;exact H v X x (by simpa using o) hp
 ·obtain rfl:m=0:=by omega
  simp only[↓cw,↓Oo,Om,kk,ba,Ou];simp only[aJ] at e1 e2;rw[<-e1,<-e2] at H;exact H v X x (by simpa using o) hp
theorem bWk:cV prog 68=Ot none:=by kernel_rfl
theorem g67{b:On OP}(hb:b.length<1000000000){S:St}{a:Nat}(ha:a<S.next){r:Rd}(hr:r.pos<=b.length)(w:WF S)(hS:S.heap.get a=Ot (.row 0 3 [r.cells b])){K:KW}
  (H:∀v X,Ext (St.at S a ((aS b (eU b) 8 r).2.cells b)) X->Own (St.at S a ((aS b (eU b) 8 r).2.cells b)) X 5 v ((aS b (eU b) 8 r).1.map Qe)->(aS b (eU b) 8 r).2.pos<=b.length->K v X):
  C 67 [.ptr a 0 0 0,O J 8,.func 68 [] []] S K:=by
 refine v67 ?_;delta Tryz.f67;simp only[↓cw,↓Oo,Om,kk];refine Qw ((bD8 hb hr 8).eq hS _) ?_;have hc:=fC (most:=8) hr;obtain⟨h0,lf⟩:=iK (b:=b) (r:=r) (show(0:Int)<=8 by decide) fP;unfold aS at H;generalize cB b 8 r=y at hc h0 lf H|-
 obtain⟨n,r0⟩:=y;simp only at hc h0 lf H|-
 obtain⟨n,rfl⟩:=Qx h0;rw[show((n:Int)).toNat=n from by omega] at H;refine eH (λm vs X=>∃(i:Nat) (r1:Rd) (v:V) (done:On Uj),i+m=n/\vs=[v,O J (i:Int)]/\Ext (St.at S a (r1.cells b)) X/\Own (St.at S a (r1.cells b)) X 5 v (done.map Qe)/\done.length=i/\r1.pos<=b.length/\done++(aJ (eU b) m r1).1=(aJ (eU b) n r0).1/\(aJ (eU b) m r1).2=(aJ (eU b) n r0).2) ?_ (n:=n) ⟨0,r0,.nils,[],by omega,rfl,Tm _,Rf _ _ _,rfl,hc,rfl,rfl⟩;rintro m vs X ⟨i,r1,v,done,hi,rfl,x,o,hd,hp,e1,e2⟩ aE gv;have qn:=x.old a _ (St.at_get S a _);have hn:S.next<=X.next:=x.next;by_cases ba:(i:Int)<(n:Int)
 ·obtain⟨m,rfl⟩:∃m',m=m'+1:=⟨m - 1,by omega⟩;simp only[↓cw,↓Oo,Om,kk,ba,Oy];refine Qw ((bAb b r1).eq_same qn _) ?_;by_cases he:r1.err=0
  ·simp only[↓cw,↓Oo,Om,kk,he,Oy,Ou,OK,↓qV prog C bWk,Pp,PJ];refine Qw ((r68 hb hp).eq qn _) ?_;have x':=Go.Proofs.YtoaibmbldmckaaaGreat.Ext.at ha x (d:=(eU b r1).2.cells b);have o':=Go.Proofs.YtoaibmbldmckaaaGreat.Own.at ha o (d:=(eU b r1).2.cells b) (e:=(eU b r1).2.cells b);have wS:=St.wf_at (d:=(eU b r1).2.cells b) ha w;rw[show(⟨X.next,X.heap.put a (.row 0 3 [(eU b r1).2.cells b])⟩:St)=St.at X a ((eU b r1).2.cells b) from rfl];generalize St.at X a ((eU b r1).2.cells b)=Y at x' o'|-
   simp only[aJ,he,Oy] at e1 e2;have hq:=aUy hp;generalize eU b r1=z at x' o' e1 e2 wS hq|-
   obtain⟨rt,r2⟩:=z;simp only at x' o' e1 e2 wS hq|-
   have x2:Ext Y ⟨Y.next+1,Y.heap.put Y.next (.row 0 5 [rt.enc])⟩:=Rg (x'.wf wS) _;obtain⟨v2,X2,q1,x3,n3,o2⟩:=(o'.ext x2).push (b:=40) (x'.trans x2) wS (u:=.sl Y.next 0 5 0 1) (cs:=[rt.enc]) (by simp only[aK,aA];rfl) (λc hc=>by rcases PR.1 hc with rfl;exact(Go.Proofs.YtoaibmbldmckaaaGreat.sess5) _) (by simp) (by simp;omega) (by simp[eG];omega);simp only[Qe] at q1;simp only[↓cw,↓Oo,Om,kk,aPh,Qe,q1,gM (show i<1000000000 by omega)];exact gv m _ _ (by omega) ⟨i+1,r2,v2,done++[rt],by omega,rfl,x3,by simpa using o2,by simp[hd],hq,by rw[<-e1];simp,e2⟩
  ·simp only[↓cw,↓Oo,Om,kk,he,Oy,Ou,OL];simp only[aJ,he,Ou] at e1 e2;rw[<-e1,<-e2] at H;exact H v X x (by simpa using o) hp
 ·obtain rfl:m=0:=by omega
  simp only[↓cw,↓Oo,Om,kk,ba,Ou];simp only[aJ] at e1 e2;rw[<-e1,<-e2] at H;exact H v X x (by simpa using o) hp
theorem bPx:cV prog 150=Ot none:=by kernel_rfl
theorem bWl{b:On OP}(hb:b.length<1000000000){S:St}{a:Nat}(ha:a<S.next){r:Rd}(hr:r.pos<=b.length)(w:WF S)(hS:S.heap.get a=Ot (.row 0 3 [r.cells b])){K:KW}
  (H:∀v X,Ext (St.at S a ((aS b (fA b) 12 r).2.cells b)) X->Own (St.at S a ((aS b (fA b) 12 r).2.cells b)) X 4 v ((aS b (fA b) 12 r).1.map PI)->(aS b (fA b) 12 r).2.pos<=b.length->K v X):
  C 149 [.ptr a 0 0 0,O J 12,.func 150 [] []] S K:=by
 refine bRg ?_;delta Tryz.f149;simp only[↓cw,↓Oo,Om,kk];refine Qw ((bD8 hb hr 12).eq hS _) ?_;have hc:=fC (most:=12) hr;obtain⟨h0,lf⟩:=iK (b:=b) (r:=r) (show(0:Int)<=12 by decide) fP;unfold aS at H;generalize cB b 12 r=y at hc h0 lf H|-
 obtain⟨n,r0⟩:=y;simp only at hc h0 lf H|-
 obtain⟨n,rfl⟩:=Qx h0;rw[show((n:Int)).toNat=n from by omega] at H;refine eH (λm vs X=>∃(i:Nat) (r1:Rd) (v:V) (done:On TX),i+m=n/\vs=[v,O J (i:Int)]/\Ext (St.at S a (r1.cells b)) X/\Own (St.at S a (r1.cells b)) X 4 v (done.map PI)/\done.length=i/\r1.pos<=b.length/\done++(aJ (fA b) m r1).1=(aJ (fA b) n r0).1/\(aJ (fA b) m r1).2=(aJ (fA b) n r0).2) ?_ (n:=n) ⟨0,r0,.nils,[],by omega,rfl,Tm _,Rf _ _ _,rfl,hc,rfl,rfl⟩;rintro m vs X ⟨i,r1,v,done,hi,rfl,x,o,hd,hp,e1,e2⟩ aE gv;have qn:=x.old a _ (St.at_get S a _);have hn:S.next<=X.next:=x.next;by_cases ba:(i:Int)<(n:Int)
 ·obtain⟨m,rfl⟩:∃m',m=m'+1:=⟨m - 1,by omega⟩;simp only[↓cw,↓Oo,Om,kk,ba,Oy];refine Qw ((bAb b r1).eq_same qn _) ?_;by_cases he:r1.err=0
  ·simp only[↓cw,↓Oo,Om,kk,he,Oy,Ou,OK,↓qV prog C bPx,Pp,PJ];refine Qw ((bWh hb hp).eq qn _) ?_;have x':=Go.Proofs.YtoaibmbldmckaaaGreat.Ext.at ha x (d:=(fA b r1).2.cells b);have o':=Go.Proofs.YtoaibmbldmckaaaGreat.Own.at ha o (d:=(fA b r1).2.cells b) (e:=(fA b r1).2.cells b);have wS:=St.wf_at (d:=(fA b r1).2.cells b) ha w;rw[show(⟨X.next,X.heap.put a (.row 0 3 [(fA b r1).2.cells b])⟩:St)=St.at X a ((fA b r1).2.cells b) from rfl];generalize St.at X a ((fA b r1).2.cells b)=Y at x' o'|-
   simp only[aJ,he,Oy] at e1 e2;have hq:=aUz hp;generalize fA b r1=z at x' o' e1 e2 wS hq|-
   obtain⟨rt,r2⟩:=z;simp only at x' o' e1 e2 wS hq|-
   have x2:Ext Y ⟨Y.next+1,Y.heap.put Y.next (.row 0 4 [rt.enc])⟩:=Rg (x'.wf wS) _;obtain⟨v2,X2,q1,x3,n3,o2⟩:=(o'.ext x2).push (b:=40) (x'.trans x2) wS (u:=.sl Y.next 0 4 0 1) (cs:=[rt.enc]) (by simp only[aK,aA];rfl) (λc hc=>by rcases PR.1 hc with rfl;exact aIf _) (by simp) (by simp;omega) (by simp[eG];omega);simp only[PI] at q1;simp only[↓cw,↓Oo,Om,kk,aMp,PI,q1,gM (show i<1000000000 by omega)];exact gv m _ _ (by omega) ⟨i+1,r2,v2,done++[rt],by omega,rfl,x3,by simpa using o2,by simp[hd],hq,by rw[<-e1];simp,e2⟩
  ·simp only[↓cw,↓Oo,Om,kk,he,Oy,Ou,OL];simp only[aJ,he,Ou] at e1 e2;rw[<-e1,<-e2] at H;exact H v X x (by simpa using o) hp
 ·obtain rfl:m=0:=by omega
  simp only[↓cw,↓Oo,Om,kk,ba,Ou];simp only[aJ] at e1 e2;rw[<-e1,<-e2] at H;exact H v X x (by simpa using o) hp
def Posted.encW(u:V)(p:OT):On V:=[.str p.ref.ser,O J p.ref.num,O J p.day.y,O J p.day.m,O J p.day.d,O J p.total.net,O J p.total.tax,O J p.total.gross,u,.str p.of.ser,O J p.of.num,.bool p.back]
def dA(b:On OP)(r:Rd):OT×Rd:=
 let x:=gV b 64 r
 let y:=rM b x.2
 let z:=gV b 64 y.2
 let k:=aZ b z.2
 let l:=aS b (fA b) 12 k.2
 (⟨⟨x.1,0⟩,y.1,⟨0,0,0,l.1⟩,⟨z.1,k.1⟩,OA⟩,l.2)
theorem Ext.lows{S X:St}(w:WF S)(hn:S.next<=X.next)(hx:WF X)(h:∀y,y<S.next->X.heap.get y=S.heap.get y):Ext S X:=
 ⟨λy b hy=>by rw[h y (w y b hy)];exact hy,hn,λ_=>hx⟩
theorem Own.ge{S0 S:St}{n:Nat}{v:V}{es:On (On V)}(h:Own S0 S n v es):∀a ver m,v=.sl a ver n 0 m->S0.next<=a:=by
 intro a ver m hv;rcases h.is with ⟨rfl,_⟩ | ⟨a',bd,tl,rfl,hl,_⟩
 ·cases hv
 ·cases hv;exact hl
theorem g66{b:On OP}(hb:b.length<1000000000){S:St}{a:Nat}(ha:a<S.next){r:Rd}(hr:r.pos<=b.length)(w:WF S)(hS:S.heap.get a=Ot (.row 0 3 [r.cells b])){K:KW}
  (H:∀u X,Ext (St.at S a ((dA b r).2.cells b)) X->Own (St.at S a ((dA b r).2.cells b)) X 4 u ((dA b r).1.total.parts.map PI)->(dA b r).2.pos<=b.length->K (.agg ((dA b r).1.encW u)) X):
  C 66 [.ptr a 0 0 0] S K:=by
 refine v66 ?_;have w2:WF ⟨S.next+1+1,S.heap⟩:=λy c hy=>by have:=w y c hy;show y<S.next+1+1;omega
 have n1:S.next≠a:=by omega
 have n2:S.next+1≠a:=by omega
 have n3:S.next≠S.next+1:=by omega
 have n4:S.next+1≠S.next:=by omega
 delta Tryz.f66;simp only[↓cw,↓Oo,Om,kk];refine Qw ((bAf hb hr 64).eq (by repeat' first | exact gS | assumption | refine gN ?_) _) ?_;have p1:=dS (most:=64) hr;simp only[↓cw,↓Oo,Om,kk,aA,eY n1,eY n2,eY n3,eY n4];refine Qw ((bPv hb p1).eq (by repeat' first | exact gS | assumption | refine gN ?_) _) ?_;have p2:=sY p1;simp only[Rz];simp only[↓cw,↓Oo,Om,kk,aA,eY n1,eY n2,eY n3,eY n4];refine Qw ((bAf hb p2 64).eq (by repeat' first | exact gS | assumption | refine gN ?_) _) ?_;have p3:=dS (most:=64) p2;simp only[↓cw,↓Oo,Om,kk,aA,eY n1,eY n2,eY n3,eY n4];refine Qw ((r69 hb p3).eq (by repeat' first | exact gS | assumption | refine gN ?_) _) ?_;have p4:=aO p3;simp only[↓cw,↓Oo,Om,kk,aA,eY n1,eY n2,eY n3,eY n4];refine bWl hb (a:=a) (by show a<S.next+1+1;omega) p4 ?_ (by repeat' first | exact gS | assumption | refine gN ?_) λv X x o p5=>?_
 ·repeat' first | exact w2 | (refine gO (n:=S.next+1+1) ?_ (by omega) (by omega))
 have g2:=aF (x.old (S.next+1) _ (by unfold St.at;repeat' first | exact gS | assumption | refine gN ?_));have g1:=aF (x.old S.next _ (by unfold St.at;repeat' first | exact gS | assumption | refine gN ?_));have LK:S.next+1+1<=X.next:=x.next;have ga:=x.old a _ (St.at_get _ _ _);have oc:=o.cells;have o1:=o.one;simp only[↓cw,↓Oo,Om,kk,aA,eY n1,eY n2,eY n3,eY n4,g2,g1,oc,o1];have wA:∀c,WF (St.at S a c):=λc=>St.wf_at ha w;have y0:Ext (St.at S a ((dA b r).2.cells b)) X:=by
  refine Ext.trans (Ext.lows (wA _) ?_ ?_ ?_) x
  ·show S.next<=S.next+1+1;omega
  ·exact St.wf_at (by show a<S.next+1+1;omega) (by repeat' first | exact w2 | (refine gO (n:=S.next+1+1) ?_ (by omega) (by omega)))
  ·intro y hy;have FH:y<S.next:=hy;by_cases e:y=a
   ·subst e;rw[St.at_get,St.at_get];rfl
   ·unfold St.at
    rw[OJ _ _ _ _ trivial e,OJ _ _ _ _ trivial e]
    repeat rw[OJ _ _ _ _ trivial (by omega)]
 have y1:=Ext.put y0 (a:=S.next+1) (m:=X.next) (by show S.next<=S.next+1;omega) (by omega) (Ov _) (wA _);refine H v _ (Ext.put (y1 _) (a:=S.next) (m:=X.next) (Ov _) (by omega) (Ov _) (wA _) _) ?_ p5;refine Own.weaken (B:=St.at ⟨S.next+1+1,S.heap⟩ a ((dA b r).2.cells b)) ?_ (by show S.next<=S.next+1+1;omega);have o2:Own (St.at ⟨S.next+1+1,S.heap⟩ a ((dA b r).2.cells b)) X 4 v ((dA b r).1.total.parts.map PI):=o.weaken (Ov _);exact(o2.put (k:=S.next+1) (Ov _) λy ver m hv=>by have:=Own.ge o2 y ver m hv;have h3:S.next+1+1<=y:=this;omega).put (k:=S.next) (Ov _) λy ver m hv=>by have:=Own.ge o2 y ver m hv;have h3:S.next+1+1<=y:=this;omega
structure PL (S0 X:St) (us:On V) (l:On OT):Prop where
 len:us.length=l.length
 own:∀(i:Nat) (u:V) (p:OT),us[i]?=Ot u->l[i]?=Ot p->Own S0 X 4 u (p.total.parts.map PI)
 sep:∀(i j:Nat) (u u':V) (y:Nat),us[i]?=Ot u->us[j]?=Ot u'->blkOf u=Ot y->blkOf u'=Ot y->i=j
theorem PL.nil(S0 X:St):PL S0 X [] []:=PL.mk rfl (by intro i u p h;simp at h) (by intro i j u u' y h;simp at h)
theorem PL.move{S0 S1 X Y:St}{us:On V}{l:On OT}(h:PL S0 X us l)(hg:∀(i:Nat) (u:V) (p:OT),us[i]?=Ot u->l[i]?=Ot p->Own S0 X 4 u (p.total.parts.map PI)->Own S1 Y 4 u (p.total.parts.map PI)):PL S1 Y us l:=
 ⟨h.len,λi u p h1 h2=>hg i u p h1 h2 (h.own i u p h1 h2),h.sep⟩
theorem PL.snoc{S0 X:St}{us:On V}{l:On OT}(h:PL S0 X us l){u:V}{p:OT}(o:Own S0 X 4 u (p.total.parts.map PI))(hs:∀(i:Nat) (u':V) (y:Nat),us[i]?=Ot u'->blkOf u'=Ot y->blkOf u≠Ot y):PL S0 X (us++[u]) (l++[p]):=by
 have one:∀{k:Nat} {x:V},(us++[u])[k]?=Ot x->(us[k]?=Ot x/\k<us.length)\/(x=u/\k=us.length):=by
  intro k x hk;by_cases c:k<us.length
  ·rw[Pr c] at hk;exact .inl ⟨hk,c⟩
  ·rw[Pe (by omega)] at hk
   have:=(Oq.1 hk).1
   simp only[OQ,Pf] at this;have hi:k - us.length=0:=by omega
   rw[hi] at hk;cases hk;exact .inr ⟨rfl,by omega⟩
 have hlen:=h.len;refine PL.mk (by rw[OC,OC,hlen];rfl) ?_ ?_
 ·intro i u' p' h1 h2;rcases one h1 with ⟨a1,a2⟩ | ⟨rfl,a2⟩
  ·rw[Pr (by rw[<-hlen];exact a2)] at h2;exact h.own i u' p' a1 h2
  ·rw[Pe (by rw[<-hlen,a2];exact Ov _),<-hlen,a2,Qt] at h2;cases h2;exact o
 ·intro i j v v' y h1 h2 h3 h4;rcases one h1 with ⟨a1,a2⟩ | ⟨rfl,a2⟩<;>rcases one h2 with ⟨b1,b2⟩ | ⟨rfl,b2⟩
  ·exact h.sep i j v v' y a1 b1 h3 h4
  ·exact absurd h4 (hs i v y a1 h3)
  ·exact absurd h3 (hs j v' y b1 h4)
  ·omega
theorem aGe{S0 X:St}{n:Nat}{u:V}{es:On (On V)}(o:Own S0 X n u es)(p:OT):(p.encW u).length=12/\aH (p.encW u)=true:=by
 refine⟨rfl,?_⟩;rcases o.is with ⟨rfl,_⟩ | ⟨a,ver,tl,rfl,_⟩<;>rfl
theorem Own.apart{S0 S1 X:St}{m n:Nat}(hmn:m≠n){u v:V}{es fs:On (On V)}(o:Own S0 X m u es)(q:Own S1 X n v fs){y:Nat}(hu:blkOf u=Ot y):blkOf v≠Ot y:=by
 intro hv;rcases o.is with ⟨rfl,_⟩ | ⟨a1,BA,tl1,rfl,_,_,h1⟩
 ·cases hu
 ·cases hu;rcases q.is with ⟨rfl,_⟩ | ⟨a2,DX,tl2,rfl,_,_,h2⟩
  ·cases hv
  ·cases hv;have e:=h1.symm.trans h2;injection e with e
   injection e with _ e2
   exact hmn e2
theorem bWm:cV prog 66=Ot none:=by kernel_rfl
theorem bAg(z:On V)(parts:On (Nat×V))(fr:Ow Nat)(S:St):type_of% (bsl 12 z parts fr S (by decide)):=bsl 12 z parts fr S (by decide)
theorem g65{b:On OP}(hb:b.length<1000000000){S:St}{a:Nat}(ha:a<S.next){r:Rd}(hr:r.pos<=b.length)(w:WF S)(hS:S.heap.get a=Ot (.row 0 3 [r.cells b])){K:KW}
  (H:∀v us X,Ext (St.at S a ((aS b (dA b) 40 r).2.cells b)) X->Own (St.at S a ((aS b (dA b) 40 r).2.cells b)) X 12 v (Qc Posted.encW us (aS b (dA b) 40 r).1)->PL (St.at S a ((aS b (dA b) 40 r).2.cells b)) X us (aS b (dA b) 40 r).1->(aS b (dA b) 40 r).2.pos<=b.length->K v X):
  C 65 [.ptr a 0 0 0,O J 40,.func 66 [] []] S K:=by
 refine v65 ?_;delta Tryz.f65;simp only[↓cw,↓Oo,Om,kk];refine Qw ((bD8 hb hr 40).eq hS _) ?_;have hc:=fC (most:=40) hr;obtain⟨h0,lf⟩:=iK (b:=b) (r:=r) (show(0:Int)<=40 by decide) fP;unfold aS at H;generalize cB b 40 r=y at hc h0 lf H|-
 obtain⟨n,r0⟩:=y;simp only at hc h0 lf H|-
 obtain⟨n,rfl⟩:=Qx h0;rw[show((n:Int)).toNat=n from by omega] at H;refine eH (λm vs X=>∃(i:Nat) (r1:Rd) (v:V) (us:On V) (done:On OT),i+m=n/\vs=[v,O J (i:Int)]/\Ext (St.at S a (r1.cells b)) X/\Own (St.at S a (r1.cells b)) X 12 v (Qc Posted.encW us done)/\PL (St.at S a (r1.cells b)) X us done/\done.length=i/\r1.pos<=b.length/\done++(aJ (dA b) m r1).1=(aJ (dA b) n r0).1/\(aJ (dA b) m r1).2=(aJ (dA b) n r0).2) ?_ (n:=n) ⟨0,r0,.nils,[],[],by omega,rfl,Tm _,Rf _ _ _,PL.nil _ _,rfl,hc,rfl,rfl⟩;rintro m vs X ⟨i,r1,v,us,done,hi,rfl,x,o,pl,hd,hp,e1,e2⟩ aE gv;have qn:=x.old a _ (St.at_get S a _);have hn:S.next<=X.next:=x.next;by_cases ba:(i:Int)<(n:Int)
 ·obtain⟨m,rfl⟩:∃m',m=m'+1:=⟨m - 1,by omega⟩;simp only[↓cw,↓Oo,Om,kk,ba,Oy];refine Qw ((bAb b r1).eq_same qn _) ?_;by_cases he:r1.err=0
  ·simp only[↓cw,↓Oo,Om,kk,he,Oy,Ou,OK,↓qV prog C bWm,Pp,PJ];refine g66 hb (a:=a) (by omega) hp (x.wf (St.wf_at ha w)) qn λu Y xY oY hq=>?_;have x':Ext (St.at S a ((dA b r1).2.cells b)) Y:=Ext.trans (Go.Proofs.YtoaibmbldmckaaaGreat.Ext.at ha x) xY;have o':Own (St.at S a ((dA b r1).2.cells b)) Y 12 v (Qc Posted.encW us done):=(Go.Proofs.YtoaibmbldmckaaaGreat.Own.at ha o).ext xY;have LL:PL (St.at S a ((dA b r1).2.cells b)) Y us done:=pl.move λi u p _ _ q=>(Go.Proofs.YtoaibmbldmckaaaGreat.Own.at ha q).ext xY;have wS:=St.wf_at (d:=(dA b r1).2.cells b) ha w;have EG:∀(i:Nat) (u':V) (y:Nat),us[i]?=Ot u'->blkOf u'=Ot y->blkOf u≠Ot y:=by
    intro k u' y h1 h2 h3;have hk:=(Oq.1 h1).1;have q:=pl.own k u' _ h1 (OF (by rw[<-pl.len];exact hk));have t1:=(cE q h2).2;have t2:X.next<=y:=(cE oY h3).1;omega
   have oU:Own (St.at S a ((dA b r1).2.cells b)) Y 4 u ((dA b r1).1.total.parts.map PI):=oY.weaken hn;have FR:=LL.snoc oU EG;simp only[aJ,he,Oy] at e1 e2;clear EG oY LL pl xY x o;generalize dA b r1=z at x' o' e1 e2 wS hq FR oU|-
   obtain⟨rt,r2⟩:=z;simp only at x' o' e1 e2 wS hq FR oU|-
   have x2:Ext Y ⟨Y.next+1,Y.heap.put Y.next (.row 0 12 [rt.encW u])⟩:=Rg (x'.wf wS) _;obtain⟨v2,X2,q1,x3,o2,_,st,n3⟩:=(o'.ext x2).pushG (b:=128) (x'.trans x2) wS (u:=.sl Y.next 0 12 0 1) (cs:=[rt.encW u]) (by simp only[aK,aA];rfl) (λc hc=>by rcases PR.1 hc with rfl;exact aGe oU _) (by simp) (by simp;omega) (by simp[eG];omega);have hz:Qc Posted.encW us done++[rt.encW u]=Qc Posted.encW (us++[u]) (done++[rt]):=by
    have hl:us.length=done.length:=by have:=FR.len;simp at this;exact this
    rw[List.zipWith_append hl];rfl
   have yu:PL (St.at S a (r2.cells b)) X2 (us++[u]) (done++[rt]):=FR.move λk u' p _ _ q=>by
    have q2:=q.ext x2;exact q2.same n3 λy hy=>st y (cE q2 hy).2 (Own.apart (by decide) q2 (o'.ext x2) hy)
   simp only[Posted.encW] at q1;simp only[↓cw,↓Oo,Om,kk,bAg,Posted.encW,oU.one,oU.cells,q1,gM (show i<1000000000 by omega)];exact gv m _ _ (by omega) ⟨i+1,r2,v2,us++[u],done++[rt],by omega,rfl,x3,hz▸o2,yu,by simp[hd],hq,by rw[<-e1];simp,e2⟩
  ·simp only[↓cw,↓Oo,Om,kk,he,Oy,Ou,OL];simp only[aJ,he,Ou] at e1 e2;rw[<-e1,<-e2] at H;exact H v us X x (by simpa using o) (by simpa using pl) hp
 ·obtain rfl:m=0:=by omega
  simp only[↓cw,↓Oo,Om,kk,ba,Ou];simp only[aJ] at e1 e2;rw[<-e1,<-e2] at H;exact H v us X x (by simpa using o) (by simpa using pl) hp
structure Rds {α:Type} (b:On OP) (f:Rd->α×Rd) (g:On OP->Except Int (α×On OP)):Prop where
 pos:∀r:Rd,r.pos<=b.length->(f r).2.pos<=b.length
 bad:∀r:Rd,r.err≠0->(f r).2.err=r.err
 good:∀(r:Rd) (a:α) (t:On OP),r.pos<=b.length->r.err=0->g (b.drop r.pos)=.ok (a,t)->(f r).1=a/\(f r).2.err=0/\t=b.drop (f r).2.pos
 fail:∀(r:Rd) (e:Int),r.pos<=b.length->r.err=0->g (b.drop r.pos)=.error e->(f r).2.err=e
def Rb{α β:Type}(f:Rd->α×Rd)(f':Rd->β×Rd):Rd->(α×β)×Rd:=λr=>(((f r).1,(f' (f r).2).1),(f' (f r).2).2)
def Rm{α β:Type}(h:α->β)(f:Rd->α×Rd):Rd->β×Rd:=λr=>(h (f r).1,(f r).2)
theorem suf{b x t:On OP}{p:Nat}(hp:p<=b.length)(h:b.drop p=x++t):t=b.drop (b.length - t.length):=by
 have hl:(b.drop p).length=b.length - p:=PQ ..;rw[h,OC] at hl;have e:b.length - t.length=p+x.length:=by omega
 rw[e,<-UU,h,List.drop_left'];rfl
theorem Rds.num(b:On OP):Rds b (aZ b) Go.Pack.numR:=by
 refine⟨λr hr=>aO hr,λr he=>by unfold aZ;rw[Oz he],λr a t hr he hg=>?_,λr e hr he hg=>?_⟩
 ·unfold Go.Pack.numR at hg;cases e:Go.Pack.rdL 0 0 (b.drop r.pos) with
  | error z=>rw[e] at hg;cases hg
  | ok z=>
   obtain⟨u,t'⟩:=z;rw[e] at hg;cases hg;obtain⟨u',_,e2,_,_⟩:=Go.Pack.rd_back _ 0 0 u t (by omega) e;unfold aZ;rw[OE he,e];exact⟨rfl,rfl,suf hr e2⟩
 ·unfold Go.Pack.numR at hg;cases e2:Go.Pack.rdL 0 0 (b.drop r.pos) with
  | error z=>
   rw[e2] at hg;cases hg;unfold aZ;rw[OE he,e2]
  | ok z=>rw[e2] at hg;cases hg
theorem Rds.flag(b:On OP):Rds b (mF b) Go.Pack.flagR:=by
 have N:=Rds.num b;refine⟨λr hr=>aC9 hr,λr he=>?_,λr a t hr he hg=>?_,λr e hr he hg=>?_⟩
 ·have q:=N.bad r he;unfold mF;rw[Oz (by rw[q];exact he)];exact q
 ·unfold Go.Pack.flagR at hg;cases e:Go.Pack.numR (b.drop r.pos) with
  | error z=>rw[e] at hg;cases hg
  | ok z=>
   obtain⟨n,t1⟩:=z;rw[e] at hg;simp only at hg;obtain⟨q1,q2,q3⟩:=N.good r n t1 hr he e;unfold mF;rw[OE q2,q1];split at hg
   ·cases hg;rename_i h0;rw[OE h0];exact⟨rfl,q2,q3⟩
   ·rename_i h0;split at hg
    ·cases hg;rename_i h1;rw[Oz h0,OE h1];exact⟨rfl,q2,q3⟩
    ·cases hg
 ·unfold Go.Pack.flagR at hg;cases e2:Go.Pack.numR (b.drop r.pos) with
  | error z=>
   rw[e2] at hg;cases hg;have q:=N.fail r e hr he e2;have hz:e≠0:=λhz=>Go.Proofs.YtoaibmbldmckaaaGreat.numR_ne _ (by rw[e2,hz]);unfold mF;rw[Oz (by rw[q];exact hz)];exact q
  | ok z=>
   obtain⟨n,t1⟩:=z;rw[e2] at hg;simp only at hg;obtain⟨q1,q2,q3⟩:=N.good r n t1 hr he e2;unfold mF;rw[OE q2,q1];split at hg
   ·cases hg
   ·rename_i h0;split at hg
    ·cases hg
    ·rename_i h1;cases hg;rw[Oz h0,Oz h1]
end Go.Proofs.YtoaibmbldmckaaaGreat
end
section
namespace Go.Proofs.YtoaibmbldmckaaaGreat
open Go.AM Go.Pack Tryz
theorem Rds.inn(b:On OP)(most:Nat):Rds b (fO b 0 most) (upto most).get:=by
 have N:=Rds.num b;have hL:∀n:Int,aG2 most n=OB↔0<=n/\n<=most:=λn=>by unfold aG2;simp
 refine⟨λr hr=>mA hr,λr he=>?_,λr a t hr he hg=>?_,λr e hr he hg=>?_⟩
 ·have q:=N.bad r he;unfold fO;rw[Oz (by rw[q];exact he)];exact q
 ·simp only[upto,Go.Pack.Cod.only,Go.Pack.num] at hg;cases e:numR (b.drop r.pos) with
  | error z=>rw[e] at hg;cases hg
  | ok z=>
   obtain⟨n,t1⟩:=z;rw[e] at hg;simp only at hg;obtain⟨q1,q2,q3⟩:=N.good r n t1 hr he e;unfold fO;rw[OE q2,q1];split at hg
   ·rename_i h0;cases hg
    have:=(hL a).1 h0
    rw[Oz (by omega),Oz (by omega)];exact⟨q1,q2,q3⟩
   ·cases hg
 ·simp only[upto,Go.Pack.Cod.only,Go.Pack.num] at hg;cases e2:numR (b.drop r.pos) with
  | error z=>
   rw[e2] at hg;cases hg;have q:=N.fail r e hr he e2;have hz:e≠0:=λhz=>Go.Proofs.YtoaibmbldmckaaaGreat.numR_ne _ (by rw[e2,hz]);unfold fO;rw[Oz (by rw[q];exact hz)];exact q
  | ok z=>
   obtain⟨n,t1⟩:=z;rw[e2] at hg;simp only at hg;obtain⟨q1,q2,q3⟩:=N.good r n t1 hr he e2;unfold fO;rw[OE q2,q1];split at hg
   ·cases hg
   ·rename_i h0;cases hg;by_cases c:n<0
    ·rw[OE c]
    ·rw[Oz c,OE (by have:=mt (hL n).2 h0;omega)]
theorem aSr{most:Nat}{b:On OP}{e:Int}(h:(upto most).get b=.error e):e≠0:=λhz=>CNE.upto most b (by rw[h,hz])
theorem Rds.text(b:On OP)(most:Nat):Rds b (gV b most) (aD6 most):=by
 have N:=Rds.inn b most;refine⟨λr hr=>dS hr,λr he=>?_,λr a t hr he hg=>?_,λr e hr he hg=>?_⟩
 ·have q:=N.bad r he;unfold gV;rw[Oz (by rw[q];exact he)];exact q
 ·unfold aD6 at hg;cases e:(upto most).get (b.drop r.pos) with
  | error z=>rw[e] at hg;cases hg
  | ok z=>
   obtain⟨n,t1⟩:=z;rw[e] at hg;simp only at hg;obtain⟨q1,q2,q3⟩:=N.good r n t1 hr he e;have hp:=N.pos r hr;have hl:t1.length=b.length - (fO b 0 most r).2.pos:=by rw[q3,PQ]
   have h0:=(aBj q2).1;unfold gV;rw[OE q2];rw[q1] at h0|-
   split at hg
   ·rename_i hn;cases hg;rw[Oz (by omega)];refine⟨by rw[q3],rfl,?_⟩;rw[q3,UU]
   ·cases hg
 ·unfold aD6 at hg;cases e2:(upto most).get (b.drop r.pos) with
  | error z=>
   rw[e2] at hg;cases hg;have q:=N.fail r e hr he e2;unfold gV;rw[Oz (by rw[q];exact aSr e2)];exact q
  | ok z=>
   obtain⟨n,t1⟩:=z;rw[e2] at hg;simp only at hg;obtain⟨q1,q2,q3⟩:=N.good r n t1 hr he e2;have hp:=N.pos r hr;have hl:t1.length=b.length - (fO b 0 most r).2.pos:=by rw[q3,PQ]
   unfold gV;rw[OE q2,q1];split at hg
   ·cases hg
   ·rename_i hn;cases hg;rw[OE (by omega)]
theorem Rds.cnt{b:On OP}{most:Nat}{r:Rd}(hr:r.pos<=b.length)(he:r.err=0):(∀n t,(upto most).get (b.drop r.pos)=.ok (n,t)->n<=(t.length:Int)->(cB b most r).1=n/\(cB b most r).2.err=0/\t=b.drop (cB b most r).2.pos) /\
  (∀n t,(upto most).get (b.drop r.pos)=.ok (n,t)->¬n<=(t.length:Int)->(cB b most r).1=0/\(cB b most r).2.err=3)/\(∀e,(upto most).get (b.drop r.pos)=.error e->(cB b most r).1=0/\(cB b most r).2.err=e):=by
 have N:=Rds.inn b most;refine⟨λn t h hn=>?_,λn t h hn=>?_,λe h=>?_⟩
 ·obtain⟨q1,q2,q3⟩:=N.good r n t hr he h;have hp:=N.pos r hr;have hl:t.length=b.length - (fO b 0 most r).2.pos:=by rw[q3,PQ]
  unfold cB;rw[OE q2,q1,Oz (by omega)];exact⟨q1,q2,q3⟩
 ·obtain⟨q1,q2,q3⟩:=N.good r n t hr he h;have hp:=N.pos r hr;have hl:t.length=b.length - (fO b 0 most r).2.pos:=by rw[q3,PQ]
  unfold cB;rw[OE q2,q1,OE (by omega)];exact⟨rfl,rfl⟩
 ·have q:=N.fail r e hr he h;have hz:(fO b 0 most r).2.err≠0:=by rw[q];exact aSr h
  unfold cB;rw[Oz hz];exact⟨aCa hz,q⟩
theorem Rds.many{α β:Type}{b:On OP}{f:Rd->β×Rd}{c:Go.Pack.Cod α}{k:α->β}(hc:CNE c)(hp:∀r:Rd,r.pos<=b.length->(f r).2.pos<=b.length)
  (hg:∀(r:Rd) (a:α) (t:On OP),r.pos<=b.length->r.err=0->c.get (b.drop r.pos)=.ok (a,t)->(f r).1=k a/\(f r).2.err=0/\t=b.drop (f r).2.pos)
  (hf:∀(r:Rd) (e:Int),r.pos<=b.length->r.err=0->c.get (b.drop r.pos)=.error e->(f r).2.err=e):∀(n:Nat) (r:Rd),r.pos<=b.length->
  (aJ f n r).2.pos<=b.length/\(r.err≠0->(aJ f n r).2.err=r.err)/\(r.err=0->(∀l t,qC c n (b.drop r.pos)=.ok (l,t)->(aJ f n r).1=l.map k/\(aJ f n r).2.err=0/\t=b.drop (aJ f n r).2.pos)/\∀e,qC c n (b.drop r.pos)=.error e->(aJ f n r).2.err=e)
 | 0,r,hr=>⟨hr,λ_=>rfl,λhe=>⟨λl t h=>by cases h;exact⟨rfl,he,rfl⟩,λe h=>by cases h⟩⟩
 | n+1,r,hr=>by
  by_cases he:r.err=0
  ·have ih:=Rds.many hc hp hg hf n (f r).2 (hp r hr);simp only[aJ,OE he];refine⟨ih.1,λh=>absurd he h,λ_=>⟨λl t h=>?_,λe h=>?_⟩⟩
   ·unfold qC at h;cases e1:c.get (b.drop r.pos) with
    | error z=>rw[e1] at h;cases h
    | ok z=>
     obtain⟨a,t1⟩:=z;rw[e1] at h;simp only at h;obtain⟨q1,q2,q3⟩:=hg r a t1 hr he e1;cases e2:qC c n t1 with
     | error z=>rw[e2] at h;cases h
     | ok z=>
      obtain⟨l1,t2⟩:=z;rw[e2] at h;cases h;obtain⟨p1,p2,p3⟩:=(ih.2.2 q2).1 l1 t (by rw[<-q3];exact e2);exact⟨by rw[q1,p1];rfl,p2,p3⟩
   ·unfold qC at h;cases e1:c.get (b.drop r.pos) with
    | error z=>
     rw[e1] at h;cases h;have q:=hf r e hr he e1;exact(ih.2.1 (by rw[q];exactλhz=>hc _ (by rw[e1,hz]))).trans q
    | ok z=>
     obtain⟨a,t1⟩:=z;rw[e1] at h;simp only at h;obtain⟨q1,q2,q3⟩:=hg r a t1 hr he e1;cases e2:qC c n t1 with
     | ok z=>rw[e2] at h;cases h
     | error z=>
      rw[e2] at h;cases h;exact(ih.2.2 q2).2 e (by rw[<-q3];exact e2)
  ·simp only[aJ,Oz he];exact⟨hr,λ_=>trivial,λh=>absurd h he⟩
structure RdsK {α β:Type} (b:On OP) (f:Rd->β×Rd) (c:Go.Pack.Cod α) (k:α->β):Prop where
 pos:∀r:Rd,r.pos<=b.length->(f r).2.pos<=b.length
 bad:∀r:Rd,r.err≠0->(f r).2.err=r.err
 good:∀(r:Rd) (a:α) (t:On OP),r.pos<=b.length->r.err=0->c.get (b.drop r.pos)=.ok (a,t)->(f r).1=k a/\(f r).2.err=0/\t=b.drop (f r).2.pos
 fail:∀(r:Rd) (e:Int),r.pos<=b.length->r.err=0->c.get (b.drop r.pos)=.error e->(f r).2.err=e
theorem RdsK.list{α β:Type}{b:On OP}{f:Rd->β×Rd}{c:Go.Pack.Cod α}{k:α->β}(h:RdsK b f c k)(hc:CNE c)(most:Nat)(hm:most<=1000000):RdsK b (aS b f most) (c.list most hm) (λl=>l.map k):=by
 have M:=Rds.many hc h.pos h.good h.fail;refine⟨λr hr=>(M _ _ (fC hr)).1,λr he=>?_,λr l t hr he hg=>?_,λr e hr he hg=>?_⟩
 ·have q:(fO b 0 most r).2.err=r.err:=(Rds.inn b most).bad r he;have hz:(fO b 0 most r).2.err≠0:=by rw[q];exact he
  have hx:cB b most r=fO b 0 most r:=by unfold cB;rw[Oz hz]
  unfold aS;rw[hx,aCa hz];exact q
 ·simp only[Go.Pack.Cod.list,aG4] at hg;cases e1:(upto most).get (b.drop r.pos) with
  | error z=>rw[e1] at hg;cases hg
  | ok z=>
   obtain⟨n,t1⟩:=z;rw[e1] at hg;simp only at hg;split at hg
   ·rename_i hn;obtain⟨q1,q2,q3⟩:=(Rds.cnt hr he).1 n t1 e1 hn;unfold aS;rw[q1];exact((M n.toNat _ (fC hr)).2.2 q2).1 l t (by rw[<-q3];exact hg)
   ·cases hg
 ·simp only[Go.Pack.Cod.list,aG4] at hg;cases e1:(upto most).get (b.drop r.pos) with
  | error z=>
   rw[e1] at hg;cases hg;obtain⟨q1,q2⟩:=(Rds.cnt hr he).2.2 e e1;unfold aS;rw[q1];exact q2
  | ok z=>
   obtain⟨n,t1⟩:=z;rw[e1] at hg;simp only at hg;split at hg
   ·rename_i hn;obtain⟨q1,q2,q3⟩:=(Rds.cnt hr he).1 n t1 e1 hn;unfold aS;rw[q1];exact((M n.toNat _ (fC hr)).2.2 q2).2 e (by rw[<-q3];exact hg)
   ·rename_i hn;cases hg;obtain⟨q1,q2⟩:=(Rds.cnt hr he).2.1 n t1 e1 hn;unfold aS;rw[q1];exact q2
theorem RdsK.both{α β α' β':Type}{b:On OP}{f:Rd->α'×Rd}{f':Rd->β'×Rd}{c:Go.Pack.Cod α}{d:Go.Pack.Cod β}{k:α->α'}{k':β->β'}(h:RdsK b f c k)(g:RdsK b f' d k')(hc:CNE c):RdsK b (Rb f f') (c.both d) (λx=>(k x.1,k' x.2)):=by
 refine⟨λr hr=>g.pos _ (h.pos r hr),λr he=>?_,λr a t hr he hg=>?_,λr e hr he hg=>?_⟩
 ·have q:=h.bad r he;exact(g.bad _ (by rw[q];exact he)).trans q
 ·simp only[Go.Pack.Cod.both] at hg;cases e:c.get (b.drop r.pos) with
  | error z=>rw[e] at hg;cases hg
  | ok z=>
   obtain⟨x,t1⟩:=z;rw[e] at hg;simp only at hg;obtain⟨q1,q2,q3⟩:=h.good r x t1 hr he e;cases e2:d.get t1 with
   | error z=>rw[e2] at hg;cases hg
   | ok z=>
    obtain⟨y,t2⟩:=z;rw[e2] at hg;cases hg;obtain⟨p1,p2,p3⟩:=g.good _ y t (h.pos r hr) q2 (by rw[<-q3];exact e2);exact⟨by show(((f r).1,(f' (f r).2).1):α'×β')=(k x,k' y);rw[q1,p1],p2,p3⟩
 ·simp only[Go.Pack.Cod.both] at hg;cases e1:c.get (b.drop r.pos) with
  | error z=>
   rw[e1] at hg;cases hg;have h5:=h.fail r e hr he e1;exact(g.bad _ (by rw[h5];exactλhz=>hc _ (by rw[e1,hz]))).trans h5
  | ok z=>
   obtain⟨x,t1⟩:=z;rw[e1] at hg;simp only at hg;obtain⟨q1,q2,q3⟩:=h.good r x t1 hr he e1;cases e2:d.get t1 with
   | ok z=>rw[e2] at hg;cases hg
   | error z=>
    rw[e2] at hg;cases hg;exact g.fail _ e (h.pos r hr) q2 (by rw[<-q3];exact e2)
theorem RdsK.map{α β γ δ:Type}{b:On OP}{f:Rd->γ×Rd}{c:Go.Pack.Cod α}{k:α->γ}(h:RdsK b f c k)(w:γ->δ){p:α->β}{q:β->α}{h1:∀a,q (p a)=a}{h2:∀b,p (q b)=b}:RdsK b (Rm w f) (c.map p q h1 h2) (λy=>w (k (q y))):=by
 refine⟨h.pos,h.bad,λr a t hr he hg=>?_,λr e hr he hg=>?_⟩
 ·simp only[Go.Pack.Cod.map] at hg;cases e:c.get (b.drop r.pos) with
  | error z=>rw[e] at hg;cases hg
  | ok z=>
   obtain⟨x,t1⟩:=z;rw[e] at hg;cases hg;obtain⟨q1,q2,q3⟩:=h.good r x t hr he e;exact⟨by show w (f r).1=w (k (q (p x)));rw[h1,q1],q2,q3⟩
 ·simp only[Go.Pack.Cod.map] at hg;cases e1:c.get (b.drop r.pos) with
  | ok z=>rw[e1] at hg;cases hg
  | error z=>
   rw[e1] at hg;cases hg;exact h.fail r e hr he e1
theorem zA(b:On OP):RdsK b (aZ b) Go.Pack.num id:=⟨(Rds.num b).pos,(Rds.num b).bad,(Rds.num b).good,(Rds.num b).fail⟩
theorem bAh(b:On OP):RdsK b (gV b 64) txt id:=⟨(Rds.text b 64).pos,(Rds.text b 64).bad,(Rds.text b 64).good,(Rds.text b 64).fail⟩
theorem bWn(b:On OP):RdsK b (mF b) Go.Pack.flag id:=⟨(Rds.flag b).pos,(Rds.flag b).bad,(Rds.flag b).good,(Rds.flag b).fail⟩
theorem bPy(b:On OP):RdsK b (rM b) mE id:=RdsK.map (((zA b).both ((zA b).both (zA b) Sh) Sh)) (λx=>(⟨x.1,x.2.1,x.2.2⟩:Vo))
theorem bJg(b:On OP):RdsK b (eE b) aBd id:=RdsK.map ((bAh b).both ((bPy b).both (zA b) XP) Uw) (λx=>(⟨x.1,x.2.1,x.2.2⟩:Tn))
theorem bJh(b:On OP):RdsK b (eF b) aL0 bPa:=RdsK.map ((bAh b).both ((zA b).both (bWn b) Sh) Uw) (λx=>(⟨x.1,1,x.2.1,x.2.2⟩:Ser))
theorem bWo(b:On OP):RdsK b (fA b) aD7 bHa:=RdsK.map ((bAh b).both ((zA b).both (zA b) Sh) Uw) (λx=>(⟨x.1,x.2.1,x.2.2,0⟩:TX))
theorem bWp(b:On OP):RdsK b (eU b) aBe bHc:=RdsK.map ((zA b).both ((zA b).both ((zA b).both ((zA b).both (zA b) Sh) Sh) Sh) Sh) (λx=>(⟨x.1,x.2.1,⟨x.2.2.1,x.2.2.2.1,x.2.2.2.2⟩⟩:Uj))
theorem CNE.part:CNE aD7:=(Uw.both (Sh.both Sh)).map
theorem CNE.ser:CNE aL0:=(Uw.both (Sh.both CNE.flag)).map
theorem CNE.rate:CNE aBd:=(Uw.both (XP.both Sh)).map
theorem CNE.sess:CNE aBe:=(Sh.both (Sh.both (Sh.both (Sh.both Sh)))).map
theorem CNE.pst:CNE aHa:=(Uw.both (XP.both (Uw.both (Sh.both (Wt CNE.part _))))).map
theorem bWq(b:On OP):RdsK b (dA b) aHa bHb:=RdsK.map ((bAh b).both ((bPy b).both ((bAh b).both ((zA b).both ((bWo b).list CNE.part 12 (by decide)) Sh) Uw) XP) Uw) (λx=>(⟨⟨x.1,0⟩,x.2.1,⟨0,0,0,x.2.2.2.2⟩,⟨x.2.2.1,x.2.2.2.1⟩,OA⟩:OT))
def uR(b:On OP)(r:Rd):Qg×Rd:=
 let x:=aS b (eE b) 24 r
 let y:=aS b (eF b) 8 x.2
 let z:=aS b (dA b) 40 y.2
 let u:=aS b (eU b) 8 z.2
 let v:=aZ b u.2
 (⟨x.1,y.1,z.1,[],u.1,v.1⟩,v.2)
theorem bWr(b:On OP):RdsK b (uR b) aN4 aL2:=by
 have h:=RdsK.map (((bJg b).list CNE.rate 24 (by decide)).both (((bJh b).list CNE.ser 8 (by decide)).both (((bWq b).list CNE.pst 40 (by decide)).both (((bWp b).list CNE.sess 8 (by decide)).both (zA b) (Wt CNE.sess _)) (Wt CNE.pst _)) (Wt CNE.ser _)) (Wt CNE.rate _)) (λx=>(⟨x.1,x.2.1,x.2.2.1,[],x.2.2.2.1,x.2.2.2.2⟩:Qg)) (p:=λx=>(⟨x.1,x.2.1,x.2.2.1,x.2.2.2.1,x.2.2.2.2⟩:ImgI)) (q:=λr=>(r.table,r.ser,r.posted,r.sess,r.next)) (h1:=λ_=>rfl) (h2:=λ_=>rfl);refine⟨h.pos,h.bad,λr a t hr he hg=>?_,h.fail⟩;obtain⟨q1,q2,q3⟩:=h.good r a t hr he hg;refine⟨?_,q2,q3⟩;refine Eq.trans q1 ?_;simp only[aL2,List.map_id,id]
theorem aJ9(b:On OP):iI b=(if(uR b ⟨0,0⟩).2.err=0 then(if(uR b ⟨0,0⟩).2.pos<b.length then(Rc,(5:Int)) else match sU (uR b ⟨0,0⟩).1 with
  | none=>(Rc,4)
  | some s=>if bB s=OB then(s,0) else(Rc,4)) else(Rc,(uR b ⟨0,0⟩).2.err)):=by
 have I:=bWr b;unfold iI;cases e:aN4.get b with
 | error z=>
  have q:=I.fail ⟨0,0⟩ z (PS _) rfl e;have hz:z≠0:=λhz=>CNE.img b (by rw[e,hz]);rw[q,Oz hz]
 | ok z=>
  obtain⟨x,t⟩:=z;obtain⟨q1,q2,q3⟩:=I.good ⟨0,0⟩ x t (PS _) rfl e;have hp:=I.pos ⟨0,0⟩ (PS _);rw[OE q2,q1];simp only;by_cases c:(uR b ⟨0,0⟩).2.pos<b.length
  ·rw[OE c,Oz (by rw[q3];intro h;have:=Qo TN h;simp at this;omega)]
  ·rw[Oz c,OE (by rw[q3];exact QH (by omega))];cases sU (aL2 x)<;>rfl
end Go.Proofs.YtoaibmbldmckaaaGreat
end
section
namespace Go.AM
section
section
variable{P:OI}{pl:kA}
theorem FnR.cut{f:PU}{p:Nat->Ow (On bY)}(bc:pl f=Ot (.val p)){lv:Nat->On Nat}{mk:Nat->On V}(hm:Pt mk){ver n:Nat}{ja pre post:On (On V)}{v:V}{c:Nat}
  (h:dR P (W P pl) p lv f (mk 0) ⟨1,Tr.nil.put 0 (.row ver n pre)⟩ λv0 S0=>v0=v/\S0.heap.get 0=Ot (.row ver n post)) (hv:nK v=OB) (hq:post.all Tl=OB) {S:St} {a:Nat} (hS:S.heap.get a=Ot (.row ver n ja))
  (h1:kU (iS S 3) ja=.ok pre) (h2:lK (iA S 3) ja=[c]) (BL:c≠a) (hb:(jG v&&pK [(ver,n,post)])=OA) (K:KW):W P pl f (mk a) S K=K v ⟨S.next,(S.heap.cut c).put a (.row ver n post)⟩:=by
 obtain⟨v0,S0,g1,rfl,g2⟩:=jM aM8 h;refine aF9 (lR (g1.one λk g1=>?_)) K;simp only[fG,bc];obtain⟨q1,q2⟩:=fK (S:=S0) (n:=2) hq;unfold vG;rw[hm.ptr,hm.sls];have hA:([]++cZ S [a])=[c]:=by simp only[cZ,hS,h2,OS,Pp]
 have hB:(fF (jS (iA S0 3) S0) v0++cZ S0 (qH 0 1)).any (λa=>QI a 1)=false:=by
  simp only[qH,cZ,g2,q2,zG v0 hv,OS,SZ]
 have hC:([c].any λx=>iT x [a])=false:=by
  simp only[Yx,SZ,iT,Ul];exact Uq.2 λh=>BL (Qv h)
 rw[hA];simp only[hm.frz,gP,hS,h1,hC,QF,OQ,Pf,Px,vF,g1,mV v0 hv,hB,nR]
 have:gP S0 (qH 0 1)=.ok [(ver,n,post)]:=by simp only[qH,gP,g2,q1]
 rw[this];simp only[rQ,nR,hb,QF]
end
end
end Go.AM
end
section
namespace Go.Proofs.YtoaibmbldmckaaaGreat
open Go.AM Tryz
theorem bWs{b:On OP}(hb:b.length<1000000000){r:Rd}(hr:r.pos<=b.length)(most:Int){S:St}{a c ver n:Nat}(hc:S.heap.get c=Ot (.row ver 1 (b.map fX)))(hS:S.heap.get a=Ot (.row 0 3 [[.sl c ver 1 0 b.length,O J (r.pos:Int),O J r.err]]))(BL:c≠a)(ah:b≠[])(K:KW):
  C 145 [.ptr a 0 0 0,O J most] S K=K (O J (cB b most r).1) (St.at ⟨S.next,S.heap.cut c⟩ a ((cB b most r).2.cells b)):=by
 have f1:cP kP (kV (iS S 2) S) (.sl c ver 1 0 b.length)=.ok (.imm (b.map fX)):=by
  have he:aK S (.sl c ver 1 0 b.length)=.ok (b.map fX):=by
   have:=aC8 hc (i:=b.length) (by rw[ON];omega)
   rw[this,QW (by rw[ON];omega)]
  simp only[cP,kV,he,(fK (S:=S) (n:=1) (aU (enc:=fX) (λ_=>rfl) b)).1]
 have f2:fF (jS (iA S 2) S) (.sl c ver 1 0 b.length)=[c]:=by
  have he:aK S (.sl c ver 1 0 b.length)=.ok (b.map fX):=by
   have:=aC8 hc (i:=b.length) (by rw[ON];omega)
   rw[this,QW (by rw[ON];omega)]
  simp only[fF,jS,he,(fK (S:=S) (n:=1) (aU (enc:=fX) (λ_=>rfl) b)).2]
 have oz:pK [(0,3,[(cB b most r).2.cells b])]=false:=by
  cases b with
  | nil=>exact absurd rfl ah
  | cons x y=>rfl
 have e1:iS S 3 [.sl c ver 1 0 b.length,O J (r.pos:Int),O J r.err]=.ok (r.cells b):=by
  show Sm kP (kV (iS S 2) S) [_,_,_]=_;simp only[Sm,f1];rfl
 have e2:iA S 3 [.sl c ver 1 0 b.length,O J (r.pos:Int),O J r.err]=[c]:=by
  show slsVs (jS (iA S 2) S) [_,_,_]=_;simp only[slsVs,f2];rfl
 refine FnR.cut (mk:=λa=>[.ptr a 0 0 0,O J most]) bAc (lv:=dY []) (Rq rfl) (pre:=[r.cells b]) ?_ rfl (Rd.clo b _) hS (by simp only[kU,e1]) (by simp only[lK,e2];rfl) BL (by rw[oz,Yi]) K;rw[bAd];delta Tryz.f145;simp only[↓cw,↓Oo,Om,kk,Rd.cells,aA];refine Qw ((bD7 hb hr 0 most).eq (Ox _ _ _ trivial) _) ?_;have hp:=mA (lo:=0) (hi:=most) hr;unfold cB;generalize fO b 0 most r=x at hp|-
 obtain⟨n,p,e⟩:=x;simp only at hp;have hw:wr J ((b.length:Int) - (p:Int))=(b.length:Int) - (p:Int):=fB (by omega) (by omega);simp only[↓cw,↓Oo,Om,kk,Rd.cells,aA,hw];by_cases he:e=0
 ·by_cases h1:(b.length:Int) - (p:Int)<n
  ·simp only[↓cw,↓Oo,Om,kk,he,h1,Oy,aA,hw];refine Qw (aHc (b:=b) (pos:=p) (e0:=0) (Ox _ _ _ trivial) r.pos 3 _) ?_
   first | exact⟨rfl,Ox _ _ _ trivial⟩ | exact Ox _ _ _ trivial
  ·simp only[↓cw,↓Oo,Om,kk,he,h1,Oy,Ou,aA,hw]
   first | exact⟨rfl,Ox _ _ _ trivial⟩ | exact Ox _ _ _ trivial
 ·simp only[↓cw,↓Oo,Om,kk,he,Oy,Ou,aA]
  first | exact⟨rfl,Ox _ _ _ trivial⟩ | exact Ox _ _ _ trivial
theorem bWt{b:On OP}(hb:b.length<1000000000){S:St}{a:Nat}(ha:a<S.next){r:Rd}(hr:r.pos<=b.length)(w:WF S){T:St}(vh:∀K:KW,C 145 [.ptr a 0 0 0,O J 24] T K=K (O J (cB b 24 r).1) (St.at S a ((cB b 24 r).2.cells b))){K:KW}
  (H:∀v X,Ext (St.at S a ((aS b (eE b) 24 r).2.cells b)) X->Own (St.at S a ((aS b (eE b) 24 r).2.cells b)) X 5 v ((aS b (eE b) 24 r).1.map Qk)->(aS b (eE b) 24 r).2.pos<=b.length->K v X):
  C 61 [.ptr a 0 0 0,O J 24,.func 62 [] []] T K:=by
 refine v61 ?_;delta Tryz.f61;simp only[↓cw,↓Oo,Om,kk];refine Qw (vh _) ?_;have hc:=fC (most:=24) hr;obtain⟨h0,lf⟩:=iK (b:=b) (r:=r) (show(0:Int)<=24 by decide) fP;unfold aS at H;generalize cB b 24 r=y at hc h0 lf H|-
 obtain⟨n,r0⟩:=y;simp only at hc h0 lf H|-
 obtain⟨n,rfl⟩:=Qx h0;rw[show((n:Int)).toNat=n from by omega] at H;refine eH (λm vs X=>∃(i:Nat) (r1:Rd) (v:V) (done:On Tn),i+m=n/\vs=[v,O J (i:Int)]/\Ext (St.at S a (r1.cells b)) X/\Own (St.at S a (r1.cells b)) X 5 v (done.map Qk)/\done.length=i/\r1.pos<=b.length/\done++(aJ (eE b) m r1).1=(aJ (eE b) n r0).1/\(aJ (eE b) m r1).2=(aJ (eE b) n r0).2) ?_ (n:=n) ⟨0,r0,.nils,[],by omega,rfl,Tm _,Rf _ _ _,rfl,hc,rfl,rfl⟩;rintro m vs X ⟨i,r1,v,done,hi,rfl,x,o,hd,hp,e1,e2⟩ aE gv;have qn:=x.old a _ (St.at_get S a _);have hn:S.next<=X.next:=x.next;by_cases ba:(i:Int)<(n:Int)
 ·obtain⟨m,rfl⟩:∃m',m=m'+1:=⟨m - 1,by omega⟩;simp only[↓cw,↓Oo,Om,kk,ba,Oy];refine Qw ((bAb b r1).eq_same qn _) ?_;by_cases he:r1.err=0
  ·simp only[↓cw,↓Oo,Om,kk,he,Oy,Ou,OK,↓qV prog C bWi,Pp,PJ];refine Qw ((r62 hb hp).eq qn _) ?_;have x':=Go.Proofs.YtoaibmbldmckaaaGreat.Ext.at ha x (d:=(eE b r1).2.cells b);have o':=Go.Proofs.YtoaibmbldmckaaaGreat.Own.at ha o (d:=(eE b r1).2.cells b) (e:=(eE b r1).2.cells b);have wS:=St.wf_at (d:=(eE b r1).2.cells b) ha w;rw[show(⟨X.next,X.heap.put a (.row 0 3 [(eE b r1).2.cells b])⟩:St)=St.at X a ((eE b r1).2.cells b) from rfl];generalize St.at X a ((eE b r1).2.cells b)=Y at x' o'|-
   simp only[aJ,he,Oy] at e1 e2;have hq:=aUw hp;generalize eE b r1=z at x' o' e1 e2 wS hq|-
   obtain⟨rt,r2⟩:=z;simp only at x' o' e1 e2 wS hq|-
   have x2:Ext Y ⟨Y.next+1,Y.heap.put Y.next (.row 0 5 [rt.enc])⟩:=Rg (x'.wf wS) _;obtain⟨v2,X2,q1,x3,n3,o2⟩:=(o'.ext x2).push (b:=48) (x'.trans x2) wS (u:=.sl Y.next 0 5 0 1) (cs:=[rt.enc]) (by simp only[aK,aA];rfl) (λc hc=>by rcases PR.1 hc with rfl;exact aS1 _) (by simp) (by simp;omega) (by simp[eG];omega);simp only[Qk] at q1;simp only[↓cw,↓Oo,Om,kk,aPh,Qk,q1,gM (show i<1000000000 by omega)];exact gv m _ _ (by omega) ⟨i+1,r2,v2,done++[rt],by omega,rfl,x3,by simpa using o2,by simp[hd],hq,by rw[<-e1];simp,e2⟩
  ·simp only[↓cw,↓Oo,Om,kk,he,Oy,Ou,OL];simp only[aJ,he,Ou] at e1 e2;rw[<-e1,<-e2] at H;exact H v X x (by simpa using o) hp
 ·obtain rfl:m=0:=by omega
  simp only[↓cw,↓Oo,Om,kk,ba,Ou];simp only[aJ] at e1 e2;rw[<-e1,<-e2] at H;exact H v X x (by simpa using o) hp
end Go.Proofs.YtoaibmbldmckaaaGreat
end
section
namespace Go.AM
section
variable{P:OI}{pl:kA}
theorem FnR.nil{f:PU}{p:Nat->Ow (On bY)}(bc:pl f=Ot (.val p)){lv:Nat->On Nat}{mk:Nat->On V}(hm:Pt mk){ver n:Nat}{ja pre post:On (On V)}{v:V}
  (h:dR P (W P pl) p lv f (mk 0) ⟨1,Tr.nil.put 0 (.row ver n pre)⟩ λv0 S0=>v0=v/\S0.heap.get 0=Ot (.row ver n post)) (hv:nK v=OB) (hq:post.all Tl=OB) {S:St} {a:Nat} (hS:S.heap.get a=Ot (.row ver n ja))
  (h1:kU (iS S 3) ja=.ok pre) (h2:lK (iA S 3) ja=[]) (K:KW):W P pl f (mk a) S K=K v ⟨S.next,S.heap.put a (.row ver n post)⟩:=by
 obtain⟨v0,S0,g1,rfl,g2⟩:=jM aM8 h;refine aF9 (lR (g1.one λk g1=>?_)) K;simp only[fG,bc];obtain⟨q1,q2⟩:=fK (S:=S0) (n:=2) hq;unfold vG;rw[hm.ptr,hm.sls];have hA:([]++cZ S [a])=[]:=by simp only[cZ,hS,h2,OS,Pp]
 have hB:(fF (jS (iA S0 3) S0) v0++cZ S0 (qH 0 1)).any (λa=>QI a 1)=false:=by
  simp only[qH,cZ,g2,q2,zG v0 hv,OS,SZ]
 rw[hA];simp only[hm.frz,gP,hS,h1,SZ,QF,OQ,Pf,Px,vF,g1,mV v0 hv,hB,nR]
 have:gP S0 (qH 0 1)=.ok [(ver,n,post)]:=by simp only[qH,gP,g2,q1]
 rw[this];simp only[rQ,nR];cases jG v0&&pK [(ver,n,post)]<;>rfl
end
end Go.AM
namespace Go.Proofs.YtoaibmbldmckaaaGreat
open Go.AM Tryz
theorem bWu{r:Rd}(hr:r.pos<=([]:On OP).length)(most:Int){S:St}{a:Nat}(hS:S.heap.get a=Ot (.row 0 3 [[.nils,O J (r.pos:Int),O J r.err]]))(K:KW):
  C 145 [.ptr a 0 0 0,O J most] S K=K (O J (cB [] most r).1) (St.at S a ((cB [] most r).2.cells [])):=by
 obtain⟨b,so⟩:∃b:On OP,b=[]:=⟨_,rfl⟩;have hb:b.length<1000000000:=by rw[so];decide
 rw[<-so] at hr|-
 refine FnR.nil (mk:=λa=>[.ptr a 0 0 0,O J most]) bAc (lv:=dY []) (Rq rfl) (pre:=[r.cells b]) ?_ rfl (Rd.clo b _) hS (by rw[so];rfl) (by rfl) K;rw[bAd];delta Tryz.f145;simp only[↓cw,↓Oo,Om,kk,Rd.cells,aA];refine Qw ((bD7 hb hr 0 most).eq (Ox _ _ _ trivial) _) ?_;have hp:=mA (lo:=0) (hi:=most) hr;unfold cB;generalize fO b 0 most r=x at hp|-
 obtain⟨n,p,e⟩:=x;simp only at hp;have hw:wr J ((b.length:Int) - (p:Int))=(b.length:Int) - (p:Int):=fB (by omega) (by omega);simp only[↓cw,↓Oo,Om,kk,Rd.cells,aA,hw];by_cases he:e=0
 ·by_cases h1:(b.length:Int) - (p:Int)<n
  ·simp only[↓cw,↓Oo,Om,kk,he,h1,Oy,aA,hw];refine Qw (aHc (b:=b) (pos:=p) (e0:=0) (Ox _ _ _ trivial) r.pos 3 _) ?_
   first | exact⟨rfl,Ox _ _ _ trivial⟩ | exact Ox _ _ _ trivial
  ·simp only[↓cw,↓Oo,Om,kk,he,h1,Oy,Ou,aA,hw]
   first | exact⟨rfl,Ox _ _ _ trivial⟩ | exact Ox _ _ _ trivial
 ·simp only[↓cw,↓Oo,Om,kk,he,Oy,Ou,aA]
  first | exact⟨rfl,Ox _ _ _ trivial⟩ | exact Ox _ _ _ trivial
end Go.Proofs.YtoaibmbldmckaaaGreat
end
section
namespace Go.AM
theorem ldR{S:St}{a ver n:Nat}{ae:On (On V)}(hS:S.heap.get a=Ot (.row ver n ae)){i:Nat}{row:On V}(hi:ae[i]?=Ot row)(k:Ow Nat)(j m:Nat):fZ k (.ptr a ver i j) ⟨m,S.heap⟩=jB k row j:=by
 have:=aF (S:=⟨m,S.heap⟩) hS
 simp only[fZ,this,hi]
theorem stR{S:St}{a ver n:Nat}{ae:On (On V)}(hS:S.heap.get a=Ot (.row ver n ae)){i:Nat}{row:On V}(hi:ae[i]?=Ot row)(x:V){w:Nat}(hx:x.cells.length=w)(ho:aH x.cells=OB)(j m:Nat)(hj:j+w<=row.length):
  eL w (.ptr a ver i j) x ⟨m,S.heap⟩=.ok ⟨m,S.heap.put a (.row ver n (ae.set i (splice row j x.cells)))⟩:=by
 have:=aF (S:=⟨m,S.heap⟩) hS
 simp only[eL,this,hi];rw[OE ⟨hx,ho,by omega⟩]
end Go.AM
namespace Go.Proofs.YtoaibmbldmckaaaGreat
open Go.AM Tryz
theorem pE(t:Up):sT t=(match aD kN Ot t.parts [] with | none=>OG | some ps=>oV ps):=rfl
theorem bWw{S:St}{a ver i:Nat}{ae:On (On V)}{u:V}{q:OT}(w:WF S)(hS:S.heap.get a=Ot (.row ver 12 ae))(hi:ae[i]?=Ot (q.encW u))(ou:Own E0 S 4 u (q.total.parts.map PI))(qo:AM.blkOf u≠Ot a)(h12:q.total.parts.length<=12){K:KW}
  (H1:∀t S',sT q.total=Ot t->WF S'->S.next<=S'.next->S'.heap.get a=Ot (.row ver 12 (ae.set i (({ q with total:=t }:OT).encW u)))->Own E0 S' 4 u (t.parts.map PI)->(∀y,y<S.next->y≠a->AM.blkOf u≠Ot y->S'.heap.get y=S.heap.get y)->K (.bool OB) S')
  (H2:∀S',sT q.total=OG->WF S'->S.next<=S'.next->(∀y,y<S.next->y≠a->AM.blkOf u≠Ot y->S'.heap.get y=S.heap.get y)->K (.bool OA) S'):C 154 [.ptr a ver i 5] S K:=by
 refine bRi ?_;have l0:=ldR hS hi;simp only[Posted.encW] at l0;have lu:=ou.sl.lenI;have la:=w _ _ hS;delta Tryz.f154;simp only[↓cw,↓Oo,Om,kk,l0 OG 8 S.next,lu];refine aG q.total.parts (step:=kN) (fin:=Ot) (λk st vs X=>∃x y,vs=[.bool OA,x,y,O J (k:Int)]/\Own E0 X 4 u ((st++q.total.parts.drop k).map PI)/\st.length=k/\Own E0 X 1 x ((st.map (·.net)).map dE)/\Own E0 X 1 y ((st.map (·.tax)).map dE)/\WF X/\S.next<=X.next/\(∀z,AM.blkOf x=Ot z->S.next<=z)/\(∀z,AM.blkOf y=Ot z->S.next<=z)/\(∀z,AM.blkOf x=Ot z->AM.blkOf y≠Ot z)/\∀z,z<S.next->AM.blkOf u≠Ot z->X.heap.get z=S.heap.get z)
  (λr=>r=aD kN Ot q.total.parts []) ?_ ?_ (s:=[]) ⟨_,_,rfl,by simpa using ou,rfl,Rf _ _ _,Rf _ _ _,w,Ov _,λz h=>(by cases h),λz h=>(by cases h),λz h=>(by cases h),λ_ _ _=>rfl⟩ rfl
 ·rintro k p st vs X hk ⟨x,y,rfl,oU,fq,ox,oy,wX,hn,bx,by_,wh,keep⟩ aE H;have dw:=(Oq.1 hk).1;have bu:∀z,AM.blkOf u=Ot z->z<S.next:=λz hz=>(cE ou hz).2;have LM:((st++q.total.parts.drop k).map PI)[k]?=Ot p.enc:=by
   rw[Pc,Pe (by omega),PP,fq,Qt,QT,hk];rfl
  have rA:X.heap.get a=Ot (.row ver 12 ae):=by rw[keep a la qo];exact hS
  have l1:=ldR rA hi;simp only[Posted.encW] at l1;obtain⟨b,vb,hv,_,hb,e4,_,er⟩:=(oU.bump 17).setK (rV (wX.bump 17)) mB LM J;have da:∀m j,fZ OG (.ptr b vb k j) ⟨m,X.heap⟩=jB OG p.enc j:=λm j=>by
   have:=oU.ld hv LM OG j
   simpa only[ldP,gm] using this
  have m1:=λm=>da m 1;have m2:=λm=>da m 2;simp only[kk,PI] at m1 m2;obtain⟨S2,bz,x2,n2,FS,am,w2⟩:=er 3 1 (O J (bC p.net p.bp).1) rfl rfl (by decide);have w2:=w2 (wX.bump 17);have hbS:b<S.next:=bu b (by rw[hv];rfl);have htx:((st++q.total.parts.drop k).map PI).set k (splice p.enc 3 [O J (bC p.net p.bp).1])=((st++[rH p])++q.total.parts.drop (k+1)).map PI:=by
   rw[PK,Sn _ _ (by rw[ON];omega),ON,fq,Qt];have hd:q.total.parts.drop k=p::q.total.parts.drop (k+1):=by
    have:=(Oq.1 hk).2
    rw[<-this];exact(Ts dw).symm
   rw[hd];simp only[Qd,VJ,PK,Pd,PJ,Pp,Py];rfl
  simp only[Ur] at FS;rw[htx] at FS;have di:(((st++[rH p])++q.total.parts.drop (k+1)).map PI)[k]?=Ot (rH p).enc:=by
   rw[Pc,Pd,Pe (by omega),fq,Qt];rfl
  simp only[kN] at H;by_cases he:(bC p.net p.bp).2=0;rotate_left
  ·simp only[he,Ou] at H;simp only[↓cw,↓Oo,Om,kk,bG hk,l1 OG 8,e4,m1,m2,bCc,dU,bz,he,OL,Oy];exact H2 _ (by rw[pE,<-H]) w2 (by have:S2.next=X.next+17:=n2;omega) λy hy As CC=>by rw[am y λe=>CC (by rw[hv,e];rfl)];exact keep y hy CC
  simp only[he,Oy] at H;have uw:∀m j,fZ OG (.ptr b vb k j) ⟨m,S2.heap⟩=jB OG (rH p).enc j:=λm j=>by
   have:=FS.ld hv di OG j
   simpa only[ldP,gm] using this
  have m3:=λm=>uw m 2;have m4:=λm=>uw m 3;simp only[kk,PI,rH] at m3 m4;have LN:S2.next=X.next+17:=n2;have ox2:Own E0 S2 1 x _:=ox.same (by omega) λz hz=>am z (by have:=bx z hz;omega);have oy2:Own E0 S2 1 y _:=oy.same (by omega) λz hz=>am z (by have:=by_ z hz;omega);have lx:∀z,AM.blkOf x=Ot z->z<X.next:=λz hz=>(cE ox hz).2;have ly:∀z,AM.blkOf y=Ot z->z<X.next:=λz hz=>(cE oy hz).2;obtain⟨x',S3,q1,w3,n3,ox3,bx3,bf⟩:=aFo (b:=8) ox2 w2 (k1:=S2.next+5) (k2:=S2.next+6) (m:=S2.next+16) (fresh w2 (by omega)) (fresh w2 (by omega)) (by omega) (by omega) (by omega) (by omega) (aH8 p.net) (by simp;omega) (by simp[eG];omega);have LO:Own E0 S3 4 u _:=FS.same (by omega) λz hz=>bf z (by have:=bu z hz;omega) (by have:=bu z hz;omega) (λh=>by have:=bx z h;have:=bu z hz;omega);have oy3:Own E0 S3 1 y _:=oy2.same (by omega) λz hz=>bf z (by have:=ly z hz;omega) (by have:=ly z hz;omega) (λh=>wh z h hz);have fr:∀c,7<=c->S3.heap.get (S2.next+c)=none:=λc hc=>by
   rw[bf (S2.next+c) (by omega) (by omega) λh=>by have:=lx _ h;omega];exact fresh w2 (by omega)
  obtain⟨y',S4,q2,w4,n4,oy4,by4,iw⟩:=aFo (b:=8) oy3 w3 (k1:=S2.next+12) (k2:=S2.next+13) (m:=S3.next) (fr 12 (by omega)) (fr 13 (by omega)) (by omega) (by omega) (by omega) (Ov _) (aH8 (bC p.net p.bp).1) (by simp;omega) (by simp[eG];omega);have Iy:∀z,AM.blkOf x'=Ot z->z=S2.next+6\/AM.blkOf x=Ot z:=λz hz=>by
   rcases bx3 with h | h
   ·rw[h] at hz;cases hz;exact .inl rfl
   ·rw[h] at hz;exact .inr hz
  have FT:∀z,AM.blkOf y'=Ot z->z=S2.next+13\/AM.blkOf y=Ot z:=λz hz=>by
   rcases by4 with h | h
   ·rw[h] at hz;cases hz;exact .inl rfl
   ·rw[h] at hz;exact .inr hz
  have ox4:Own E0 S4 1 x' _:=ox3.same (by omega) λz hz=>by
   rcases Iy z hz with h | h
   ·exact iw z (by omega) (by omega) λh'=>by have:=ly z h';omega
   ·exact iw z (by have:=lx z h;omega) (by have:=lx z h;omega) λh'=>wh z h h'
  have oU4:Own E0 S4 4 u _:=LO.same (by omega) λz hz=>iw z (by have:=bu z hz;omega) (by have:=bu z hz;omega) (λh=>by have:=by_ z h;have:=bu z hz;omega);have m5:=LO.ld hv di OG 3;simp only[kk,PI,rH] at m5;simp only[dE] at q1 q2;simp only[↓cw,↓Oo,Om,kk,bG hk,l1 OG 8,e4,m1,m2,bCc,dU,bz,he,OK,Ou,m3,m4,aUb,q1,m5,q2,gM (show k<1000000000 by omega)];refine H _ _ ⟨x',y',rfl,oU4,by rw[OC,fq];rfl,by rw[PK,PK];exact ox4,by rw[PK,PK];exact oy4,w4,by omega,λz hz=>?_,λz hz=>?_,λz hz hz'=>?_,λz hz hu=>?_⟩
  ·rcases Iy z hz with h | h
   ·omega
   ·exact bx z h
  ·rcases FT z hz with h | h
   ·omega
   ·exact by_ z h
  ·rcases Iy z hz with h | h<;>rcases FT z hz' with h' | h'
   ·omega
   ·have:=ly z h';omega
   ·have:=lx z h;omega
   ·exact wh z h h'
  ·rw[iw z (by omega) (by omega) λh=>by have:=by_ z h;omega,bf z (by omega) (by omega) λh=>by have:=bx z h;omega,am z λe=>hu (by rw[hv,e];rfl)];exact keep z hz hu
 ·rintro st vs X ⟨x,y,rfl,oU,fq,ox,oy,wX,hn,bx,by_,wh,keep⟩ aE H;have bu:∀z,AM.blkOf u=Ot z->z<S.next:=λz hz=>(cE ou hz).2;rw[Tf,OS] at oU;have rA:X.heap.get a=Ot (.row ver 12 ae):=by rw[keep a la qo];exact hS
  have ai:=(Oq.1 hi).1;have c1:=aUc ox (by rw[ON];omega);generalize hA:cI (st.map (·.net))=A at c1;generalize hB:cI (st.map (·.tax))=B;generalize hG:cI [A.1,B.1]=G;obtain⟨X1,fg⟩:∃X1:St,X1=⟨X.next,X.heap.put a (.row ver 12 (ae.set i (splice (q.encW u) 5 [O J A.1])))⟩:=⟨_,rfl⟩;have t1:eL 1 (.ptr a ver i 5) (O J A.1) X=.ok X1:=by rw[fg];exact stR rA hi (O J A.1) (w:=1) rfl rfl 5 X.next (by show 5+1<=12;decide)
  have r1:X1.heap.get a=Ot (.row ver 12 (ae.set i (splice (q.encW u) 5 [O J A.1]))):=by rw[fg];exact Ox _ _ _ trivial
  have g1:∀z,z≠a->X1.heap.get z=X.heap.get z:=λz hz=>by rw[fg];exact OJ _ _ _ _ trivial hz
  have i1:(ae.set i (splice (q.encW u) 5 [O J A.1]))[i]?=Ot (splice (q.encW u) 5 [O J A.1]):=Rr ai;have n1:X1.next=X.next:=by rw[fg]
  have oy1:Own E0 X1 1 y _:=oy.same (by omega) λz hz=>g1 z (by have:=by_ z hz;omega);have c2:=aUc oy1 (by rw[ON];omega);rw[hB] at c2;obtain⟨X2,qq⟩:∃X2:St,X2=⟨X1.next,X1.heap.put a (.row ver 12 ((ae.set i (splice (q.encW u) 5 [O J A.1])).set i (splice (splice (q.encW u) 5 [O J A.1]) 6 [O J B.1])))⟩:=⟨_,rfl⟩;have t2:eL 1 (.ptr a ver i 6) (O J B.1) X1=.ok X2:=by rw[qq];exact stR r1 i1 (O J B.1) (w:=1) rfl rfl 6 X1.next (by show 6+1<=12;decide)
  have r2:X2.heap.get a=Ot (.row ver 12 ((ae.set i (splice (q.encW u) 5 [O J A.1])).set i (splice (splice (q.encW u) 5 [O J A.1]) 6 [O J B.1]))):=by rw[qq];exact Ox _ _ _ trivial
  have g2:∀z,z≠a->X2.heap.get z=X1.heap.get z:=λz hz=>by rw[qq];exact OJ _ _ _ _ trivial hz
  have i2:((ae.set i (splice (q.encW u) 5 [O J A.1])).set i (splice (splice (q.encW u) 5 [O J A.1]) 6 [O J B.1]))[i]?=Ot (splice (splice (q.encW u) 5 [O J A.1]) 6 [O J B.1]):=Rr (by rw[Qm];exact ai);have n2:X2.next=X.next:=by rw[qq,<-n1]
  have w2:WF X2:=by rw[qq,fg];exact gO (n:=X.next) (gO (n:=X.next) wX (by show a<X.next;omega) (Ov _)) (by show a<X.next;omega) (Ov _)
  have l5:=ldR r2 i2 OG 5;have l6:=ldR r2 i2 OG 6;simp only[splice,Posted.encW,Ur,OQ,Pf,List.take,List.drop,PJ,Pp,Pi,Px,kk] at l5 l6;obtain⟨X3,qr⟩:∃X3:St,X3=⟨X2.next+18,X2.heap.put (X2.next+9) (.row 0 1 ([A.1,B.1].map dE))⟩:=⟨_,rfl⟩;have ow:Own E0 X3 1 (.sl (X2.next+9) 0 1 0 2) ([A.1,B.1].map dE):=⟨.inr ⟨X2.next+9,0,[],rfl,PS _,by rw[qr];show X2.next+9<X2.next+18;omega,by rw[OS,qr];exact Ox _ _ _ trivial⟩,λc hc=>by
   rcases Pu.1 hc with rfl | hc
   ·exact aH8 _
   ·rcases Pu.1 hc with rfl | hc
    ·exact aH8 _
    ·cases hc⟩
  have c3:=aUc ow (by simp);rw[hG] at c3;have g3:∀z,z<X2.next+9->X3.heap.get z=X2.heap.get z:=λz hz=>by rw[qr];exact OJ _ _ _ _ trivial (by omega)
  have r3:=(g3 a (by omega)).trans r2;have w3:WF X3:=by rw[qr];exact gO (n:=X2.next) w2 (by omega) (by omega)
  have n3:X3.next=X2.next+18:=by rw[qr]
  obtain⟨X4,vi⟩:∃X4:St,X4=⟨X3.next,X3.heap.put a (.row ver 12 (((ae.set i (splice (q.encW u) 5 [O J A.1])).set i (splice (splice (q.encW u) 5 [O J A.1]) 6 [O J B.1])).set i (splice (splice (splice (q.encW u) 5 [O J A.1]) 6 [O J B.1]) 7 [O J G.1])))⟩:=⟨_,rfl⟩;have t4:eL 1 (.ptr a ver i 7) (O J G.1) X3=.ok X4:=by rw[vi];exact stR r3 i2 (O J G.1) (w:=1) rfl rfl 7 X3.next (by show 7+1<=12;decide)
  have w4:WF X4:=by rw[vi];exact gO (n:=X3.next) w3 (by omega) (Ov _)
  have g4:∀z,z≠a->X4.heap.get z=X3.heap.get z:=λz hz=>by rw[vi];exact OJ _ _ _ _ trivial hz
  have kp:∀z,z<S.next->z≠a->AM.blkOf u≠Ot z->X4.heap.get z=S.heap.get z:=λz hz Iz hzu=>by
   rw[g4 z Iz,g3 z (by omega),g2 z Iz,g1 z Iz];exact keep z hz hzu
  have FU:S.next<=X4.next:=by rw[vi];show S.next<=X3.next;omega
  simp only[Qd,Py,dE] at qr;simp only[↓cw,↓Oo,Om,kk,OZ,Ou,c1,t1,c2,t2,l5,l6,aPi,<-qr,c3,t4];have hr:sT q.total=oV st:=by rw[pE,<-H]
  unfold oV at hr;rw[hA,hB,hG] at hr;by_cases a1:A.2=OB;rotate_left
  ·simp only[a1,Ou] at hr|-
   exact H2 _ hr w4 FU kp
  by_cases a2:B.2=OB;rotate_left
  ·simp only[a1,a2,Oy,Ou] at hr|-
   exact H2 _ hr w4 FU kp
  by_cases a3:G.2=OB;rotate_left
  ·simp only[a1,a2,a3,Oy,Ou] at hr|-
   exact H2 _ hr w4 FU kp
  simp only[a1,a2,a3,Oy] at hr|-
  refine H1 _ _ hr w4 FU ?_ ?_ kp
  ·rw[vi];refine(Ox _ _ _ trivial).trans ?_;rw[VZ,VZ];rfl
  ·exact oU.same (by rw[vi];show X.next<=X3.next;omega) λz hz=>by
    have:=bu z hz
    rw[g4 z (λe=>qo (by rw[<-e];exact hz)),g3 z (by omega),g2 z (λe=>qo (by rw[<-e];exact hz)),g1 z (λe=>qo (by rw[<-e];exact hz))]
end Go.Proofs.YtoaibmbldmckaaaGreat
end
section
namespace Go.Proofs.YtoaibmbldmckaaaGreat
open Go.AM Tryz
theorem bPz:cV prog 153=Ot none:=by kernel_rfl
theorem bQ0:cV prog 156=Ot none:=by kernel_rfl
theorem bWx{X:St}(w:WF X){r b vb i:Nat}(hr:X.heap.get r=Ot (.row 0 1 [[.ptr b vb i 0]])){n:Nat}{ae:On (On V)}(hb:X.heap.get b=Ot (.row vb n ae)){row:On V}{name:On OP}(hi:ae[i]?=Ot (.str name::row))(s:Ser){K:KW}
  (H:∀X',Ext X X'->K (.bool (s.name == name)) X'):C 153 [.agg s.enc,.ptr r 0 0 0] X K:=by
 refine bRh ?_;have x1:Ext X ⟨X.next+1,X.heap.put X.next (.row 0 4 [s.enc])⟩:=Rg w _;have l1:=ldR (x1.old _ _ hr) (i:=0) rfl OG 0;have l2:=ldR (x1.old _ _ hb) hi OG 0;simp only[PZ] at l1 l2;simp only[jB,List.getElem?_cons_zero] at l1 l2;delta Tryz.f153;simp only[↓cw,↓Oo,Om,kk,PZ,l1,l2];exact H _ (x1.bump 9)
theorem bWy{X:St}(w:WF X){r b vb i:Nat}(hr:X.heap.get r=Ot (.row 0 1 [[.ptr b vb i 0]])){n:Nat}{ae:On (On V)}(hb:X.heap.get b=Ot (.row vb n ae)){u:V}{p:OT}(hi:ae[i]?=Ot (p.encW u))(u':V)(h1:aH [u']=OB)(q:OT){K:KW}
  (H:∀X',Ext X X'->K (.bool (decide (q.ref=p.of))) X'):C 156 [.agg (q.encW u'),.ptr r 0 0 0] X K:=by
 refine bRj ?_;have x1:Ext X ⟨X.next+1,X.heap.put X.next (.row 0 12 [q.encW u'])⟩:=Rg w _;have l1:=ldR (x1.old _ _ hr) (i:=0) rfl OG 0;have l2:=ldR (x1.old _ _ hb) hi (Ot 2) 9;simp only[Posted.encW] at l1 l2;simp only[kk] at l1 l2;simp only[aH,SR,Uc,QQ] at h1;delta Tryz.f156;simp only[↓cw,↓Oo,Om,kk,Posted.encW,h1,l1,l2];rw[show(q.ref.ser == p.of.ser&&decide (q.ref.num=p.of.num))=decide (q.ref=p.of) by rw[So];simp[Th]];exact H _ (x1.bump 8)
theorem bWz{S:St}(w:WF S){v:V}{l:On Ser}(os:Sl S 4 v (l.map PZ))(hl:l.length<1000000){fk:Nat}(ht:cV prog fk=Ot OG){cap:V}{p:Ser->Ps}
  (hf:∀(s:Ser) X,Ext S X->∀K:KW,(∀X',Ext X X'->K (.bool (p s)) X')->C fk [.agg s.enc,cap] X K) {K:KW} (H:∀X,Ext S X->K (O J (ixM p l)) X):C 152 [v,.func fk [] [cap]] S K:=by
 refine bJp ?_;delta Tryz.f152;simp only[↓cw,↓Oo,Om,kk,os.lenI];refine aG l (step:=dB p) (fin:=λ_=>-1) (λi k vs X=>k=i/\vs=[O J 0,O J (i:Int)]/\Ext S X) (λr=>r=ixM p l) ?_ ?_ ⟨rfl,rfl,Tm _⟩ rfl
 ·rintro i s k vs X hi ⟨rfl,rfl,x⟩ aE H';have ai:=(Oq.1 hi).1;obtain⟨q,e1,e2,e3,_⟩:=(os.ext x).elem (enc:=PZ) hi;have e4:fZ (Ot 4) q X=.ok (.agg s.enc):=by rw[e2.load0,aC0 _ _ e3]
  simp only[↓cw,↓Oo,Om,kk,bG hi,e1,e4,↓qV prog C ht,Pp,PJ];refine hf s X x _ λX' x'=>?_;simp only[dB] at H';cases hp:p s<;>simp only[↓cw,↓Oo,Om,hp,kk,gM (show k<1000000000 by omega)] at H'|-
  ·exact H' _ _ ⟨rfl,x.trans x'⟩
  ·rw[H'];exact H _ (x.trans x')
 ·rintro k vs X ⟨rfl,rfl,x⟩ aE H';simp only[↓cw,↓Oo,Om,kk,OZ];rw[show(-1:Int)=ixM p l from H'];exact H _ x
theorem bX0{S:St}(w:WF S){v:V}{es:On (On V)}{l:On OT}(os:Sl S 12 v es)(ch:∀(i:Nat) (q:OT),l[i]?=Ot q->∃u,es[i]?=Ot (q.encW u)/\aH [u]=OB)(ff:es.length=l.length)(hl:l.length<1000000){fk:Nat}(ht:cV prog fk=Ot OG){cap:V}{p:OT->Ps}
  (hf:∀(s:OT) (u:V) X,aH [u]=OB->Ext S X->∀K:KW,(∀X',Ext X X'->K (.bool (p s)) X')->C fk [.agg (s.encW u),cap] X K) {K:KW} (H:∀X,Ext S X->K (O J (ixM p l)) X):C 155 [v,.func fk [] [cap]] S K:=by
 refine bJq ?_;have hlen:lenW v=.ok (O J (l.length:Int)):=by rw[os.lenW,ff]
 delta Tryz.f155;simp only[↓cw,↓Oo,Om,kk,hlen];refine aG l (step:=dB p) (fin:=λ_=>-1) (λi k vs X=>k=i/\vs=[O J 0,O J (i:Int)]/\Ext S X) (λr=>r=ixM p l) ?_ ?_ ⟨rfl,rfl,Tm _⟩ rfl
 ·rintro i s k vs X hi ⟨rfl,rfl,x⟩ aE H';have ai:=(Oq.1 hi).1;obtain⟨u,hu,h1⟩:=ch _ _ hi;obtain⟨q,e1,e2⟩:=(os.ext x).idx hu J;have e4:fZ (Ot 12) q X=.ok (.agg (s.encW u)):=by rw[e2.load0,aC0 _ _ (show(s.encW u).length=12 from rfl)]
  simp only[↓cw,↓Oo,Om,kk,bG hi,e1,e4,↓qV prog C ht,Pp,PJ];refine hf s u X h1 x _ λX' x'=>?_;simp only[dB] at H';cases hp:p s<;>simp only[↓cw,↓Oo,Om,hp,kk,gM (show k<1000000000 by omega)] at H'|-
  ·exact H' _ _ ⟨rfl,x.trans x'⟩
  ·rw[H'];exact H _ (x.trans x')
 ·rintro k vs X ⟨rfl,rfl,x⟩ aE H';simp only[↓cw,↓Oo,Om,kk,OZ];rw[show(-1:Int)=ixM p l from H'];exact H _ x
section
structure FL (S X:St) (q:Nat) (tv sv pv cv:V) (nx:Int) (us:On V) (ser:On Ser) (l:On OT) (bv:V):Prop where
 wf:WF X
 nxt:S.next<=X.next
 row:X.heap.get q=Ot (.row 0 6 [[tv,sv,pv,bv,cv,O J nx]])
 os:Own E0 X 4 sv (ser.map PZ)
 op:Own E0 X 12 pv (Qc Posted.encW us l)
 pl:PL E0 X us l
 sep:∀(i:Nat) (u:V) (y:Nat),us[i]?=Ot u->AM.blkOf u=Ot y->AM.blkOf sv≠Ot y
 keep:∀(y:Nat) (b:Blk),S.heap.get y=Ot b->y≠q->AM.blkOf sv≠Ot y->AM.blkOf pv≠Ot y->(∀(i:Nat) (u:V),us[i]?=Ot u->AM.blkOf u≠Ot y)->X.heap.get y=Ot b
structure FK (S X:St) (q:Nat) (sv pv:V) (us:On V):Prop where
 wf:WF X
 nxt:S.next<=X.next
 keep:∀(y:Nat) (b:Blk),S.heap.get y=Ot b->y≠q->AM.blkOf sv≠Ot y->AM.blkOf pv≠Ot y->(∀(i:Nat) (u:V),us[i]?=Ot u->AM.blkOf u≠Ot y)->X.heap.get y=Ot b
theorem FL.fk{S X:St}{q:Nat}{tv sv pv cv:V}{nx:Int}{us:On V}{ser:On Ser}{l:On OT}{bv:V}(h:FL S X q tv sv pv cv nx us ser l bv):FK S X q sv pv us:=⟨h.wf,h.nxt,h.keep⟩
theorem Own.wide{S0 X:St}{n m:Nat}{v:V}{es:On (On V)}(o:Own S0 X n v es){y ver:Nat}{el:On (On V)}(hy:X.heap.get y=Ot (.row ver m el))(ah:m≠n):AM.blkOf v≠Ot y:=by
 intro e;rcases o.is with ⟨rfl,_⟩ | ⟨a,bd,tl,rfl,_,_,hg⟩
 ·cases e
 ·cases e;rw[hy] at hg;injection hg with hg
  injection hg with _ h2
  exact ah h2
theorem Own.blk{S0 X:St}{n:Nat}{v:V}{es:On (On V)}(o:Own S0 X n v es){y:Nat}(hy:AM.blkOf v=Ot y):∃ver tl,v=.sl y ver n 0 es.length/\X.heap.get y=Ot (.row ver n (es++tl)):=by
 rcases o.is with ⟨rfl,_⟩ | ⟨a,ver,tl,rfl,_,_,hg⟩
 ·cases hy
 ·cases hy;exact⟨ver,tl,rfl,hg⟩
section
variable{S X:St}{q:Nat}{tv sv pv cv:V}{nx:Int}{us:On V}{ser:On Ser}{l:On OT}{bv:V}
theorem PL.cong{S0:St}{l':On OT}(h:PL S0 X us l)(hl:l'.map (·.total.parts)=l.map (·.total.parts)):PL S0 X us l':=by
 have hlen:l'.length=l.length:=by have:=Qo TN hl;simpa using this
 refine PL.mk (h.len.trans hlen.symm) (λi u p h1 h2=>?_) h.sep;have hi:i<l.length:=by rw[<-hlen];exact(Oq.1 h2).1
 have e:(l'.map (·.total.parts))[i]?=(l.map (·.total.parts))[i]?:=by rw[hl]
 rw[Pc,Pc,h2,OF hi] at e;have e:p.total.parts=l[i].total.parts:=Qz e;rw[e];exact h.own i u _ h1 (OF hi)
theorem FL.ext(h:FL S X q tv sv pv cv nx us ser l bv){X':St}(x:Ext X X'):FL S X' q tv sv pv cv nx us ser l bv:=
 ⟨x.wf h.wf,QC h.nxt x.next,x.old _ _ h.row,h.os.ext x,h.op.ext x,h.pl.move λ_ _ _ _ _ o=>o.ext x,h.sep,λy b h1 h2 h3 h4 h5=>x.old _ _ (h.keep y b h1 h2 h3 h4 h5)⟩
theorem FL.bump(h:FL S X q tv sv pv cv nx us ser l bv)(c:Nat):FL S ⟨X.next+c,X.heap⟩ q tv sv pv cv nx us ser l bv:=h.ext ((Tm X).bump c)
theorem FL.pu(h:FL S X q tv sv pv cv nx us ser l bv){i:Nat}{u:V}(hu:us[i]?=Ot u){y:Nat}(hy:AM.blkOf u=Ot y):AM.blkOf pv≠Ot y:=by
 have hi:i<l.length:=by rw[<-h.pl.len];exact(Oq.1 hu).1
 exact Own.apart (by decide) (h.pl.own i u _ hu (OF hi)) h.op hy
theorem FL.qu(h:FL S X q tv sv pv cv nx us ser l bv){i:Nat}{u:V}(hu:us[i]?=Ot u):AM.blkOf u≠Ot q:=by
 have hi:i<l.length:=by rw[<-h.pl.len];exact(Oq.1 hu).1
 exact Own.wide (h.pl.own i u _ hu (OF hi)) h.row (by decide)
theorem FL.qs(h:FL S X q tv sv pv cv nx us ser l bv):AM.blkOf sv≠Ot q:=Own.wide h.os h.row (by decide)
theorem FL.qp(h:FL S X q tv sv pv cv nx us ser l bv):AM.blkOf pv≠Ot q:=Own.wide h.op h.row (by decide)
theorem FL.sp(h:FL S X q tv sv pv cv nx us ser l bv){y:Nat}(hy:AM.blkOf sv=Ot y):AM.blkOf pv≠Ot y:=Own.apart (by decide) h.os h.op hy
theorem FL.turnP(h:FL S X q tv sv pv cv nx us ser l bv){X':St}{l':On OT}{b:Nat}(hb:AM.blkOf pv=Ot b)(hn:X'.next=X.next)(w':WF X')(ho:∀y,y≠b->X'.heap.get y=X.heap.get y)(op':Own E0 X' 12 pv (Qc Posted.encW us l'))(hl:l'.map (·.total.parts)=l.map (·.total.parts)):
  FL S X' q tv sv pv cv nx us ser l' bv:=by
 refine FL.mk w' (by rw[hn];exact h.nxt) ?_ ?_ op' ?_ h.sep λy c h1 h2 h3 h4 h5=>?_
 ·rw[ho q λe=>h.qp (e▸hb)];exact h.row
 ·exact h.os.same (by omega) λy hy=>ho y λe=>h.sp hy (e▸hb)
 ·exact(h.pl.move λi u p hu _ o=>o.same (by omega) λy hy=>ho y λe=>h.pu hu hy (e▸hb)).cong hl
 ·rw[ho y λe=>h4 (e▸hb)];exact h.keep y c h1 h2 h3 h4 h5
theorem FL.turnS(h:FL S X q tv sv pv cv nx us ser l bv){X':St}{ph:On Ser}{b:Nat}(hb:AM.blkOf sv=Ot b)(hn:X'.next=X.next)(w':WF X')(ho:∀y,y≠b->X'.heap.get y=X.heap.get y)(os':Own E0 X' 4 sv (ph.map PZ)):
  FL S X' q tv sv pv cv nx us ph l bv:=by
 refine FL.mk w' (by rw[hn];exact h.nxt) ?_ os' ?_ ?_ h.sep λy c h1 h2 h3 h4 h5=>?_
 ·rw[ho q λe=>h.qs (e▸hb)];exact h.row
 ·exact h.op.same (by omega) λy hy=>ho y λe=>h.sp (e▸hb) hy
 ·exact h.pl.move λi u p hu _ o=>o.same (by omega) λy hy=>ho y λe=>h.sep i u y hu hy (e▸hb)
 ·rw[ho y λe=>h3 (e▸hb)];exact h.keep y c h1 h2 h3 h4 h5
theorem FL.turnQ(h:FL S X q tv sv pv cv nx us ser l bv){m:Nat}(hm:X.next<=m)(IA:V):FL S ⟨m,X.heap.put q (.row 0 6 [[tv,sv,pv,IA,cv,O J nx]])⟩ q tv sv pv cv nx us ser l IA:=by
 have ho:∀y,y≠q->(X.heap.put q (.row 0 6 [[tv,sv,pv,IA,cv,O J nx]])).get y=X.heap.get y:=λy hy=>OJ _ _ _ _ trivial hy;refine FL.mk (gO (n:=X.next) h.wf (by have:=h.wf _ _ h.row;omega) hm) (QC h.nxt hm) (Ox _ _ _ trivial) ?_ ?_ ?_ h.sep λy c h1 h2 h3 h4 h5=>?_
 ·exact h.os.same hm λy hy=>ho y λe=>h.qs (e▸hy)
 ·exact h.op.same hm λy hy=>ho y λe=>h.qp (e▸hy)
 ·exact h.pl.move λi u p hu _ o=>o.same hm λy hy=>ho y λe=>h.qu hu (e▸hy)
 ·exact(ho y h2).trans (h.keep y c h1 h2 h3 h4 h5)
theorem aBk(us:On V):∀(l:On OT) (i:Nat) (u:V) (p':OT),us[i]?=Ot u->(Qc Posted.encW us l).set i (p'.encW u)=Qc Posted.encW us (l.set i p'):=by
 induction us with
 | nil=>intro l i u p' h;simp at h
 | cons a us ih=>
  intro l i u p' h;cases l with
  | nil=>simp
  | cons p l=>
   cases i with
   | zero=>simp at h;subst h;simp
   | succ i=>simp at h;simp[ih l i u p' h]
theorem aEc{us:On V}{l:On OT}{i:Nat}{u:V}{p:OT}(hu:us[i]?=Ot u)(hp:l[i]?=Ot p):(Qc Posted.encW us l)[i]?=Ot (p.encW u):=by
 rw[List.getElem?_zipWith,hu,hp]
theorem FL.at(h:FL S X q tv sv pv cv nx us ser l bv){i:Nat}{p:OT}(hp:l[i]?=Ot p):∃u b vb tl,us[i]?=Ot u/\pv=.sl b vb 12 0 l.length/\X.heap.get b=Ot (.row vb 12 (Qc Posted.encW us l++tl))/\(Qc Posted.encW us l++tl)[i]?=Ot (p.encW u):=by
 have ai:=(Oq.1 hp).1;obtain⟨u,hu⟩:∃u,us[i]?=Ot u:=⟨_,OF (by rw[h.pl.len];exact ai)⟩;have hz:=aEc hu hp;have ku:(Qc Posted.encW us l).length=l.length:=by rw[TY,h.pl.len,Xc]
 rcases h.op.is with ⟨_,e⟩ | ⟨a,ver,tl,e1,_,_,e2⟩
 ·rw[e] at hz;simp at hz
 ·exact⟨u,a,ver,tl,hu,by rw[e1,ku],e2,by rw[Pr (by rw[ku];exact ai)];exact hz⟩
theorem FL.reck(h:FL S X q tv sv pv cv nx us ser l bv){i:Nat}{p:OT}(hp:l[i]?=Ot p)(h12:p.total.parts.length<=12){b vb m:Nat}(ec:pv=.sl b vb 12 0 m){K:KW}
  (H1:∀t X',sT p.total=Ot t->X.next<=X'.next->(∀y c,X.heap.get y=Ot c->y≠b->(∀(j:Nat) (u:V),us[j]?=Ot u->AM.blkOf u≠Ot y)->X'.heap.get y=Ot c)->FL S X' q tv sv pv cv nx us ser (l.set i { p with total:=t }) bv->K (.bool OB) X') (H2:∀X',sT p.total=OG->WF X'->X.next<=X'.next->(∀y c,X.heap.get y=Ot c->y≠b->(∀(j:Nat) (u:V),us[j]?=Ot u->AM.blkOf u≠Ot y)->X'.heap.get y=Ot c)->K (.bool OA) X'):C 154 [.ptr b vb i 5] X K:=by
 obtain⟨u,b',IB,tl,hu,e1,e2,e3⟩:=h.at hp;rw[ec] at e1;injection e1 with e1 e4
 subst e1 e4;have ai:=(Oq.1 hp).1;have gh:AM.blkOf pv=Ot b:=by rw[ec];rfl
 have hub:AM.blkOf u≠Ot b:=λe=>h.pu hu e gh;have hlen:=h.pl.len;have ho:=h.pl.own i u p hu hp;refine bWw h.wf e2 e3 ho hub h12 (λt X' ht w' hn bm o' hk=>H1 t X' ht hn (λy c hy IC CC=>?_) ?_) λX' ht w' hn hk=>H2 X' ht w' hn λy c hy IC CC=>by rw[hk y (h.wf _ _ hy) IC (CC i u hu)];exact hy
 ·rw[hk y (h.wf _ _ hy) IC (CC i u hu)];exact hy
 ·have ku:(Qc Posted.encW us l).length=l.length:=by rw[TY,hlen,Xc]
  have BM:∀y,AM.blkOf pv≠Ot y->AM.blkOf u≠Ot y->y<X.next->X'.heap.get y=X.heap.get y:=λy h1 h2 h3=>hk y h3 (λe=>h1 (e▸gh)) h2;refine FL.mk w' (QC h.nxt hn) ?_ ?_ ?_ ?_ h.sep λy c h1 h2 h3 h4 h5=>?_
  ·rw[BM q h.qp (h.qu hu) (h.wf _ _ h.row)];exact h.row
  ·exact h.os.same hn λy hy=>BM y (h.sp hy) (λe=>h.sep i u y hu e hy) (cE h.os hy).2
  ·refine⟨.inr ⟨b,vb,tl,?_,PS _,RE (h.wf _ _ e2) hn,?_⟩,?_⟩
   ·rw[ec,<-aBk us l i u _ hu,Qm,ku];rcases h.op.is with ⟨e,_⟩ | ⟨a,ver,LP,e,_⟩
    ·rw[ec] at e;cases e
    ·rw[ec] at e;injection e with _ _ _ _ e;rw[e,ku]
   ·rw[bm,Xf _ _ (by rw[ku];exact ai),aBk us l i u _ hu]
   ·intro cs hc;rw[<-aBk us l i u _ hu] at hc;rcases PN hc with hc | rfl
    ·exact h.op.len cs hc
    ·exact aGe ho _
  ·refine PL.mk (by rw[Qm];exact hlen) (λj v r h1 h2=>?_) h.pl.sep;by_cases e:i=j
   ·subst e;rw[hu] at h1;cases h1;rw[Rr ai] at h2;cases h2;exact o'
   ·rw[List.getElem?_set_ne e] at h2;exact(h.pl.own j v r h1 h2).same hn λy hy=>BM y (h.pu h1 hy) (λe'=>e (h.pl.sep i j u v y hu h1 e' hy)) (cE (h.pl.own j v r h1 h2) hy).2
  ·rw[BM y h4 (h5 i u hu) (h.wf _ _ (h.keep y c h1 h2 h3 h4 h5))];exact h.keep y c h1 h2 h3 h4 h5
theorem FL.setP(h:FL S X q tv sv pv cv nx us ser l bv){i:Nat}{p p':OT}(hp:l[i]?=Ot p){b vb m:Nat}(ec:pv=.sl b vb 12 0 m){j:Nat}{x:V}(hx:x.cells=[x])(ve:x.one=OB)(hj:j<12)(he:∀u,splice (p.encW u) j [x]=p'.encW u)(ht:p'.total.parts=p.total.parts):
  ∃X',eL 1 (.ptr b vb i j) x X=.ok X'/\X'.next=X.next/\(∀y,y≠b->X'.heap.get y=X.heap.get y)/\FL S X' q tv sv pv cv nx us ser (l.set i p') bv:=by
 obtain⟨u,b',IB,tl,hu,e1,e2,e3⟩:=h.at hp;have ai:=(Oq.1 hp).1;obtain⟨a,ver,q1,_,_,_,_,q2⟩:=h.op.setK (rV h.wf) mB (aEc hu hp) J;have e:a=b/\ver=vb:=by rw[ec] at q1;injection q1 with q1 q3;exact⟨q1.symm,q3.symm⟩
 obtain⟨rfl,rfl⟩:=e;obtain⟨X',r1,_,r3,r4,r5,r6⟩:=q2 j 1 x (by rw[hx];rfl) (by rw[hx];simp only[aH,SR,Uc,ve,QG]) (by omega);rw[hx,he,aBk us l i u p' hu] at r4;refine⟨X',r1,r3,r5,h.turnP (by rw[ec];rfl) r3 (r6 h.wf) r5 r4 ?_⟩;rw[RM,ht];apply List.ext_getElem?;intro k;rw[List.getElem?_set];split
 ·rename_i e;subst e;rw[ON,OE ai,Pc,hp];rfl
 ·rfl
end
end
theorem bHj:V.nilp.cells=[V.nilp]:=rfl
theorem tA(s:Qg):sU s=(match aD cH Ot s.posted (s.ser,[]) with
 | none=>OG
 | some r=>if(cL r.2).2=0 then Ot { s with ser:=r.1,posted:=r.2,book:=(cL r.2).1 } else OG):=rfl
theorem FL.atS{S X:St}{q:Nat}{tv sv pv cv:V}{nx:Int}{us:On V}{ser:On Ser}{l:On OT}{bv:V}(h:FL S X q tv sv pv cv nx us ser l bv):lenW pv=.ok (O J (l.length:Int)):=by
 rw[h.op.sl.lenW,TY,h.pl.len,Xc]
theorem zZ:∀(l acc ps:On TX),aD kN Ot l acc=Ot ps->ps=acc++l.map rH
 | [],acc,ps,h=>by simp only[aD,Qy] at h;simp[h]
 | p::l,acc,ps,h=>by
  simp only[aD,kN] at h;by_cases c:(bC p.net p.bp).2=0
  ·rw[OE c] at h
   have:=zZ l _ ps h
   rw[this];simp
  ·rw[Oz c] at h;cases h
theorem aNi{t0 t:Up}(h:sT t0=Ot t)(hf:oP t0):oP t:=by
 rw[pE] at h;split at h
 ·cases h
 ·rename_i ps Cy;have e:=zZ _ _ _ Cy;have ht:t.parts=ps:=by
   unfold oV at h
   repeat' split at h
   all_goals first | (cases h;done) | (cases h;rfl)
  unfold oP;rw[ht,e];refine⟨by simpa using hf.1,λq hq=>?_⟩;simp only[Pp,Pv] at hq;obtain⟨p,hp,rfl⟩:=hq;exact hf.2 p hp
theorem aNj{l:On OT}{k:Nat}(h:∀p∈l,oP p.total):∀p∈cW l k,oP p.total:=by
 intro p hp;unfold cW at hp;split at hp
 ·exact h p hp
 ·rename_i r hr;rcases PN hp with hp | rfl
  ·exact h p hp
  ·exact h r (OM hr)
theorem aNk:∀(us:On V) (a b:On OT),a.length<=us.length->(Qc Posted.encW us (a++b)).take a.length=Qc Posted.encW us a
 | us,[],b,_=>by simp
 | [],p::a,b,h=>by simp at h
 | u::us,p::a,b,h=>by
  simp only[OQ,Nat.add_le_add_iff_right] at h;simp[aNk us a b h]
theorem g71{S:St}{q:Nat}{tv sv pv cv:V}{us:On V}{s:Qg}(f0:FL S S q tv sv pv cv s.next us s.ser s.posted .nils)(h8:s.ser.length<=8)(h40:s.posted.length<=40)(h12:∀p∈s.posted,oP p.total){K:KW}
  (H1:∀s' bv X,sU s=Ot s'->FL S X q tv sv pv cv s.next us s'.ser s'.posted bv->(bv=.imm (s'.book.map PC)\/(bv=.nils/\s'.book=[]))->K (.bool OB) X) (H2:∀X,sU s=OG->FK S X q sv pv us->K (.bool OA) X):C 71 [.ptr q 0 0 0] S K:=by
 refine v71 ?_;have r0:=aF f0.row;delta Tryz.f71;simp only[↓cw,↓Oo,Om,kk,r0,f0.atS];refine aG s.posted (step:=cH) (fin:=Ot) (λi st vs X=>vs=[.bool OA,O J (i:Int)]/\FL S X q tv sv pv cv s.next us st.1 (st.2++s.posted.drop i) .nils/\st.2.length=i/\st.1.length=s.ser.length/\∀p∈st.2,oP p.total) (λr=>r=aD cH Ot s.posted (s.ser,[])) ?_ ?_ (s:=(s.ser,[])) ⟨rfl,f0,rfl,rfl,λ_ h=>by cases h⟩ rfl
 ·rintro i p ⟨ser,done⟩ vs X hi ⟨rfl,f,dm,cd,hfit⟩ aE H;have dm:done.length=i:=dm;have cd:ser.length=s.ser.length:=cd;have f:FL S X q tv sv pv cv s.next us ser (done++s.posted.drop i) .nils:=f;have ai:=(Oq.1 hi).1;have hp:(done++s.posted.drop i)[i]?=Ot p:=by rw[Pe (by omega),PP,dm,Qt,QT,hi]
  obtain⟨u,b,vb,tl,hu,ec,hb,al⟩:=f.at hp;have r1:=aF f.row;have x1:Ext X (X.var 1 [.nilp] [.ptr b vb i 0]):=Wo f.wf 1 _ _;have ix:fV 12 pv (O J (i:Int))=.ok (.ptr b vb i 0):=by
   rw[ec];simp only[fV,gA (show i<(done++s.posted.drop i).length from(Oq.1 hp).1),Oy,Px]
  obtain⟨X1,fg⟩:∃X1:St,X1=X.var 1 [.nilp] [.ptr b vb i 0]:=⟨_,rfl⟩;rw[<-fg] at x1;have f1:=f.ext x1;have q1:=aF f1.row;have c7:X1.heap.get X.next=Ot (.row 0 1 [[.ptr b vb i 0]]):=by rw[fg];exact Ox _ _ _ trivial
  simp only[St.var] at fg;simp only[↓cw,↓Oo,Om,kk,bG hi,r1,ix,bHj,<-fg,q1];refine bWz f1.wf f1.os.sl (by omega) bPz (p:=λt=>t.name == p.ref.ser) (λt Y y K' hK=>bWx (y.wf f1.wf) (y.old _ _ c7) (y.old _ _ (x1.old _ _ hb)) al t hK) λX2 x2=>?_;have hx:ixM (λt:Ser=>t.name == p.ref.ser) ser=cD ser p.ref.ser:=rfl;rw[hx];have f2:=f1.ext x2;have c72:=aF (x2.old _ _ c7);simp only[cH] at H;rcases jO ser p.ref.ser with h | ⟨k,z,h,h2,h3⟩
  ·simp only[h,show((-1:Int)<0)=UF by simp,Oy] at H;simp only[↓cw,↓Oo,Om,kk,h,show((-1:Int)<0)=UF by simp,Oy];exact H2 _ (by rw[tA,<-H]) f2.fk
  have k0:((k:Int)<0)=False:=by simp
  simp only[h,k0,Ou,Pn,h2] at H;simp only[↓cw,↓Oo,Om,kk,h,k0,Ou,c72];have dw:=(Oq.1 h2).1;refine f2.reck hp (h12 p (OM hi)).1 ec (λt X3 ht LQ k3 f3=>?_) λX3 ht w3 LQ wk=>?_;rotate_left
  ·simp only[ht] at H;simp only[↓cw,↓Oo,Om,kk];exact H2 _ (by rw[tA,<-H]) ⟨w3,QC f2.nxt LQ,λy c h1 h2 h3 h4 h5=>wk y c (f2.keep y c h1 h2 h3 h4 h5) (λe=>h4 (by rw[e,ec];rfl)) h5⟩
  simp only[ht] at H;have LK:∀(j:Nat) (w:V),us[j]?=Ot w->AM.blkOf w≠Ot X.next:=λj w hw e=>by
   have hj:j<(done++s.posted.drop i).length:=by rw[<-f.pl.len];exact(Oq.1 hw).1
   have:=(cE (f.pl.own j w _ hw (OF hj)) e).2
   omega
  have hbX:=f.wf _ _ hb;have c73:=k3 _ _ (x2.old _ _ c7) (by omega) LK;have g73:=aF (S:=⟨X3.next+13,X3.heap⟩) c73;have f3:=f3.bump 13;have g3:=aF f3.row;have EH:i<(done++s.posted.drop i).length:=(Oq.1 hp).1;have hz:(ser.map PZ)[k]?=Ot z.enc:=by rw[Pc,h2];rfl
  obtain⟨sa,sver,nv,_,ID,e4,_,_⟩:=f3.os.setK (rV f3.wf) mB hz J;have l3:=f3.os.ld nv hz OG 1;have hp3:((done++s.posted.drop i).set i { p with total:=t })[i]?=Ot { p with total:=t }:=Rr EH;obtain⟨X4,st4,n4,o4,f4⟩:=f3.setP (p':={ p with ref:=⟨p.ref.ser,z.next⟩,total:=t }) hp3 ec (j:=1) (x:=O J z.next) rfl rfl (by decide) (λ_=>rfl) rfl;rw[VZ] at f4;have g4:=aF f4.row;have l4:=f4.os.ld nv hz OG 1;simp only[PZ,kk] at l3 l4;obtain⟨FV,vj,vm,_,_,_,_,BG⟩:=f4.os.setK (rV f4.wf) mB hz J;obtain⟨rfl,rfl⟩:FV=sa/\vj=sver:=by rw[nv] at vm;injection vm with h1 h2;exact⟨h1.symm,h2.symm⟩
  obtain⟨X5,st5,_,n5,IE,o5,w5⟩:=BG 1 1 (O J (wr J (z.next+1))) rfl rfl (by decide);have BN:(ser.map PZ).set k (splice z.enc 1 [O J (wr J (z.next+1))])=(ser.set k { z with next:=wr J (z.next+1) }).map PZ:=by rw[RM];rfl
  simp only[Ur] at IE;rw[BN] at IE;have f5:=f4.turnS (by rw[nv];rfl) n5 (w5 f4.wf) o5 IE;have hsX:FV<X.next:=(cE f.os (by rw[nv];rfl)).2;have LR:X5.heap.get X.next=Ot (.row 0 1 [[.ptr b vb i 0]]):=by
   rw[o5 X.next (by omega),o4 X.next (by omega)];exact c73
  have g75:=aF LR;have g5:=aF f5.row;have IF:((done++s.posted.drop i).set i { p with ref:=⟨p.ref.ser,z.next⟩,total:=t })[i]?=Ot { p with ref:=⟨p.ref.ser,z.next⟩,total:=t }:=Rr EH;obtain⟨u5,b5,Ax,tl5,hu5,pi,yp,ju⟩:=f5.at IF;obtain⟨rfl,rfl⟩:b5=b/\Ax=vb:=by rw[ec] at pi;injection pi with h1 h2;exact⟨h1.symm,h2.symm⟩
  have l9:=ldR yp ju (Ot 2) 9 X5.next;simp only[Posted.encW,kk] at l9;have e9:(⟨X5.next,X5.heap⟩:St)=X5:=rfl;rw[e9] at l9;simp only[↓cw,↓Oo,Om,kk,g73,g3,e4,l3,st4,g4,l4,st5,g75,l9];rw[show(p.of.ser == []&&decide (p.of.num=0))=decide (p.of=Qr) by rw[So];simp[Th,Qr],gM (show i<1000000000 by omega)];have hl5:(done++s.posted.drop i).set i { p with ref:=⟨p.ref.ser,z.next⟩,total:=t }=(done++[{ p with ref:=⟨p.ref.ser,z.next⟩,total:=t }])++s.posted.drop (i+1):=by
   have hd:s.posted.drop i=p::s.posted.drop (i+1):=by
    have:=(Oq.1 hi).2
    rw[<-this];exact(Ts ai).symm
   rw[hd,Sn _ _ (by omega),dm,Qt,VJ,Pd];rfl
  rw[hl5] at f5 IF yp ju;by_cases pd:p.of=Qr
  ·rw[OE pd] at H;rw[WD pd,OE rfl];exact H _ _ ⟨rfl,f5,by simp[dm],by rw[Qm];exact cd,λx hx=>(Qf.1 hx).elim (hfit x) λhx=>by rw[PR.1 hx];exact aNi ht (h12 p (OM hi))⟩
  simp only[pd,Ou] at H;simp only[pd,Rp,OO,Ou];generalize gk:({ p with ref:=⟨p.ref.ser,z.next⟩,total:=t }:OT)=p' at f5 IF yp ju H;have IG:p'.of=p.of:=by rw[<-gk]
  rw[ec] at g5;simp only[↓cw,↓Oo,Om,kk,g5];have IH:eR (done++s.posted.drop i).length OG (Ot (O J (i:Int)))=.ok (0,i):=by
   have h1:decide ((0:Int)<=(i:Int))=true:=by simp
   have h2:decide ((i:Int)<=((done++s.posted.drop i).length:Int))=true:=by simp;omega
   simp only[eR,h1,h2,QG,PW,Pn]
  simp only[↓cw,↓Oo,Om,kk,IH,UK];have Fe:done.length<=us.length:=by rw[f5.pl.len];simp
  have EI:=aNk us done ([p']++s.posted.drop (i+1)) Fe;rw[<-Pd,dm] at EI;have EJ:(Qc Posted.encW us done).length=i:=by rw[TY];omega
  have II:Sl X5 12 (.sl b5 Ax 12 0 i) (Qc Posted.encW us done):=by
   refine⟨.inr (.inr ⟨b5,Ax,0,_,by rw[EJ],aF yp,?_,?_⟩),?_⟩
   ·rw[OC,Px,EJ]
    have:=Qo TN EI
    rw[PY,EJ] at this;omega
   ·rw[Rh,Rj (by
     have:=Qo TN EI
     rw[PY] at this;omega),EJ]
    exact EI
   ·intro cs hc;rw[<-EI] at hc;exact f5.op.len cs (List.mem_of_mem_take hc)
  have ch:∀(j:Nat) (r:OT),done[j]?=Ot r->∃v,(Qc Posted.encW us done)[j]?=Ot (r.encW v)/\aH [v]=true:=by
   intro j r hr;have ed:=(Oq.1 hr).1;obtain⟨v,hv⟩:∃v,us[j]?=Ot v:=⟨_,OF (by omega)⟩;have mr:(done++[p']++s.posted.drop (i+1))[j]?=Ot r:=by rw[Pd,Pr ed];exact hr
   refine⟨v,aEc hv hr,?_⟩
   have:=(f5.pl.own j v r hv mr).one
   simp only[aH,SR,Uc,this,QG]
  refine bX0 f5.wf II ch (by rw[EJ,dm]) (by omega) bQ0 (p:=λr=>decide (r.ref=p'.of)) (λr v Y hv y K' hK=>bWy (y.wf f5.wf) (y.old _ _ LR) (y.old _ _ yp) ju v hv r hK) λX6 x6=>?_;have hx:ixM (λr:OT=>decide (r.ref=p'.of)) done=aY done p.of:=by rw[IG];rfl
  rw[hx];have f6:=f5.ext x6;have g6:=aF f6.row;rw[ec] at g6;rcases iQ done p.of with h | ⟨j,r,h,hj,hj3⟩
  ·simp only[h,show((-1:Int)<0)=UF by simp,Oy] at H;simp only[↓cw,↓Oo,Om,kk,h,show((-1:Int)<0)=UF by simp,Oy];exact H2 _ (by rw[tA,<-H]) f6.fk
  have j0:((j:Int)<0)=False:=by simp
  simp only[h,j0,Ou,Pn] at H;have ed:=(Oq.1 hj).1;have rm:(done++[p']++s.posted.drop (i+1))[j]?=Ot r:=by rw[Pd,Pr ed];exact hj
  obtain⟨X7,st7,n7,o7,f7⟩:=f6.setP (p':={ r with back:=OB }) rm ec (j:=11) (x:=.bool OB) rfl rfl (by decide) (λ_=>rfl) rfl;have ix7:fV 12 (.sl b5 Ax 12 0 (done++s.posted.drop i).length) (O J (j:Int))=.ok (.ptr b5 Ax j 0):=by
   simp only[fV,gA (show j<(done++s.posted.drop i).length by simp;omega),Oy,Px]
  have hl7:(done++[p']++s.posted.drop (i+1)).set j { r with back:=OB }=(cW done j++[p'])++s.posted.drop (i+1):=by
   simp only[cW,hj];rw[Pd,Xf _ _ ed,Pd]
  rw[hl7] at f7;simp only[↓cw,↓Oo,Om,kk,h,j0,Ou,g6,ix7,st7];refine H _ _ ⟨rfl,f7,?_,by rw[Qm];exact cd,λx hx=>(Qf.1 hx).elim (aNj hfit x) λhx=>by rw[PR.1 hx,<-gk];exact aNi ht (h12 p (OM hi))⟩
  have:(cW done j).length=done.length:=by unfold cW;split<;>simp
  simp[this,dm]
 ·rintro⟨ser,done⟩ vs X ⟨rfl,f,dm,cd,hfit⟩ aE H;have f:FL S X q tv sv pv cv s.next us ser (done++s.posted.drop s.posted.length) .nils:=f;rw[Tf,OS] at f;have q1:=aF f.row;have dm:done.length=s.posted.length:=dm;simp only[↓cw,↓Oo,Om,kk,OZ,Ou,q1,f.atS];have hr:sU s=if(cL done).2=0 then Ot { s with ser:=ser,posted:=done,book:=(cL done).1 } else none:=by rw[tA,<-H]
  have hfit:∀p∈done,oP p.total:=hfit;refine aG done (step:=aP) (fin:=λb=>(b,0)) (λi b vs X=>vs=[.bool OA,O J (i:Int)]/\∃bv,FL S X q tv sv pv cv s.next us ser done bv/\(bv=.imm (b.map PC)\/(bv=.nils/\b=[]))/\b.length<=25*i) (λr=>r=cL done) ?_ ?_ (s:=[]) ⟨rfl,_,f,.inr ⟨rfl,rfl⟩,PS _⟩ rfl
  ·rintro i p b vs X hi ⟨rfl,bv,f,gh,gg⟩ aE H;have ai:=(Oq.1 hi).1;have uy:=hfit p (OM hi);obtain⟨u,a,va,tl,hu,ec,ha,al⟩:=f.at hi;have ix:fV 12 pv (O J (i:Int))=.ok (.ptr a va i 0):=by
    rw[ec];simp only[fV,gA ai,Oy,Px]
   have ou:=f.pl.own i u p hu hi;have IJ:=ldR ha al (Ot 12) 0 X.next;have e12:(⟨X.next,X.heap⟩:St)=X:=rfl;rw[e12,aC0 _ _ (show(p.encW u).length=12 from rfl)] at IJ;obtain⟨X1,fg⟩:∃X1:St,X1=X.var 12 [.str [],O J 0,O J 0,O J 0,O J 0,O J 0,O J 0,O J 0,.nils,.str [],O J 0,.bool OA] (p.encW u):=⟨_,rfl⟩;have x1:Ext X X1:=by rw[fg];exact Wo f.wf 12 _ _
   have f1:=f.ext x1;have c1:X1.heap.get X.next=Ot (.row 0 12 [p.encW u]):=by rw[fg];exact Ox _ _ _ trivial
   have g1:=aF c1;have q1:=aF f1.row;simp only[Posted.encW] at g1 fg IJ;simp only[St.var] at fg;have o1:=ou.one;have o2:=ou.cells;simp only[aP] at H;have IK:=λK':KW=>(bOh p.total uy).frz (S:=X1) (args:=[.agg [O J p.total.net,O J p.total.tax,O J p.total.gross,u]]) (by simp only[Sm,cP,(ou.ext x1).frz (aU (λ_=>rfl) _)]) K';have IL:=uy.1;have ff:=pT p.total;have hle:=mN b (bQ p.total).1;simp only[↓cw,↓Oo,Om,kk,bG hi,ix,IJ,o1,o2,bHj,<-fg,q1,g1,IK];by_cases c1:(bQ p.total).2=0;rotate_left
   ·simp only[↓cw,↓Oo,Om,kk,c1,OL,Oy] at H|-
    exact H2 _ (by rw[hr,Oz (by rw[<-H];exact c1)]) f1.fk
   have ff:=ff.resolve_right (not_not_intro c1);have EK:=λK':KW=>bOw b (bQ p.total).1 gh (by omega) X1 K';by_cases c2:(aV b (bQ p.total).1).2=0;rotate_left
   ·simp only[↓cw,↓Oo,Om,kk,c1,c2,EK,q1,OK,OL,Ou,Oy] at H|-
    exact H2 _ (by rw[hr,Oz (by rw[<-H];exact c2)]) (f1.turnQ (Ov _) _).fk
   simp only[↓cw,↓Oo,Om,kk,c1,c2,EK,q1,OK,Ou,Oy,gM (show i<1000000000 by omega)] at H|-
   exact H _ _ ⟨rfl,_,f1.turnQ (Ov _) _,.inl rfl,by omega⟩
  ·rintro b vs X ⟨rfl,bv,f,gh,gg⟩ aE H;have hb:cL done=(b,0):=H.symm;rw[hb] at hr;simp only[↓cw,↓Oo,Om,kk,OZ,Ou];exact H1 _ bv X hr f gh
theorem Own.wput{S0 X:St}{n:Nat}{v:V}{es:On (On V)}(o:Own S0 X n v es){y ver m k:Nat}{el:On (On V)}(hy:X.heap.get y=Ot (.row ver m el))(ah:m≠n)(hk:X.next<=k)(bl:Blk):Own S0 ⟨k,X.heap.put y bl⟩ n v es:=
 o.same hk λz hz=>OJ _ _ _ _ trivial (λe=>Own.wide o hy ah (e▸hz))
theorem PL.wput{S0 X:St}{us:On V}{l:On OT}(o:PL S0 X us l){y ver m k:Nat}{el:On (On V)}(hy:X.heap.get y=Ot (.row ver m el))(ah:m≠4)(hk:X.next<=k)(bl:Blk):PL S0 ⟨k,X.heap.put y bl⟩ us l:=
 o.move λ_ _ _ _ _ q=>Own.wput q hy ah hk bl
theorem bX1{b:On OP}(hb:b.length<1000000000){S:St}(w:WF S){v:V}(he:aK S v=.ok (b.map fX)){K:KW}
  (H:∀a T,Ext S T->S.next<=a->a<T.next->(∃z,T.heap.get a=Ot (.row 0 3 [z]))->(∀T',Ext T T'->∃Y:St,Y.next=T'.next/\WF Y/\(∀y,y<S.next\/T.next<=y->Y.heap.get y=T'.heap.get y)/\∀most (K':KW),C 145 [.ptr a 0 0 0,O J most] T' K'=K' (O J (cB b most ⟨0,0⟩).1) (St.at Y a ((cB b most ⟨0,0⟩).2.cells b)))->K (.ptr a 0 0 0) T):C 60 [v] S K:=by
 refine v60 ?_;by_cases ah:b=[]
 ·subst ah;have q:eC 1 1 .nils v OG S=.ok (.nils,S):=by simp only[eC,he];rfl
  delta Tryz.f60;simp only[↓cw,↓Oo,Om,kk,q];refine H _ _ (Rg w _) (Ov _) (Qb _) ⟨_,Ox _ _ _ trivial⟩ λT' x=>⟨T',rfl,x.wf ((Rg w _).wf w),λ_ _=>rfl,λmost K'=>?_⟩;exact bWu (r:=⟨0,0⟩) (Ov _) most (x.old _ _ (Ox _ _ _ trivial)) K'
 ·have h1:b.length*1<=35184372088832:=by omega
  have h2:b.length<eG:=by unfold eG;omega
  obtain⟨a1,a2⟩:=cU (n:=1) (es:=b.map fX) (λc hc=>by obtain⟨x,_,rfl⟩:=Pv.1 hc;exact u81 x);have q:eC 1 1 .nils v OG S=.ok (.sl S.next 0 1 0 b.length,⟨S.next+1,S.heap.put S.next (.row 0 1 (b.map fX))⟩):=by
   obtain⟨x,t,rfl⟩:=List.exists_cons_of_ne_nil ah;simp only[Qd,OQ,ON] at h1 h2 a1 a2 he|-
   simp only[eC,he,a1,a2,and_self,Oy,h1,h2,dX,OQ,ON]
  delta Tryz.f60;simp only[↓cw,↓Oo,Om,kk,q];have x1:=Rg w (.row 0 1 (b.map fX));have x2:=Rg (x1.wf w) (.row 0 3 [[.sl S.next 0 1 0 b.length,O J 0,O J 0]]);refine H _ _ (x1.trans x2) (PX _) (Qb _) ⟨_,Ox _ _ _ trivial⟩ λT' x=>⟨⟨T'.next,T'.heap.cut S.next⟩,rfl,?_,λy hy=>?_,λmost K'=>?_⟩
  ·intro y d hy;have hy:(T'.heap.cut S.next).get y=Ot d:=hy;rw[WB] at hy;split at hy
   ·cases hy
   ·exact x.wf (x2.wf (x1.wf w)) y d hy
  ·show(T'.heap.cut S.next).get y=_;rw[WB,Oz];rcases hy with hy | hy
   ·omega
   ·have hy:S.next+1+1<=y:=hy;omega
  ·have hc:T'.heap.get S.next=Ot (.row 0 1 (b.map fX)):=x.old _ _ (x2.old _ _ (Ox _ _ _ trivial));have hS:T'.heap.get (S.next+1)=Ot (.row 0 3 [[.sl S.next 0 1 0 b.length,O J (((⟨0,0⟩:Rd).pos:Nat):Int),O J (⟨0,0⟩:Rd).err]]):=x.old _ _ (Ox _ _ _ trivial);exact bWs (n:=0) hb (r:=⟨0,0⟩) (PS _) most hc hS (by omega) ah K'
structure Got (X:St) (v:V) (s:Qg):Prop where
 is:∃tv sv pv bv cv us,v=.agg [tv,sv,pv,bv,cv,O J s.next]/\Own E0 X 5 tv (s.table.map Qk)/\Own E0 X 4 sv (s.ser.map PZ)/\Own E0 X 12 pv (Qc Posted.encW us s.posted)/\PL E0 X us s.posted/\(bv=.imm (s.book.map PC)\/(bv=.nils/\s.book=[]))/\Own E0 X 5 cv (s.sess.map Qe)
theorem Got.ext{X Y:St}{v:V}{s:Qg}(h:Got X v s)(x:Ext X Y):Got Y v s:=by
 obtain⟨tv,sv,pv,bv,cv,us,h1,h2,h3,h4,h5,h6,h7⟩:=h.is;exact⟨tv,sv,pv,bv,cv,us,h1,h2.ext x,h3.ext x,h4.ext x,h5.move λ_ _ _ _ _ o=>o.ext x,h6,h7.ext x⟩
theorem Got.zero(X:St):Got X (.agg [.nils,.nils,.nils,.nils,.nils,O J 0]) Rc:=
 ⟨.nils,.nils,.nils,.nils,.nils,[],rfl,Rf _ _ _,Rf _ _ _,Rf _ _ _,PL.nil _ _,.inr ⟨rfl,rfl⟩,Rf _ _ _⟩
theorem aNl{X:St}{us:On V}:∀{l:On OT},PL E0 X us l->kU (iS X 3) (Qc Posted.encW us l)=.ok (l.map Pg):=by
 induction us with
 | nil=>intro l h;have:=h.len;cases l with | nil=>rfl | cons p l=>simp at this
 | cons u us ih=>
  intro l h;cases l with
  | nil=>rfl
  | cons p l=>
   have ou:=h.own 0 u p rfl rfl;have h':PL E0 X us l:=PL.mk (by have:=h.len;simpa using this) (λi v q h1 h2=>h.own (i+1) v q h1 h2) (λi j v v' y h1 h2 h3 h4=>by have:=h.sep (i+1) (j+1) v v' y h1 h2 h3 h4;omega);have e1:iS X 3 (p.encW u)=.ok p.enc:=by
    have e0:=ou.frzN (aU (λ_=>rfl) _) 1;show Sm kP (kV (iS X 2) X) [_,_,_,_,_,_,_,_,_,_,_,_]=_;simp only[Sm,cP,e0];rfl
   simp only[List.zipWith_cons_cons,kU,e1,ih h',Qd]
theorem Got.frz{X:St}{v:V}{s:Qg}(h:Got X v s):cP kP (kV (iS X 3) X) v=.ok (.agg [.imm (s.table.map Qk),.imm (s.ser.map PZ),.imm (s.posted.map Pg),.imm (s.book.map PC),.imm (s.sess.map Qe),O J s.next]):=by
 obtain⟨tv,sv,pv,bv,cv,us,rfl,h2,h3,h4,h5,h6,h7⟩:=h.is;have e4:cP kP (kV (iS X 3) X) pv=.ok (.imm (s.posted.map Pg)):=by
  have he:=h4.sl.elems;rcases h4.is with ⟨rfl,hz⟩ | ⟨a,ver,tl,rfl,_⟩
  ·have hm:=aNl h5;rw[hz] at hm
   have:s.posted.map Pg=[]:=(SL hm).symm
   rw[this];rfl
  ·show kV (iS X 3) X _=_;simp only[kV,he,aNl h5]
 have e6:cP kP (kV (iS X 3) X) bv=.ok (.imm (s.book.map PC)):=by
  rcases h6 with rfl | ⟨rfl,hq⟩
  ·rfl
  ·rw[hq];rfl
 simp only[cP,Sm,h2.frz (aU (λ_=>rfl) _),h3.frz (aU (λ_=>rfl) _),e4,e6,h7.frz (aU (λ_=>rfl) _)]
theorem Got.ptr{X:St}{v:V}{s:Qg}(h:Got X v s):pJ v=[]:=by
 obtain⟨tv,sv,pv,bv,cv,us,rfl,h2,h3,h4,h5,h6,h7⟩:=h.is;have e6:pJ bv=[]:=by rcases h6 with rfl | ⟨rfl,_⟩<;>rfl
 simp only[pJ,ptrsVs,h2.ptrs,h3.ptrs,h4.ptrs,e6,h7.ptrs];rfl
end Go.Proofs.YtoaibmbldmckaaaGreat
end
section
namespace Go.AM
end Go.AM
namespace Go.Proofs.YtoaibmbldmckaaaGreat
open Go.AM Tryz
def Cmd.enc(c:Cmd):On V:=[O J c.kind,.str c.series,O J c.limit,.str c.row.cat,O J c.row.day.y,O J c.row.day.m,O J c.row.day.d,O J c.row.bp,O J c.day.y,O J c.day.m,O J c.day.d,.imm (c.lines.map Tg),.str c.of.ser,O J c.of.num,O J c.session]
end Go.Proofs.YtoaibmbldmckaaaGreat
end
section
namespace Go.AM
open Go.RowKit Go.ChangeShapes
section
def Gh.all(W:PE):Gh:={ Gh.none with pr:=λb=>W.heap[b]? }
theorem bD9(W:PE):gJ (λi=>W.heap[i]?) (Gh.all W) St.empty W.heap:=
 ⟨λ_ _=>⟨rfl,rfl⟩,λ_ _ h=>(by cases h),λa b h=>(by cases h),λa a' b b' i h=>(by cases h),λi o h=>h,λi o h=>h,λa b i h=>(by cases h),
  λa i h=>(by rcases h with ⟨L,h,_⟩ | h<;>cases h),λa b h=>(by cases h)⟩
theorem aNm{P:OI}{pl:kA}(hp:PlansOK P pl){k:Nat}{f:PU}{args:On V}{S':St}(h:fG P pl k f args St.empty=.ok (.bool OB,S'))(W:PE){cs:On O'}(hc:VRs (Gh.all W) args cs):
  Calls P f cs.toArray W λe W'=>e=.returned (.bool OB)/\Below W.heap.size W W':=by
 refine((vP hp k).calls h (bD9 W) hc).mono ?_;rintro e W' ⟨G',w,rfl,q1,q2⟩;cases q2;refine⟨rfl,q1.same.os,q1.same.tape,q1.same.output,q1.same.size,λi hi=>?_⟩
 have:=Array.getElem?_eq_getElem hi
 rw[this];exact q1.rel.fr i _ this
def aT(P:OI):Nat->OH->On V->Prop
 | 0,_,_=>Sc
 | n+1,t,xs=>match P.underlying t with
  | some .bool=>∃b,xs=[.bool b]
  | some (.int k)=>∃i,xs=[.int k i]/\(Lit.int k i).wf=OB
  | some .string=>∃s,xs=[.str s]/\s.length<=maxLen
  | some (.slice e)=>∃es,xs=[.imm es]/\es.length<=maxLen/\∀c,c∈es->c.length=P.cellsOf e/\aT P n e c
  | some (.struct fs)=>xs.length=P.cellsOf t/\∀f,f∈fs.toList->aT P n f.type ((xs.drop f.offset).take (P.cellsOf f.type))
  | _=>Sc
def aSs(P:OI):On Field->Nat->Nat->Ps
 | [],o,e=>Nat.beq o e
 | f::l,o,e=>Nat.beq f.offset o&&aSs P l (o+P.cellsOf f.type) e
def aA0(P:OI):Nat->OH->Ps
 | 0,_=>OA
 | d+1,t=>match P.underlying t with
  | some .bool=>OB
  | some (.int _)=>OB
  | some .string=>OB
  | some (.slice e)=>QI 0 (P.cellsOf e)&&aA0 P d e
  | some (.struct fs)=>aSs P fs.toList 0 (P.cellsOf t)&&fs.toList.all λf=>aA0 P d f.type
  | _=>OA
theorem aSt{α:Type}{Q:Nat->α->Prop}:∀n,(∀i,i<n->∃a,Q i a)->∃l:On α,l.length=n/\∀i a,l[i]?=Ot a->Q i a
 | 0,_=>⟨[],rfl,λi a h=>by simp at h⟩
 | n+1,h=>by
  obtain⟨l,h1,h2⟩:=aSt n λi hi=>h i (by omega);obtain⟨a,ha⟩:=h n (by omega);refine⟨l++[a],by simp[h1],λi x hx=>?_⟩;by_cases c:i<n
  ·rw[Pr (by omega)] at hx;exact h2 i x hx
  ·have hi:i<(l++[a]).length:=(Oq.1 hx).1;simp only[OC,OQ,Pf] at hi
   have:i=n:=by omega
   subst this;rw[Pe (by omega),h1,Qt] at hx;cases hx;exact ha
theorem VRss.of{G:Gh}:∀{l:On (On V×On O')},(∀x,x∈l->VRs G x.1 x.2)->VRss G (l.map (·.1)) (l.map (·.2))
 | [],_=>.nil
 | x::l,h=>.cons _ _ _ _ (h x (Ph ..)) (VRss.of λy hy=>h y (OY _ hy))
section
variable{H:Type}{enc:OH×O'->H}{P:OI}{W:PE}{sp:Nat->Ps}{held:Ps}
theorem bHk{n:Nat}{cs:On O'}(ih:∀(t:OH) (cs:On O') (x:DataW H×On Wh) (d:Nat),aA0 P d t=OB->Ve enc P W 0 sp held n t cs=Ot x->∃xs,VRs (Gh.all W) xs cs/\aT P n t xs){d:Nat}:
  ∀(l:On Field) (o e:Nat),aSs P l o e=OB->e<=cs.length->(∀f,f∈l->aA0 P d f.type=OB/\∃x,Ve enc P W 0 sp held n f.type ((cs.drop f.offset).take (P.cellsOf f.type))=Ot x)->
   o<=e/\∃xs,VRs (Gh.all W) xs ((cs.drop o).take (e - o))/\∀f,f∈l->o<=f.offset/\aT P n f.type ((xs.drop (f.offset - o)).take (P.cellsOf f.type))
 | [],o,e,h,he,_=>by
  have:o=e:=Qv h
  subst this;exact⟨Ov _,[],by rw[Qt];exact .nil,λ_ h=>by cases h⟩
 | f::l,o,e,h,he,hf=>by
  simp only[aSs,OU] at h;have h0:f.offset=o:=Qv h.1;obtain⟨hle,xs,hv,hs⟩:=bHk ih l (o+P.cellsOf f.type) e h.2 he (λg hg=>hf g (OY _ hg));obtain⟨bc,x,hx⟩:=hf f (Ph ..);obtain⟨ys,hy,Du⟩:=ih _ _ _ d bc hx;rw[h0] at hy;have LS:ys.length=P.cellsOf f.type:=by rw[hy.length,PY,PQ];omega
  refine⟨by omega,ys++xs,?_,λg hg=>?_⟩
  ·have:(cs.drop o).take (e - o)=(cs.drop o).take (P.cellsOf f.type)++(cs.drop (o+P.cellsOf f.type)).take (e - (o+P.cellsOf f.type)):=by
    rw[<-UU,<-List.take_add]
    congr 1
    omega
   rw[this];exact hy.append hv
  ·rcases Pu.1 hg with rfl | hg
   ·refine⟨by omega,?_⟩;rw[h0,Qt,Rh,Rj (by omega),QW (by omega)];exact Du
   ·obtain⟨h1,h2⟩:=hs g hg;refine⟨by omega,?_⟩;rw[List.drop_append,QH (by omega),Pp,LS]
    have:g.offset - o - P.cellsOf f.type=g.offset - (o+P.cellsOf f.type):=by omega
    rw[this];exact h2
theorem aCb{a:Addr}{n:Nat}{r:On O'}(h:W.cells? 0 a n=Ot r):r.length=n/\∀k v,r[k]?=Ot v->W.cell? (a.add k)=Ot v:=by
 unfold World.cells? at h;rw[OE (PS _)] at h;have hl:=mapM_some_length h;rw[List.length_range] at hl;refine⟨hl,λk v hk=>?_⟩;have xg:k<n:=by have:=(Oq.1 hk).1;omega
 have:=mapM_some_get h k k (by rw[List.getElem?_range xg])
 rw[this,hk]
theorem aSu{a:Addr}{v:O'}(h:W.cell? a=Ot v):∃c ty fr,W.heap[a.block]?=Ot (.cells c ty fr)/\a.spot=OG/\c[a.off]?=Ot v:=by
 unfold World.cell? at h;split at h
 ·rename_i c ty fr hc;split at h
  ·cases h
  ·rename_i hs;exact⟨c,ty,fr,hc,by simpa using hs,h⟩
 ·cases h
theorem aJa(a:Addr)(n:Nat):(a.add n).block=a.block:=by
 unfold XX;split<;>rfl
theorem aSv(a:Addr)(n:Nat):(a.add n).off=a.off+n:=by
 unfold XX;split
 ·rename_i h;rw[h,QT]
 ·rfl
theorem aJb(a:Addr):a.add 0=a:=by unfold XX;rw[OE rfl]
theorem aPx:∀(n:Nat) (t:OH) (cs:On O') (x:DataW H×On Wh) (d:Nat),aA0 P d t=OB->Ve enc P W 0 sp held n t cs=Ot x->∃xs,VRs (Gh.all W) xs cs/\aT P n t xs
 | 0,t,cs,x,d,_,h=>by simp[Ve] at h
 | n+1,t,cs,x,0,hp,h=>by cases hp
 | n+1,t,cs,x,d+1,hp,h=>by
  simp only[aA0] at hp;split at hp
  ·rename_i ht;obtain⟨b,rfl,_⟩:=DataW.trod_bool ht h;exact⟨[.bool b],.cons _ _ _ _ (.bool b) .nil,by simp only[aT,ht];exact⟨b,rfl⟩⟩
  ·rename_i k ht;obtain⟨i,rfl,_,hw⟩:=DataW.trod_int ht h;exact⟨[.int k i],.cons _ _ _ _ (.int k i) .nil,by simp only[aT,ht];exact⟨i,rfl,hw⟩⟩
  ·rename_i ht;obtain⟨s,rfl,_,hs⟩:=DataW.trod_string ht h;refine⟨[.str s.data.toList],.cons _ _ _ _ (.str s.data.toList) .nil,?_⟩;simp only[aT,ht];exact⟨_,rfl,hs⟩
  ·rename_i e ht;simp only[OU,Nat.blt_eq] at hp;rcases DataW.trod_slice ht h with ⟨rfl,_⟩ | ⟨a,len,cap,elems,rest,m,hm,rfl,_,_,Gk,fu,ff,bg,_,_⟩
   ·exact⟨[.imm []],.cons _ _ _ _ .imm0 .nil,by simp only[aT,ht];exact⟨[],rfl,PS _,λc hc=>by cases hc⟩⟩
   ·have hm:m=n:=by omega
    subst hm;obtain⟨l,hl,hq⟩:=aSt (Q:=λi (y:On V×On O')=>W.cells? 0 (a.add (i*P.cellsOf e)) (P.cellsOf e)=Ot y.2/\VRs (Gh.all W) y.1 y.2/\aT P m e y.1) len (λi hi=>by
     have h1:=bg i hi;rw[OF (by omega:i<elems.length)] at h1;rw[Option.bind_eq_some_iff] at h1;obtain⟨r,h2,h3⟩:=h1;obtain⟨c,h4,h5⟩:=aPx m e r _ d hp.2 h3;exact⟨(c,r),h2,h4,h5⟩)
    have hlen:∀y,y∈l->y.1.length=P.cellsOf e/\y.2.length=P.cellsOf e:=λy hy=>by
     obtain⟨i,hi⟩:=PA.1 hy;obtain⟨h1,h2,_⟩:=hq i y hi
     have:=(aCb h1).1
     exact⟨by rw[h2.length];exact this,this⟩
    refine⟨[.imm (l.map (·.1))],.cons _ _ _ _ (.imm _ a len cap (P.cellsOf e) (by rw[ON,hl]) Gk (l.map (·.2)) (VRss.of λy hy=>?_) (λc hc=>?_) ?_) .nil,?_⟩
    ·obtain⟨i,hi⟩:=PA.1 hy;exact(hq i y hi).2.1
    ·obtain⟨y,hy,rfl⟩:=Pv.1 hc;exact(hlen y hy).1
    ·by_cases h0:len=0
     ·exact .inl h0
     ·right
      obtain⟨y0,IM⟩:∃y0,l[0]?=Ot y0:=⟨l[0]'(by omega),OF (by omega)⟩;obtain⟨h1,_,_⟩:=hq 0 y0 IM;rw[Nat.zero_mul,aJb] at h1;obtain⟨LS,jl⟩:=aCb h1;obtain⟨v0,uk⟩:∃v0,y0.2[0]?=Ot v0:=⟨y0.2[0]'(by omega),OF (by omega)⟩;have qw:=jl 0 v0 uk;rw[aJb] at qw;obtain⟨c,ty,fr,hh,hs,_⟩:=aSu qw;refine⟨c,ty,fr,hh,hs,λi r hr k v hk=>?_⟩;rw[Pc] at hr;obtain⟨y,hy,rfl⟩:∃y,l[i]?=Ot y/\y.2=r:=by
       cases hy:l[i]? with
       | none=>rw[hy] at hr;cases hr
       | some y=>rw[hy] at hr;exact⟨y,rfl,Qz hr⟩
      obtain⟨h2,_,_⟩:=hq i y hy;obtain⟨c',ze,mn,Et,_,hv⟩:=aSu ((aCb h2).2 k v hk);rw[aJa,aJa,hh] at Et;rw[aSv,aSv] at hv;cases Et;exact hv
    ·simp only[aT,ht];refine⟨_,rfl,by rw[ON,hl];omega,λc hc=>?_⟩;obtain⟨y,hy,rfl⟩:=Pv.1 hc;obtain⟨i,hi⟩:=PA.1 hy;exact⟨(hlen y hy).1,(hq i y hi).2.2⟩
  ·rename_i fs ht;simp only[OU,List.all_eq_true] at hp;obtain⟨xs,m,hm,_,gj,kx,hf⟩:=DataW.trod_struct ht h;have hm:m=n:=by omega
   subst hm;obtain⟨_,ys,h1,h2⟩:=bHk (enc:=enc) (sp:=sp) (held:=held) (cs:=cs) (λt cs x d=>aPx m t cs x d) fs.toList 0 (P.cellsOf t) hp.1 (Nat.le_of_eq gj.symm) (λf FW=>by
    refine⟨hp.2 f FW,?_⟩;obtain⟨i,hi⟩:=PA.1 FW;have df:fs[i]?=Ot f:=by simpa using hi
    rw[hf i f df]
    have:i<xs.length:=by
     rw[kx];by_cases c:i<fs.size
     ·exact c
     ·rw[Array.getElem?_eq_none (by omega)] at df;cases df
    exact⟨_,OF this⟩)
   rw[UK,Rh,QW (by omega)] at h1;refine⟨ys,h1,?_⟩;simp only[aT,ht];refine⟨by rw[h1.length,gj],λf FW=>?_⟩
   have:=(h2 f FW).2
   rwa [UK] at this
  ·cases hp
end
end
end Go.AM
end
section
namespace Go.AM
open Go.ChangeShapes Go.WideShapes Go.ChangeAt Go.RowKit
theorem aHd{H:Type}{enc:OH×O'->H}{P:OI}{f:Func}{s:ChangeSpec}{apart fresh handsOn:Ps}{W W':PE}{args:Array O'}{v:O'}{ds gs:On (DataW H)}{before pa pv:On Wh}
  (hW:DataW.Whole enc P f.params.toList s.vars apart W args.toList ds gs before)
  (fy:∀(b:Nat) (sp:Nat->Ps) (hd:Ps),Wu enc P W' b sp hd f.resultTypes.toList (v.resultList f.resultTypes.size) (s.fn H (ds++gs)).results [])
  (EL:∀sp:Nat->Ps,(∀p∈before,sp p.block=OB)->Wu enc P W' 0 sp OB f.params.toList args.toList (s.fn H (ds++gs)).args pa)
  (EM:∀sp:Nat->Ps,(∀p∈before,sp p.block=OB)->DataW.TrodVars enc P W' sp s.vars (s.fn H (ds++gs)).vars pv)
  (Cy:before=pa++pv) (hk:W.keptBut W' (·∈before)):
  s.post enc P f apart fresh handsOn OA W args v W':=by
 have hold:∀p∈before,(λb=>decide (b<W.heap.size)) p.block=true:=λp hp=>by simpa using hW.lt p hp
 refine⟨ds,gs,before,[],pa,pv,hW,fy _ _ _,EL _ hold,EM _ hold,World.keptBut_mono (λp hp=>⟨hp,?_⟩) hk,λh=>by cases h⟩;rw[Cy,Qf] at hp;exact Or.inr hp
theorem aHe{W W':PE}(h:Below W.heap.size W W')(S:Wh->Prop):W.keptBut W' S:=Below.frame h S
theorem aV0{H:Type}{enc:OH×O'->H}{P:OI}{W:PE}{t:OH}(ht:P.underlying t=Ot .bool)(b:Nat)(sp:Nat->Ps)(hd:Ps):
  Wu enc P W b sp hd [t] ((Value.bool OB).resultList 1) [.lit (.bool OB)] []:=
 trodAll_mk1 ⟨1,by simp[Ve,Value.cells,ht]⟩
end Go.AM
end
section
namespace Go.AM
open Go.RowKit Go.ChangeShapes
section
section
variable{H:Type}{enc:OH×O'->H}{P:OI}{W:PE}{sp:Nat->Ps}{held:Ps}
theorem aHf{r:Reach}{b0:Nat}{t e:OH}{v:O'}(ht:P.underlying t=Ot (.slice e))(ko:WN P W r b0 t v):v.cells.toList=[v]:=by
 cases v with
 | agg cs=>simp[WN,ht,Cell.okWide,Cell.ok] at ko
 | _=>rfl
theorem aGf{r:Reach}{b0 d:Nat}{t e:OH}{v:O'}{dd:DataW H}{ps:On Wh}(ht:P.underlying t=Ot (.slice e))(bc:aA0 P d t=OB)(ko:WN P W r b0 t v)(hd:Xo enc P W 0 sp held t v dd ps):
  ∃x n,VR (Gh.all W) x v/\aT P n t [x]:=by
 obtain⟨fuel,hf⟩:=hd;obtain⟨xs,h1,h2⟩:=aPx fuel t _ _ d bc hf;rw[aHf ht ko] at h1;cases h1 with
 | cons x _ vs _ hx t'=>
  cases t';exact⟨x,fuel,hx,h2⟩
theorem aV1{t:OH}(hl:laidOutB P=OB)(hr:P.readableRec t=OB)(al:t<P.types.size){W':PE}{v:O'}{d:DataW H}{ps:On Wh}(h:Xo enc P W 0 (λ_=>OB) OB t v d ps)(hb:Below W.heap.size W W')
  (ag:∀x∈ps,x.block<W.heap.size) {LT:Nat->Ps} (hs:∀x∈ps,LT x.block=OB):Xo enc P W' 0 LT OB t v d ps:=
 WideElems.Trod_stays hl hr al h (λx hx=>hb.same (ag x hx)) hs
end
end
end Go.AM
end
section
namespace Go.Proofs.YtoaibmbldmckaaaGreat
open Go.AM Tryz
theorem pF{P:OI}{n:Nat}{t:OH}{fs:Array Field}{xs:On V}(ht:P.underlying t=Ot (.struct fs))(h:aT P n t xs):
  ∃m,xs.length=P.cellsOf t/\∀(i:Nat) (f:Field),fs[i]?=Ot f->aT P m f.type ((xs.drop f.offset).take (P.cellsOf f.type)):=by
 cases n with
 | zero=>cases h
 | succ m=>
  simp only[aT,ht] at h;exact⟨m,h.1,λi f hf=>h.2 f (OM (by rw[Array.getElem?_toList];exact hf))⟩
theorem aNn{P:OI}{n:Nat}{t e:OH}{xs:On V}(ht:P.underlying t=Ot (.slice e))(h:aT P n t xs):
  ∃m es,xs=[.imm es]/\∀c,c∈es->c.length=P.cellsOf e/\aT P m e c:=by
 cases n with
 | zero=>cases h
 | succ m=>
  simp only[aT,ht] at h;obtain⟨es,h1,_,h2⟩:=h;exact⟨m,es,h1,h2⟩
theorem c3:prog.cellsOf 3=1:=by kernel_rfl
theorem c9:prog.cellsOf 9=1:=by kernel_rfl
theorem oF{n:Nat}{xs:On V}(h:aT prog n 3 xs):∃i,xs=[O J i]:=by
 cases n with
 | zero=>cases h
 | succ m=>
  simp only[aT,Tryz.underlying3] at h;obtain⟨i,h,_⟩:=h;exact⟨i,h⟩
theorem aGg{n:Nat}{xs:On V}(h:aT prog n 9 xs):∃s,xs=[.str s]:=by
 cases n with
 | zero=>cases h
 | succ m=>
  simp only[aT,Tryz.underlying9] at h;obtain⟨s,h,_⟩:=h;exact⟨s,h⟩
theorem cut(xs:On V)(o k:Nat):xs.drop o=(xs.drop o).take k++xs.drop (o+k):=by
 rw[<-UU,List.take_append_drop]
theorem aGh{α:Type}{enc:α->On V}:∀{es:On (On V)},(∀c,c∈es->∃a:α,c=enc a)->∃l:On α,es=l.map enc
 | [],_=>⟨[],rfl⟩
 | c::es,h=>by
  obtain⟨a,ha⟩:=h c (Ph ..);obtain⟨l,hl⟩:=aGh λd hd=>h d (OY _ hd);exact⟨a::l,by rw[ha,hl];rfl⟩
theorem c52:prog.cellsOf 52=3:=by kernel_rfl
theorem aSw{n:Nat}{xs:On V}(h:aT prog n 52 xs):∃d:Vo,xs=d.enc:=by
 obtain⟨m,hl,hf⟩:=pF Tryz.underlying52 h;rw[c52] at hl;have h0:aT prog m 3 ((xs.drop 0).take (prog.cellsOf 3)):=hf 0 _ rfl;rw[c3] at h0;obtain⟨x0,e0⟩:=oF h0;have q0:=cut xs 0 1;rw[e0] at q0;have h1:aT prog m 3 ((xs.drop 1).take (prog.cellsOf 3)):=hf 1 _ rfl;rw[c3] at h1;obtain⟨x1,e1⟩:=oF h1;have q1:=cut xs 1 1;rw[e1] at q1;have h2:aT prog m 3 ((xs.drop 2).take (prog.cellsOf 3)):=hf 2 _ rfl;rw[c3] at h2;obtain⟨x2,e2⟩:=oF h2;have q2:=cut xs 2 1;rw[e2] at q2;have bj:xs.drop 3=[]:=QH (by omega);have hx:xs=[O J x0]++([O J x1]++([O J x2]++[])):=by
  have z:xs=xs.drop 0:=rfl;rw[z,q0,q1,q2];show _=_;rw[show(2+1:Nat)=3 from rfl,bj]
 rw[hx];exact⟨⟨x0,x1,x2⟩,rfl⟩
theorem c57:prog.cellsOf 57=2:=by kernel_rfl
theorem bIy{n:Nat}{xs:On V}(h:aT prog n 57 xs):∃d:Ref,xs=d.enc:=by
 obtain⟨m,hl,hf⟩:=pF Tryz.underlying57 h;rw[c57] at hl;have h0:aT prog m 9 ((xs.drop 0).take (prog.cellsOf 9)):=hf 0 _ rfl;rw[c9] at h0;obtain⟨x0,e0⟩:=aGg h0;have q0:=cut xs 0 1;rw[e0] at q0;have h1:aT prog m 3 ((xs.drop 1).take (prog.cellsOf 3)):=hf 1 _ rfl;rw[c3] at h1;obtain⟨x1,e1⟩:=oF h1;have q1:=cut xs 1 1;rw[e1] at q1;have bj:xs.drop 2=[]:=QH (by omega);have hx:xs=[.str x0]++([O J x1]++[]):=by
  have z:xs=xs.drop 0:=rfl;rw[z,q0,q1];show _=_;rw[show(1+1:Nat)=2 from rfl,bj]
 rw[hx];exact⟨⟨x0,x1⟩,rfl⟩
theorem c54:prog.cellsOf 54=5:=by kernel_rfl
theorem bDa{n:Nat}{xs:On V}(h:aT prog n 54 xs):∃d:Tn,xs=d.enc:=by
 obtain⟨m,hl,hf⟩:=pF Tryz.underlying54 h;rw[c54] at hl;have h0:aT prog m 9 ((xs.drop 0).take (prog.cellsOf 9)):=hf 0 _ rfl;rw[c9] at h0;obtain⟨x0,e0⟩:=aGg h0;have q0:=cut xs 0 1;rw[e0] at q0;have h1:aT prog m 52 ((xs.drop 1).take (prog.cellsOf 52)):=hf 1 _ rfl;rw[c52] at h1;obtain⟨x1,e1⟩:=aSw h1;have q1:=cut xs 1 3;rw[e1] at q1;have h2:aT prog m 3 ((xs.drop 4).take (prog.cellsOf 3)):=hf 2 _ rfl;rw[c3] at h2;obtain⟨x2,e2⟩:=oF h2;have q2:=cut xs 4 1;rw[e2] at q2;have bj:xs.drop 5=[]:=QH (by omega);have hx:xs=[.str x0]++(x1.enc++([O J x2]++[])):=by
  have z:xs=xs.drop 0:=rfl;rw[z,q0,q1,q2];show _=_;rw[show(4+1:Nat)=5 from rfl,bj]
 rw[hx];exact⟨⟨x0,x1,x2⟩,rfl⟩
theorem bX3:prog.cellsOf 201=4:=by kernel_rfl
theorem bDb{n:Nat}{xs:On V}(h:aT prog n 201 xs):∃d:Line,xs=d.enc:=by
 obtain⟨m,hl,hf⟩:=pF Tryz.underlying201 h;rw[bX3] at hl;have h0:aT prog m 9 ((xs.drop 0).take (prog.cellsOf 9)):=hf 0 _ rfl;rw[c9] at h0;obtain⟨x0,e0⟩:=aGg h0;have q0:=cut xs 0 1;rw[e0] at q0;have h1:aT prog m 9 ((xs.drop 1).take (prog.cellsOf 9)):=hf 1 _ rfl;rw[c9] at h1;obtain⟨x1,e1⟩:=aGg h1;have q1:=cut xs 1 1;rw[e1] at q1;have h2:aT prog m 3 ((xs.drop 2).take (prog.cellsOf 3)):=hf 2 _ rfl;rw[c3] at h2;obtain⟨x2,e2⟩:=oF h2;have q2:=cut xs 2 1;rw[e2] at q2;have h3:aT prog m 3 ((xs.drop 3).take (prog.cellsOf 3)):=hf 3 _ rfl;rw[c3] at h3;obtain⟨x3,e3⟩:=oF h3;have q3:=cut xs 3 1;rw[e3] at q3;have bj:xs.drop 4=[]:=QH (by omega);have hx:xs=[.str x0]++([.str x1]++([O J x2]++([O J x3]++[]))):=by
  have z:xs=xs.drop 0:=rfl;rw[z,q0,q1,q2,q3];show _=_;rw[show(3+1:Nat)=4 from rfl,bj]
 rw[hx];exact⟨⟨x0,x1,x2,x3⟩,rfl⟩
theorem c55:prog.cellsOf 55=1:=by kernel_rfl
theorem bAi{n:Nat}{xs:On V}(h:aT prog n 55 xs):∃l:On Line,xs=[.imm (l.map Tg)]:=by
 obtain⟨m,es,h,ch⟩:=aNn Tryz.underlying55 h;obtain⟨l,hl⟩:=aGh (enc:=Tg) λc hc=>bDb (ch c hc).2;exact⟨l,by rw[h,hl]⟩
theorem c59:prog.cellsOf 59=15:=by kernel_rfl
theorem bIz{n:Nat}{xs:On V}(h:aT prog n 59 xs):∃c:Cmd,xs=c.enc:=by
 obtain⟨m,hl,hf⟩:=pF Tryz.underlying59 h;rw[c59] at hl;have h0:aT prog m 3 ((xs.drop 0).take (prog.cellsOf 3)):=hf 0 _ rfl;rw[c3] at h0;obtain⟨x0,e0⟩:=oF h0;have q0:=cut xs 0 1;rw[e0] at q0;have h1:aT prog m 9 ((xs.drop 1).take (prog.cellsOf 9)):=hf 1 _ rfl;rw[c9] at h1;obtain⟨x1,e1⟩:=aGg h1;have q1:=cut xs 1 1;rw[e1] at q1;have h2:aT prog m 3 ((xs.drop 2).take (prog.cellsOf 3)):=hf 2 _ rfl;rw[c3] at h2;obtain⟨x2,e2⟩:=oF h2;have q2:=cut xs 2 1;rw[e2] at q2;have h3:aT prog m 54 ((xs.drop 3).take (prog.cellsOf 54)):=hf 3 _ rfl;rw[c54] at h3;obtain⟨x3,e3⟩:=bDa h3;have q3:=cut xs 3 5;rw[e3] at q3;have h4:aT prog m 52 ((xs.drop 8).take (prog.cellsOf 52)):=hf 4 _ rfl;rw[c52] at h4;obtain⟨x4,e4⟩:=aSw h4;have q4:=cut xs 8 3;rw[e4] at q4;have h5:aT prog m 55 ((xs.drop 11).take (prog.cellsOf 55)):=hf 5 _ rfl;rw[c55] at h5;obtain⟨x5,e5⟩:=bAi h5;have q5:=cut xs 11 1;rw[e5] at q5;have h6:aT prog m 57 ((xs.drop 12).take (prog.cellsOf 57)):=hf 6 _ rfl;rw[c57] at h6;obtain⟨x6,e6⟩:=bIy h6;have q6:=cut xs 12 2;rw[e6] at q6;have h7:aT prog m 3 ((xs.drop 14).take (prog.cellsOf 3)):=hf 7 _ rfl;rw[c3] at h7;obtain⟨x7,e7⟩:=oF h7;have q7:=cut xs 14 1;rw[e7] at q7;have bj:xs.drop 15=[]:=QH (by omega);have hx:xs=[O J x0]++([.str x1]++([O J x2]++(x3.enc++(x4.enc++([.imm (x5.map Tg)]++(x6.enc++([O J x7]++[]))))))):=by
  have z:xs=xs.drop 0:=rfl;rw[z,q0,q1,q2,q3,q4,q5,q6,q7];show _=_;rw[show(14+1:Nat)=15 from rfl,bj]
 rw[hx];exact⟨⟨x0,x1,x2,x3,x4,x5,x6,x7⟩,rfl⟩
theorem c61:prog.cellsOf 61=17:=by kernel_rfl
theorem bDc{n:Nat}{xs:On V}(h:aT prog n 61 xs):∃c:Call,xs=c.enc:=by
 obtain⟨m,hl,hf⟩:=pF Tryz.underlying61 h;rw[c61] at hl;have h0:aT prog m 3 ((xs.drop 0).take (prog.cellsOf 3)):=hf 0 _ rfl;rw[c3] at h0;obtain⟨x0,e0⟩:=oF h0;have q0:=cut xs 0 1;rw[e0] at q0;have h1:aT prog m 3 ((xs.drop 1).take (prog.cellsOf 3)):=hf 1 _ rfl;rw[c3] at h1;obtain⟨x1,e1⟩:=oF h1;have q1:=cut xs 1 1;rw[e1] at q1;have h2:aT prog m 59 ((xs.drop 2).take (prog.cellsOf 59)):=hf 2 _ rfl;rw[c59] at h2;obtain⟨x2,e2⟩:=bIz h2;have q2:=cut xs 2 15;rw[e2] at q2;have bj:xs.drop 17=[]:=QH (by omega);have hx:xs=[O J x0]++([O J x1]++(x2.enc++[])):=by
  have z:xs=xs.drop 0:=rfl;rw[z,q0,q1,q2];show _=_;rw[show(2+15:Nat)=17 from rfl,bj]
 rw[hx];exact⟨⟨x0,x1,x2⟩,rfl⟩
theorem bAj{n:Nat}{xs:On V}(h:aT prog n 44 xs):∃l:On Call,xs=[.imm (l.map Call.enc)]:=by
 obtain⟨m,es,h,ch⟩:=aNn Tryz.underlying44 h;obtain⟨l,hl⟩:=aGh (enc:=Call.enc) λc hc=>bDc (ch c hc).2;exact⟨l,by rw[h,hl]⟩
theorem bX4:lS 76=Ot (.val (dD [])):=by kernel_rfl
theorem t76:VT 76 Tryz.f76 [] [(6,[2,3,4])]:=vt
theorem bQ1(t:Nat)(a b:Int):cC prog .xor t (O J a) (O J b)=.ok (O J (wr J ((Qj (OX Pm.bits a ^^^ OX Pm.bits b):Nat):Int))):=rfl
theorem bQ2{m:Nat}(h:m<2 ^ 63):Qj (OX 64 (m:Int) ^^^ OX 64 0)=m:=by
 rw[show OX 64 0=0#64 by decide,XJ,Rx];omega
theorem bQ3{m:Nat}(h:m<2 ^ 63):Qj (OX 64 (m:Int) ^^^ OX 64 (-1))=2 ^ 64 - 1 - m:=by
 rw[show OX 64 (-1)=BitVec.allOnes 64 by decide,BitVec.xor_allOnes,BitVec.toNat_not,Rx];omega
theorem bX5{m:Nat}(h:m<2 ^ 63):wr J ((Qj (OX Pm.bits (m:Int) ^^^ OX Pm.bits 0):Nat):Int)=(m:Int):=by
 have e:Qj (OX Pm.bits (m:Int) ^^^ OX Pm.bits 0)=m:=bQ2 h;rw[e,fB (by omega) (by omega)]
theorem bX6{m:Nat}(h:m<2 ^ 63):wr J ((Qj (OX Pm.bits (m:Int) ^^^ OX Pm.bits (-1)):Nat):Int)=-(m:Int) - 1:=by
 have e:Qj (OX Pm.bits (m:Int) ^^^ OX Pm.bits (-1))=2 ^ 64 - 1 - m:=bQ3 h;rw[e];simp[wr,lo,hi,Tc,TD,TE,Td,Sq];omega
theorem bX7(t:Nat)(k:Qa)(a:Int)(s:Nat):cC prog .shl t (.int k a) (O J (s:Int))=.ok (.int k (wr k (a*2 ^ (min s k.bits)))):=by
 have h:¬((s:Int)<0):=by omega
 simp[cC,aA6,h,wr]
theorem i7i{i:Nat}(h:7*i<=63):wr J (7*(i:Int))=((7*i:Nat):Int):=by
 rw[fB (by omega) (by omega)];omega
theorem b76{b:On OP}(hb:b.length<1000000000){r:Rd}(hr:r.pos<=b.length):dR prog C (dD []) (dY [(6,[2,3,4])]) 76 [.ptr 0 0 0 0] ⟨1,Tr.nil.put 0 (.row 0 3 [r.cells b])⟩ λv0 S0=>v0=O J (aZ b r).1/\S0.heap.get 0=Ot (.row 0 3 [(aZ b r).2.cells b]):=by
 rw[t76];delta Tryz.f76;simp only[↓cw,↓Oo,Om,kk,Rd.cells,aA];by_cases he:r.err=0
 ·simp only[↓cw,↓Oo,Om,kk,he,Oy,Ou,OK];refine eH (λm vs X=>∃i acc:Nat,m=10 - i/\i<=9/\vs=[O J 0,.int ξ (acc:Int),O J (i:Int)]/\X.heap=Tr.nil.put 0 (Blk.row 0 3 [[V.imm (b.map fX),V.int Pm (r.pos:Int),V.int Pm 0]])/\acc<2 ^ (7*i)/\r.pos+i<=b.length/\Go.Pack.rdL i acc (b.drop (r.pos+i))=Go.Pack.rdL 0 0 (b.drop r.pos)) ?_ ⟨0,0,rfl,by omega,rfl,rfl,by decide,by omega,rfl⟩;rintro m vs ⟨nx,hp⟩ ⟨i,acc,rfl,hi,rfl,hX,ha,FG,pf⟩ aE gv;simp only at hX;subst hX;have hw:wr J ((r.pos:Int)+(i:Int))=((r.pos+i:Nat):Int):=by rw[fB (by omega) (by omega)];omega
  simp only[↓cw,↓Oo,Om,kk,aA,hw];by_cases hs:b.length<=r.pos+i
  ·simp only[↓cw,↓Oo,Om,kk,show((b.length:Int)<=((r.pos+i:Nat):Int))=UF by simp;omega,Oy];have hN:aZ b r=(0,⟨r.pos,3⟩):=by unfold aZ;rw[OE he,<-pf,QH hs];rfl
   rw[hN];exact⟨rfl,Ox _ _ _ trivial⟩
  ·obtain⟨c,hc⟩:∃c,b[r.pos+i]?=Ot c:=⟨_,OF (by omega)⟩;have hd:b.drop (r.pos+i)=c::b.drop (r.pos+(i+1)):=by
    obtain⟨hl,Ev⟩:=Oq.1 hc;rw[<-Ev];exact(Ts hl).symm
   rw[hd,aNh] at pf;have hN:aZ b r=(match Go.Pack.rdL 0 0 (b.drop r.pos) with
    | .ok (u,t)=>(Go.Pack.zag u,⟨b.length - t.length,0⟩)
    | .error e=>(0,⟨r.pos,e⟩)):=by unfold aZ;rw[OE he]<;>rfl
   rw[<-pf] at hN;have EE:(fX c)[0]?=Ot (.int ω (c.toNat:Int)):=rfl;by_cases yr:i=9/\1<c.toNat
   ·rw[OE yr] at hN;simp only[↓cw,↓Oo,Om,kk,show((b.length:Int)<=((r.pos+i:Nat):Int))=Sc by simp;omega,Ou,aL3 hc,EE,show((i:Int)=9)=UF by simp;omega,Oy,show((1:Int)<(c.toNat:Int))=UF by simp;omega];rw[hN];exact⟨rfl,Ox _ _ _ trivial⟩
   rw[Oz yr] at hN;obtain⟨q1,q2,q3,q4,q5⟩:=bHg hi ha yr;have np:wr ξ ((c.toNat % 128:Nat):Int)=((c.toNat % 128:Nat):Int):=aDc (by omega);have Iw:∀(A B:Prop),(if(i:Int)=9 then(if(1:Int)<(c.toNat:Int) then A else B) else B)=B:=by
    intro A B;split
    ·rw[Oz (by omega)]
    ·rfl
   simp only[↓cw,↓Oo,Om,kk,show((b.length:Int)<=((r.pos+i:Nat):Int))=Sc by simp;omega,Ou,aL3 hc,EE,Iw,bHf,aSp,np,i7i q5,bX7,sh7 q5 q1,orK,bHh ha q1 q2 q3,gM (show i<1000000000 by omega)];by_cases pe:128<=c.toNat
   ·rw[OE pe] at pf;rw[Oz (show¬(c.toNat:Int)<128 by omega)];exact gv (10 - (i+1)) _ _ (by omega) ⟨i+1,_,rfl,by omega,rfl,rfl,q4 (by omega),by omega,by rw[Oz yr] at pf;exact pf⟩
   rw[Oz pe] at hN;rw[OE (show(c.toNat:Int)<128 by omega)];by_cases h0:c.toNat=0/\0<i
   ·rw[OE h0] at hN;simp only[show((c.toNat:Int)=0)=UF by simp;omega,show((0:Int)<(i:Int))=UF by simp;omega,Oy];rw[hN];exact⟨rfl,Ox _ _ _ trivial⟩
   rw[Oz h0] at hN;have EF:∀(A B:Prop),(if(c.toNat:Int)=0 then(if(0:Int)<(i:Int) then A else B) else B)=B:=by
    intro A B;split
    ·rw[Oz (by omega)]
    ·rfl
   have hv:wr J (wr J ((r.pos:Int)+(i:Int))+1)=((b.length - (b.drop (r.pos+(i+1))).length:Nat):Int):=by
    have e:wr J ((r.pos:Int)+(i:Int))=((r.pos+i:Nat):Int):=by rw[fB (by omega) (by omega)];omega
    rw[e,fB (by omega) (by omega),PQ];omega
   generalize acc+c.toNat % 128*2 ^ (7*i)=u at *
   have wu:wr J ((u / 2:Nat):Int)=((u / 2:Nat):Int):=fB (by omega) (by omega);by_cases pg:u % 2=1
   ·have hz:Go.Pack.zag u=-((u / 2:Nat):Int) - 1:=by unfold Go.Pack.zag;rw[OE pg]
    simp only[↓cw,↓Oo,Om,kk,EF,hv,bA8,unK,bD5 q2,pg,aSq,bD6,wu,Yn,show wr J (1:Int)=1 from rfl,show wr J ((0:Int) - 1)=-1 from rfl,bQ1,bX6 (show u / 2<2 ^ 63 by omega)];rw[hN];exact⟨Qo (V.int J) hz.symm,Ox _ _ _ trivial⟩
   ·have hz:Go.Pack.zag u=((u / 2:Nat):Int):=by unfold Go.Pack.zag;rw[Oz pg]
    have h0:u % 2=0:=by omega
    simp only[↓cw,↓Oo,Om,kk,EF,hv,bA8,unK,bD5 q2,h0,aSq,bD6,wu,Int.natCast_zero,show wr J (0:Int)=0 from rfl,show wr J ((0:Int) - 0)=0 from rfl,bQ1,bX5 (show u / 2<2 ^ 63 by omega)];rw[hN];exact⟨Qo (V.int J) hz.symm,Ox _ _ _ trivial⟩
 ·simp only[↓cw,↓Oo,Om,kk,he,Oy,Ou,OL,aZ];trivial
theorem r76{b:On OP}(hb:b.length<1000000000){r:Rd}(hr:r.pos<=b.length):FRd 76 [] b r (O J (aZ b r).1) (aZ b r).2:=Sw bX4 (lv:=dY [(6,[2,3,4])]) (Rq rfl) (Rd.clo b r) (b76 hb hr) rfl (Rd.clo b _)
theorem bQ4:lS 159=Ot (.val (dD [])):=by kernel_rfl
theorem bX8:VT 159 Tryz.f159 [] []:=vt
theorem bQ5{b:On OP}(hb:b.length<1000000000){r:Rd}(hr:r.pos<=b.length)(lo hi:Int):FRd 159 [O J lo,O J hi] b r (O J (fO b lo hi r).1) (fO b lo hi r).2:=by
 refine Sw bQ4 (lv:=dY []) (Rq rfl) (Rd.clo b r) ?_ rfl (Rd.clo b _);rw[bX8];delta Tryz.f159;simp only[↓cw,↓Oo,Om,kk,Rd.cells,aA];refine Qw ((r76 hb hr).eq (Ox _ _ _ trivial) _) ?_;unfold fO;generalize aZ b r=x;obtain⟨n,p,e⟩:=x;simp only[↓cw,↓Oo,Om,kk,Rd.cells,aA];by_cases he:e=0
 ·by_cases h1:n<lo
  ·simp only[↓cw,↓Oo,Om,kk,he,h1,Oy,aA]
   first | exact⟨rfl,Ox _ _ _ trivial⟩ | exact Ox _ _ _ trivial
  ·by_cases h2:hi<n
   ·simp only[↓cw,↓Oo,Om,kk,he,h1,h2,Oy,Ou,aA]
    first | exact⟨rfl,Ox _ _ _ trivial⟩ | exact Ox _ _ _ trivial
   ·simp only[↓cw,↓Oo,Om,kk,he,h1,h2,Oy,Ou,aA]
    first | exact⟨rfl,Ox _ _ _ trivial⟩ | exact Ox _ _ _ trivial
 ·simp only[↓cw,↓Oo,Om,kk,he,Oy,Ou,aA]
  first | exact⟨rfl,Ox _ _ _ trivial⟩ | exact Ox _ _ _ trivial
theorem bQ6:lS 73=Ot (.val (dD [])):=by kernel_rfl
theorem t73:VT 73 Tryz.f73 [] []:=vt
theorem b73{b:On OP}(hb:b.length<1000000000){r:Rd}(hr:r.pos<=b.length)(most:Int):dR prog C (dD []) (dY []) 73 [.ptr 0 0 0 0,O J most] ⟨1,Tr.nil.put 0 (.row 0 3 [r.cells b])⟩ λv0 S0=>v0=O J (cB b most r).1/\S0.heap.get 0=Ot (.row 0 3 [(cB b most r).2.cells b]):=by
 rw[t73];delta Tryz.f73;simp only[↓cw,↓Oo,Om,kk,Rd.cells,aA];refine Qw ((bQ5 hb hr 0 most).eq (Ox _ _ _ trivial) _) ?_;have hp:=mA (lo:=0) (hi:=most) hr;unfold cB;generalize fO b 0 most r=x at hp|-
 obtain⟨n,p,e⟩:=x;simp only at hp;have hw:wr J ((b.length:Int) - (p:Int))=(b.length:Int) - (p:Int):=fB (by omega) (by omega);simp only[↓cw,↓Oo,Om,kk,Rd.cells,aA,hw];by_cases he:e=0
 ·by_cases h1:(b.length:Int) - (p:Int)<n
  ·simp only[↓cw,↓Oo,Om,kk,he,h1,Oy,aA,hw]
   first | exact⟨rfl,Ox _ _ _ trivial⟩ | exact Ox _ _ _ trivial
  ·simp only[↓cw,↓Oo,Om,kk,he,h1,Oy,Ou,aA,hw]
   first | exact⟨rfl,Ox _ _ _ trivial⟩ | exact Ox _ _ _ trivial
 ·simp only[↓cw,↓Oo,Om,kk,he,Oy,Ou,aA]
  first | exact⟨rfl,Ox _ _ _ trivial⟩ | exact Ox _ _ _ trivial
theorem r73{b:On OP}(hb:b.length<1000000000){r:Rd}(hr:r.pos<=b.length)(most:Int):FRd 73 [O J most] b r (O J (cB b most r).1) (cB b most r).2:=
 Sw bQ6 (lv:=dY []) (Rq rfl) (Rd.clo b r) (b73 hb hr most) rfl (Rd.clo b _)
theorem bX9:lS 77=Ot (.val (dD [])):=by kernel_rfl
theorem t77:VT 77 Tryz.f77 [] []:=vt
theorem r77{b:On OP}(hb:b.length<1000000000){r:Rd}(hr:r.pos<=b.length):FRd 77 [] b r (.bool (mF b r).1) (mF b r).2:=by
 refine Sw bX9 (lv:=dY []) (Rq rfl) (Rd.clo b r) ?_ rfl (Rd.clo b _);rw[t77];delta Tryz.f77;simp only[↓cw,↓Oo,Om,kk,Rd.cells,aA];refine Qw ((r76 hb hr).eq (Ox _ _ _ trivial) _) ?_;have zf:=aGd (b:=b) (r:=r);unfold mF;generalize aZ b r=x at zf|-
 obtain⟨n,p,e⟩:=x;simp only at zf;simp only[↓cw,↓Oo,Om,kk,Rd.cells,aA];by_cases he:e=0
 ·by_cases h1:n=0
  ·simp only[↓cw,↓Oo,Om,kk,he,h1,Oy,Ou,OK,aA,show((0:Int)=1)=Sc by simp,Rp]
   first | exact⟨rfl,Ox _ _ _ trivial⟩ | exact Ox _ _ _ trivial
  ·by_cases h2:n=1
   ·simp only[↓cw,↓Oo,Om,kk,he,h2,Oy,Ou,OK,OL,aA,show((1:Int)=0)=Sc by simp,Rk]
    first | exact⟨rfl,Ox _ _ _ trivial⟩ | exact Ox _ _ _ trivial
   ·simp only[↓cw,↓Oo,Om,kk,he,h1,h2,Oy,Ou,OK,OL,aA]
    first | exact⟨rfl,Ox _ _ _ trivial⟩ | exact Ox _ _ _ trivial
 ·simp only[↓cw,↓Oo,Om,kk,he,Oy,Ou,aA];exact⟨by rw[zf he];rfl,Ox _ _ _ trivial⟩
theorem bXa:lS 78=Ot (.val (dD [])):=by kernel_rfl
theorem t78:VT 78 Tryz.f78 [] []:=vt
theorem r78{b:On OP}{r:Rd}:FRd 78 [] b r (O J (lI b r).err) (lI b r):=by
 refine Sw bXa (lv:=dY []) (Rq rfl) (Rd.clo b r) ?_ rfl (Rd.clo b _);rw[t78];obtain⟨p,e⟩:=r;delta Tryz.f78;simp only[↓cw,↓Oo,Om,kk,Rd.cells,aA,lI];by_cases he:e=0
 ·by_cases h1:p<b.length
  ·simp only[↓cw,↓Oo,Om,kk,he,show((p:Int)<(b.length:Int))=UF by simp;exact h1,OE h1,Oy,aA];trivial
  ·simp only[↓cw,↓Oo,Om,kk,he,show((p:Int)<(b.length:Int))=Sc by simp;omega,Oz h1,Oy,Ou,aA];trivial
 ·simp only[↓cw,↓Oo,Om,kk,he,Oy,Ou,aA];trivial
theorem bXc:lS 74=Ot (.val (dD [])):=by kernel_rfl
theorem t74:VT 74 Tryz.f74 [] []:=vt
theorem r74{b:On OP}(hb:b.length<1000000000){r:Rd}(hr:r.pos<=b.length)(most:Int):FRd 74 [O J most] b r (.str (gV b most r).1) (gV b most r).2:=by
 refine Sw bXc (lv:=dY []) (Rq rfl) (Rd.clo b r) ?_ rfl (Rd.clo b _);rw[t74];delta Tryz.f74;simp only[↓cw,↓Oo,Om,kk,Rd.cells,aA];refine Qw ((bQ5 hb hr 0 most).eq (Ox _ _ _ trivial) _) ?_;have hp:=mA (lo:=0) (hi:=most) hr;have hk:=aBj (b:=b) (lo:=0) (hi:=most) (r:=r);unfold gV;generalize fO b 0 most r=x at hp hk|-
 obtain⟨n,p,e⟩:=x;simp only at hp hk;have hw:wr J ((b.length:Int) - (p:Int))=(b.length:Int) - (p:Int):=fB (by omega) (by omega);simp only[↓cw,↓Oo,Om,kk,Rd.cells,aA,hw];by_cases he:e=0
 ·obtain⟨k1,k2⟩:=hk he;obtain⟨m,rfl⟩:=Qx k1;by_cases h1:(b.length:Int) - (p:Int)<(m:Int)
  ·simp only[↓cw,↓Oo,Om,kk,he,h1,Oy,aA,hw,OK,Ou]
   first | exact⟨rfl,Ox _ _ _ trivial⟩ | exact Ox _ _ _ trivial
  ·have nc:wr J ((p:Int)+(m:Int))=((p+m:Nat):Int):=by rw[fB (by omega) (by omega)];omega
   simp only[↓cw,↓Oo,Om,kk,he,h1,Oy,Ou,OK,aA,hw,nc];have hm:((m:Int)).toNat=m:=by omega
   simp only[↓cw,↓Oo,Om,kk,bHi (show p+m<=b.length by omega),bPs,aA,nc,hm]
   first | exact⟨rfl,Ox _ _ _ trivial⟩ | exact Ox _ _ _ trivial
 ·simp only[↓cw,↓Oo,Om,kk,he,Oy,Ou,OL,aA]
  first | exact⟨rfl,Ox _ _ _ trivial⟩ | exact Ox _ _ _ trivial
theorem bXe:lS 75=Ot (.val (dD [])):=by kernel_rfl
theorem t75:VT 75 Tryz.f75 [] []:=vt
theorem r75{b:On OP}(hb:b.length<1000000000){r:Rd}(hr:r.pos<=b.length):FRd 75 [] b r (.agg (rM b r).1.enc) (rM b r).2:=by
 refine Sw bXe (lv:=dY []) (Rq rfl) (Rd.clo b r) ?_ rfl (Rd.clo b _);rw[t75];delta Tryz.f75;simp only[↓cw,↓Oo,Om,Pi,kk,Rd.cells,aA,nP];refine Qw ((r76 hb hr).eq (by repeat' first | exact gS | refine gN ?_) _) ?_;simp only[↓cw,↓Oo,Om,Pi,kk,Rd.cells,aA,nP];refine Qw ((r76 hb (aO hr)).eq (by repeat' first | exact gS | refine gN ?_) _) ?_;simp only[↓cw,↓Oo,Om,Pi,kk,Rd.cells,aA,nP];refine Qw ((r76 hb (aO (aO hr))).eq (by repeat' first | exact gS | refine gN ?_) _) ?_;simp only[↓cw,↓Oo,Om,Pi,kk,Rd.cells,aA,nP];exact⟨rfl,by repeat' first | exact gS | refine gN ?_⟩
end Go.Proofs.YtoaibmbldmckaaaGreat
end
section
namespace Go.AM
section
variable{P:OI}{pl:kA}
theorem FnR.cutU{f:PU}{p:Nat->Ow (On bY)}(bc:pl f=Ot (.val p)){lv:Nat->On Nat}{mk:Nat->On V}(hm:Pt mk){ver n:Nat}{ja pre post:On (On V)}{v:V}{c:Nat}
  (h:dR P (W P pl) p lv f (mk 0) ⟨1,Tr.nil.put 0 (.row ver n pre)⟩ λv0 S0=>v0=v/\S0.heap.get 0=Ot (.row ver n post)) (hv:nK v=OB) (hq:post.all Tl=OB) {S:St} {a:Nat} (hS:S.heap.get a=Ot (.row ver n ja))
  (h1:kU (iS S 3) ja=.ok pre) (h2:lK (iA S 3) ja=[c]) (BL:c≠a):∃h',(h'=S.heap\/h'=S.heap.cut c)/\∀K,W P pl f (mk a) S K=K v ⟨S.next,h'.put a (.row ver n post)⟩:=by
 obtain⟨v0,S0,g1,rfl,g2⟩:=jM aM8 h;refine⟨bif jG v0&&pK [(ver,n,post)] then S.heap else S.heap.cut c,by cases jG v0&&pK [(ver,n,post)]<;>simp,λK=>aF9 (lR (g1.one λk g1=>?_)) K⟩;simp only[fG,bc];obtain⟨q1,q2⟩:=fK (S:=S0) (n:=2) hq;unfold vG;rw[hm.ptr,hm.sls];have hA:([]++cZ S [a])=[c]:=by simp only[cZ,hS,h2,OS,Pp]
 have hB:(fF (jS (iA S0 3) S0) v0++cZ S0 (qH 0 1)).any (λa=>QI a 1)=false:=by
  simp only[qH,cZ,g2,q2,zG v0 hv,OS,SZ]
 have hC:([c].any λx=>iT x [a])=false:=by
  simp only[Yx,SZ,iT,Ul];exact Uq.2 λh=>BL (Qv h)
 rw[hA];simp only[hm.frz,gP,hS,h1,hC,QF,OQ,Pf,Px,vF,g1,mV v0 hv,hB,nR]
 have:gP S0 (qH 0 1)=.ok [(ver,n,post)]:=by simp only[qH,gP,g2,q1]
 rw[this];simp only[rQ,nR]
end
end Go.AM
namespace Go.Proofs.YtoaibmbldmckaaaGreat
open Go.AM Tryz
theorem c73{b:On OP}(hb:b.length<1000000000){r:Rd}(hr:r.pos<=b.length)(most:Int){S:St}{a c ver:Nat}(hc:S.heap.get c=Ot (.row ver 1 (b.map fX)))(hS:S.heap.get a=Ot (.row 0 3 [[.sl c ver 1 0 b.length,O J (r.pos:Int),O J r.err]]))(BL:c≠a):
  ∃h',(h'=S.heap\/h'=S.heap.cut c)/\∀K:KW,C 73 [.ptr a 0 0 0,O J most] S K=K (O J (cB b most r).1) (St.at ⟨S.next,h'⟩ a ((cB b most r).2.cells b)):=by
 have f1:cP kP (kV (iS S 2) S) (.sl c ver 1 0 b.length)=.ok (.imm (b.map fX)):=by
  have he:aK S (.sl c ver 1 0 b.length)=.ok (b.map fX):=by
   have:=aC8 hc (i:=b.length) (by rw[ON];omega)
   rw[this,QW (by rw[ON];omega)]
  simp only[cP,kV,he,(fK (S:=S) (n:=1) (aU (enc:=fX) (λ_=>rfl) b)).1]
 have f2:fF (jS (iA S 2) S) (.sl c ver 1 0 b.length)=[c]:=by
  have he:aK S (.sl c ver 1 0 b.length)=.ok (b.map fX):=by
   have:=aC8 hc (i:=b.length) (by rw[ON];omega)
   rw[this,QW (by rw[ON];omega)]
  simp only[fF,jS,he,(fK (S:=S) (n:=1) (aU (enc:=fX) (λ_=>rfl) b)).2]
 have e1:iS S 3 [.sl c ver 1 0 b.length,O J (r.pos:Int),O J r.err]=.ok (r.cells b):=by
  show Sm kP (kV (iS S 2) S) [_,_,_]=_;simp only[Sm,f1];rfl
 have e2:iA S 3 [.sl c ver 1 0 b.length,O J (r.pos:Int),O J r.err]=[c]:=by
  show slsVs (jS (iA S 2) S) [_,_,_]=_;simp only[slsVs,f2];rfl
 exact FnR.cutU (mk:=λa=>[.ptr a 0 0 0,O J most]) bQ6 (lv:=dY []) (Rq rfl) (pre:=[r.cells b]) (b73 hb hr most) rfl (Rd.clo b _) hS (by simp only[kU,e1]) (by simp only[lK,e2];rfl) BL
theorem bXg{b:On OP}(hb:b.length<1000000000){S:St}(w:WF S){K:KW}
  (H:∀a T,Ext S T->S.next<=a->a<T.next->(∃z,T.heap.get a=Ot (.row 0 3 [z]))->(∀T',Ext T T'->∀most,∃Y:St,Y.next=T'.next/\WF Y/\(∀y,y<S.next\/T.next<=y->Y.heap.get y=T'.heap.get y)/\∀(K':KW),C 73 [.ptr a 0 0 0,O J most] T' K'=K' (O J (cB b most ⟨0,0⟩).1) (St.at Y a ((cB b most ⟨0,0⟩).2.cells b)))->K (.ptr a 0 0 0) T):C 72 [.imm (b.map fX)] S K:=by
 refine v72 ?_;have h1:(0+b.length)*1<=35184372088832:=by omega
 have h2:0+b.length<eG:=by unfold eG;omega
 obtain⟨a1,a2⟩:=cU (n:=1) (es:=b.map fX) (λc hc=>by obtain⟨x,_,rfl⟩:=Pv.1 hc;exact u81 x);have q0:cX 1 [V.int RR 0] 0 [] OG S=.ok (.sl S.next 0 1 0 0,⟨S.next+1,S.heap.put S.next (.row 0 1 [])⟩):=by
  unfold cX;rw[OE (by decide)];simp only[PT,aA8,dX]
 have q:eC 1 1 (.sl S.next 0 1 0 0) (.imm (b.map fX)) OG ⟨S.next+1,S.heap.put S.next (.row 0 1 [])⟩=.ok (.sl S.next 1 1 0 b.length,⟨S.next+1,(S.heap.put S.next (.row 0 1 [])).put S.next (.row 1 1 (b.map fX))⟩):=by
  have he:aK ⟨S.next+1,S.heap.put S.next (.row 0 1 [])⟩ (.imm (b.map fX))=.ok (b.map fX):=rfl;simp only[eC,he,a1,a2,and_self,Oy,aA,Pf,ON,QT,Ov,h1,h2,true_and,List.drop_nil,List.take_nil,Pp,Px];rw[OE ⟨by omega,by omega⟩]
 delta Tryz.f72;simp only[↓cw,↓Oo,Om,kk,q0,q];have x1:Ext S ⟨S.next+1,(S.heap.put S.next (.row 0 1 [])).put S.next (.row 1 1 (b.map fX))⟩:=(Rg w _).put (Ov _) (Qb _) (Ov _) w _;have x2:=Rg (x1.wf w) (.row 0 3 [[.sl S.next 1 1 0 b.length,O J 0,O J 0]]);refine H _ _ (x1.trans x2) (PX _) (Qb _) ⟨_,Ox _ _ _ trivial⟩ λT' x most=>?_;have hc:T'.heap.get S.next=Ot (.row 1 1 (b.map fX)):=x.old _ _ (x2.old _ _ (Ox _ _ _ trivial));have hS:T'.heap.get (S.next+1)=Ot (.row 0 3 [[.sl S.next 1 1 0 b.length,O J (((⟨0,0⟩:Rd).pos:Nat):Int),O J (⟨0,0⟩:Rd).err]]):=x.old _ _ (Ox _ _ _ trivial);obtain⟨h',hh,hK⟩:=c73 hb (r:=⟨0,0⟩) (PS _) most hc hS (by omega);have hg:∀y,y≠S.next->h'.get y=T'.heap.get y:=by
  intro y hy;rcases hh with rfl | rfl
  ·rfl
  ·rw[WB,Oz hy]
 refine⟨⟨T'.next,h'⟩,rfl,?_,λy hy=>hg y ?_,hK⟩
 ·intro y d hy;have wT:=x.wf (x2.wf (x1.wf w));rcases hh with rfl | rfl
  ·exact wT y d hy
  ·have hy:(T'.heap.cut S.next).get y=Ot d:=hy;rw[WB] at hy;split at hy
   ·cases hy
   ·exact wT y d hy
 ·rcases hy with hy | hy
  ·omega
  ·have hy:S.next+1+1<=y:=hy;omega
end Go.Proofs.YtoaibmbldmckaaaGreat
end
