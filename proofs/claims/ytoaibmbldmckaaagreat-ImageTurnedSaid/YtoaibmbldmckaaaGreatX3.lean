import Derived.Test.YtoaibmbldmckaaaGreatX2
set_option linter.unusedSimpArgs false
set_option linter.unusedVariables false
set_option linter.unusedSectionVars false
set_option maxRecDepth 100000
open Go.AM.V renaming int→O
open Nat renaming reduceLT→Om,le_refl→Ov,beq→Pw,zero_add→Px,zero_le→PS,le_succ→PX,lt_succ_self→Qb,sub_self→Qt,eq_of_beq_eq_true→Qv,le_trans→QC,blt→QI,add_zero→QT,ble→Ru,lt_of_lt_of_le→RE,ble_eq_true_of_le→RK,succ_pos→Tv,zero_lt_one→TV,le_add_right→UT,le_of_ble_eq_true→Xe
open _root_ renaming List→On,reduceIte→Oo,if_false→Ou,Option→Ow,if_true→Oy,if_neg→Oz,if_pos→OE,not_true_eq_false→OK,not_false_eq_true→OL,UInt8→OP,congrFun→OR,Bool→Ps,decide_eq_true_eq→PB,cond_true→PW,decide_true→Rk,decide_false→Rp,DecidableEq→Rw,of_decide_eq_true→RH,ne_eq→SI,True→UF,eq_comm→VY
open List renaming getElem?_eq_some_iff→Oq,length_append→OC,getElem?_eq_getElem→OF,mem_of_getElem?→OM,length_map→ON,length_cons→OQ,append_nil→OS,getElem?_map→Pc,append_assoc→Pd,getElem?_append_right→Pe,length_nil→Pf,getD_eq_getElem?_getD→Pl,nil_append→Pp,getElem?_append_left→Pr,mem_cons→Pu,mem_map→Pv,map_nil→Py,cons_append→PJ,map_append→PK,mem_or_eq_of_mem_set→PN,getElem?_drop→PP,length_drop→PQ,mem_singleton→PR,replicate→PT,length_take→PY,map_cons→Qd,mem_append→Qf,length_set→Qm,drop_eq_getElem_cons→QV,getElem?_eq_none→Re,drop_zero→Rh,getElem?_set_self→Rr,range→RC,eq_of_mem_replicate→RG,map_set→RM,map_take→Se,set_append_right→Sn,all_cons→SR,mem_map_of_mem→Tb,drop_length→Tf,take_succ_cons→Vi,take_succ_eq_append_getElem→Vl,getElem_mem→Vt,set_cons_zero→VJ,set_set→VZ,length_eq_zero_iff→WI,singleton_append→Xb,map_drop→Yt
open Option renaming some→Ot,none→OG,map_some→Rv,getD_some→Xy
open Go.AM renaming Tr.get_put_sameB→Ox,Tr.get_put_neB→OJ,Own.nil→Rf,Ext.new→Rg,Pt.head→Rq,frzVs→Sm,FnR.of→Sw,cloVs→Tl,Ext.refl→Tm,V.cells→Ur,Ext.var→Wo,Pt.next→Xg
open Bool renaming false→OA,true→OB,false_eq_true→OO,and_eq_true→OU,true_eq_false→Pq,and_self→QG,and_true→QQ,or_eq_true→Ra,true_and→Rn
open Go renaming TypeId→OH,Program→OI,FuncId→PU,IntKind→Qa
open BitVec renaming ofInt→OX
open Int renaming lt_irrefl→OZ,toNat_natCast→Pn,reduceEq→Ui,natCast_zero→Wz
open Go.IntKind renaming i64→Pm,u64→PH,i64→J,u64→ξ
open Option.some renaming injEq→Qy,inj→Qz
open Go.Utf8 renaming decode→QZ
open Ne renaming symm→SJ
open Except renaming ok→TO
section
namespace Go.Proofs.YtoaibmbldmckaaaGreat
open Go.AM Tryz
def aKm(y:Int):Bool:=if y.tmod 4=0 then(if y.tmod 100=0 then decide (y.tmod 400=0) else OB) else OA
def gB(y m:Int):Int:=if m=2 then(if aKm y=OB then 29 else 28) else if m=4\/m=6\/m=9\/m=11 then 30 else 31
structure Date where
 y:Int
 m:Int
 d:Int
deriving Rw
def Date.enc(d:Date):On V:=[O J d.y,O J d.m,O J d.d]
def Date.right(d:Date):Bool:=decide (1<=d.y)&&(decide (d.y<=9999)&&(decide (1<=d.m)&&(decide (d.m<=12)&&(decide (1<=d.d)&&decide (d.d<=gB d.y d.m)))))
def ahead(y:Int):Int:=
 wr J (wr J (wr J (wr J (365*wr J (y - 1))+wr J ((wr J (y - 1)).tdiv 4)) - wr J ((wr J (y - 1)).tdiv 100))+wr J ((wr J (y - 1)).tdiv 400))
def jT(y:Int)(n:Int)(i:Nat):Int⊕Int:=.inr (wr J (n+gB y ((i:Int)+1)))
def Date.days(d:Date):Int:=if d.right=OB then wr J (wr J (aD (jT d.y) id (RC (d.m - 1).toNat) (ahead d.y)+d.d) - 1) else -1
def Date.before(a b:Date):Bool:=a.right&&(b.right&&decide (a.days<b.days))
def dH(a b:Int):Int×Int:=
 if(0<b/\wr J (9223372036854775807 - b)<a)\/(b<0/\a<wr J (-9223372036854775808 - b)) then(0,7) else(wr J (a+b),0)
def cM(a b:Int):Int×Int:=
 if(b<0/\wr J (9223372036854775807+b)<a)\/(0<b/\a<wr J (-9223372036854775808+b)) then(0,7) else(wr J (a - b),0)
def dU(r:Int×Int):V:=.tup [O J r.1,O J r.2]
def aH3(n:Int):Int:=wr ξ ((OX PH.bits (if PH.signed then -1 else PH.max) ^^^ OX PH.bits n).toNat)
def sI(n:Int):Int:=if n<0 then wr ξ (aH3 (wr ξ n)+1) else wr ξ n
def aE3(n:Int)(neg:Ps):Int×Bool:=
 if neg=OB then(wr J (wr ξ (aH3 n+1)),decide (n<=9223372036854775808)) else(wr J n,decide (n<=9223372036854775807))
def aPd(a b:Int):Int×Int:=
 if 0<sI b/\wr ξ ((9223372036854775808:Int).tdiv (sI b))<sI a then(0,7) else
  let r:=aE3 (wr ξ (sI a*sI b)) (!(decide (a<0) == decide (b<0)))
  if r.2=OB then(r.1,0) else(0,7)
def bC(n bp:Int):Int×Int:=
 if bp<0\/100000<bp then(0,1) else
  let u:=sI n
  let p:=wr ξ bp
  let many:=wr ξ (u.tdiv 10000)
  let rest:=u.tmod 10000
  if 0<p/\wr ξ ((9223372036854775807:Int).tdiv p)<many then(0,7) else
   let out:=wr ξ (wr ξ (many*p)+wr ξ ((wr ξ (wr ξ (wr ξ (2*rest)*p)+10000)).tdiv (wr ξ (2*10000))))
   if 9223372036854775807<out then(0,7) else if n<0 then(wr J (0 - wr J out),0) else(wr J out,0)
theorem aFg:wr ξ (2*10000)=20000:=by decide
theorem bI4:wr ξ 10000=10000:=by decide
def oO(r:Int):Bool:=
 if(97<=r/\r<=122)\/(65<=r/\r<=90) then OB else if r=215 then OA else if r=247 then OA else decide (192<=r)&&decide (r<=591)
def oH(s:On OP):Nat->Nat->On (Nat×Nat)
 | 0,_=>[]
 | f+1,pos=>if pos<s.length then(pos,(QZ ⟨⟨s⟩⟩ pos).1)::oH s f (pos+(QZ ⟨⟨s⟩⟩ pos).2) else[]
theorem aMh(s:ByteArray)(i:Nat):1<=(QZ s i).2:=by
 unfold QZ;simp only
 repeat' split
 all_goals simp
def pQ(_:Unit)(x:Nat×Nat):Ps⊕Unit:=
 if oO x.2=OB then .inr () else if x.1=0 then .inl OA else if(48<=x.2/\x.2<=57)\/x.2=45\/x.2=95\/x.2=46 then .inr () else .inl OA
def dV(s:On OP):Bool:=if s.length<1 then OA else if 24<s.length then OA else aD pQ (λ_=>OB) (oH s s.length 0) ()
structure Rate where
 cat:On OP
 day:Date
 bp:Int
deriving Rw
def Rate.enc(r:Rate):On V:=[.str r.cat,O J r.day.y,O J r.day.m,O J r.day.d,O J r.bp]
def uX(r:Rate):Int:=if dV r.cat=OA then 8 else if r.day.right=OA then 9 else if r.bp<0 then 10 else if 100000<r.bp then 10 else 0
def fW(a b:Rate):Bool:=if iL a.cat b.cat=OB then OB else if(a.cat == b.cat)=OB then a.day.before b.day else OA
def iD(prev:Ow Rate)(r:Rate):Ps⊕Ow Rate:=
 if uX r≠0 then .inl OA else match prev with
  | none=>.inr (Ot r)
  | some p=>if fW p r=OB then .inr (Ot r) else .inl OA
def fL(l:On Rate):Bool:=if 24<l.length then OA else aD iD (λ_=>OB) l OG
def cO{α:Type}(l:On α)(i:Nat):Ow α:=if i=0 then OG else l[i - 1]?
structure Rep where
 why:Int
 number:Int
 gross:Int
deriving Rw
structure Sess where
 id:Int
 last:Int
 reply:Rep
deriving Rw
def Rep.enc(r:Rep):On V:=[O J r.why,O J r.number,O J r.gross]
def Sess.enc(s:Sess):On V:=[O J s.id,O J s.last,O J s.reply.why,O J s.reply.number,O J s.reply.gross]
def Rep.zero:Rep:=⟨0,0,0⟩
def gC(last:Int)(s:Sess):Ps⊕Int:=
 if s.id<=last then .inl OA else if s.last<0 then .inl OA else if 1099511627776<s.last then .inl OA else if s.last=0/\s.reply≠Rep.zero then .inl OA else .inr s.id
def gD(l:On Sess):Bool:=if 8<l.length then OA else aD gC (λ_=>OB) l 0
def dB{α:Type}(p:α->Ps)(n:Nat)(a:α):Int⊕Nat:=if p a=OB then .inl (n:Int) else .inr (n+1)
def ixM{α:Type}(p:α->Ps)(l:On α):Int:=aD (dB p) (λ_=>-1) l 0
theorem aI8{α:Type}(p:α->Ps):∀(l:On α) (n:Nat),(aD (dB p) (λ_=>-1) l n=-1)\/∃(i:Nat) (a:α),aD (dB p) (λ_=>-1) l n=((n+i:Nat):Int)/\l[i]?=Ot a/\p a=OB
 | [],n=>.inl rfl
 | a::l,n=>by
  by_cases h:p a=OB
  ·refine .inr ⟨0,a,?_,rfl,h⟩;simp[aD,dB,h]
  ·rcases aI8 p l (n+1) with h1 | ⟨i,b,h1,h2,h3⟩
   ·left;simp[aD,dB,h,h1]
   ·right
    refine⟨i+1,b,?_,by simpa using h2,h3⟩;simp only[aD,dB,h,Ou];simp only[h1,OO,Ou];omega
theorem jU{α:Type}(p:α->Ps)(l:On α):(ixM p l=-1)\/∃(i:Nat) (a:α),ixM p l=(i:Int)/\l[i]?=Ot a/\p a=true:=by
 rcases aI8 p l 0 with h | ⟨i,a,h1,h2,h3⟩
 ·exact .inl h
 ·exact .inr ⟨i,a,by rw[ixM,h1];simp,h2,h3⟩
def jN(l:On Sess)(id:Int):Int:=ixM (λs:Sess=>decide (s.id=id)) l
def cS(l:On Sess)(id seq:Int):Rep×Ps×Int:=
 if gD l=OA then(Rep.zero,OA,1) else if jN l id<0 then(Rep.zero,OA,15) else if seq<1\/1099511627776<seq then(Rep.zero,OA,1) else
  match l[(jN l id).toNat]? with
  | none=>(Rep.zero,OA,1)
  | some s=>if seq=s.last then(s.reply,OB,0) else if seq<s.last then(Rep.zero,OA,16) else(Rep.zero,OA,0)
theorem mK{l:On Sess}(h:gD l=OB):l.length<=8:=by
 unfold gD at h;split at h
 ·cases h
 ·omega
theorem lT(l:On Sess)(id:Int):jN l id=-1\/∃(i:Nat) (s:Sess),jN l id=(i:Int)/\l[i]?=Ot s/\s.id=id:=by
 rcases jU (λs:Sess=>decide (s.id=id)) l with h | ⟨i,s,h1,h2,h3⟩
 ·exact .inl h
 ·exact .inr ⟨i,s,h1,h2,RH h3⟩
def gE{α:Type}(p:α->Ps)(n:Nat)(a:α):Nat⊕Nat:=if p a=OB then .inr (n+1) else .inl n
def pR{α:Type}(p:α->Ps)(l:On α):Nat:=aD (gE p) id l 0
theorem aI9{α:Type}(p:α->Ps):∀(l:On α) (n:Nat),aD (gE p) id l n<=n+l.length
 | [],n=>by simp[aD]
 | a::l,n=>by
  have ih:=aI9 p l (n+1);by_cases h:p a=OB
  ·simp only[aD,gE,h,Oy,OQ];omega
  ·simp only[aD,gE,h,Ou,OQ,OO];omega
theorem aE4{α:Type}(p:α->Ps)(l:On α):pR p l<=l.length:=by have:=aI9 p l 0;simp only[pR];omega
def fU{α:Type}(l:On α)(i:Nat)(a:α):On α:=l.take i++a::l.drop i
theorem sJ{α β:Type}(f:α->β)(l:On α)(i:Nat)(a:α):(fU l i a).map f=(l.map f).take i++f a::(l.map f).drop i:=by simp[fU,Se,Yt]
def oI(l:On Sess)(id:Int):On Sess×Int:=
 if gD l=OA\/id<1 then([],1) else if 0<=jN l id then([],12) else if 8<=l.length then([],14) else(fU l (pR (λs=>decide (s.id<id)) l) ⟨id,0,Rep.zero⟩,0)
def zJ{α:Type}(l:On α)(i:Nat):On α:=l.take i++l.drop (i+1)
theorem aPe{α β:Type}(f:α->β)(l:On α)(i:Nat):(zJ l i).map f=(l.map f).take i++(l.map f).drop (i+1):=by simp[zJ,Se,Yt]
def jA(l:On Sess)(id:Int):On Sess×Int:=
 if gD l=OA then([],1) else if jN l id<0 then([],11) else(zJ l (jN l id).toNat,0)
def mD(l:On Sess)(id seq:Int)(r:Rep):On Sess×Int:=
 if(cS l id seq).2.2≠0 then([],(cS l id seq).2.2) else if(cS l id seq).2.1=OB then([],12) else
  match l[(jN l id).toNat]? with
  | none=>([],0)
  | some s=>(l.set (jN l id).toNat ⟨s.id,seq,r⟩,0)
theorem aFh{l:On Sess}{id seq:Int}(h:(cS l id seq).2.2=0):gD l=OB/\∃(i:Nat) (s:Sess),jN l id=(i:Int)/\l[i]?=Ot s:=by
 unfold cS at h;split at h
 ·cases h
 ·rename_i hr;have hr:gD l=true:=by simpa using hr
  split at h
  ·cases h
  ·rcases lT l id with h' | ⟨i,s,h1,h2,_⟩
   ·omega
   ·exact⟨hr,i,s,h1,h2⟩
structure Ser where
 name:On OP
 next:Int
 limit:Int
 shut:Ps
deriving Rw
def Ser.enc(s:Ser):On V:=[.str s.name,O J s.next,O J s.limit,.bool s.shut]
def cD(l:On Ser)(name:On OP):Int:=ixM (λs:Ser=>s.name == name) l
theorem jO(l:On Ser)(name:On OP):cD l name=-1\/∃(i:Nat) (s:Ser),cD l name=(i:Int)/\l[i]?=Ot s/\s.name=name:=by
 rcases jU (λs:Ser=>s.name == name) l with h | ⟨i,s,h1,h2,h3⟩
 ·exact .inl h
 ·exact .inr ⟨i,s,h1,h2,by simpa using h3⟩
def mL(s:Ser):Bool:=decide (s.limit<1)||(decide (1099511627776<s.limit)||(decide (s.next<1)||decide (wr J (s.limit+1)<s.next)))
def nL(prev:Ow Ser)(s:Ser):Bool:=match prev with
 | none=>OA
 | some p=>!iL p.name s.name
def lU(prev:Ow Ser)(s:Ser):Ps⊕Ow Ser:=
 if dV s.name=OA then .inl OA else if nL prev s=OB then .inl OA else if mL s=OB then .inl OA else .inr (Ot s)
def mM(l:On Ser):Bool:=if 8<l.length then OA else aD lU (λ_=>OB) l OG
theorem pS{l:On Ser}(h:mM l=OB):l.length<=8:=by
 unfold mM at h;split at h
 ·cases h
 ·omega
def kK(l:On Ser)(name:On OP):Int×Int:=
 if mM l=OA then(0,1) else if cD l name<0 then(0,11) else match l[(cD l name).toNat]? with
  | none=>(0,1)
  | some s=>if s.shut=OB then(0,13) else(cD l name,0)
theorem aB2{l:On Ser}{name:On OP}(h:(kK l name).2=0):mM l=OB/\∃(i:Nat) (s:Ser),kK l name=((i:Int),0)/\cD l name=(i:Int)/\l[i]?=Ot s/\s.name=name/\s.shut=false:=by
 unfold kK at h;split at h
 ·cases h
 ·rename_i hr;have hr:mM l=true:=by simpa using hr
  split at h
  ·cases h
  ·rename_i NN;rcases jO l name with h' | ⟨i,s,h1,h2,h3⟩
   ·omega
   ·rw[h1] at h;simp only[Pn,h2] at h;split at h
    ·cases h
    ·rename_i Lf;refine⟨hr,i,s,?_,h1,h2,h3,by simpa using Lf⟩;unfold kK;rw[Oz (by rw[hr];simp),Oz NN,h1];simp only[Pn,h2,Oz Lf]
def sK(l:On Ser)(name:On OP):On Ser×Int:=
 if(kK l name).2≠0 then([],(kK l name).2) else match l[(kK l name).1.toNat]? with
  | none=>([],0)
  | some s=>(l.set (kK l name).1.toNat { s with shut:=OB },0)
def dI(l:On Ser)(name:On OP):On Ser×Int×Int:=
 if(kK l name).2≠0 then([],0,(kK l name).2) else match l[(kK l name).1.toNat]? with
  | none=>([],0,0)
  | some s=>if s.limit<s.next then([],0,14) else(l.set (kK l name).1.toNat { s with next:=wr J (s.next+1) },s.next,0)
def gX(l:On Ser)(name:On OP)(limit:Int):On Ser×Int:=
 if mM l=OA then([],1) else if dV name=OA then([],8) else if limit<1\/1099511627776<limit then([],1) else if 0<=cD l name then([],12) else if 8<=l.length then([],14) else
  (fU l (pR (λs=>iL s.name name) l) ⟨name,1,limit,OA⟩,0)
def Ser.zero:Ser:=⟨[],0,0,OA⟩
def mW(l:On Ser)(name:On OP):Ser×Bool:=match (if cD l name<0 then OG else l[(cD l name).toNat]?) with
 | none=>(Ser.zero,OA)
 | some s=>(s,OB)
def lV(cat:On OP)(d:Date)(st:Int×Ps)(r:Rate):(Int×Ps)⊕(Int×Ps):=.inr (if(r.cat == cat)=OB/\d.before r.day=OA then(r.bp,OB) else st)
def kL(l:On Rate)(cat:On OP)(d:Date):Int×Bool:=if fL l=OA then(0,OA) else if d.right=OA then(0,OA) else aD (lV cat d) id l (0,OA)
theorem zK{l:On Rate}(h:fL l=OB):l.length<=24:=by
 unfold fL at h;split at h
 ·cases h
 ·omega
def mX(r:Rate)(k:Nat)(x:Rate):Ow Nat⊕Nat:=
 if(x.cat == r.cat)=OB/\x.day=r.day then .inl OG else .inr (if fW x r=OB then k+1 else k)
def jV(l:On Rate)(r:Rate):On Rate×Int:=
 if fL l=OA then([],1) else if uX r≠0 then([],uX r) else match aD (mX r) Ot l 0 with
  | none=>([],12)
  | some k=>if 24<=l.length then([],2) else(fU l k r,0)
structure Bal where
 acc:On OP
 amount:Int
deriving Rw
def Bal.enc(b:Bal):On V:=[.str b.acc,O J b.amount]
structure Part where
 cat:On OP
 bp:Int
 net:Int
 tax:Int
deriving Rw
def Part.enc(p:Part):On V:=[.str p.cat,O J p.bp,O J p.net,O J p.tax]
structure Total where
 net:Int
 tax:Int
 gross:Int
 parts:On Part
deriving Rw
def vV(prev:Ow Bal)(b:Bal):Ps⊕Ow Bal:=match prev with
 | none=>.inl OA
 | some p=>if iL p.acc b.acc=OB then .inr (Ot b) else .inl OA
def yI(l:On Bal):Bool:=aD vV (λ_=>OB) (l.drop 1) l[0]?
def zL:On UInt8:=[110,101,116,47]
def zM:On UInt8:=[116,97,120,47]
def kQ(l:On Bal)(p:Part):(On Bal×Int)⊕On Bal:=
 if(cM 0 p.net).2≠0 then .inl ([],7) else if(cM 0 p.tax).2≠0 then .inl ([],7) else .inr (l++[⟨zL++p.cat,(cM 0 p.net).1⟩,⟨zM++p.cat,(cM 0 p.tax).1⟩])
def bQ(t:Total):On Bal×Int:=aD kQ (λl=>(l,0)) t.parts [⟨[111,119,101,100],t.gross⟩]
theorem aMi:∀(l:On Part) (a:On Bal) (r:On Bal×Int),aD kQ (λl=>(l,0)) l a=r->r.2=0->r.1.length=a.length+2*l.length
 | [],a,r,h,_=>by subst h;simp[aD]
 | p::l,a,r,h,h0=>by
  simp only[aD,kQ] at h;split at h
  ·rename_i r' he;split at he
   ·cases he;subst h;cases h0
   ·split at he
    ·cases he;subst h;cases h0
    ·cases he
  ·rename_i s' he;split at he
   ·cases he
   ·split at he
    ·cases he
    ·cases he
     have:=aMi l _ r h h0
     simp only[OC,OQ,Pf] at this|-
     omega
theorem aIa{α:Type}(l:On α)(i:Nat)(a:α)(h:i<=l.length):(fU l i a)[i]?=Ot a:=by
 unfold fU;rw[Pe (by rw[PY];omega),PY,Nat.min_eq_left h,Qt];rfl
theorem pC{α:Type}(l:On α)(i:Nat)(a:α)(h:i<=l.length):(fU l i a).length=l.length+1:=by
 simp only[fU,OC,PY,OQ,PQ];omega
def aM(l:On Bal)(acc:On OP):Nat:=pR (λb=>iL b.acc acc) l
def gY(l:On Bal)(acc:On OP):Bool:=match l[aM l acc]? with
 | none=>OB
 | some b=>!(b.acc == acc)
def bX(l:On Bal)(acc:On OP):On Bal:=if gY l acc=OB then fU l (aM l acc) ⟨acc,0⟩ else l
def bN(l:On Bal)(x:Bal):(On Bal×Int)⊕On Bal:=match (bX l x.acc)[aM l x.acc]? with
 | none=>.inl ([],0)
 | some b=>if(dH b.amount x.amount).2≠0 then .inl ([],(dH b.amount x.amount).2) else .inr ((bX l x.acc).set (aM l x.acc) ⟨b.acc,(dH b.amount x.amount).1⟩)
def aV(book l:On Bal):On Bal×Int:=if yI book=OA then([],1) else aD bN (λl=>(l,0)) l book
theorem qW(l:On Bal)(acc:On OP):aM l acc<=l.length:=aE4 _ _
theorem rC(l:On Bal)(acc:On OP):∃b,(bX l acc)[aM l acc]?=Ot b:=by
 unfold bX;split
 ·exact⟨_,aIa _ _ _ (qW l acc)⟩
 ·rename_i h;unfold gY at h;split at h
  ·exact absurd rfl h
  ·rename_i b hb;exact⟨b,hb⟩
theorem aCu(l:On Bal)(acc:On OP):(bX l acc).length<=l.length+1:=by
 unfold bX;split
 ·rw[pC _ _ _ (qW l acc)];exact Ov _
 ·omega
theorem tW(l:On Bal)(x:Bal):bN l x=if(dH ((bX l x.acc)[aM l x.acc]?.map (·.amount) |>.getD 0) x.amount).2≠0 then .inl ([],(dH ((bX l x.acc)[aM l x.acc]?.map (·.amount) |>.getD 0) x.amount).2)
  else .inr ((bX l x.acc).set (aM l x.acc) ⟨((bX l x.acc)[aM l x.acc]?.map (·.acc) |>.getD []),(dH ((bX l x.acc)[aM l x.acc]?.map (·.amount) |>.getD 0) x.amount).1⟩):=by
 obtain⟨b,hb⟩:=rC l x.acc;unfold bN;simp only[hb,Rv,Xy]
theorem aH4{l l':On Bal}{x:Bal}(h:bN l x=.inr l'):l'.length<=l.length+1:=by
 rw[tW] at h;split at h
 ·cases h
 ·cases h;rw[Qm];exact aCu l x.acc
theorem aFi:∀(l:On Bal) (a:On Bal) (r:On Bal×Int),aD bN (λl=>(l,0)) l a=r->r.1.length<=a.length+l.length
 | [],a,r,h=>by subst h;simp[aD]
 | x::l,a,r,h=>by
  simp only[aD] at h;split at h
  ·rename_i r' he;subst h;rw[tW] at he;split at he
   ·cases he;simp
   ·cases he
  ·rename_i s' he;have h1:=aH4 he
   have:=aFi l _ r h
   simp only[OQ];omega
def dE(n:Int):On V:=[O J n]
theorem aU6(n:Int):0<=wr ξ n/\wr ξ n<18446744073709551616:=by
 unfold wr lo hi;simp only;split
 ·omega
 ·show 0<=n % 18446744073709551616/\n % 18446744073709551616<18446744073709551616;omega
theorem bNq:aH3 0=18446744073709551615:=by decide
def xH(st:Int×Int)(n:Int):(Int×Ps)⊕(Int×Int):=
 .inr ((st.1+(if n<0 then 18446744073709551615 else 0)+(st.2+wr ξ n+0) / 18446744073709551616) % 18446744073709551616,(st.2+wr ξ n+0) % 18446744073709551616)
def vW(st:Int×Int):Int×Bool:=(wr J st.2,if st.2.fdiv (2 ^ 63)=0 then decide (st.1=0) else decide (st.1=18446744073709551615))
def cI(l:On Int):Int×Bool:=aD xH vW l (0,0)
structure Line where
 text:On OP
 cat:On OP
 count:Int
 price:Int
deriving Rw
def Line.enc(l:Line):On V:=[.str l.text,.str l.cat,O J l.count,O J l.price]
def iE(tab:On Rate)(d:Date)(l:Line):Int×Int×Int:=
 if 64<l.text.length then(0,0,2) else if dV l.cat=OA then(0,0,8) else if l.count<1\/1048576<l.count then(0,0,1) else
  if(kL tab l.cat d).2=OA then(0,0,10) else((kL tab l.cat d).1,(aPd l.count l.price).1,(aPd l.count l.price).2)
def aYr(r:Int×Int×Int):V:=.tup [O J r.1,O J r.2.1,O J r.2.2]
def cA(l:On Part)(cat:On OP):Nat:=pR (λp=>iL p.cat cat) l
def lW(l:On Part)(cat:On OP):Bool:=match l[cA l cat]? with
 | none=>OB
 | some b=>!(b.cat == cat)
def eD(l:On Part)(cat:On OP)(bp:Int):On Part:=if lW l cat=OB then fU l (cA l cat) ⟨cat,bp,0,0⟩ else l
def uY(l:On Part)(cat:On OP)(bp n:Int):On Part×Int:=match (eD l cat bp)[cA l cat]? with
 | none=>([],0)
 | some p=>((eD l cat bp).set (cA l cat) { p with net:=(dH p.net n).1 },(dH p.net n).2)
theorem tX(l:On Part)(cat:On OP):cA l cat<=l.length:=aE4 _ _
theorem tY(l:On Part)(cat:On OP)(bp:Int):∃b,(eD l cat bp)[cA l cat]?=Ot b:=by
 unfold eD;split
 ·exact⟨_,aIa _ _ _ (tX l cat)⟩
 ·rename_i h;unfold lW at h;split at h
  ·exact absurd rfl h
  ·rename_i b hb;exact⟨b,hb⟩
theorem aKn(l:On Part)(cat:On OP)(bp:Int):(eD l cat bp).length<=l.length+1:=by
 unfold eD;split
 ·rw[pC _ _ _ (tX l cat)];exact Ov _
 ·omega
theorem aMj(l:On Part)(cat:On OP)(bp n:Int):(uY l cat bp n).1.length<=l.length+1:=by
 obtain⟨b,hb⟩:=tY l cat bp;unfold uY;rw[hb];simp only[Qm];exact aKn l cat bp
def Total.zero:Total:=⟨0,0,0,[]⟩
def iX(st:Int×Int×On Part)(p:Part):(Total×Int)⊕(Int×Int×On Part):=
 if(bC p.net p.bp).2≠0\/(dH st.1 p.net).2≠0\/(dH st.2.1 (bC p.net p.bp).1).2≠0 then .inl (Total.zero,7) else
  .inr ((dH st.1 p.net).1,(dH st.2.1 (bC p.net p.bp).1).1,st.2.2++[{ p with tax:=(bC p.net p.bp).1 }])
def nM(st:Int×Int×On Part):Total×Int:=
 if(dH st.1 st.2.1).2≠0 then(Total.zero,(dH st.1 st.2.1).2) else(⟨st.1,st.2.1,(dH st.1 st.2.1).1,st.2.2⟩,0)
def gK(l:On Part):Total×Int:=aD iX nM l (0,0,[])
def kR(tab:On Rate)(d:Date)(parts:On Part)(l:Line):(Total×Int)⊕On Part:=
 if(iE tab d l).2.2≠0 then .inl (Total.zero,(iE tab d l).2.2) else
  if(uY parts l.cat (iE tab d l).1 (iE tab d l).2.1).2≠0 then .inl (Total.zero,(uY parts l.cat (iE tab d l).1 (iE tab d l).2.1).2) else
   .inr (uY parts l.cat (iE tab d l).1 (iE tab d l).2.1).1
def dZ(tab:On Rate)(d:Date)(lines:On Line):Total×Int:=
 if fL tab=OA then(Total.zero,1) else if d.right=OA then(Total.zero,9) else if lines.length=0 then(Total.zero,1) else if 12<lines.length then(Total.zero,2) else
  aD (kR tab d) gK lines []
def sL(n:Int):V:=O J n
def rE(done:On Int)(x:Int):(On Int×Int)⊕On Int:=if(cM 0 x).2≠0 then .inl ([],(cM 0 x).2) else .inr (done++[(cM 0 x).1])
def iF(l:On Int):On Int×Int:=aD rE (λl=>(l,0)) l []
def dW(acc:On Part)(p:Part):(On Part×Int)⊕On Part:=
 if(iF [p.net,p.tax]).2≠0 then .inl ([],(iF [p.net,p.tax]).2) else .inr (acc++[{ p with net:=(iF [p.net,p.tax]).1.getD 0 0,tax:=(iF [p.net,p.tax]).1.getD 1 0 }])
def bI(t:Total):Total×Int:=
 if(iF [t.net,t.tax,t.gross]).2≠0 then(Total.zero,(iF [t.net,t.tax,t.gross]).2) else
  if(aD dW (λl=>(l,0)) t.parts []).2≠0 then(Total.zero,(aD dW (λl=>(l,0)) t.parts []).2) else
   (⟨(iF [t.net,t.tax,t.gross]).1.getD 0 0,(iF [t.net,t.tax,t.gross]).1.getD 1 0,(iF [t.net,t.tax,t.gross]).1.getD 2 0,(aD dW (λl=>(l,0)) t.parts []).1⟩,0)
structure Ref where
 ser:On OP
 num:Int
deriving Rw
def Ref.enc(r:Ref):On V:=[.str r.ser,O J r.num]
def Ref.zero:Ref:=⟨[],0⟩
structure Posted where
 ref:Ref
 day:Date
 total:Total
 of:Ref
 back:Ps
deriving Rw
def Posted.cells(p:Posted)(pv:V):On V:=[.str p.ref.ser,O J p.ref.num,O J p.day.y,O J p.day.m,O J p.day.d,O J p.total.net,O J p.total.tax,O J p.total.gross,pv,.str p.of.ser,O J p.of.num,.bool p.back]
theorem aRw{α β:Type}(f:α->β)(p:β->Ps)(l:On α):ixM (λa=>p (f a)) l=ixM p (l.map f):=by
 have:∀(l:On α) (n:Nat),aD (dB λa=>p (f a)) (λ_=>(-1:Int)) l n=aD (dB p) (λ_=>-1) (l.map f) n:=by
  intro l
  induction l with
  | nil=>intro n;rfl
  | cons a l ih=>
   intro n;simp only[aD,Qd,dB];by_cases h:p (f a)=OB
   ·simp only[h,Oy]
   ·simp only[h,Ou];exact ih (n+1)
 exact this l 0
def aY(l:On Posted)(r:Ref):Int:=ixM (λp:Posted=>decide (p.ref=r)) l
theorem iQ(l:On Posted)(r:Ref):aY l r=-1\/∃(i:Nat) (s:Posted),aY l r=(i:Int)/\l[i]?=Ot s/\s.ref=r:=by
 rcases jU (λp:Posted=>decide (p.ref=r)) l with h | ⟨i,s,h1,h2,h3⟩
 ·exact .inl h
 ·exact .inr ⟨i,s,h1,h2,by simpa using h3⟩
def fM{α:Type}[Rw α](r:On α)(n:Nat)(a:α):Ps⊕Nat:=if r[n]?=Ot a then .inr (n+1) else .inl OA
theorem eqL{α:Type}[Rw α]{l r:On α}(h:l.length=r.length):aD (fM r) (λ_=>OB) l 0=decide (l=r):=by
 have:∀(l t r:On α),l.length=(r.drop t.length).length->r.take t.length=t->aD (fM r) (λ_=>OB) l t.length=decide (l=r.drop t.length):=by
  intro l
  induction l with
  | nil=>
   intro t r h1 h2
   have:r.drop t.length=[]:=WI.1 h1.symm
   rw[this];rfl
  | cons a l ih=>
   intro t r h1 h2;have ag:t.length<r.length:=by rw[PQ] at h1;simp only[OQ] at h1;omega
   rw[QV ag];simp only[aD,fM,OF ag];by_cases c:r[t.length]=a
   ·have e1:(t++[a]).length=t.length+1:=by simp
    have:=ih (t++[a]) r (by rw[e1];rw[PQ] at h1|-;simp only[OQ] at h1;omega) (by rw[e1,Vl ag,h2,c])
    rw[e1] at this;simp only[c,Oy];rw[this];by_cases d:l=r.drop (t.length+1)<;>simp[d]
   ·have c':¬(Ot r[t.length]=Ot a):=λe=>c (Qz e);simp only[c',Ou];rw[VY,decide_eq_false_iff_not];intro e;exact c (List.cons.inj e).1.symm
 have:=this l [] r (by simpa using h) rfl
 simpa using this
def blkOf:V->Ow Nat
 | .sl a _ _ _ _=>Ot a
 | _=>OG
def kF(t:Total):Bool:=
 if(cI (t.parts.map (·.net))).2=OB then(if(cI (t.parts.map (·.tax))).2=OB then(if(cI [t.net,t.tax]).2=OB then
  (if(cI (t.parts.map (·.net))).1=t.net then(if(cI (t.parts.map (·.tax))).1=t.tax then decide ((cI [t.net,t.tax]).1=t.gross) else OA) else OA) else OA) else OA) else OA
def xI(st:On Int×On Int)(p:Part):(On Int×On Int)⊕(On Int×On Int):=.inr (st.1++[p.net],st.2++[p.tax])
theorem bI5:∀(l:On Part) (a b:On Int),aD xI id l (a,b)=(a++l.map (·.net),b++l.map (·.tax))
 | [],a,b=>by simp[aD]
 | p::l,a,b=>by simp only[aD,xI];rw[bI5 l];simp
def iY(prev:Ow Part)(s:Part):Bool:=match prev with
 | none=>OA
 | some p=>!iL p.cat s.cat
def xJ(s:Part):Bool:=decide (s.bp<0)||decide (100000<s.bp)
def xK(s:Part):Bool:=!decide ((bC s.net s.bp).2=0)||!decide ((bC s.net s.bp).1=s.tax)
def cY(prev:Ow Part)(s:Part):Ps⊕Ow Part:=
 if dV s.cat=OA then .inl OA else if iY prev s=OB then .inl OA else if xJ s=OB then .inl OA else if xK s=OB then .inl OA else .inr (Ot s)
def cN(t:Total):Bool:=if t.parts.length<1 then OA else if 12<t.parts.length then OA else aD cY (λ_=>kF t) t.parts OG
def lX(p fr:Posted):Bool:=if fr.of=Ref.zero then(if p.day.before fr.day=OA then(if(bI fr.total).2=0 then decide ((bI fr.total).1=p.total) else OA) else OA) else OA
theorem aIb:∀(l a:On Part) (r:On Part×Int),aD dW (λl=>(l,0)) l a=r->r.1.length<=a.length+l.length
 | [],a,r,h=>by subst h;simp[aD]
 | x::l,a,r,h=>by
  simp only[aD] at h;split at h
  ·rename_i r' he;subst h;unfold dW at he;split at he
   ·cases he;simp
   ·cases he
  ·rename_i a' he;unfold dW at he;split at he
   ·cases he
   ·cases he
    have:=aIb l _ r h
    simp only[OC,OQ,Pf] at this|-
    omega
theorem xL(t:Total):(bI t).1.parts.length<=t.parts.length:=by
 unfold bI;split
 ·simp[Total.zero]
 ·split
  ·simp[Total.zero]
  ·have:=aIb t.parts [] _ rfl
   simpa using this
def aP(book:On Bal)(p:Posted):(On Bal×Int)⊕On Bal:=
 if(bQ p.total).2≠0 then .inl ([],(bQ p.total).2) else if(aV book (bQ p.total).1).2≠0 then .inl ([],(aV book (bQ p.total).1).2) else .inr (aV book (bQ p.total).1).1
def cL(l:On Posted):On Bal×Int:=aD aP (λb=>(b,0)) l []
theorem mN(book l:On Bal):(aV book l).1.length<=book.length+l.length:=by
 unfold aV;split
 ·simp
 ·exact aFi l book _ rfl
theorem pT(t:Total):(bQ t).1.length<=1+2*t.parts.length\/(bQ t).2≠0:=by
 by_cases h:(bQ t).2=0
 ·exact .inl (by have:=aMi t.parts _ _ rfl h;simp only[OQ,Pf] at this;unfold bQ;omega)
 ·exact .inr h
def aDk:On V:=[.str [],O J 0,O J 0,O J 0,O J 0,O J 0,O J 0,O J 0,.nils,.str [],O J 0,.bool OA]
def Fit(p:Posted):Prop:=p.total.parts.length<=12/\∀q∈p.total.parts,q.cat.length<=1000000
def bump(l:On Int)(k:Nat):On Int:=l.set k (l.getD k 0+1)
def iV(st:On Posted×On Int)(p:Posted):Ps⊕(On Posted×On Int):=
 if p.day.right=OA then .inl OA else if cN p.total=OA then .inl OA else if p.of=Ref.zero then .inr (st.1++[p],st.2) else
  if aY st.1 p.of<0 then .inl OA else if lX p (st.1.getD (aY st.1 p.of).toNat ⟨Ref.zero,⟨0,0,0⟩,Total.zero,Ref.zero,OA⟩)=OA then .inl OA else
   .inr (st.1++[p],bump st.2 (aY st.1 p.of).toNat)
def jW(bs:On Int)(p:Posted):Ps⊕On Int:=if 1<bs.headD 0 then .inl OA else if p.back=decide (bs.headD 0=1) then .inr bs.tail else .inl OA
def kT(l:On Posted):Bool:=if 40<l.length then OA else aD iV (λst=>aD jW (λ_=>OB) l st.2) l ([],PT 40 0)
theorem rF{t:Total}(h:cN t=OB):t.parts.length<=12:=by
 unfold cN at h;split at h
 ·cases h
 ·split at h
  ·cases h
  ·omega
theorem aB3(l:On Int)(k:Nat)(h:k<l.length):l.getD k 0=l[k]:=by rw[Pl,OF h];rfl
structure State where
 table:On Rate
 ser:On Ser
 posted:On Posted
 book:On Bal
 sess:On Sess
 next:Int
deriving Rw
def mY(ser:On Ser)(is:On Int)(p:Posted):Ps⊕On Int:=
 if cD ser p.ref.ser<0 then .inl OA else if p.ref.num=(bump is (cD ser p.ref.ser).toNat).getD (cD ser p.ref.ser).toNat 0 then .inr (bump is (cD ser p.ref.ser).toNat) else .inl OA
def lY(is:On Int)(s:Ser):Ps⊕On Int:=if s.next=is.headD 0+1 then .inr is.tail else .inl OA
def pU(ser:On Ser)(l:On Posted):Bool:=aD (mY ser) (λis=>aD lY (λ_=>OB) ser is) l (PT 8 0)
theorem aB4(l:On Int)(k:Nat):(bump l k).length=l.length:=Qm ..
theorem aYs(l:On Int)(k:Nat)(h:k<l.length):(bump l k).getD k 0=l[k]+1:=by
 rw[Pl,bump,Rr h,aB3 l k h];rfl
def tZ(l:On Sess)(next:Int):Bool:=match l[l.length - 1]? with
 | none=>OB
 | some s=>decide (s.id<next)
def jX(s:State):Bool:=if gD s.sess=OB then(if 1<=s.next then(if s.next<=1099511627776 then tZ s.sess s.next else OA) else OA) else OA
theorem aFj{σ α:Type}{step:σ->α->Ps⊕σ}{fin:σ->Ps}(hs:∀s a r,step s a=.inl r->r=OA):∀(l:On α) (s:σ),aD step fin l s=OB->∀a∈l,∃s s',step s a=.inr s'
 | [],s,h,a,ha=>by cases ha
 | b::l,s,h,a,ha=>by
  simp only[aD] at h;split at h
  ·rename_i r he
   have:=hs s b r he
   rw[this] at h;cases h
  ·rename_i s' he;rcases Pu.1 ha with rfl | ha
   ·exact⟨s,s',he⟩
   ·exact aFj hs l s' h a ha
theorem xM{s:On OP}(h:dV s=OB):s.length<=24:=by
 unfold dV at h;split at h
 ·cases h
 ·split at h
  ·cases h
  ·omega
theorem aKo{t:Total}(h:cN t=OB):∀q∈t.parts,dV q.cat=true:=by
 unfold cN at h;split at h
 ·cases h
 ·split at h
  ·cases h
  ·intro q hq;obtain⟨s,s',he⟩:=aFj (λs a r hr=>by
    unfold cY at hr
    repeat' split at hr
    all_goals cases hr
    all_goals rfl) t.parts OG h q hq
   unfold cY at he;split at he
   ·cases he
   ·rename_i hn;simpa using hn
theorem vX{p:Posted}(h:cN p.total=OB):Fit p:=⟨rF h,λq hq=>by have:=xM (aKo h q hq);omega⟩
theorem zN{l:On Posted}(h:kT l=OB):l.length<=40/\∀p∈l,p.day.right=OB/\cN p.total=true:=by
 unfold kT at h;split at h
 ·cases h
 ·refine⟨by omega,λp hp=>?_⟩;obtain⟨s,s',he⟩:=aFj (λs a r hr=>by
   unfold iV at hr
   repeat' split at hr
   all_goals cases hr
   all_goals rfl) l _ h p hp
  unfold iV at he;split at he
  ·cases he
  ·rename_i h1;split at he
   ·cases he
   ·rename_i h2;exact⟨by simpa using h1,by simpa using h2⟩
def bB(s:State):Bool:=if fL s.table=OA then OA else if mM s.ser=OA then OA else if jX s=OA then OA else if kT s.posted=OA then OA else
 if pU s.ser s.posted=OA then OA else if(cL s.posted).2=0 then decide ((cL s.posted).1=s.book) else OA
theorem vY:∀(l:On Posted) (a:On Bal) (r:On Bal×Int),(∀p∈l,p.total.parts.length<=12)->aD aP (λb=>(b,0)) l a=r->r.1.length<=a.length+25*l.length
 | [],a,r,_,h=>by subst h;simp[aD]
 | p::l,a,r,hp,h=>by
  simp only[aD] at h;split at h
  ·rename_i r' he;subst h;unfold aP at he
   repeat' split at he
   all_goals cases he
   all_goals simp
  ·rename_i a' he;unfold aP at he;split at he
   ·cases he
   ·rename_i h1;split at he
    ·cases he
    ·cases he;have h2:=(pT p.total).resolve_right h1;have h3:=mN a (bQ p.total).1;have h4:=hp p (List.mem_cons_self ..)
     have:=vY l _ r (λq hq=>hp q (List.mem_cons_of_mem _ hq)) h
     simp only[OQ];omega
def State.new:State:=⟨[],[],[],[],[],1⟩
structure Bnd (s:State):Prop where
 bt:s.table.length<=100000
 bs:s.ser.length<=100000
 bp:s.posted.length<=100000
 bb:s.book.length<=100000
 be:s.sess.length<=100000
 bq:∀p∈s.posted,p.total.parts.length<=100000
def bGz:On UInt8:=[111,119,101,100]
def uA(g:Int)(b:Bal):Int⊕Int:=.inr (if(b.acc == bGz)=OB then b.amount else g)
def aH5(s:State)(name:On OP):Rep:=if(mW s.ser name).2=OA then⟨11,0,0⟩ else⟨0,wr J ((mW s.ser name).1.next - 1),aD uA id s.book 0⟩
def why(e:Int):Rep:=⟨e,0,0⟩
def bE(s:State)(name:On OP)(p:Posted):State×Rep:=
 if(dI s.ser name).2.2≠0 then(s,why (dI s.ser name).2.2) else if 40<=s.posted.length then(s,why 14) else
  if(bQ p.total).2≠0 then(s,why (bQ p.total).2) else if(aV s.book (bQ p.total).1).2≠0 then(s,why (aV s.book (bQ p.total).1).2) else
   ({ s with ser:=(dI s.ser name).1,book:=(aV s.book (bQ p.total).1).1,posted:=s.posted++[{ p with ref:=⟨name,(dI s.ser name).2.1⟩ }] },⟨0,(dI s.ser name).2.1,p.total.gross⟩)
theorem aU7{P:On OP->Prop}{l:On Part}{cat:On OP}{bp n:Int}(h:∀p∈l,P p.cat)(hc:P cat):∀p∈(uY l cat bp n).1,P p.cat:=by
 have ay:∀p∈eD l cat bp,P p.cat:=by
  unfold eD;split
  ·intro p hp;rcases Qf.1 hp with hp | hp
   ·exact h p (List.mem_of_mem_take hp)
   ·rcases Pu.1 hp with rfl | hp
    ·exact hc
    ·exact h p (List.mem_of_mem_drop hp)
  ·exact h
 unfold uY;split
 ·intro p hp;cases hp
 ·rename_i q hq;intro p hp;rcases PN hp with hp | rfl
  ·exact ay p hp
  ·exact ay q (OM hq)
theorem aCv:∀(l:On Part) (st:Int×Int×On Part) (r:Total×Int),aD iX nM l st=r->r.2=0->r.1.parts.map (·.cat)=st.2.2.map (·.cat)++l.map (·.cat)
 | [],st,r,h,h0=>by
  subst h;simp only[aD,nM] at h0|-
  split at h0
  ·rename_i hc;exact absurd h0 hc
  ·rename_i hc;rw[Oz hc];simp
 | p::l,st,r,h,h0=>by
  simp only[aD] at h;split at h
  ·rename_i r' he;unfold iX at he;split at he
   ·cases he;subst h;cases h0
   ·cases he
  ·rename_i wz he;unfold iX at he;split at he
   ·cases he
   ·cases he;rw[aCv l _ r h h0];simp
theorem aIc{tab:On Rate}{d:Date}:∀(l:On Line) (parts:On Part) (r:Total×Int),(∀p∈parts,dV p.cat=OB)->aD (kR tab d) gK l parts=r->r.2=0->(∀p∈r.1.parts,dV p.cat=OB)/\r.1.parts.length<=parts.length+l.length
 | [],parts,r,hp,h,h0=>by
  subst h;simp only[aD] at h0|-
  have:=aCv parts (0,0,[]) _ rfl h0
  simp only[Py,Pp] at this;refine⟨λp rk=>?_,?_⟩
  ·have hm:p.cat∈parts.map (·.cat):=by rw[<-this];exact Tb rk
   obtain⟨q,hq,e⟩:=Pv.1 hm;rw[<-e];exact hp q hq
  ·have hl:=congrArg List.length this;rw[ON,ON] at hl;exact Nat.le_of_eq hl
 | x::l,parts,r,hp,h,h0=>by
  simp only[aD] at h;split at h
  ·rename_i r' he;unfold kR at he;split at he
   ·rename_i hc;cases he;subst h;exact absurd h0 hc
   ·split at he
    ·rename_i hc;cases he;subst h;exact absurd h0 hc
    ·cases he
  ·rename_i s' he;unfold kR at he;split at he
   ·cases he
   ·rename_i hc;split at he
    ·cases he
    ·cases he;have hn:dV x.cat=true:=by
      have qw:(iE tab d x).2.2=0:=by omega
      unfold iE at qw;split at qw
      ·cases qw
      ·split at qw
       ·cases qw
       ·rename_i hh;simpa using hh
     have h1:=aMj parts x.cat (iE tab d x).1 (iE tab d x).2.1;obtain⟨h2,h3⟩:=aIc l _ r (aU7 (P:=λc=>dV c=OB) hp hn) h h0;refine⟨h2,?_⟩;simp only[OQ];omega
theorem zO{tab:On Rate}{d:Date}{l:On Line}(h:(dZ tab d l).2=0):(dZ tab d l).1.parts.length<=12/\∀q∈(dZ tab d l).1.parts,q.cat.length<=1000000:=by
 unfold dZ at h|-
 split at h
 ·cases h
 ·rename_i c1;rw[Oz c1];split at h
  ·cases h
  ·rename_i c2;rw[Oz c2];split at h
   ·cases h
   ·rename_i c3;rw[Oz c3];split at h
    ·cases h
    ·rename_i c4;rw[Oz c4];obtain⟨h1,h2⟩:=aIc l [] _ (λ_ h=>by cases h) rfl h;refine⟨by simp only[Pf] at h2;omega,λq hq=>by have:=xM (h1 q hq);omega⟩
theorem aFk:∀(l a:On Part) (r:On Part×Int),aD dW (λl=>(l,0)) l a=r->r.2=0->r.1.map (·.cat)=a.map (·.cat)++l.map (·.cat)
 | [],a,r,h,h0=>by subst h;simp[aD]
 | x::l,a,r,h,h0=>by
  simp only[aD] at h;split at h
  ·rename_i r' he;subst h;unfold dW at he;split at he
   ·rename_i hc;cases he;exact absurd h0 hc
   ·cases he
  ·rename_i a' he;unfold dW at he;split at he
   ·cases he
   ·cases he;rw[aFk l _ r h h0];simp
theorem aPf(t:Total)(h:(bI t).2=0):(bI t).1.parts.map (·.cat)=t.parts.map (·.cat):=by
 unfold bI at h|-
 split at h
 ·rename_i c;exact absurd h c
 ·rename_i c;rw[Oz c];split at h
  ·rename_i c2;exact absurd h c2
  ·rename_i c2;rw[Oz c2]
   have:=aFk t.parts [] _ rfl (by omega)
   simpa using this
theorem aU8{p:Posted}(hf:Fit p)(h:(bI p.total).2=0):(bI p.total).1.parts.length<=12/\∀q∈(bI p.total).1.parts,q.cat.length<=1000000:=by
 have:=aPf p.total h
 refine⟨by have:=xL p.total;have:=hf.1;omega,λq hq=>?_⟩;have hm:q.cat∈p.total.parts.map (·.cat):=by rw[<-this];exact Tb hq
 obtain⟨q',jo,e⟩:=Pv.1 hm;rw[<-e];exact hf.2 q' jo
structure Cmd where
 kind:Int
 series:On OP
 limit:Int
 row:Rate
 day:Date
 lines:On Line
 of:Ref
 session:Int
def nN(s:State)(c:Cmd):State×Rep:=
 if(dZ s.table c.day c.lines).2≠0 then(s,why (dZ s.table c.day c.lines).2) else bE s c.series ⟨Ref.zero,c.day,(dZ s.table c.day c.lines).1,Ref.zero,OA⟩
def Posted.zero:Posted:=⟨Ref.zero,⟨0,0,0⟩,Total.zero,Ref.zero,OA⟩
def cW(l:On Posted)(k:Nat):On Posted:=match l[k]? with
 | none=>l
 | some p=>l.set k { p with back:=OB }
def iG(s:State)(c:Cmd)(k:Nat)(p:Posted):State×Rep:=
 if p.back=OB then(s,why 12) else if p.of=Ref.zero then
  (if c.day.right=OA then(s,why 9) else if c.day.before p.day=OB then(s,why 9) else if(bI p.total).2≠0 then(s,why (bI p.total).2) else
   if(bE s c.series ⟨Ref.zero,c.day,(bI p.total).1,c.of,OA⟩).2.why=0 then
    ({ (bE s c.series ⟨Ref.zero,c.day,(bI p.total).1,c.of,OA⟩).1 with posted:=cW (bE s c.series ⟨Ref.zero,c.day,(bI p.total).1,c.of,OA⟩).1.posted k },(bE s c.series ⟨Ref.zero,c.day,(bI p.total).1,c.of,OA⟩).2)
   else bE s c.series ⟨Ref.zero,c.day,(bI p.total).1,c.of,OA⟩) else(s,why 12)
def fS(s:State)(c:Cmd):State×Rep:=
 if aY s.posted c.of<0 then(s,why 11) else iG s c (aY s.posted c.of).toNat (s.posted.getD (aY s.posted c.of).toNat Posted.zero)
theorem aKp(s:State)(name:On OP)(p:Posted):∃l,(bE s name p).1.posted=s.posted++l:=by
 unfold bE
 repeat' split
 all_goals first | exact⟨[],(OS _).symm⟩ | exact⟨_,rfl⟩
def jC(s:State)(r:On Ser×Int):State×Rep:=if r.2=0 then({ s with ser:=r.1 },why r.2) else(s,why r.2)
def mZ(s:State)(r:On Rate×Int):State×Rep:=if r.2=0 then({ s with table:=r.1 },why r.2) else(s,why r.2)
def kM(s:State)(r:On Sess×Int):State×Rep:=if r.2=0 then({ s with sess:=r.1 },why r.2) else(s,why r.2)
def vB(s:State)(c:Cmd):State×Rep:=
 if c.kind=1 then jC s (gX s.ser c.series c.limit) else if c.kind=2 then jC s (sK s.ser c.series) else if c.kind=3 then mZ s (jV s.table c.row) else
  if c.kind=4 then nN s c else if c.kind=5 then fS s c else if c.kind=7 then kM s (jA s.sess c.session) else(s,aH5 s c.series)
def hJ(s:State):State×Rep:=
 if 8<=s.sess.length\/1099511627776<=s.next then(s,why 14) else if(oI s.sess s.next).2≠0 then(s,why (oI s.sess s.next).2) else
  ({ s with sess:=(oI s.sess s.next).1,next:=wr J (s.next+1) },⟨0,s.next,0⟩)
structure Call where
 session:Int
 seq:Int
 cmd:Cmd
def jY(r:State×Rep)(c:Call):State×Rep:=if(mD r.1.sess c.session c.seq r.2).2=0 then({ r.1 with sess:=(mD r.1.sess c.session c.seq r.2).1 },r.2) else r
def gL(s:State)(c:Call):State×Rep:=
 if bB s=OA then(s,why 1) else if c.cmd.kind<1\/8<c.cmd.kind then(s,why 17) else if c.cmd.kind=6 then hJ s else
  if(cS s.sess c.session c.seq).2.2≠0 then(s,why (cS s.sess c.session c.seq).2.2) else if(cS s.sess c.session c.seq).2.1=OB then(s,(cS s.sess c.session c.seq).1) else jY (vB s c.cmd) c
theorem aH6{s:State}(h:bB s=OB):kT s.posted=true:=by
 unfold bB at h
 repeat' split at h
 all_goals first | cases h | skip
 rename_i h4 _ _;simpa using h4
structure Sml (s:State):Prop where
 st:s.table.length<=1000
 ss:s.ser.length<=1000
 sp:s.posted.length<=1000
 sb:s.book.length<=10000
 se:s.sess.length<=1000
 sq:∀p∈s.posted,p.total.parts.length<=1000
theorem Sml.bnd{s:State}(h:Sml s):Bnd s:=⟨by have:=h.st;omega,by have:=h.ss;omega,by have:=h.sp;omega,by have:=h.sb;omega,by have:=h.se;omega,λp hp=>by have:=h.sq p hp;omega⟩
theorem Sml.new:Sml State.new:=⟨by decide,by decide,by decide,by decide,by decide,λp hp=>by cases hp⟩
theorem rG{s:State}(h:bB s=OB):s.table.length<=24/\s.ser.length<=8/\s.sess.length<=8/\s.posted.length<=40/\s.book.length<=1000/\(∀p∈s.posted,p.total.parts.length<=12)/\s.book=(cL s.posted).1:=by
 unfold bB at h;split at h
 ·cases h
 ·rename_i h1;split at h
  ·cases h
  ·rename_i h2;split at h
   ·cases h
   ·rename_i h3;split at h
    ·cases h
    ·rename_i h4;split at h
     ·cases h
     ·split at h
      ·have hb:=RH h;have NO:kT s.posted=true:=by simpa using h4
       obtain⟨p1,p2⟩:=zN NO;have ut:∀p∈s.posted,p.total.parts.length<=12:=λp hp=>rF (p2 p hp).2;have hl:=vY s.posted [] (cL s.posted) ut rfl;have hs:gD s.sess=true:=by
        unfold jX at h3;by_cases c:gD s.sess=OB
        ·exact c
        ·rw[Oz c] at h3;exact absurd rfl h3
       refine⟨zK (by simpa using h1),pS (by simpa using h2),mK hs,p1,?_,ut,hb.symm⟩;rw[<-hb];simp only[Pf] at hl;omega
      ·cases h
theorem aFl{s:State}(h:Sml s)(h1:s.ser.length<=8)(h2:s.posted.length<=40)(h3:s.book.length<=1000)(name:On OP)(p:Posted)(hp:p.total.parts.length<=12):Sml (bE s name p).1:=by
 unfold bE;split
 ·exact h
 ·split
  ·exact h
  ·split
   ·exact h
   ·rename_i c3;split
    ·exact h
    ·refine⟨h.st,?_,?_,?_,h.se,?_⟩
     ·show(dI s.ser name).1.length<=1000;unfold dI
      repeat' split
      all_goals simp
      omega
     ·show(s.posted++_).length<=1000;simp only[OC,OQ,Pf];omega
     ·show(aV s.book (bQ p.total).1).1.length<=10000
      have:=mN s.book (bQ p.total).1
      have:=(pT p.total).resolve_right c3
      omega
     ·intro q hq;rcases Qf.1 hq with hq | hq
      ·exact h.sq q hq
      ·rw[PR.1 hq];show p.total.parts.length<=1000;omega
theorem aMk(l:On Posted)(k:Nat)(h:∀p∈l,p.total.parts.length<=1000):(cW l k).length=l.length/\∀p∈cW l k,p.total.parts.length<=1000:=by
 unfold cW;split
 ·exact⟨rfl,h⟩
 ·rename_i p hp;refine⟨Qm ..,λq hq=>?_⟩;rcases PN hq with hq | rfl
  ·exact h q hq
  ·exact h p (OM hp)
theorem sM{α:Type}(l:On α)(i:Nat)(a:α):(fU l i a).length<=l.length+1:=by
 simp only[fU,OC,OQ,PY,PQ];omega
theorem bC7{s:State}(h:Sml s)(hr:bB s=OB)(c:Cmd):Sml (vB s c).1:=by
 obtain⟨r1,r2,r3,r4,r5,r6,_⟩:=rG hr;unfold vB;split
 ·unfold jC;split
  ·refine⟨h.st,?_,h.sp,h.sb,h.se,h.sq⟩;show(gX s.ser c.series c.limit).1.length<=1000;unfold gX
   repeat' split
   all_goals first | (simp;done) | (refine QC (sM _ _ _) ?_;omega)
  ·exact h
 ·split
  ·unfold jC;split
   ·refine⟨h.st,?_,h.sp,h.sb,h.se,h.sq⟩;show(sK s.ser c.series).1.length<=1000;unfold sK
    repeat' split
    all_goals simp
    omega
   ·exact h
  ·split
   ·unfold mZ;split
    ·refine⟨?_,h.ss,h.sp,h.sb,h.se,h.sq⟩;show(jV s.table c.row).1.length<=1000;unfold jV
     repeat' split
     all_goals first | (simp;done) | (refine QC (sM _ _ _) ?_;omega)
    ·exact h
   ·split
    ·unfold nN;split
     ·exact h
     ·rename_i c1;exact aFl h r2 r4 r5 _ _ (zO (by omega)).1
    ·split
     ·unfold fS;split
      ·exact h
      ·rename_i c1;unfold iG;split
       ·exact h
       ·split
        ·split
         ·exact h
         ·split
          ·exact h
          ·split
           ·exact h
           ·rename_i c4;have HL:(s.posted.getD (aY s.posted c.of).toNat Posted.zero).total.parts.length<=12:=by
             rw[Pl];cases hg:s.posted[(aY s.posted c.of).toNat]? with
             | none=>exact PS _
             | some p=>exact r6 p (OM hg)
            have gg:=xL (s.posted.getD (aY s.posted c.of).toNat Posted.zero).total;have hi:=aFl h r2 r4 r5 c.series ⟨Ref.zero,c.day,(bI (s.posted.getD (aY s.posted c.of).toNat Posted.zero).total).1,c.of,OA⟩ (QC gg HL);split
            ·obtain⟨e1,e2⟩:=aMk _ (aY s.posted c.of).toNat hi.sq;exact⟨hi.st,hi.ss,by rw[e1];exact hi.sp,hi.sb,hi.se,e2⟩
            ·exact hi
        ·exact h
     ·split
      ·unfold kM;split
       ·refine⟨h.st,h.ss,h.sp,h.sb,?_,h.sq⟩;show(jA s.sess c.session).1.length<=1000;unfold jA
        repeat' split
        all_goals first | (simp;done) | (simp only[zJ,OC,PY,PQ];omega)
       ·exact h
      ·exact h
theorem aU9(l:On Sess)(id seq:Int)(r:Rep):(mD l id seq r).1.length<=l.length:=by
 unfold mD
 repeat' split
 all_goals simp
theorem aPg{s:State}(h:Sml s)(c:Call):Sml (gL s c).1:=by
 unfold gL;split
 ·exact h
 ·rename_i hr;have hr:bB s=true:=by simpa using hr
  split
  ·exact h
  ·split
   ·unfold hJ;split
    ·exact h
    ·split
     ·exact h
     ·obtain⟨_,_,r3,_⟩:=rG hr;refine⟨h.st,h.ss,h.sp,h.sb,?_,h.sq⟩;show(oI s.sess s.next).1.length<=1000;unfold oI
      repeat' split
      all_goals first | (simp;done) | (refine QC (sM _ _ _) ?_;omega)
   ·split
    ·exact h
    ·split
     ·exact h
     ·have hd:=bC7 h hr c.cmd;unfold jY;split
      ·exact⟨hd.st,hd.ss,hd.sp,hd.sb,by have:=aU9 (vB s c.cmd).1.sess c.session c.seq (vB s c.cmd).2;have:=hd.se;show(mD _ _ _ _).1.length<=1000;omega,hd.sq⟩
      ·exact hd
def uC(c:Call):Call:={ c with cmd:={ c.cmd with lines:=c.cmd.lines.take 15 } }
def wC(l:On Call)(n:Nat):On Call:=(l.take n).map uC
def bNr:On V:=[O J 0,O J 0,O J 0,.str [],O J 0,.str [],O J 0,O J 0,O J 0,O J 0,O J 0,O J 0,O J 0,.nils,.str [],O J 0,O J 0]
def sN(st:State×On Rep)(c:Call):State×On Rep:=((gL st.1 c).1,st.2++[(gL st.1 c).2])
def playM(s:State)(l:On Call):State×On Rep:=l.foldl sN (s,[])
def aRx(st:State×On Rep)(c:Call):(State×On Rep)⊕(State×On Rep):=.inr (sN st c)
theorem aId:∀(l:On Call) (st:State×On Rep),aD aRx id l st=l.foldl sN st
 | [],st=>rfl
 | c::l,st=>by simp only[aD,aRx,List.foldl_cons];exact aId l _
theorem aYt(l:On Call)(n:Nat):(wC l n).length<=n:=by simp only[wC,ON,PY];omega
end Go.Proofs.YtoaibmbldmckaaaGreat
end
section
namespace Go.AM
def wF{α:Type}(a:α):Ow (On α)->Ow (On α)
 | some l=>Ot (a::l)
 | none=>OG
def aB5:On V->Nat->Ow (On V)
 | _,0=>Ot []
 | [],_+1=>OG
 | a::l,n+1=>wF a (aB5 l n)
def wH:On V->Nat->On V->Ow (On V)
 | cs,0,[]=>Ot cs
 | [],0,_::_=>OG
 | _::cs,0,x::xs=>wF x (wH cs 0 xs)
 | [],_+1,_=>OG
 | c::cs,j+1,xs=>wF c (wH cs j xs)
def wJ:On V->Nat->Ps
 | [],0=>OB
 | _::l,n+1=>wJ l n
 | _,_=>OA
def aKq{α:Type}:On α->Nat->α->Ow (On α)
 | [],_,_=>OG
 | _::l,0,x=>Ot (x::l)
 | a::l,i+1,x=>wF a (aKq l i x)
theorem aMl:∀(l:On V) (n:Nat),aB5 l n=if n<=l.length then Ot (l.take n) else OG
 | l,0=>by cases l<;>simp[aB5]
 | [],n+1=>by simp[aB5]
 | a::l,n+1=>by
  simp only[aB5,aMl l n,OQ,Nat.add_le_add_iff_right,Vi];split<;>rfl
theorem aB6:∀(cs:On V) (j:Nat) (xs:On V),wH cs j xs=if j+xs.length<=cs.length then Ot (splice cs j xs) else OG
 | cs,0,[]=>by cases cs<;>simp[wH,splice]
 | [],0,x::xs=>by simp[wH]
 | c::cs,0,x::xs=>by
  have h:=aB6 cs 0 xs;simp only[wH,h,OQ,splice,List.take_zero,Pp,Px];by_cases c1:xs.length<=cs.length
  ·rw[OE c1,OE (by omega)];simp[wF]
  ·rw[Oz c1,Oz (by omega)];rfl
 | [],j+1,xs=>by simp[wH]
 | c::cs,j+1,xs=>by
  have h:=aB6 cs j xs;simp only[wH,h,OQ,splice];by_cases c1:j+xs.length<=cs.length
  ·rw[OE c1,OE (by omega)];simp only[wF,Vi,PJ,show j+1+xs.length=(j+xs.length)+1 by omega,List.drop_succ_cons]
  ·rw[Oz c1,Oz (by omega)];rfl
theorem aB7:∀(l:On V) (n:Nat),wJ l n=decide (l.length=n)
 | [],0=>rfl
 | [],n+1=>by simp[wJ]
 | a::l,0=>by simp[wJ]
 | a::l,n+1=>by simp[wJ,aB7 l n]
theorem aRy{α:Type}:∀(l:On α) (i:Nat) (x:α),aKq l i x=if i<l.length then Ot (l.set i x) else OG
 | [],i,x=>by simp[aKq]
 | a::l,0,x=>by simp[aKq]
 | a::l,i+1,x=>by
  simp only[aKq,aRy l i x,OQ,Nat.add_lt_add_iff_right,List.set_cons_succ];split<;>rfl
theorem pt2(n:Nat)(cs:On V)(j:Nat):jB (Ot (n+1)) cs j=(match aB5 (cs.drop j) (n+1) with
  | some l=>.ok (.agg l)
  | none=>.error "part"):=by
 simp only[jB,aMl,PQ];by_cases c:j+(n+1)<=cs.length
 ·rw[OE c,OE (by omega)]
 ·rw[Oz c,Oz (by omega)]
theorem qI(n a ver i j:Nat)(x:V)(S:St):eL n (.ptr a ver i j) x S=(match aC S a ver with
  | .error e=>.error e
  | .ok (es,elems)=>match elems[i]? with
   | some cs=>(match wJ x.cells n&&aH x.cells with
    | true=>(match wH cs j x.cells with
     | some ef=>.ok ⟨S.next,S.heap.put a (.row ver es (elems.set i ef))⟩
     | none=>.error "store: the size")
    | false=>.error "store: the size")
   | none=>.error "store"):=by
 simp only[eL,aB6,aB7];cases aC S a ver with
 | error e=>rfl
 | ok r=>
  obtain⟨es,elems⟩:=r;simp only;cases elems[i]? with
  | none=>rfl
  | some cs=>
   simp only;by_cases c1:x.cells.length=n
   ·cases c2:aH x.cells
    ·simp[c1]
    ·by_cases c3:j+x.cells.length<=cs.length
     ·rw[OE ⟨c1,rfl,c3⟩];simp[c1];simp[<-c1,c3]
     ·rw[Oz (λh=>c3 h.2.2)];simp[c1];simp[<-c1,c3]
   ·rw[Oz (λh=>c1 h.1)];simp[c1]
theorem bw0(z:On V)(pl:On (Nat×Nat)):zD z pl []=.ok (.agg z):=rfl
theorem bw1(z:On V)(pl:On (Nat×Nat))(i:Nat)(v:V)(rest:On (Nat×V)):zD z pl ((i,v)::rest)=(match pl[i]? with
  | none=>.error "fill"
  | some (off,size)=>(match wJ v.cells size&&aH v.cells with
   | true=>(match wH z off v.cells with
    | some z'=>zD z' pl rest
    | none=>.error "fill")
   | false=>.error "fill")):=by
 simp only[zD,vE];cases pl[i]? with
 | none=>rfl
 | some p=>
  obtain⟨off,size⟩:=p;simp only[aB6,aB7,cond_eq_ite];by_cases c1:v.cells.length=size
  ·cases c2:aH v.cells
   ·simp[c1]
   ·by_cases c3:off+v.cells.length<=z.length
    ·have h1:Pw v.cells.length size=true:=by simpa using c1
     have h2:Ru (off+v.cells.length) z.length=true:=RK c3;simp[h1,h2,c1];simp[<-c1,c3]
    ·have h2:Ru (off+v.cells.length) z.length=false:=by
      cases h:Ru (off+v.cells.length) z.length with
      | false=>rfl
      | true=>exact absurd (Xe h) c3
     simp[h2,c1];simp[<-c1,c3]
  ·have h1:Pw v.cells.length size=false:=by
    cases h:Pw v.cells.length size with
    | false=>rfl
    | true=>exact absurd (Qv h) c1
   simp[h1,c1]
theorem lv1(es:Nat)(elems:On (On V))(i:Nat)(v:V)(rest:On (Nat×V)):aA8 es elems ((i,v)::rest)=(match wJ v.cells es&&aH v.cells with
  | true=>(match aKq elems i v.cells with
   | some e=>aA8 es e rest
   | none=>.error "buildSlice")
  | false=>.error "buildSlice"):=by
 simp only[aA8,aRy,aB7,cond_eq_ite];by_cases c1:v.cells.length=es
 ·have h1:Pw v.cells.length es=true:=by simpa using c1
  cases c2:aH v.cells
  ·simp[c1]
  ·by_cases c3:i<elems.length
   ·have h2:QI i elems.length=true:=by simpa using c3
    simp[h1,h2,c1,c3]
   ·have h2:QI i elems.length=false:=by
     cases h:QI i elems.length with
     | false=>rfl
     | true=>exact absurd (by simpa using h) c3
    simp[h2,c1,c3]
 ·have h1:Pw v.cells.length es=false:=by
   cases h:Pw v.cells.length es with
   | false=>rfl
   | true=>exact absurd (Qv h) c1
  simp[h1,c1]
theorem bH0:(∀{α:Type} (a:α) (l:On α),wF a (Ot l)=Ot (a::l))/\(∀l:On V,aB5 l 0=Ot [])/\(∀(a:V) (l:On V) (n:Nat),aB5 (a::l) (n+1)=wF a (aB5 l n)) /\
  (∀cs:On V,wH cs 0 []=Ot cs)/\(∀(c x:V) (cs xs:On V),wH (c::cs) 0 (x::xs)=wF x (wH cs 0 xs))/\(∀(c:V) (cs:On V) (j:Nat) (xs:On V),wH (c::cs) (j+1) xs=wF c (wH cs j xs)) /\
  wJ [] 0=OB/\(∀(a:V) (l:On V) (n:Nat),wJ (a::l) (n+1)=wJ l n)/\(∀{α:Type} (a:α) (l:On α) (x:α),aKq (a::l) 0 x=Ot (x::l))/\(∀{α:Type} (a:α) (l:On α) (i:Nat) (x:α),aKq (a::l) (i+1) x=wF a (aKq l i x)) /\
  type_of% pt2/\(∀(n a j:Nat) (x:V) (S:St),type_of% (qI n a 0 0 j x S))/\type_of% bw0/\type_of% bw1/\type_of% lv1/\(∀(es:Nat) (l:On (On V)),aA8 es l []=.ok l):=
 ⟨λ_ _=>rfl,λl=>by cases l<;>rfl,λ_ _ _=>rfl,λcs=>by cases cs<;>rfl,λ_ _ _ _=>rfl,λ_ _ _ _=>by simp only[wH],rfl,λ_ _ _=>rfl,λ_ _ _=>rfl,λ_ _ _ _=>rfl,pt2,λn a j x S=>qI n a 0 0 j x S,bw0,bw1,lv1,λ_ _=>rfl⟩
section
section
variable{P:OI}
theorem bC8(b:Ps)(x y:Prop):aN (.bool b) x y=if b=OB then x else y:=by cases b<;>rfl
theorem ldP(k:Ow Nat)(a ver i j:Nat)(S:St):fZ k (.ptr a ver i j) S=(match aC S a ver with
  | .error e=>.error e
  | .ok (_,elems)=>match elems[i]? with
   | some cs=>jB k cs j
   | none=>.error "load"):=rfl
theorem ptN(cs:On V)(j:Nat):jB OG cs j=(match cs[j]? with
 | some v=>.ok v
 | none=>.error "part"):=rfl
theorem grS(n:Nat)(h:Tr Blk)(a ver es:Nat)(el:On (On V)):aC ⟨n,h.put a (.row ver es el)⟩ a ver=.ok (es,el):=aA ..
theorem eY{c a:Nat}(hc:c≠a)(n:Nat)(h:Tr Blk)(ver:Nat)(b:Blk):aC ⟨n,h.put a b⟩ c ver=aC ⟨n,h⟩ c ver:=dG n n h a c ver b hc
theorem nb0(S:St)(b:Blk):bR OG S b=.ok (S.next,⟨S.next+1,S.heap.put S.next b⟩):=dX S b
theorem nb1(k:Nat)(S:St)(b:Blk):bR (Ot k) S b=.ok (k,⟨S.next,S.heap.put k b⟩):=xB k S b
theorem stP(n a ver i j:Nat)(x:V)(S:St):eL n (.ptr a ver i j) x S=(match aC S a ver with
  | .error e=>.error e
  | .ok (es,elems)=>match elems[i]? with
   | some cs=>if x.cells.length=n/\aH x.cells=OB/\j+x.cells.length<=cs.length then .ok ⟨S.next,S.heap.put a (.row ver es (elems.set i (splice cs j x.cells)))⟩ else .error "store: the size"
   | none=>.error "store"):=rfl
theorem ixI{α:Type}{l:On α}{enc:α->On V}{i:Nat}{a:α}{n:Nat}(hi:l[i]?=Ot a)(hn:(enc a).length=n)(k:Qa):fV n (.imm (l.map enc)) (.int k (i:Int))=.ok (.iptr (enc a) 0):=by
 have ai:=(Oq.1 hi).1;have hx:(l.map enc)[i]?=Ot (enc a):=by rw[Pc,hi];rfl
 simp only[fV,ON,gA ai,hx];simp only[hn,Oy]
theorem aYv(S:St)(es:On (On V)):eX S (.imm es)=.ok (.imm es):=rfl
theorem okI{α:Type}(a b:α):((TO a:R α)=.ok b)=(a=b):=by simp
end
theorem kit:(∀{α:Type} (a:α) (K:α->Prop),wR (.ok a) K=K a)/\(∀{α:Type} (a:α) (K:α->Prop),wO (Ot a) K=K a)/\(∀x:Prop,wIf OB x=x)/\(∀(b:Ps) (x y:Prop),aN (.bool b) x y=if b=OB then x else y) /\
  (∀(v:V) (r:On V) (K:V->On V->Prop),vA (v::r) K=K v r)/\(∀(vs:On V) (i:Nat) (K:V->Prop),fI (.tup vs) i K=wO vs[i]? K)/\(∀(a b c d:Nat) (x:Prop),uU (.ptr a b c d) x=x)/\(∀(a:On V) (b:Nat) (x:Prop),uU (.iptr a b) x=x) /\
  (∀b:Ps,unV .not (.bool b)=.ok (.bool !b))/\(∀v:V,gW v v=OB):=
 ⟨λ_ _=>rfl,λ_ _=>rfl,λ_=>rfl,bC8,λ_ _ _=>rfl,λ_ _ _=>rfl,λ_ _ _ _ _=>rfl,λ_ _ _=>rfl,λ_=>rfl,aC1⟩
theorem bNs(P:OI):(∀(t:OH) (k:Qa) (a b:Int),cC P .add t (.int k a) (.int k b)=.ok (.int k (wr k (a+b))))/\(∀(t:OH) (k:Qa) (a b:Int),cC P .sub t (.int k a) (.int k b)=.ok (.int k (wr k (a - b)))) /\
  (∀(t:OH) (k:Qa) (a b:Int),cC P .mul t (.int k a) (.int k b)=.ok (.int k (wr k (a*b))))/\(∀(t:OH) (k:Qa) (a b:Int),cC P .lss t (.int k a) (.int k b)=.ok (.bool (decide (a<b)))) /\
  (∀(t:OH) (k:Qa) (a b:Int),cC P .leq t (.int k a) (.int k b)=.ok (.bool (decide (a<=b))))/\(∀(t:OH) (k:Qa) (a b:Int),cC P .gtr t (.int k a) (.int k b)=.ok (.bool (decide (b<a)))) /\
  (∀(t:OH) (k:Qa) (a b:Int),cC P .geq t (.int k a) (.int k b)=.ok (.bool (decide (b<=a))))/\(∀(t:OH) (k:Qa) (a b:Int),cC P .eql t (.int k a) (.int k b)=.ok (.bool (decide (a=b)))) /\
  (∀(t:OH) (k:Qa) (a b:Int),cC P .neq t (.int k a) (.int k b)=.ok (.bool (!decide (a=b)))) /\
  (∀(t:OH) (j k:Qa) (a b:Int),cF P t (.int j a) (.int k b)=OB)/\(∀(t:OH) (x y:On OP),cF P t (.str x) (.str y)=OB)/\(∀(t:OH) (x y:Ps),cF P t (.bool x) (.bool y)=OB) /\
  (∀(t:OH) (x y:On OP),cC P .eql t (.str x) (.str y)=.ok (.bool (x == y)))/\(∀(t:OH) (x y:On OP),cC P .neq t (.str x) (.str y)=.ok (.bool (!(x == y)))) /\
  (∀(t:OH) (x y:On OP),cC P .lss t (.str x) (.str y)=.ok (.bool (iL x y)))/\(∀(t:OH) (x y:On OP),cC P .geq t (.str x) (.str y)=.ok (.bool (!iL x y))) /\
  (∀(t:OH) (k:Qa) (a b:Int),b≠0->cC P .quo t (.int k a) (.int k b)=.ok (.int k (wr k (a.tdiv b))))/\(∀(t:OH) (k:Qa) (a b:Int),b≠0->cC P .rem t (.int k a) (.int k b)=.ok (.int k (a.tmod b))):=
 ⟨bB5 P,bB6 P,bB7 P,bB9 P,bBa P,bBb P,bBc P,bBd P,bBe P,λ_ _ _ _ _=>rfl,λ_ _ _=>rfl,λ_ _ _=>rfl,bBf P,bBg P,bBh P,bBi P,λ_ _ _ _ h=>bB8 P _ _ _ _ h,λ_ _ _ _ h=>aQ9 P _ _ _ _ h⟩
theorem bNt : (∀(k : Ow Nat) (a j : Nat) (S : St), fZ k (.ptr a 0 0 j) S = (match aC S a 0 with
      | .error e => .error e
      | .ok (_, elems) => match elems[0]? with
        | some cs => jB k cs j
        | none => .error "load")) /\ (∀(k : Ow Nat) (cs : On V) (j : Nat) (S : St), fZ k (.iptr cs j) S = jB k cs j) /\
    (∀(cs : On V) (j : Nat), jB OG cs j = (match cs[j]? with
      | some v => .ok v
      | none => .error "part")) /\
    (∀off a ver i j : Nat, advW off (.ptr a ver i j) = .ok (.ptr a ver i (j + off))) /\ (∀(off : Nat) (cs : On V) (j : Nat), advW off (.iptr cs j) = .ok (.iptr cs (j + off))) /\
    (∀(n : Nat) (h : Tr Blk) (a ver es : Nat) (el : On (On V)), aC ⟨n, h.put a (.row ver es el)⟩ a ver = .ok (es, el)) /\ (∀(S : St) (b : Blk), bR OG S b = .ok (S.next, ⟨S.next + 1, S.heap.put S.next b⟩)) /\
    (∀(k : Nat) (S : St) (b : Blk), bR (Ot k) S b = .ok (k, ⟨S.next, S.heap.put k b⟩)) /\ (∀cs : On V, (V.agg cs).cells = cs) /\ (∀b : Ps, (V.bool b).cells = [.bool b]) /\ (∀(k : Qa) (n : Int), (V.int k n).cells = [.int k n]) /\
    (∀s : On OP, (V.str s).cells = [.str s]) /\ (∀es : On (On V), (V.imm es).cells = [.imm es]) /\ V.nils.cells = [.nils] /\ (∀a b c d : Nat, (V.ptr a b c d).cells = [.ptr a b c d]) /\ (∀a b c d e : Nat, (V.sl a b c d e).cells = [.sl a b c d e]) /\
    (∀(f : PU) (a b : On V), (V.func f a b).cells = [.func f a b]) /\ aH [] = OB /\ (∀(v : V) (l : On V), aH (v :: l) = (v.one && aH l)) /\ (∀b : Ps, (V.bool b).one = OB) /\ (∀(k : Qa) (n : Int), (V.int k n).one = OB) /\ (∀s : On OP, (V.str s).one = OB) /\
    (∀es : On (On V), (V.imm es).one = OB) /\ V.nils.one = OB /\ (∀a b c d : Nat, (V.ptr a b c d).one = OB) /\ (∀a b c d e : Nat, (V.sl a b c d e).one = OB) /\ (∀(f : PU) (a b : On V), (V.func f a b).one = OB) /\
    (∀es : On (On V), lenW (.imm es) = .ok (.int J es.length)) /\ lenW .nils = .ok (.int J 0) /\ (∀a b c d e : Nat, lenW (.sl a b c d e) = .ok (.int J e)) /\
    (∀(S : St) (b : Ps), eX S (.bool b) = .ok (.bool b)) /\ (∀(S : St) (k : Qa) (n : Int), eX S (.int k n) = .ok (.int k n)) /\ (∀(S : St) (s : On OP), eX S (.str s) = .ok (.str s)) /\ (∀(S : St) (es : On (On V)), eX S (.imm es) = .ok (.imm es)) /\
    (∀{α : Type} (a b : α), ((TO a : R α) = .ok b) = (a = b)) :=
  ⟨λ_ _ _ _ => rfl, λ_ _ _ _ => rfl, λ_ _ => rfl, λ_ _ _ _ _ => rfl, λ_ _ _ => rfl, grS, nb0, nb1, λ_ => rfl, λ_ => rfl, λ_ _ => rfl, λ_ => rfl, λ_ => rfl, rfl, λ_ _ _ _ => rfl, λ_ _ _ _ _ => rfl, λ_ _ _ => rfl, rfl, λ_ _ => rfl,
    λ_ => rfl, λ_ _ => rfl, λ_ => rfl, λ_ => rfl, rfl, λ_ _ _ _ => rfl, λ_ _ _ _ _ => rfl, λ_ _ _ => rfl, λ_ => rfl, rfl, λ_ _ _ _ _ => rfl, λ_ _ => rfl, λ_ _ _ => rfl, λ_ _ => rfl, λ_ _ => rfl, okI⟩
end
end Go.AM
end
section
namespace Go.Proofs.YtoaibmbldmckaaaGreat
open Go.AM Tryz
theorem fx:type_of% (A2 aX2 <| A2 bEr <| A2 bEs <| A2 bEt <| A2 bEu <| A2 bEv <| A2 bEw <| A2 bEx <| A2 bEy <| A2 bEz <| A2 bF0 <| A2 bF1 <| A2 bF2 <| A2 bF3 <| A2 bF4 <| A2 bF5 <| A2 bF6 <| A2 bF7 <| A2 bF8 <| A2 bF9 <| A2 bFa <| A2 bFb <| A2 bFc <| A2 bFd <| A2 bKe <| A2 bFe <| A2 bKf <| A2 bKg <| A2 bKh <| A2 bKi <| A2 bKj <| A2 bKk <| A2 bKl <| A2 bKm <| A2 bKn <| A2 bKo <| A2 bKp <| A2 bKq <| A2 bFf <| A2 bKr <| A2 bKs <| A2 bKt <| A2 bKu <| A2 bKv <| A2 bKw <| A2 bFg <| A2 bFh <| A2 bKx <| A2 bKy <| A2 bKz <| A2 bL0 <| A2 bL1 <| A2 bL2 <| A2 bL3 <| A2 bL4 <| A2 aQt <| A2 aQu <| A2 aQv <| A2 aQw <| A2 aQx <| A2 aQy <| A2 aQz <| A2 aR0 <| A2 aR1 <| A2 aR2 <| A2 aR3 <| A2 aR4 <| A2 aR5 <| A2 aR6 <| A2 aR7 <| A2 aR8 <| A2 aR9 <| A2 aRa <| A2 aRb <| A2 aRc <| A2 aRd <| A2 aRe <| A2 aRf <| A2 aRg <| A2 aRh <| A2 aRi <| A2 aRj <| A2 aRk <| A2 aRl <| A2 aRm <| A2 aRn <| A2 aRo <| A2 aRp <| A2 aRq <| A2 aRr <| A2 aRs <| A2 aX3 <| A2 aX4 <| A2 aX5 <| A2 aX6 <| A2 aX7 <| A2 aX8 <| A2 aRt <| A2 aRu <| A2 aX9 <| A2 aXa <| A2 aXb <| A2 aXc <| A2 aXd <| A2 aXe <| A2 aXf <| A2 aXg <| A2 aXh <| A2 aXi <| A2 aXj <| A2 aXk <| A2 aXl <| A2 aXm <| A2 aXn <| A2 aXo <| A2 aXp <| A2 aXq <| A2 aXr <| A2 aXs <| A2 aXt <| A2 aXu <| A2 aXv <| A2 aXw <| A2 aXx <| A2 aXy <| A2 aXz <| A2 aY0 <| A2 aY1 <| A2 aY2 <| A2 aY3 <| A2 aY4 <| A2 aY5 <| A2 aY6 <| A2 aY7 <| A2 aY8 <| A2 aY9 <| A2 aYa <| A2 aYb <| A2 aYc <| A2 aYd <| A2 aYe <| A2 aYf <| A2 aYg <| A2 aYh <| A2 aYi <| A2 bFs <| A2 bFt <| A2 bLs <| A2 bLt <| A2 bLu <| A2 bLv <| A2 bLw <| A2 bLx <| A2 bFu <| A2 bFv <| A2 bLy <| A2 bLz <| A2 bM0 <| A2 bM1 <| A2 bM2 <| A2 bM3 <| A2 bM4 <| A2 bM5 <| A2 bFw <| A2 bFx <| A2 bFy <| A2 ld2 <| A2 bFz <| A2 bG0 <| A2 bM6 <| A2 bG1 <| A2 bG2 <| A2 bG3 <| A2 bM7 <| A2 bM8 <| A2 bM9 <| A2 bMa <| A2 bMb <| A2 ld3 <| A2 bMc <| A2 bMd <| A2 bG4 <| A2 bG5 <| A2 ld4 <| A2 bMe <| A2 ld5 <| A2 bMf <| A2 bMg <| A2 bMh <| A2 bMi <| A2 bMj <| A2 bMk <| A2 bMl <| A2 bMm <| A2 bMn <| A2 bMo <| A2 ld9 <| A2 bMp <| A2 bMq <| A2 aYj <| A2 aYk <| A2 bG6 <| A2 bG7 <| A2 bG8 <| A2 bG9 <| A2 bGa <| A2 bGb <| A2 aYl <| A2 aYm <| A2 bGc <| A2 bGd <| A2 bGe <| A2 bGf <| A2 bGg <| A2 bGh <| A2 bMr <| A2 bGi <| A2 bGj <| A2 bMs <| A2 bMu <| A2 bMv <| A2 bMw <| A2 bI2 <| A2 bMy <| A2 bMz <| A2 bN1 <| A2 bN2 <| A2 bN3 <| A2 bN4 <| A2 bGk <| A2 bGl <| A2 bGm <| A2 bGn <| A2 bGo <| A2 bN5 <| A2 bGp <| A2 bGq <| A2 bN6 <| A2 bN7 <| A2 bN8 <| A2 bN9 <| A2 bNa <| A2 st3 <| A2 bNb <| A2 bNc <| A2 bGr <| A2 st4 <| A2 bNd <| A2 st5 <| A2 bNe <| A2 bNf <| A2 bNg <| A2 bNh <| A2 bNi <| A2 bNj <| A2 bNk <| A2 bNl <| A2 bNm <| A2 st9 <| A2 bNn <| bNo):=A2 aX2 <| A2 bEr <| A2 bEs <| A2 bEt <| A2 bEu <| A2 bEv <| A2 bEw <| A2 bEx <| A2 bEy <| A2 bEz <| A2 bF0 <| A2 bF1 <| A2 bF2 <| A2 bF3 <| A2 bF4 <| A2 bF5 <| A2 bF6 <| A2 bF7 <| A2 bF8 <| A2 bF9 <| A2 bFa <| A2 bFb <| A2 bFc <| A2 bFd <| A2 bKe <| A2 bFe <| A2 bKf <| A2 bKg <| A2 bKh <| A2 bKi <| A2 bKj <| A2 bKk <| A2 bKl <| A2 bKm <| A2 bKn <| A2 bKo <| A2 bKp <| A2 bKq <| A2 bFf <| A2 bKr <| A2 bKs <| A2 bKt <| A2 bKu <| A2 bKv <| A2 bKw <| A2 bFg <| A2 bFh <| A2 bKx <| A2 bKy <| A2 bKz <| A2 bL0 <| A2 bL1 <| A2 bL2 <| A2 bL3 <| A2 bL4 <| A2 aQt <| A2 aQu <| A2 aQv <| A2 aQw <| A2 aQx <| A2 aQy <| A2 aQz <| A2 aR0 <| A2 aR1 <| A2 aR2 <| A2 aR3 <| A2 aR4 <| A2 aR5 <| A2 aR6 <| A2 aR7 <| A2 aR8 <| A2 aR9 <| A2 aRa <| A2 aRb <| A2 aRc <| A2 aRd <| A2 aRe <| A2 aRf <| A2 aRg <| A2 aRh <| A2 aRi <| A2 aRj <| A2 aRk <| A2 aRl <| A2 aRm <| A2 aRn <| A2 aRo <| A2 aRp <| A2 aRq <| A2 aRr <| A2 aRs <| A2 aX3 <| A2 aX4 <| A2 aX5 <| A2 aX6 <| A2 aX7 <| A2 aX8 <| A2 aRt <| A2 aRu <| A2 aX9 <| A2 aXa <| A2 aXb <| A2 aXc <| A2 aXd <| A2 aXe <| A2 aXf <| A2 aXg <| A2 aXh <| A2 aXi <| A2 aXj <| A2 aXk <| A2 aXl <| A2 aXm <| A2 aXn <| A2 aXo <| A2 aXp <| A2 aXq <| A2 aXr <| A2 aXs <| A2 aXt <| A2 aXu <| A2 aXv <| A2 aXw <| A2 aXx <| A2 aXy <| A2 aXz <| A2 aY0 <| A2 aY1 <| A2 aY2 <| A2 aY3 <| A2 aY4 <| A2 aY5 <| A2 aY6 <| A2 aY7 <| A2 aY8 <| A2 aY9 <| A2 aYa <| A2 aYb <| A2 aYc <| A2 aYd <| A2 aYe <| A2 aYf <| A2 aYg <| A2 aYh <| A2 aYi <| A2 bFs <| A2 bFt <| A2 bLs <| A2 bLt <| A2 bLu <| A2 bLv <| A2 bLw <| A2 bLx <| A2 bFu <| A2 bFv <| A2 bLy <| A2 bLz <| A2 bM0 <| A2 bM1 <| A2 bM2 <| A2 bM3 <| A2 bM4 <| A2 bM5 <| A2 bFw <| A2 bFx <| A2 bFy <| A2 ld2 <| A2 bFz <| A2 bG0 <| A2 bM6 <| A2 bG1 <| A2 bG2 <| A2 bG3 <| A2 bM7 <| A2 bM8 <| A2 bM9 <| A2 bMa <| A2 bMb <| A2 ld3 <| A2 bMc <| A2 bMd <| A2 bG4 <| A2 bG5 <| A2 ld4 <| A2 bMe <| A2 ld5 <| A2 bMf <| A2 bMg <| A2 bMh <| A2 bMi <| A2 bMj <| A2 bMk <| A2 bMl <| A2 bMm <| A2 bMn <| A2 bMo <| A2 ld9 <| A2 bMp <| A2 bMq <| A2 aYj <| A2 aYk <| A2 bG6 <| A2 bG7 <| A2 bG8 <| A2 bG9 <| A2 bGa <| A2 bGb <| A2 aYl <| A2 aYm <| A2 bGc <| A2 bGd <| A2 bGe <| A2 bGf <| A2 bGg <| A2 bGh <| A2 bMr <| A2 bGi <| A2 bGj <| A2 bMs <| A2 bMu <| A2 bMv <| A2 bMw <| A2 bI2 <| A2 bMy <| A2 bMz <| A2 bN1 <| A2 bN2 <| A2 bN3 <| A2 bN4 <| A2 bGk <| A2 bGl <| A2 bGm <| A2 bGn <| A2 bGo <| A2 bN5 <| A2 bGp <| A2 bGq <| A2 bN6 <| A2 bN7 <| A2 bN8 <| A2 bN9 <| A2 bNa <| A2 st3 <| A2 bNb <| A2 bNc <| A2 bGr <| A2 st4 <| A2 bNd <| A2 st5 <| A2 bNe <| A2 bNf <| A2 bNg <| A2 bNh <| A2 bNi <| A2 bNj <| A2 bNk <| A2 bNl <| A2 bNm <| A2 st9 <| A2 bNn <| bNo
theorem ls:(∀{α:Type} (a:α) (l:On α),(a::l)[0]?=Ot a)/\(∀{α:Type} (a:α) (l:On α) (i:Nat),(a::l)[i+1]?=l[i]?)/\(∀{α:Type} (i:Nat),([]:On α)[i]?=OG)/\(∀{α:Type} (a:α) (l:On α),(a::l).length=l.length+1)/\(∀{α:Type},([]:On α).length=0) /\
  (∀{α:Type} (l:On α),l.drop 0=l)/\(∀{α:Type} (a:α) (l:On α) (i:Nat),(a::l).drop (i+1)=l.drop i)/\(∀{α:Type} (l:On α),l.take 0=[])/\(∀{α:Type} (a:α) (l:On α) (i:Nat),(a::l).take (i+1)=a::l.take i)/\(∀{α:Type} (i:Nat),([]:On α).take i=[])/\(∀{α:Type} (i:Nat),([]:On α).drop i=[]) /\
  (∀{α:Type} (l:On α),[]++l=l)/\(∀{α:Type} (a:α) (l m:On α),a::l++m=a::(l++m))/\(∀{α:Type} (a b:α) (l:On α),(a::l).set 0 b=b::l)/\(∀{α:Type} (a b:α) (l:On α) (i:Nat),(a::l).set (i+1) b=a::l.set i b) /\
  (∀b:Ps,(OB&&b)=b)/\(∀b:Ps,(b&&OB)=b)/\(∀b:Ps,(!!b)=b)/\(∀{p q:Prop},(if OB=OB then p else q)=p)/\(∀{p q:Prop},(if OA=OB then p else q)=q)/\(!true)=OA/\(!false)=OB/\(∀{α:Type} (a b:α),(if UF then a else b)=a)/\(∀{α:Type} (a b:α),(if False then a else b)=b)/\(∀n:Nat,0+n=n)/\(∀n:Nat,n+0=n)/\(∀{α:Type} (f:α->On V) (l:On α),(l.map f).length=l.length) /\
  (∀(p:Prop) [Decidable p],(decide p=OB)=p)/\(∀(p:Prop) [Decidable p],((!decide p)=OB)=¬p)/\(∀p:Prop,(p/\UF)=p)/\(∀p:Prop,(UF/\p)=p)/\(∀n:Nat,(n<=n)=UF)/\(∀n:Nat,(0<=n)=UF)/\(∀(a:Nat),(a=a)=UF):=
 ⟨λ_ _=>rfl,λ_ _ _=>rfl,λ_=>rfl,λ_ _=>rfl,rfl,λ_=>rfl,λ_ _ _=>rfl,λ_=>rfl,λ_ _ _=>rfl,λ_=>by simp,λ_=>by simp,λ_=>rfl,λ_ _ _=>rfl,λ_ _ _=>rfl,λ_ _ _ _=>rfl,Rn,QQ,Bool.not_not,by intros;rfl,by intros;rfl,rfl,rfl,λ_ _=>OE trivial,λ_ _=>Oz id,Px,QT,λ_ _=>ON ..,λp _=>by simp,λp _=>by simp,and_true,true_and,λn=>by simp,λn=>by simp,λn=>by simp⟩
theorem gm(n:Nat)(S:St)(a v:Nat):aC ⟨n,S.heap⟩ a v=aC S a v:=rfl
theorem bNu{l:On Int}{i:Nat}{a:Int}(hi:l[i]?=Ot a)(k:Qa):fV 1 (.imm (l.map dE)) (.int k (i:Int))=.ok (.iptr (dE a) 0):=ixI (enc:=dE) hi rfl k
theorem pV{l:On Rate}{i:Nat}{a:Rate}(hi:l[i]?=Ot a)(k:Qa):fV 5 (.imm (l.map Rate.enc)) (.int k (i:Int))=.ok (.iptr a.enc 0):=ixI (enc:=Rate.enc) hi rfl k
theorem nO{l:On Ser}{i:Nat}{a:Ser}(hi:l[i]?=Ot a)(k:Qa):fV 4 (.imm (l.map Ser.enc)) (.int k (i:Int))=.ok (.iptr a.enc 0):=ixI (enc:=Ser.enc) hi rfl k
theorem mO{l:On Sess}{i:Nat}{a:Sess}(hi:l[i]?=Ot a)(k:Qa):fV 5 (.imm (l.map Sess.enc)) (.int k (i:Int))=.ok (.iptr a.enc 0):=ixI (enc:=Sess.enc) hi rfl k
theorem oJ{l:On Bal}{i:Nat}{a:Bal}(hi:l[i]?=Ot a)(k:Qa):fV 2 (.imm (l.map Bal.enc)) (.int k (i:Int))=.ok (.iptr a.enc 0):=ixI (enc:=Bal.enc) hi rfl k
theorem kJ{l:On Part}{i:Nat}{a:Part}(hi:l[i]?=Ot a)(k:Qa):fV 4 (.imm (l.map Part.enc)) (.int k (i:Int))=.ok (.iptr a.enc 0):=ixI (enc:=Part.enc) hi rfl k
theorem bI7{l:On Line}{i:Nat}{a:Line}(hi:l[i]?=Ot a)(k:Qa):fV 4 (.imm (l.map Line.enc)) (.int k (i:Int))=.ok (.iptr a.enc 0):=ixI (enc:=Line.enc) hi rfl k
theorem bG{α:Type}{l:On α}{i:Nat}{a:α}(h:l[i]?=Ot a):((i:Int)<(l.length:Int))=True:=by
 have:=(Oq.1 h).1
 simp;exact this
theorem gM{i:Nat}(h:i<1000000000):wr J ((i:Int)+1)=((i+1:Nat):Int):=by rw[fB (by omega) (by omega)];omega
theorem wrm{i:Nat}(h:i+1<1000000000):wr J (((i+1:Nat):Int) - 1)=(i:Int):=by rw[fB (by omega) (by omega)];omega
theorem gt0(i:Nat):((0:Int)<((i+1:Nat):Int))=True:=by simp
theorem aMm{n i a:Nat}(h:(RC n)[i]?=Ot a):i<n/\a=i:=by
 have hl:i<n:=by simpa using(Oq.1 h).1
 rw[List.getElem?_range hl] at h;exact⟨hl,(Qz h).symm⟩
theorem oo : (∀(S : St) (v : V), eX S v = cP kP (kV (iS S 3) S) v) /\ (∀(σ : V -> Go.AM.R V) (l : On V), cP kP σ (.tup l) = (match Sm kP σ l with
      | .ok cs => .ok (.tup cs)
      | .error e => .error e)) /\ (∀(σ : V -> Go.AM.R V) (l : On V), cP kP σ (.agg l) = (match Sm kP σ l with
      | .ok cs => .ok (.agg cs)
      | .error e => .error e)) /\ (∀σ : V -> Go.AM.R V, Sm kP σ [] = .ok []) /\ (∀(σ : V -> Go.AM.R V) (v : V) (l : On V), Sm kP σ (v :: l) = (match cP kP σ v with
      | .ok v => (match Sm kP σ l with
        | .ok l => .ok (v :: l)
        | .error e => .error e)
      | .error e => .error e)) /\ (∀(σ : V -> Go.AM.R V) (b : Ps), cP kP σ (.bool b) = .ok (.bool b)) /\ (∀(σ : V -> Go.AM.R V) (k : Qa) (n : Int), cP kP σ (.int k n) = .ok (.int k n)) /\ (∀(σ : V -> Go.AM.R V) (s : On OP), cP kP σ (.str s) = .ok (.str s)) /\
    (∀(σ : V -> Go.AM.R V) (es : On (On V)), cP kP σ (.imm es) = .ok (.imm es)) /\ (∀σ : V -> Go.AM.R V, cP kP σ .nils = .ok (.imm [])) /\ (∀(σ : V -> Go.AM.R V) (a b c d e : Nat), cP kP σ (.sl a b c d e) = σ (.sl a b c d e)) :=
  ⟨λ_ _ => rfl, λσ l => by simp only[cP] <;> rfl, λσ l => by simp only[cP] <;> rfl, λ_ => rfl, λσ v l => by simp only[Sm] <;> rfl, λ_ _ => rfl, λ_ _ _ => rfl, λ_ _ => rfl, λ_ _ => rfl, λ_ => rfl, λ_ _ _ _ _ _ => rfl⟩
theorem unK:(∀(k:Qa) (n:Int),unV .neg (.int k n)=.ok (.int k (wr k (0 - n))))/\(∀n:Int,unV .xor (.int ξ n)=.ok (.int ξ (aH3 n))):=⟨λ_ _=>rfl,λ_=>rfl⟩
theorem nk:(∀n:Nat,(0=n+1)=False)/\(∀n:Nat,(n+1=0)=False)/\(∀n m:Nat,(n+1=m+1)=(n=m))/\(∀{α:Type} {a b:α},(a≠b)=¬a=b)/\(¬False)=True:=⟨λn=>by simp,λn=>by simp,λn m=>by simp,by intros;rfl,by simp⟩
theorem ex:type_of% (A2 bFi <| A2 bFj <| A2 bFk <| A2 bFl <| A2 bFm <| A2 bFn <| A2 bFo <| A2 bFp <| A2 bFq <| A2 bFr <| A2 bLb <| A2 bLc <| A2 bLe <| A2 bLf <| A2 bLh <| A2 bLi <| A2 bLk <| A2 bLl <| A2 bLn <| A2 bLo <| A2 bLq <| bLr):=A2 bFi <| A2 bFj <| A2 bFk <| A2 bFl <| A2 bFm <| A2 bFn <| A2 bFo <| A2 bFp <| A2 bFq <| A2 bFr <| A2 bLb <| A2 bLc <| A2 bLe <| A2 bLf <| A2 bLh <| A2 bLi <| A2 bLk <| A2 bLl <| A2 bLn <| A2 bLo <| A2 bLq <| bLr
theorem agK(P:OI):(∀(t:OH) (a b:On V),cC P .eql t (.agg a) (.agg b)=(match vC P 100 t (.agg a) (.agg b) with
 | .ok r=>.ok (.bool r)
 | .error e=>.error e))/\(∀(t:OH) (a b:On V),cC P .neq t (.agg a) (.agg b)=(match vC P 100 t (.agg a) (.agg b) with
 | .ok r=>.ok (.bool (!r))
 | .error e=>.error e)):=⟨λ_ _ _=>rfl,λ_ _ _=>rfl⟩
theorem kk:type_of% (A2 sf <| A2 ex <| A2 (agK prog) <| A2 bH0 <| A2 nk <| A2 kit <| A2 (bNs prog) <| A2 bNt <| A2 fx ls):=A2 sf <| A2 ex <| A2 (agK prog) <| A2 bH0 <| A2 nk <| A2 kit <| A2 (bNs prog) <| A2 bNt <| A2 fx ls
theorem bTv(y:Int)(S:St)(K:KW):C 204 [O J y] S K=K (.bool (aKm y)) S:=by
 refine(bSe rfl ?_).eq S K;delta Tryz.f204;simp only[↓cw,↓Oo,Om,kk,SI,Ui,OL,aKm]
 grind
theorem bTw(y:Int)(S:St)(K:KW):C 246 [O J y] S K=K (.bool (aKm y)) S:=by
 refine(bT0 rfl ?_).eq S K;delta Tryz.f246;simp only[↓cw,↓Oo,Om,kk,SI,Ui,OL,aKm]
 grind
theorem bNw(y m:Int)(S:St)(K:KW):C 132 [O J y,O J m] S K=K (O J (gB y m)) S:=by
 refine(bRf rfl ?_).eq S K;delta Tryz.f132;simp only[↓cw,↓Oo,Om,kk,bTv,gB]
 grind
def xN(y m:Int):Int:=if 1<=m/\m<=12 then gB y m else 0
theorem bNx(y m:Int)(S:St)(K:KW):C 196 [O J y,O J m] S K=K (O J (xN y m)) S:=by
 refine(bS8 rfl ?_).eq S K;delta Tryz.f196;simp only[↓cw,↓Oo,Om,kk,bTw,xN,gB];by_cases h:1<=m/\m<=12
 ·have h:m=1\/m=2\/m=3\/m=4\/m=5\/m=6\/m=7\/m=8\/m=9\/m=10\/m=11\/m=12:=by omega
  rcases h with rfl | rfl | rfl | rfl | rfl | rfl | rfl | rfl | rfl | rfl | rfl | rfl<;>simp
 ·have e:∀k:Int,1<=k->k<=12->m≠k:=by omega
  simp[h,e]
theorem aMn(d:Date)(S:St)(K:KW):C 123 [.agg [O J d.y,O J d.m,O J d.d]] S K=K (.bool d.right) S:=by
 refine(bRa rfl ?_).eq S K;delta Tryz.f123;simp only[↓cw,↓Oo,Om,kk,bNw,Date.right]
 grind
theorem bI8(d:Date)(S:St)(K:KW):C 118 [.agg [O J d.y,O J d.m,O J d.d]] S K=K (.bool d.right) S:=by
 refine(bR7 rfl ?_).eq S K;delta Tryz.f118;simp only[↓cw,↓Oo,Om,kk,bNx,Date.right,xN]
 grind
theorem bTx(y:Int)(S:St)(K:KW):C 131 [O J y] S K=K (O J (ahead y)) S:=by
 refine(bRe rfl ?_).eq S K;delta Tryz.f131;simp only[↓cw,↓Oo,Om,kk,SI,Ui,OL,ahead]
theorem bTy(d:Date)(S:St)(K:KW):C 200 [.agg [O J d.y,O J d.m,O J d.d]] S K=K (O J d.days) S:=by
 refine(bSc rfl ?_).eq S K;delta Tryz.f200;simp only[↓cw,↓Oo,Om,kk,aMn,bTx,Date.days];by_cases hr:d.right=OB
 ·simp only[↓cw,↓Oo,Om,hr,kk];have hm:1<=d.m/\d.m<=12:=by simp only[Date.right,OU,PB] at hr;omega
  refine aG (RC (d.m - 1).toNat) (step:=jT d.y) (fin:=id) (λi n vs S=>vs=[O J n,O J ((i:Int)+1)]/\aC S 0 0=.ok (3,[d.enc])) (λr=>V.int J (wr J (wr J (r+d.d) - 1))=O J (wr J (wr J (aD (jT d.y) id (RC (d.m - 1).toNat) (ahead d.y)+d.d) - 1))) ?_ ?_ ⟨rfl,by simp only[↓cw,↓Oo,Om,kk];rfl⟩ rfl
  ·rintro i a n vs S hi ⟨rfl,hg⟩ aE H;obtain⟨ai,rfl⟩:=aMm hi;simp only[jT] at H;simp only[↓cw,↓Oo,Om,kk,hg,Date.enc,bNw];rw[OE (by omega)];refine H _ _ ⟨?_,hg⟩;rw[fB (n:=(a:Int)+1+1) (by omega) (by omega)];simp
  ·rintro n vs S ⟨rfl,hg⟩ aE H;simp only[↓cw,↓Oo,Om,kk,hg,Date.enc];rw[Oz (by simp;omega)];exact H
 ·have hr:d.right=false:=by simpa using hr
  simp only[↓cw,↓Oo,Om,hr,kk]
theorem bCa(a b:Date)(S:St)(K:KW):C 124 [.agg [O J a.y,O J a.m,O J a.d],.agg [O J b.y,O J b.m,O J b.d]] S K=K (.bool (a.before b)) S:=by
 refine(bRb rfl ?_).eq S K;delta Tryz.f124;simp only[↓cw,↓Oo,Om,kk,eY,aMn,bTy,Date.before];cases a.right<;>cases b.right<;>simp
theorem bTz(n:Int)(S:St)(K:KW):C 286 [O J n] S K=K (.int ξ (sI n)) S:=by
 refine(bT9 rfl ?_).eq S K;delta Tryz.f286;simp only[↓cw,↓Oo,Om,kk,unK,sI];split<;>rfl
theorem bU0(n:Int)(b:Ps)(S:St)(K:KW):C 287 [.int ξ n,.bool b] S K=K (.tup [O J (aE3 n b).1,.bool (aE3 n b).2]) S:=by
 refine(bTa rfl ?_).eq S K;delta Tryz.f287;simp only[↓cw,↓Oo,Om,kk,unK,oo,aE3];cases b<;>simp
theorem bCb(a b:Int)(S:St)(K:KW):C 203 [O J a,O J b] S K=K (dU (dH a b)) S:=by
 refine(bSd rfl ?_).eq S K;delta Tryz.f203;simp only[↓cw,↓Oo,Om,kk,oo,dH,dU]
 grind
theorem bI9(a b:Int)(S:St)(K:KW):C 127 [O J a,O J b] S K=K (dU (dH a b)) S:=by
 refine(bRd rfl ?_).eq S K;delta Tryz.f127;simp only[↓cw,↓Oo,Om,kk,oo,dH,dU]
 grind
theorem bIa(a b:Int)(S:St)(K:KW):C 219 [O J a,O J b] S K=K (dU (cM a b)) S:=by
 refine(bSh rfl ?_).eq S K;delta Tryz.f219;simp only[↓cw,↓Oo,Om,kk,oo,cM,dU]
 grind
theorem bIb(a b:Int)(S:St)(K:KW):C 198 [O J a,O J b] S K=K (dU (cM a b)) S:=by
 refine(bSa rfl ?_).eq S K;delta Tryz.f198;simp only[↓cw,↓Oo,Om,kk,oo,cM,dU]
 grind
theorem bU1:(λ(a b:Ps)=>cC prog .neq 4 (.bool a) (.bool b))=λa b=>.ok (.bool (!(a == b))):=by kernel_rfl
theorem bU2(a b:Ps):cC prog .neq 4 (.bool a) (.bool b)=.ok (.bool (!(a == b))):=OR (OR bU1 a) b
theorem bU3(a b:Int)(S:St)(K:KW):C 279 [O J a,O J b] S K=K (dU (aPd a b)) S:=by
 refine(bT8 rfl ?_).eq S K;delta Tryz.f279;simp only[↓cw,↓Oo,Om,kk,bTz,bU0,bU2,oo,dU,aPd];by_cases h:0<sI b
 ·have h0:sI b≠0:=by omega
  simp only[↓cw,↓Oo,Om,h,h0,kk,SI,OL]
  grind
 ·simp only[↓cw,↓Oo,Om,h,kk]
  grind
def aFm(n:Int):Int:=if n<0 then wr ξ (wr ξ (wr J (0 - wr J (n+1)))+1) else wr ξ n
theorem bU4(n:Int)(S:St)(K:KW):C 222 [O J n] S K=K (.int ξ (aFm n)) S:=by
 refine(bSj rfl ?_).eq S K;delta Tryz.f222;simp only[↓cw,↓Oo,Om,kk,unK,aFm];split<;>rfl
theorem bU5(n bp:Int)(S:St)(K:KW):C 254 [O J n,O J bp,O J 10000] S K=K (dU (bC n bp)) S:=by
 refine(bT1 rfl ?_).eq S K;delta Tryz.f254;simp only[↓cw,↓Oo,Om,kk,unK,oo,dU,bI4,aFg,SI,Ui,OL];unfold bC;simp only[sI];by_cases hn:n<0<;>simp only[↓cw,↓Oo,Om,hn,kk,Oy,Ou,aFg]
 all_goals
  by_cases hp:wr ξ bp=0
  ·simp only[↓cw,↓Oo,Om,hp,kk,aFg]
   grind
  ·simp only[↓cw,↓Oo,Om,hp,kk,aFg,SI,OL]
   grind
theorem bCc(n bp:Int)(S:St)(K:KW):C 217 [O J n,O J bp] S K=K (dU (bC n bp)) S:=by
 refine(bSf rfl ?_).eq S K;delta Tryz.f217;simp only[↓cw,↓Oo,Om,kk,bU5,dU,oo]
def aYw(n bp:Int):Int×Int:=if bp<0\/100000<bp then(0,1) else
 if 0<bp/\wr ξ ((9223372036854775807:Int).tdiv (wr ξ bp))<wr ξ ((aFm n).tdiv 10000) then(0,7) else
  let t:=wr ξ (wr ξ (wr ξ ((aFm n).tdiv 10000)*wr ξ bp)+wr ξ ((wr ξ (wr ξ ((aFm n).tmod 10000*wr ξ bp)+5000)).tdiv 10000))
  if 9223372036854775807<t then(0,7) else if n<0 then(wr J (0 - wr J t),0) else(wr J t,0)
theorem bNy(n bp:Int)(S:St)(K:KW):C 160 [O J n,O J bp] S K=K (dU (aYw n bp)) S:=by
 refine(bRl rfl ?_).eq S K;delta Tryz.f160;simp only[↓cw,↓Oo,Om,kk,bU4,unK,oo,dU,SI,Ui,OL,aYw];by_cases hb:bp<0\/100000<bp
 ·grind
 ·have hw:wr ξ bp=bp:=by unfold wr lo hi;simp only;rw[OE (by omega)]
  by_cases hp:0<bp
  ·have hp2:bp≠0:=by omega
   simp only[↓cw,↓Oo,Om,hp,hp2,hw,kk,SI,OL]
   grind
  ·simp only[↓cw,↓Oo,Om,hp,kk]
   grind
theorem bIc:(λ(a b c:Int)=>tH Tryz.f255 [.int ξ a,.int ξ b,.int ξ c])=λa b c=>
 bif decide (0<=a)&&decide (0<=b)&&decide (0<=c)&&decide (c<=1) then .ok (.tup [.int ξ ((a+b+c) % 18446744073709551616),.int ξ ((a+b+c) / 18446744073709551616)]) else .error "Add64":=by kernel_rfl
theorem aRz{a b c:Int}(ha:0<=a)(hb:0<=b)(hc:0<=c)(Cc:c<=1):tH Tryz.f255 [.int ξ a,.int ξ b,.int ξ c]=.ok (.tup [.int ξ ((a+b+c) % 18446744073709551616),.int ξ ((a+b+c) / 18446744073709551616)]):=by
 refine(OR (OR (OR bIc a) b) c).trans ?_;simp only[ha,hb,hc,Cc,Rk,QG,PW]
theorem aUa(P:OI)(t:OH)(a:Int):cC P .shr t (.int ξ a) (.int ξ 63)=.ok (.int ξ (a.fdiv (2 ^ 63))):=rfl
theorem bU6(l:On Int)(hb:l.length<1000000)(S:St)(K:KW):C 218 [.imm (l.map dE)] S K=K (.tup [O J (cI l).1,.bool (cI l).2]) S:=by
 refine(bSg rfl ?_).eq S K;delta Tryz.f218;simp only[↓cw,↓Oo,Om,kk];refine aG l (step:=xH) (fin:=vW) (λi st vs S=>vs=[.int ξ st.1,.int ξ st.2,O J (i:Int)]/\0<=st.1/\st.1<18446744073709551616/\0<=st.2/\st.2<18446744073709551616) (λr=>V.tup [O J r.1,.bool r.2]=.tup [O J (cI l).1,.bool (cI l).2])
  ?_ ?_ (s:=(0,0)) ⟨rfl,by decide,by decide,by decide,by decide⟩ rfl
 ·rintro i n ⟨h,lo⟩ vs S hi ⟨rfl,r1,r2,r3,r4⟩ aE H;have hr:=aU6 n;have ai:=(Oq.1 hi).1;simp only at r1 r2 r3 r4;have Cc:(lo+wr ξ n+0) / 18446744073709551616<=1:=by omega
  have qw:0<=(lo+wr ξ n+0) / 18446744073709551616:=by omega
  have hI:=H [.int ξ ((h+(if n<0 then 18446744073709551615 else 0)+(lo+wr ξ n+0) / 18446744073709551616) % 18446744073709551616),.int ξ ((lo+wr ξ n+0) % 18446744073709551616),O J ((i+1:Nat):Int)] S ⟨rfl,by simp only;omega,by simp only;omega,by simp only;omega,by simp only;omega⟩;simp only[↓cw,↓Oo,Om,kk,bG hi,bNu hi,dE,unK,bNq];by_cases hn:n<0
  ·simp only[↓cw,↓Oo,Om,hn,kk,Oy,aRz (c:=0) r3 hr.1 (by decide) (by decide),aRz r1 (show(0:Int)<=18446744073709551615 by decide) qw Cc,gM (show i<1000000000 by omega)] at hI|-
   exact hI
  ·simp only[↓cw,↓Oo,Om,hn,kk,Ou,aRz (c:=0) r3 hr.1 (by decide) (by decide),aRz r1 (show(0:Int)<=0 by decide) qw Cc,gM (show i<1000000000 by omega)] at hI|-
   exact hI
 ·rintro⟨h,lo⟩ vs S ⟨rfl,r1,r2,r3,r4⟩ aE H;simp only[↓cw,↓Oo,Om,kk,OZ,aUa,vW,oo] at H|-
  by_cases c:lo.fdiv (2 ^ 63)=0<;>simp only[↓cw,↓Oo,Om,c,kk,Oy,Ou] at H|-<;>exact H
theorem bU7(r:Int)(S:St)(K:KW):C 225 [.int .i32 r] S K=K (.bool (oO r)) S:=by
 refine(bSm rfl ?_).eq S K;delta Tryz.f225;simp only[↓cw,↓Oo,Om,kk,oO]
 grind
theorem bU8(r:Int)(S:St)(K:KW):C 245 [.int .i32 r] S K=K (.bool (oO r)) S:=by
 refine(bSz rfl ?_).eq S K;delta Tryz.f245;simp only[↓cw,↓Oo,Om,kk,oO]
 grind
theorem bCd(s:On OP)(a pos:Nat)(S:St)(hg:S.heap.get a=Ot (.iter s pos))(hl:pos<s.length):
  aAs (.ptr a 0 0 0) S=.ok (.tup [.bool OB,O J pos,.int .i32 (QZ ⟨⟨s⟩⟩ pos).1],⟨S.next,S.heap.put a (.iter s (pos+(QZ ⟨⟨s⟩⟩ pos).2))⟩):=by
 have hb:QI pos s.length=true:=RK hl;have hs:s[pos]?=Ot s[pos]:=OF hl;simp only[aAs,hg,hb,hs];split
 ·rename_i h;rw[Go.AM.decode_ascii hs (by simpa using h)]
 ·rfl
theorem aMo(s:On OP)(a pos:Nat)(S:St)(hg:S.heap.get a=Ot (.iter s pos))(hl:s.length<=pos):aAs (.ptr a 0 0 0) S=.ok (.tup [.bool OA],S):=by
 have hb:QI pos s.length=false:=by
  cases h:QI pos s.length with
  | false=>rfl
  | true=>exact absurd (Xe h) (by omega)
 simp only[aAs,hg,hb]
def IterAt(s:On OP)(i:Nat)(S:St):Prop:=∃pos f,S.heap.get 0=Ot (.iter s pos)/\(oH s s.length 0).drop i=oH s f pos/\s.length<=f+pos
theorem IterAt.next{s:On OP}{i:Nat}{S:St}(h:IterAt s i S){q r:Nat}(hi:(oH s s.length 0)[i]?=Ot (q,r)):∃S',aAs (.ptr 0 0 0 0) S=.ok (.tup [.bool OB,O J q,.int .i32 r],S')/\IterAt s (i+1) S':=by
 obtain⟨pos,f,hg,hd,hf⟩:=h;have si:=congrArg (·[0]?) hd;simp only[PP,QT,hi] at si;cases f with
 | zero=>simp[oH] at si
 | succ f=>
  have hl:pos<s.length:=by
   by_cases hl:pos<s.length
   ·exact hl
   ·simp[oH,hl] at si
  have DU:oH s (f+1) pos=(pos,(QZ ⟨⟨s⟩⟩ pos).1)::oH s f (pos+(QZ ⟨⟨s⟩⟩ pos).2):=by simp only[oH,hl,Oy]
  rw[DU] at si hd;simp only[List.getElem?_cons_zero,Qy,Prod.mk.injEq] at si;obtain⟨rfl,rfl⟩:=si;have hw:=aMh ⟨⟨s⟩⟩ q;exact⟨_,bCd s 0 q S hg hl,_,f,Ox _ _ _ trivial,by rw[<-List.drop_drop,hd];rfl,by omega⟩
theorem IterAt.last{s:On OP}{S:St}(h:IterAt s (oH s s.length 0).length S):aAs (.ptr 0 0 0 0) S=.ok (.tup [.bool OA],S):=by
 obtain⟨pos,f,hg,hd,hf⟩:=h;rw[Tf] at hd;cases f with
 | zero=>exact aMo s 0 pos S hg (by omega)
 | succ f=>
  by_cases hl:pos<s.length
  ·simp[oH,hl] at hd
  ·exact aMo s 0 pos S hg (by omega)
theorem aB8(s:On OP):aK1 (.str s) OG ⟨0,.nil⟩=.ok (.ptr 0 0 0 0,⟨1,Tr.nil.put 0 (.iter s 0)⟩)/\IterAt s 0 ⟨1,Tr.nil.put 0 (.iter s 0)⟩:=⟨rfl,0,s.length,Ox _ _ _ trivial,rfl,by omega⟩
theorem aYx(s:On OP)(S:St)(K:KW):C 165 [.str s] S K=K (.bool (dV s)) S:=by
 refine(bRq rfl ?_).eq S K;delta Tryz.f165;simp only[↓cw,↓Oo,Om,kk,(aB8 s).1,dV];by_cases h1:s.length<1
 ·rw[OE (by omega)];simp[h1]
 by_cases h2:24<s.length
 ·rw[Oz (by omega),OE (by omega)];simp[h1,h2]
 rw[Oz (by omega),Oz (by omega)];simp only[↓cw,↓Oo,Om,h1,h2,kk];refine aG (oH s s.length 0) (step:=pQ) (fin:=λ_=>OB) (λi _ vs S=>vs=[.bool OA]/\IterAt s i S) (λr=>V.bool r=.bool (aD pQ (λ_=>OB) (oH s s.length 0) ())) ?_ ?_ (s:=()) ⟨rfl,(aB8 s).2⟩ rfl
 ·rintro i ⟨q,r⟩ _ vs S hi ⟨rfl,hI⟩ aE H;obtain⟨S',e,un⟩:=hI.next hi;simp only[↓cw,↓Oo,Om,kk,e,bU7];simp only[pQ] at H;have H1:=λh:oO (r:Int)=OB=>(by simpa only[h,Oy] using H:∀ia S',ia=[.bool OA]/\IterAt s (i+1) S'->aE ia S') [.bool OA] S' ⟨rfl,un⟩;by_cases c1:oO (r:Int)=OB
  ·simp only[c1,Oy];exact H1 c1
  ·simp only[c1,Ou] at H|-
   by_cases c2:q=0
   ·subst c2;simp at H|-;exact H
   ·have uu:¬(q:Int)=0:=by omega
    simp only[c2,uu,Ou] at H|-
    by_cases c3:(48<=r/\r<=57)\/r=45\/r=95\/r=46
    ·simp only[c3,Oy] at H;have h0:=H [.bool OA] S' ⟨rfl,un⟩
     grind
    ·simp only[c3,Ou] at H
     grind
 ·rintro _ vs S ⟨rfl,hI⟩ aE H;simp only[↓cw,↓Oo,Om,kk,hI.last];exact H
theorem bId(s:On OP)(S:St)(K:KW):C 195 [.str s] S K=K (.bool (dV s)) S:=by
 refine(bS7 rfl ?_).eq S K;delta Tryz.f195;simp only[↓cw,↓Oo,Om,kk,(aB8 s).1,dV];by_cases h1:s=[]
 ·subst h1;simp
 have h0:¬s.length<1:=by have:=List.length_pos_iff.2 h1;omega
 by_cases h2:24<s.length
 ·have h3:(24:Int)<(s.length:Int):=by omega
  simp[h0,h1,h2,h3]
 rw[Oz (by simpa using h1),Oz (by omega)];simp only[↓cw,↓Oo,Om,h0,h2,kk];refine aG (oH s s.length 0) (step:=pQ) (fin:=λ_=>OB) (λi _ vs S=>vs=[.bool OA]/\IterAt s i S) (λr=>V.bool r=.bool (aD pQ (λ_=>OB) (oH s s.length 0) ())) ?_ ?_ (s:=()) ⟨rfl,(aB8 s).2⟩ rfl
 ·rintro i ⟨q,r⟩ _ vs S hi ⟨rfl,hI⟩ aE H;obtain⟨S',e,un⟩:=hI.next hi;simp only[↓cw,↓Oo,Om,kk,e,bU8];simp only[pQ] at H;have H1:=λh:oO (r:Int)=OB=>(by simpa only[h,Oy] using H:∀ia S',ia=[.bool OA]/\IterAt s (i+1) S'->aE ia S') [.bool OA] S' ⟨rfl,un⟩;by_cases c1:oO (r:Int)=OB
  ·simp only[c1,Oy];exact H1 c1
  ·simp only[c1,Ou] at H|-
   by_cases c2:q=0
   ·subst c2;simp at H|-;exact H
   ·have uu:¬(q:Int)=0:=by omega
    simp only[c2,uu,Ou] at H|-
    by_cases c3:(48<=r/\r<=57)\/r=45\/r=95\/r=46
    ·simp only[c3,Oy] at H;have h0:=H [.bool OA] S' ⟨rfl,un⟩
     grind
    ·simp only[c3,Ou] at H
     grind
 ·rintro _ vs S ⟨rfl,hI⟩ aE H;simp only[↓cw,↓Oo,Om,kk,hI.last];exact H
theorem bNz(d:Date)(S:St)(K:KW):C 126 [.agg [O J d.y,O J d.m,O J d.d]] S K=K (O J d.days) S:=by
 refine(bRc rfl ?_).eq S K;delta Tryz.f126;simp only[↓cw,↓Oo,Om,kk,bI8,Date.days,SI,Ui,OL];by_cases hr:d.right=OB
 ·simp only[↓cw,↓Oo,Om,hr,kk];have hm:1<=d.m/\d.m<=12:=by simp only[Date.right,OU,PB] at hr;omega
  refine aG (RC (d.m - 1).toNat) (step:=jT d.y) (fin:=id) (λi n vs S=>vs=[O J n,O J ((i:Int)+1)]/\aC S 0 0=.ok (3,[d.enc])) (λr=>V.int J (wr J (wr J (r+d.d) - 1))=O J (wr J (wr J (aD (jT d.y) id (RC (d.m - 1).toNat) (ahead d.y)+d.d) - 1))) ?_ ?_ ⟨rfl,by simp only[↓cw,↓Oo,Om,kk];rfl⟩ rfl
  ·rintro i a n vs S hi ⟨rfl,hg⟩ aE H;obtain⟨ai,rfl⟩:=aMm hi;simp only[jT] at H;simp only[↓cw,↓Oo,Om,kk,hg,Date.enc,bNx,xN];rw[OE (by omega),OE (by omega)];refine H _ _ ⟨?_,hg⟩;rw[fB (n:=(a:Int)+1+1) (by omega) (by omega)];simp
  ·rintro n vs S ⟨rfl,hg⟩ aE H;simp only[↓cw,↓Oo,Om,kk,hg,Date.enc];rw[Oz (by simp;omega)];exact H
 ·have hr:d.right=false:=by simpa using hr
  simp only[↓cw,↓Oo,Om,hr,kk]
theorem bO0(r:Rate)(S:St)(K:KW):C 163 [.agg [.str r.cat,O J r.day.y,O J r.day.m,O J r.day.d,O J r.bp]] S K=K (O J (uX r)) S:=by
 refine(bRo rfl ?_).eq S K;delta Tryz.f163;simp only[↓cw,↓Oo,Om,kk,aYx,aMn,uX];cases dV r.cat<;>cases r.day.right<;>simp
 grind
theorem bU9(r:Rate)(S:St)(K:KW):C 193 [.agg [.str r.cat,O J r.day.y,O J r.day.m,O J r.day.d,O J r.bp]] S K=K (O J (uX r)) S:=by
 refine(bS5 rfl ?_).eq S K;delta Tryz.f193;simp only[↓cw,↓Oo,Om,kk,bId,bI8,uX];cases dV r.cat<;>cases r.day.right<;>simp
 grind
theorem bO1(a b:Rate)(S:St)(K:KW):C 164 [.agg [.str a.cat,O J a.day.y,O J a.day.m,O J a.day.d,O J a.bp],.agg [.str b.cat,O J b.day.y,O J b.day.m,O J b.day.d,O J b.bp]] S K=K (.bool (fW a b)) S:=by
 refine(bRp rfl ?_).eq S K;delta Tryz.f164;simp only[↓cw,↓Oo,Om,kk,bCa,eY,fW];cases iL a.cat b.cat<;>cases(a.cat == b.cat)<;>simp
theorem g85(l:On Rate)(S:St)(K:KW):C 85 [.imm (l.map Rate.enc)] S K=K (.bool (fL l)) S:=by
 refine(v85 rfl ?_).eq S K;delta Tryz.f85;simp only[↓cw,↓Oo,Om,kk,fL];by_cases h:24<l.length
 ·rw[OE (by omega),OE h]
 have h':¬(24:Int)<(l.length:Int):=by omega
 simp only[↓cw,↓Oo,Om,h,h',kk];refine aG l (step:=iD) (fin:=λ_=>OB) (λi s vs S=>s=cO l i/\vs=[.bool OA,O J (i:Int)]) (λr=>V.bool r=.bool (aD iD (λ_=>OB) l OG)) ?_ ?_ ⟨rfl,rfl⟩ rfl
 ·rintro i r s vs S hi ⟨rfl,rfl⟩ aE H;have ai:=(Oq.1 hi).1;have hn:cO l (i+1)=Ot r:=by simpa[cO] using hi
  simp only[hn] at H;simp only[↓cw,↓Oo,Om,kk,bG hi,pV hi,Rate.enc,bO0,gM (show i<1000000000 by omega),iD] at H|-
  by_cases c:uX r=0
  ·simp only[↓cw,↓Oo,Om,c,kk,SI,OK] at H|-
   cases i with
   | zero=>simp[cO] at H|-;exact H _ _ rfl
   | succ j=>
    have hj:l[j]?=Ot l[j]:=OF (by omega);have hp:cO l (j+1)=Ot l[j]:=by simp[cO,hj]
    simp only[↓cw,↓Oo,Om,hp,gt0,kk,wrm (show j+1<1000000000 by omega),pV hj,Rate.enc,bO1] at H|-
    cases ha:fW l[j] r<;>simp[ha] at H|-<;>first | exact H | exact H _ _ rfl
  ·simp[c] at H|-
   exact H
 ·rintro s vs S ⟨rfl,rfl⟩ aE H;simp only[↓cw,↓Oo,Om,kk,OZ];exact H
end Go.Proofs.YtoaibmbldmckaaaGreat
end
section
namespace Go.AM
theorem Own.frz{S0 S:St}{n:Nat}{v:V}{es:On (On V)}(h:Own S0 S n v es)(hc:es.all Tl=OB):cP kP (kV (iS S 3) S) v=.ok (.imm es):=by
 rcases h.is with ⟨rfl,rfl⟩ | ⟨a,ver,tl,rfl,_,_,q⟩
 ·rfl
 ·have he:aK S (.sl a ver n 0 es.length)=.ok es:=h.sl.elems;simp only[cP,kV,he,(fK (S:=S) (n:=2) hc).1]
theorem Own.ptrs{S0 S:St}{n:Nat}{v:V}{es:On (On V)}(h:Own S0 S n v es):pJ v=[]:=by
 rcases h.is with ⟨rfl,rfl⟩ | ⟨a,ver,tl,rfl,_,_,q⟩<;>rfl
theorem aU{α:Type}{enc:α->On V}(h:∀x,Tl (enc x)=OB)(l:On α):(l.map enc).all Tl=true:=by
 rw[List.all_eq_true];intro y hy;obtain⟨x,_,rfl⟩:=Pv.1 hy;exact h x
theorem Sl.imm{n:Nat}{es:On (On V)}(S:St)(h:∀cs,cs∈es->cs.length=n/\aH cs=OB):Sl S n (.imm es) es:=⟨.inr (.inl rfl),h⟩
abbrev E0:St:=⟨0,.nil⟩
theorem mB:WF E0:=λa b h=>by cases h
theorem aYy{α:Type}{enc:α->On V}{n b:Nat}(hl:∀x,(enc x).length=n/\aH (enc x)=OB)(l:On α){S:St}(w:WF S)(h1:l.length*b<=35184372088832)(h2:l.length<eG):
  ∃v S',eC n b .nils (.imm (l.map enc)) OG S=.ok (v,S')/\Ext S S'/\Own E0 S' n v (l.map enc):=by
 obtain⟨v,S',q1,q2,q3⟩:=(Sl.imm (n:=n) (es:=l.map enc) S (λcs hc=>by obtain⟨x,_,rfl⟩:=Pv.1 hc;exact hl x)).copy (b:=b) w (by rw[ON];exact h1) (by rw[ON];exact h2);exact⟨v,S',q1,q2,q3.weaken (PS _)⟩
theorem aS0{α:Type}{enc:α->On V}{n b:Nat}(hl:∀x,(enc x).length=n/\aH (enc x)=OB)(l:On α){S:St}(w:WF S)(h1:l.length*b<=35184372088832)(h2:l.length<eG):
  ∃v S',eC n b .nils (.imm (l.map enc)) OG S=.ok (v,S')/\Ext S S'/\Own S S' n v (l.map enc):=
 (Sl.imm (n:=n) (es:=l.map enc) S (λcs hc=>by obtain⟨x,_,rfl⟩:=Pv.1 hc;exact hl x)).copy (b:=b) w (by rw[ON];exact h1) (by rw[ON];exact h2)
theorem rV{S:St}(w:WF S):Ext E0 S:=⟨λa b h=>(by cases h),PS _,λ_=>w⟩
theorem Pt.fn{l:V}{f:PU}(hl:nK l=OB):Pt λa=>[l,.func f [] [.ptr a 0 0 0]]:=Xg hl (Pt.func rfl)
end Go.AM
namespace Go.Proofs.YtoaibmbldmckaaaGreat
open Go.AM Tryz
theorem bUa(fk:Nat)(ht:cV prog fk=Ot OG){n:Nat}{cap:On V}(fu:Tl cap=OB)(p:Sess->Ps)(hf:∀s:Sess,Fr fk (λa=>[.agg s.enc,.ptr a 0 0 0]) n cap (.bool (p s)) cap)(l:On Sess)(hb:l.length<1000000):
  Fr 231 (λa=>[.imm (l.map Sess.enc),.func fk [] [.ptr a 0 0 0]]) n cap (O J (ixM p l)) cap:=by
 refine Sw bJx (lv:=dY [(2,[4,8])]) (Pt.fn rfl) (by simp[fu]) ?_ rfl (by simp[fu]);rw[bSr];delta Tryz.f231;simp only[↓cw,↓Oo,Om,kk];refine aG l (step:=dB p) (fin:=λ_=>-1) (λi k vs S=>k=i/\vs=[O J 0,O J (i:Int)]/\S.heap.get 0=Ot (.row 0 n [cap])) (λr=>r=ixM p l) ?_ ?_ ⟨rfl,rfl,Ox _ _ _ trivial⟩ rfl
 ·rintro i s k vs S hi ⟨rfl,rfl,hg⟩ aE H;have ai:=(Oq.1 hi).1;have he:=(hf s).eq_same hg;simp only[Sess.enc] at he;simp only[↓cw,↓Oo,Om,kk,bG hi,mO hi,Sess.enc,↓qV prog C ht,Pp,PJ,he,gM (show k<1000000000 by omega)];simp only[dB] at H;cases hp:p s<;>simp only[↓cw,↓Oo,Om,hp,kk] at H|-
  ·exact H _ _ ⟨rfl,hg⟩
  ·exact⟨by rw[H],hg⟩
 ·rintro k vs S ⟨rfl,rfl,hg⟩ aE H;simp only[↓cw,↓Oo,Om,kk,OZ];exact⟨by rw[H],hg⟩
theorem bO2{f:PU}{args:On V}{S:St}{v:V}(h:C f args S λv' S'=>v'=v/\S'=S)(K:KW):C f args S K=K v S:=by
 obtain⟨v',S',ev,rfl,rfl⟩:=h;exact aF9 ev K
theorem bO3(fk:Nat)(ht:cV prog fk=Ot OG){n:Nat}{cap:On V}(p:Ser->Ps)(hf:∀s:Ser,Fr fk (λa=>[.agg s.enc,.ptr a 0 0 0]) n cap (.bool (p s)) cap)(l:On Ser)(hb:l.length<1000000){S:St}{a:Nat}(hg:S.heap.get a=Ot (.row 0 n [cap])):
  ∀K:KW,C 152 [.imm (l.map Ser.enc),.func fk [] [.ptr a 0 0 0]] S K=K (O J (ixM p l)) S:=by
 refine bO2 (bJp ?_);delta Tryz.f152;simp only[↓cw,↓Oo,Om,kk];refine aG l (step:=dB p) (fin:=λ_=>-1) (λi k vs X=>k=i/\vs=[O J 0,O J (i:Int)]/\X=S) (λr=>r=ixM p l) ?_ ?_ ⟨rfl,rfl,rfl⟩ rfl
 ·rintro i s k vs X hi ⟨rfl,rfl,rfl⟩ aE H;have ai:=(Oq.1 hi).1;have he:=(hf s).eq_same hg;simp only[Ser.enc] at he;simp only[↓cw,↓Oo,Om,kk,bG hi,nO hi,Ser.enc,↓qV prog C ht,Pp,PJ,he,gM (show k<1000000000 by omega)];simp only[dB] at H;cases hp:p s<;>simp only[↓cw,↓Oo,Om,hp,kk] at H|-
  ·exact H _ _ ⟨rfl,rfl⟩
  ·rw[H]
 ·rintro k vs X ⟨rfl,rfl,rfl⟩ aE H;simp only[↓cw,↓Oo,Om,kk,OZ];rw[H]
theorem bO4:cV prog 232=Ot none:=by kernel_rfl
theorem bUb(id:Int)(s:Sess):Fr 232 (λa=>[.agg s.enc,.ptr a 0 0 0]) 1 [O J id] (.bool (decide (s.id=id))) [O J id]:=by
 refine Sw bJy (lv:=dY []) (Xg rfl (Rq rfl)) rfl ?_ rfl rfl;rw[bSs];delta Tryz.f232;simp only[↓cw,↓Oo,Om,kk,Sess.enc,eY];rfl
theorem f174(l:On Sess)(id:Int)(hb:l.length<1000000):Fv 174 [.imm (l.map Sess.enc),O J id] (O J (jN l id)):=by
 refine bRv rfl ?_;have h:=(bUa 232 bO4 rfl _ (bUb id) l hb).eq_same (S:=⟨1,Tr.nil.put 0 (.row 0 1 [[O J id]])⟩) (a:=0) (Ox _ _ _ trivial);delta Tryz.f174;simp only[↓cw,↓Oo,Om,kk,h,jN]
theorem bIe(l:On Sess)(id:Int)(hb:l.length<1000000)(S:St)(K:KW):C 174 [.imm (l.map Sess.enc),O J id] S K=K (O J (jN l id)) S:=(f174 l id hb).eq S K
theorem bCe(l:On Sess)(S:St)(K:KW):C 166 [.imm (l.map Sess.enc)] S K=K (.bool (gD l)) S:=by
 refine(bRr rfl ?_).eq S K;delta Tryz.f166;simp only[↓cw,↓Oo,Om,kk,gD];by_cases h:8<l.length
 ·rw[OE (by omega),OE h]
 have h':¬(8:Int)<(l.length:Int):=by omega
 simp only[↓cw,↓Oo,Om,h,h',kk];refine aG l (step:=gC) (fin:=λ_=>OB) (λi s vs S=>vs=[.bool OA,O J s,O J (i:Int)]) (λr=>V.bool r=.bool (aD gC (λ_=>OB) l 0)) ?_ ?_ rfl rfl
 ·rintro i s last vs S hi rfl aE H;have ai:=(Oq.1 hi).1;have hn:((s.reply=Rep.zero):Prop)=((s.reply.why=0/\s.reply.number=0)/\s.reply.gross=0):=by
   obtain⟨_,_,⟨_,_,_⟩⟩:=s;simp[Rep.zero,and_assoc]
  simp only[↓cw,↓Oo,Om,gC,hn,kk] at H;simp only[↓cw,↓Oo,Om,kk,bG hi,mO hi,Sess.enc,gM (show i<1000000000 by omega)]
  grind
 ·rintro s vs S rfl aE H;simp only[↓cw,↓Oo,Om,kk,OZ];exact H
end Go.Proofs.YtoaibmbldmckaaaGreat
end
section
namespace Go.AM
theorem bsl(n:Nat)(z:On V)(parts:On (Nat×V))(fr:Ow Nat)(S:St)(hn:n<=1000):cX n z 1 parts fr S=(match aA8 n [z] parts with
  | .error e=>.error e
  | .ok elems=>match bR fr S (.row 0 n elems) with
   | .error e=>.error e
   | .ok (a,S')=>.ok (.sl a 0 n 0 1,S')):=by
 unfold cX;rw[OE (by omega)];rfl
theorem aUb(z:On V)(parts:On (Nat×V))(fr:Ow Nat)(S:St):type_of% (bsl 1 z parts fr S (by decide)):=bsl 1 z parts fr S (by decide)
theorem bCf(z:On V)(parts:On (Nat×V))(fr:Ow Nat)(S:St):type_of% (bsl 2 z parts fr S (by decide)):=bsl 2 z parts fr S (by decide)
theorem aMp(z:On V)(parts:On (Nat×V))(fr:Ow Nat)(S:St):type_of% (bsl 4 z parts fr S (by decide)):=bsl 4 z parts fr S (by decide)
theorem aPh(z:On V)(parts:On (Nat×V))(fr:Ow Nat)(S:St):type_of% (bsl 5 z parts fr S (by decide)):=bsl 5 z parts fr S (by decide)
theorem bO5(z:On V)(parts:On (Nat×V))(fr:Ow Nat)(S:St):type_of% (bsl 12 z parts fr S (by decide)):=bsl 12 z parts fr S (by decide)
theorem gO{n m k:Nat}{h:Tr Blk}{b:Blk}(w:WF ⟨n,h⟩)(h1:k<m)(h2:n<=m):WF ⟨m,h.put k b⟩:=by
 intro a c hc;have jn:(h.put k b).get a=Ot c:=hc;rw[Tr.get_putB _ _ _ _ trivial] at jn;split at jn
 ·show a<m;omega
 ·have:=w a c jn;show a<m;have:a<n:=this;omega
theorem WF.bump{S:St}(w:WF S)(c:Nat):WF ⟨S.next+c,S.heap⟩:=λa b h=>RE (w a b h) (UT _ _)
theorem aB9{S:St}{a ver n:Nat}{el:On (On V)}(h:aC S a ver=.ok (n,el)):S.heap.get a=Ot (.row ver n el):=by
 unfold aC at h;split at h
 ·rename_i v es ae he;rw[cond_eq_ite] at h;split at h
  ·rename_i hv
   have:=Qv hv
   cases h;rw[he,this]
  ·cases h
 ·cases h
theorem aX{S S':St}{a ver n:Nat}{el:On (On V)}(hg:aC S a ver=.ok (n,el))(h:S'.heap.get a=S.heap.get a):aC S' a ver=.ok (n,el):=by
 rw[<-hg];unfold aC;rw[h]
theorem bH1{P:OI}{T:OH}{n b:Nat}(hT:apT P T=Ot (n,b))(hn:1<n){S:St}{v:V}{es:On (On V)}(h:Own E0 S n v es)(w:WF S){c:On V}(hc:c.length=n/\aH c=OB)(h1:(es.length+1)*b<=35184372088832)(h2:es.length+1<eG){i:Nat}(hi:i<=es.length):
  ∃v' S',jR P T v (.int J (i:Int)) (.sl S.next 0 n 0 1) ⟨S.next+1,S.heap.put S.next (.row 0 n [c])⟩=.ok (v',S')/\WF S'/\Own E0 S' n v' (es.take i++c::es.drop i)/\∀y,y<S.next->(∀a ver m,v=.sl a ver n 0 m->y≠a)->S'.heap.get y=S.heap.get y:=by
 have x:Ext S ⟨S.next+1,S.heap.put S.next (.row 0 n [c])⟩:=Rg w _;obtain⟨v',S',q1,q2,q3,q4⟩:=(h.ext x).insertK hT hn (rV (x.wf w)) mB (bx:=S.next) (c:=c) (aA _ _ _ _ _ _) (λa ver m hv=>by
  rcases h.is with ⟨rfl,_⟩ | ⟨a',bd,tl,rfl,_,ag,_⟩
  ·cases hv
  ·cases hv;omega) hc h1 h2 hi
 refine⟨v',S',q1,q2.wf mB,q3,λy hy As=>?_⟩;rw[q4 y (by show y<S.next+1;omega) As];exact OJ _ _ _ _ trivial (by omega)
theorem bO6{P:OI}{T:OH}{n b:Nat}(hT:apT P T=Ot (n,b))(hn:1<n){S:St}{v:V}{es:On (On V)}(h:Own E0 S n v es)(w:WF S){c:On V}(hc:c.length=n/\aH c=OB)(h1:(es.length+1)*b<=35184372088832)(h2:es.length+1<eG){i:Nat}(hi:i<=es.length):
  ∃v' S',jR P T v (.int J (i:Int)) (.sl S.next 0 n 0 1) ⟨S.next+1,S.heap.put S.next (.row 0 n [c])⟩=.ok (v',S')/\WF S'/\Own E0 S' n v' (es.take i++c::es.drop i):=by
 obtain⟨v',S',q1,q2,q3,_⟩:=bH1 hT hn h w hc h1 h2 hi;exact⟨v',S',q1,q2,q3⟩
end Go.AM
namespace Go.Proofs.YtoaibmbldmckaaaGreat
open Go.AM Tryz
theorem aYz{f:PU}{T:OH}(bc:lS f=Ot (.spec ((Sp.ins T).run prog))){s i x v:V}{S S':St}(h:jR prog T s i x S=.ok (v,S'))(K:KW):C f [s,i,x] S K=K v S':=aOj bc (args:=[s,i,x]) (show(Sp.ins T).run prog [s,i,x] S=.ok (v,S') from h) K
theorem bUc{f:PU}{T:OH}(bc:lS f=Ot (.spec ((Sp.del T).run prog))){s i x v:V}{S S':St}(h:tG prog T s i x S=.ok (v,S'))(K:KW):C f [s,i,x] S K=K v S':=aOj bc (args:=[s,i,x]) (show(Sp.del T).run prog [s,i,x] S=.ok (v,S') from h) K
theorem bUd:apT prog 28=Ot (5,40):=by kernel_rfl
theorem bUe:apT prog 25=Ot (4,40):=by kernel_rfl
theorem bO7:lS 230=Ot (.spec ((Sp.ins 28).run prog)):=by kernel_rfl
theorem bO8:lS 234=Ot (.spec ((Sp.ins 25).run prog)):=by kernel_rfl
theorem bO9:lS 240=Ot (.spec ((Sp.del 28).run prog)):=by kernel_rfl
theorem sess5(x:Sess):x.enc.length=5/\aH x.enc=true:=⟨rfl,rfl⟩
theorem ser4(x:Ser):x.enc.length=4/\aH x.enc=true:=⟨rfl,rfl⟩
theorem bOa(l:On Sess)(id seq:Int)(S:St)(K:KW):C 105 [.imm (l.map Sess.enc),O J id,O J seq] S K=K (.tup [.agg [O J (cS l id seq).1.why,O J (cS l id seq).1.number,O J (cS l id seq).1.gross],.bool (cS l id seq).2.1,O J (cS l id seq).2.2]) S:=by
 refine(bR0 rfl ?_).eq S K;delta Tryz.f105;simp only[↓cw,↓Oo,Om,kk,bCe];by_cases hr:gD l=OB
 ·have hb:=mK hr;simp only[↓cw,↓Oo,Om,hr,kk,bIe l id (show l.length<1000000 by omega),cS,Pq,Ou];rcases lT l id with h | ⟨i,s,h,h2,h3⟩
  ·simp only[↓cw,↓Oo,Om,h,show(-1:Int)<0 by decide,kk,oo,Rep.zero,Oy]
  ·simp only[↓cw,↓Oo,Om,h,show¬(i:Int)<0 by omega,kk,Ou,mO h2,Sess.enc,Pn,h2];by_cases c1:seq<1
   ·simp only[↓cw,↓Oo,Om,c1,kk,oo,Rep.zero,true_or,Oy]
   ·by_cases c2:1099511627776<seq
    ·simp only[↓cw,↓Oo,Om,c1,c2,kk,oo,Rep.zero,or_true,Oy,Ou,Rk]
    ·simp only[↓cw,↓Oo,Om,c1,c2,kk,oo,or_self,Ou,Rp];by_cases c3:seq=s.last
     ·simp only[↓cw,↓Oo,Om,c3,kk,oo,Oy]
     ·by_cases c4:seq<s.last<;>simp only[↓cw,↓Oo,Om,c3,c4,kk,oo,Rep.zero,Oy,Ou]
 ·have hr:gD l=false:=by simpa using hr
  simp only[↓cw,↓Oo,Om,hr,kk,oo,cS,Rep.zero,Oy]
theorem bOb(l:On Sess)(n:Int)(S:St)(K:KW):C 173 [.imm (l.map Sess.enc),O J n] S K=K (.tup [.imm ((oI l n).1.map Sess.enc),O J (oI l n).2]) S:=by
 refine(bTh rfl ?_).eq S K;simp only[bBy,aKh,kk,bCe];by_cases hr:gD l=OB
 ·have hb:=mK hr;simp only[hr,kk,bIe l n (show l.length<1000000 by omega),oI,Pq,false_or];by_cases c1:n<1
  ·simp only[c1,kk,oo,Oy,Py]
  ·simp only[c1,kk,Ou];by_cases c2:0<=jN l n
   ·simp only[c2,kk,oo,Oy,Py]
   ·by_cases c3:8<=l.length
    ·simp only[c2,c3,show(8:Int)<=(l.length:Int) by omega,kk,oo,Oy,Ou,Py]
    ·simp only[c2,c3,show¬(8:Int)<=(l.length:Int) by omega,kk,Ou];have hj:∀k:Nat,k=pR (λs:Sess=>decide (s.id<n)) l->aDz C (λv0 S0=>eX S0 v0=TO (.tup [.imm ((fU l (pR (λs:Sess=>decide (s.id<n)) l) ⟨n,0,Rep.zero⟩).map Sess.enc),O J 0])) (.imm (l.map Sess.enc)) (O J n) (O J (k:Int)) ⟨0,.nil⟩:=by
      intro k hk;obtain⟨v,S1,q1,x1,own⟩:=aYy (b:=40) sess5 l mB (by omega) (by unfold eG;omega);have w1:=x1.wf mB;have dw:k<=l.length:=by rw[hk];exact aE4 _ _
      obtain⟨v2,S2,q2,w2,au⟩:=bO6 bUd (by decide) own w1 (sess5 ⟨n,0,Rep.zero⟩) (by simp;omega) (by simp[eG];omega) (i:=k) (by simpa using dw);simp only[Sess.enc,Rep.zero] at q2;simp only[aDz,kk,q1,aPh];rw[aYz bO7 q2];rw[<-sJ] at au;simp only[oo,au.frz (aU (λ_=>rfl) _),hk]
     refine aG l (step:=gE (λs:Sess=>decide (s.id<n))) (fin:=id) (λi k vs S=>k=i/\vs=[O J (i:Int)]/\S=⟨0,.nil⟩) (λr=>r=pR (λs:Sess=>decide (s.id<n)) l) ?_ ?_ ⟨rfl,rfl,rfl⟩ rfl
     ·rintro i s k vs S hi ⟨rfl,rfl,rfl⟩ aE H;have ai:=(Oq.1 hi).1;simp only[gE] at H;simp only[aKg,kk,bG hi,mO hi,Sess.enc,gM (show k<1000000000 by omega)];by_cases c:s.id<n<;>simp only[c,kk,Oy,Ou,Rk,Rp] at H|-
      ·exact H _ _ ⟨rfl,rfl⟩
      ·exact hj _ H
     ·rintro k vs S ⟨rfl,rfl,rfl⟩ aE H;simp only[aKg,kk,OZ];exact hj _ (by simpa using H)
 ·have hr:gD l=false:=by simpa using hr
  simp only[hr,kk,oo,oI,true_or,Oy,Py]
theorem bUf:lD prog 28=Ot 132:=by kernel_rfl
theorem bOc:wW prog 132=Ot [O J 0,O J 0,O J 0,O J 0,O J 0]:=by kernel_rfl
theorem bOd:sz prog 132=5:=by kernel_rfl
theorem bUg(l:On Sess)(id:Int)(S:St)(K:KW):C 182 [.imm (l.map Sess.enc),O J id] S K=K (.tup [.imm ((jA l id).1.map Sess.enc),O J (jA l id).2]) S:=by
 refine(bS2 rfl ?_).eq S K;delta Tryz.f182;simp only[↓cw,↓Oo,Om,kk,bCe];by_cases hr:gD l=OB
 ·have hb:=mK hr;simp only[↓cw,↓Oo,Om,hr,kk,bIe l id (show l.length<1000000 by omega),jA,Pq];rcases lT l id with h | ⟨i,s,h,h2,h3⟩
  ·simp only[↓cw,↓Oo,Om,h,show(-1:Int)<0 by decide,kk,oo,Oy,Py]
  ·have ai:=(Oq.1 h2).1;obtain⟨v,S1,q1,x1,own⟩:=aYy (b:=40) sess5 l mB (by omega) (by unfold eG;omega);obtain⟨v2,S2,q2,x2,au⟩:=own.delete bUf bOc bOd (rV (x1.wf mB)) mB (by simp[eG];omega) (i:=i) (by simpa using ai);rw[<-aPe] at au;simp only[↓cw,↓Oo,Om,h,show¬(i:Int)<0 by omega,kk,Ou,q1,fB (show -9223372036854775808<=(i:Int)+1 by omega) (show(i:Int)+1<=9223372036854775807 by omega),Pn];rw[bUc bO9 q2];simp only[oo,au.frz (aU (λ_=>rfl) _)]
 ·have hr:gD l=false:=by simpa using hr
  simp only[↓cw,↓Oo,Om,hr,kk,oo,jA,Oy,Py]
theorem bUh(l:On Sess)(id seq:Int)(r:Rep)(S:St)(K:KW):C 107 [.imm (l.map Sess.enc),O J id,O J seq,.agg [O J r.why,O J r.number,O J r.gross]] S K=K (.tup [.imm ((mD l id seq r).1.map Sess.enc),O J (mD l id seq r).2]) S:=by
 refine(bR2 rfl ?_).eq S K;delta Tryz.f107;simp only[↓cw,↓Oo,Om,kk,bOa,mD];by_cases h0:(cS l id seq).2.2=0
 ·simp only[↓cw,↓Oo,Om,h0,kk,OK,Ou];by_cases h1:(cS l id seq).2.1=OB
  ·simp only[↓cw,↓Oo,Om,h1,kk,oo,Oy,Py]
  ·obtain⟨hr,i,s,h2,h3⟩:=aFh h0;have hb:=mK hr;have ai:=(Oq.1 h3).1;simp only[↓cw,↓Oo,Om,h1,kk,Ou,h2,Pn,h3];obtain⟨S0,gc⟩:∃S0:St,S0=⟨1+1,((Tr.nil.put 0 (Blk.row 0 (1+1+1) [[V.int J r.why,O J r.number,O J r.gross]])).put 1 (Blk.row 0 3 [[V.int J 0,O J 0,O J 0]])).put 1 (Blk.row 0 3 [[V.int J (cS l id seq).1.why,O J (cS l id seq).1.number,O J (cS l id seq).1.gross]])⟩:=⟨_,rfl⟩;have w0:WF S0:=by rw[gc];exact gO (n:=2) (gO (n:=1) (m:=2) (gO (m:=1) mB (by decide) (by decide)) (by decide) (by decide)) (by decide) (by decide)
   have Cr:aC S0 0 0=.ok (3,[r.enc]):=by rw[gc];rfl
   rw[<-gc];obtain⟨v,S1,q1,x1,own⟩:=aS0 (b:=40) sess5 l w0 (by omega) (by unfold eG;omega);have w1:=x1.wf w0;have xb:Ext S0 ⟨S1.next+12,S1.heap⟩:=x1.bump 12;have cp:=own.ext ((Tm S1).bump 12);have rl:aC ⟨S1.next+12,S1.heap⟩ 0 0=.ok (3,[r.enc]):=x1.row Cr;have ea:S0.next=2:=by rw[gc]
   obtain⟨a,ver,e1,e2,e3,e4,_,er⟩:=cp.setK xb w0 (i:=i) (cs:=s.enc) (by simp[h3]) J;obtain⟨S2,bz,x2,n2,au,am,w2⟩:=er 1 1 (O J seq) rfl rfl (by decide);obtain⟨a',bd,AJ,_,_,e4',_,Bx⟩:=au.setK x2 w0 (i:=i) (cs:=splice s.enc 1 [O J seq]) (by rw[Rr (by simpa using ai)];rfl) J;obtain⟨rfl,rfl⟩:a'=a/\bd=ver:=by rw[e1] at AJ;injection AJ with h1 h2;exact⟨h1.symm,h2.symm⟩
   obtain⟨S3,qI,_,n3,iv,bf,w3⟩:=Bx 2 3 (.agg r.enc) rfl rfl (by decide);have yh:=aX rl (am 0 (by omega));simp only[Rep.enc] at rl yh qI;have td:Sm kP (kV (iS S1 3) S1) [v,O J id]=.ok [.imm (l.map Sess.enc),O J id]:=by
    simp only[Sm,own.frz (aU (λ_=>rfl) _),cP]
   simp only[↓cw,↓Oo,Om,q1,kk];rw[show C 174 [v,O J id] S1 _=_ from(f174 l id (by omega)).frz bJt rfl td (by simp[ptrsVs,own.ptrs,pJ]) (.inl rfl) _];have e5:(0:Nat)≠a':=by omega
   have fm:((l.map Sess.enc).set i (splice s.enc 1 [O J seq])).set i (splice (splice s.enc 1 [O J seq]) 2 r.enc)=(l.set i ⟨s.id,seq,r⟩).map Sess.enc:=by
    rw[VZ,RM];rfl
   simp only[Ur] at iv;rw[fm] at iv;have HM:fV 5 v (O J (i:Int))=.ok (.ptr a' bd i 0):=e4;simp only[↓cw,↓Oo,Om,h2,HM,kk,rl,yh,bz,qI,oo,iv.frz (aU (λ_=>rfl) _)]
 ·simp only[↓cw,↓Oo,Om,h0,kk,oo,Oy,OL,Py]
end Go.Proofs.YtoaibmbldmckaaaGreat
end
section
namespace Go.Proofs.YtoaibmbldmckaaaGreat
open Go.AM Tryz
theorem g86(l:On Ser)(S:St)(K:KW):C 86 [.imm (l.map Ser.enc)] S K=K (.bool (mM l)) S:=by
 refine(v86 rfl ?_).eq S K;delta Tryz.f86;simp only[↓cw,↓Oo,Om,kk,mM];by_cases h:8<l.length
 ·rw[OE (by omega),OE h]
 have h':¬(8:Int)<(l.length:Int):=by omega
 simp only[↓cw,↓Oo,Om,h,h',kk];refine aG l (step:=lU) (fin:=λ_=>OB) (λi s vs S=>s=cO l i/\vs=[.bool OA,O J (i:Int)]) (λr=>V.bool r=.bool (aD lU (λ_=>OB) l OG)) ?_ ?_ ⟨rfl,rfl⟩ rfl
 ·rintro i r s vs S hi ⟨rfl,rfl⟩ aE H;have ai:=(Oq.1 hi).1;have hn:cO l (i+1)=Ot r:=by simpa[cO] using hi
  simp only[hn,lU] at H;simp only[↓cw,↓Oo,Om,kk,bG hi,nO hi,Ser.enc,aYx,gM (show i<1000000000 by omega)];cases uv:dV r.name
  ·simp[uv] at H|-;exact H
  ·simp only[↓cw,↓Oo,Om,uv,kk,Pq,Ou] at H|-
   cases i with
   | zero=>
    simp only[↓cw,↓Oo,Om,cO,nL,kk,OO,Ou,Oy,mL,Ra,PB] at H|-
    simp only[↓cw,↓Oo,Om,Wz,OZ,kk,Ou]
    grind
   | succ j=>
    have hj:l[j]?=Ot l[j]:=OF (by omega);have hp:cO l (j+1)=Ot l[j]:=by simp[cO,hj]
    simp only[↓cw,↓Oo,Om,hp,gt0,kk,wrm (show j+1<1000000000 by omega),nO hj,Ser.enc,nL,mL,Ra,PB] at H|-
    grind
 ·rintro s vs S ⟨rfl,rfl⟩ aE H;simp only[↓cw,↓Oo,Om,kk,OZ];exact H
theorem bOe:cV prog 263=Ot none:=by kernel_rfl
theorem bUj(name:On OP)(s:Ser):Fr 263 (λa=>[.agg s.enc,.ptr a 0 0 0]) 1 [.str name] (.bool (s.name == name)) [.str name]:=by
 refine Sw bK0 (lv:=dY []) (Xg rfl (Rq rfl)) rfl ?_ rfl rfl;rw[bT4];delta Tryz.f263;simp only[↓cw,↓Oo,Om,kk,Ser.enc,eY];rfl
theorem f233(l:On Ser)(name:On OP)(hb:l.length<1000000):Fv 233 [.imm (l.map Ser.enc),.str name] (O J (cD l name)):=by
 refine bSt rfl ?_;have h:=bO3 263 bOe _ (bUj name) l hb (S:=⟨1,Tr.nil.put 0 (.row 0 1 [[.str name]])⟩) (a:=0) (Ox _ _ _ trivial);delta Tryz.f233;simp only[↓cw,↓Oo,Om,kk,h,cD]
theorem bIf(l:On Ser)(name:On OP)(hb:l.length<1000000)(S:St)(K:KW):C 233 [.imm (l.map Ser.enc),.str name] S K=K (O J (cD l name)) S:=(f233 l name hb).eq S K
theorem bUk(l:On Ser)(name:On OP)(hb:l.length<1000000)(S:St)(K:KW):C 241 [.imm (l.map Ser.enc),.str name] S K=K (.tup [.agg [.str (mW l name).1.name,O J (mW l name).1.next,O J (mW l name).1.limit,.bool (mW l name).1.shut],.bool (mW l name).2]) S:=by
 refine(bSy rfl ?_).eq S K;delta Tryz.f241;simp only[↓cw,↓Oo,Om,kk,bIf l name hb,mW];rcases jO l name with h | ⟨i,s,h,h2,h3⟩
 ·simp only[↓cw,↓Oo,Om,h,show(-1:Int)<0 by decide,kk,oo,Ser.zero,Oy]
 ·simp only[↓cw,↓Oo,Om,h,show¬(i:Int)<0 by omega,kk,Ou,nO h2,Ser.enc,Pn,h2,oo]
theorem bOf(l:On Ser)(name:On OP)(S:St)(K:KW):C 236 [.imm (l.map Ser.enc),.str name] S K=K (dU (kK l name)) S:=by
 refine(bSv rfl ?_).eq S K;delta Tryz.f236;simp only[↓cw,↓Oo,Om,kk,g86,kK,dU];by_cases hr:mM l=OB
 ·have hb:=pS hr;simp only[↓cw,↓Oo,Om,hr,kk,bIf l name (show l.length<1000000 by omega),Pq,Ou];rcases jO l name with h | ⟨i,s,h,h2,h3⟩
  ·simp only[↓cw,↓Oo,Om,h,show(-1:Int)<0 by decide,kk,oo,Oy]
  ·simp only[↓cw,↓Oo,Om,h,show¬(i:Int)<0 by omega,kk,Ou,nO h2,Ser.enc,Pn,h2,oo];cases s.shut<;>simp
 ·have hr:mM l=false:=by simpa using hr
  simp only[↓cw,↓Oo,Om,hr,kk,oo,Oy]
theorem bIg(l:On Ser)(hb:l.length<1000000){S:St}(w:WF S){K:KW}(k:∀v S',Ext S S'->Own S S' 4 v (l.map Ser.enc)->K v S'):C 235 [.imm (l.map Ser.enc)] S K:=by
 refine bSu rfl ?_;delta Tryz.f235;simp only[↓cw,↓Oo,Om,kk];cases l with
 | nil=>
  exact k .nils ⟨S.next+0,S.heap⟩ ⟨λa b h=>h,Ov _,λw=>w⟩ (Rf _ _ _)
 | cons x l=>
  obtain⟨v,S1,q1,x1,own⟩:=aS0 (b:=40) ser4 (x::l) mB (by omega) (by unfold eG;omega);have q2:eC 4 40 .nils (.imm ((x::l).map Ser.enc)) OG E0=.ok (.sl 0 0 4 0 (l.length+1),⟨1,Tr.nil.put 0 (.row 0 4 ((x::l).map Ser.enc))⟩):=by
   have a1:kG 4 ((x::l).map Ser.enc)=OB/\((x::l).map Ser.enc).all aH=true:=cU (λc hc=>by obtain⟨y,_,rfl⟩:=Pv.1 hc;exact ser4 y);simp only[eC,aK];rw[OE a1];simp only[Qd];have wl:l.length+1<1000000:=hb;simp only[OQ,ON,dX];rw[OE (by unfold eG;omega)]
  rw[q2];simp only[↓cw,↓Oo,Om,kk];have hc:((x::l).map Ser.enc).all Tl=true:=aU (λ_=>rfl) _;have ho:vT [0] (.sl 0 0 4 0 (l.length+1)) ⟨1,Tr.nil.put 0 (.row 0 4 ((x::l).map Ser.enc))⟩ S=.ok (.sl S.next 0 4 0 (l.length+1),⟨S.next+1,S.heap.put S.next (.row 0 4 ((x::l).map Ser.enc))⟩):=by
   have hg:(Tr.nil.put 0 (Blk.row 0 4 ((x::l).map Ser.enc))).get 0=Ot (.row 0 4 ((x::l).map Ser.enc)):=Ox _ _ _ trivial;obtain⟨z1,z2⟩:=fK (S:=⟨1,Tr.nil.put 0 (.row 0 4 ((x::l).map Ser.enc))⟩) (n:=2) hc;simp only[Qd] at hg z1 z2;simp only[vT,Ur,aDf,iT,Nat.beq_refl,Bool.true_or,PW,gP,hg,z1,tM,yP,cZ,z2,qH,nR,aHj,hg,z1,z2,Px,OS,List.any_nil,OQ,Pf,Px,Bool.not_false,QG,Pp,Qd]
  rw[ho];simp only[↓cw,↓Oo,Om,kk];refine k _ _ (Rg w _) ⟨.inr ⟨S.next,0,[],by simp,Ov _,Qb _,?_⟩,λc hc=>by obtain⟨y,_,rfl⟩:=Pv.1 hc;exact ser4 y⟩;rw[OS];exact Ox _ _ _ trivial
theorem bUl(l:On Ser)(name:On OP)(limit:Int)(S:St)(K:KW):C 175 [.imm (l.map Ser.enc),.str name,O J limit] S K=K (.tup [.imm ((gX l name limit).1.map Ser.enc),O J (gX l name limit).2]) S:=by
 refine(bTj rfl ?_).eq S K;simp only[bC0,aKj,kk,g86,aYx];by_cases hr:mM l=OB
 ·have hb:=pS hr;simp only[hr,kk,bIf l name (show l.length<1000000 by omega),gX,Pq,Ou];by_cases hn:dV name=OB
  ·simp only[hn,kk,Pq,Ou];by_cases c1:limit<1
   ·simp only[c1,kk,oo,Oy,Py,true_or]
   ·by_cases c2:1099511627776<limit
    ·simp only[c1,c2,kk,oo,Oy,Ou,Py,or_true,Rk]
    ·simp only[c1,c2,kk,Ou,or_self,Rp];by_cases c3:0<=cD l name
     ·simp only[c3,kk,oo,Oy,Py]
     ·by_cases c4:8<=l.length
      ·simp only[c3,c4,show(8:Int)<=(l.length:Int) by omega,kk,oo,Oy,Ou,Py]
      ·simp only[c3,c4,show¬(8:Int)<=(l.length:Int) by omega,kk,Ou];have hj:∀k:Nat,k=pR (λs:Ser=>iL s.name name) l->aE0 C (λv0 S0=>eX S0 v0=TO (.tup [.imm ((fU l (pR (λs:Ser=>iL s.name name) l) ⟨name,1,limit,OA⟩).map Ser.enc),O J 0])) (.imm (l.map Ser.enc)) (.str name) (O J limit) (O J (k:Int)) ⟨0,.nil⟩:=by
        intro k hk;simp only[aE0];refine bIg l (by omega) mB λv S1 x1 own=>?_;have w1:=x1.wf mB;have dw:k<=l.length:=by rw[hk];exact aE4 _ _
        obtain⟨v2,S2,q2,w2,au⟩:=bO6 bUe (by decide) own w1 (ser4 ⟨name,1,limit,OA⟩) (by simp;omega) (by simp[eG];omega) (i:=k) (by simpa using dw);simp only[Ser.enc] at q2;simp only[kk,aMp];rw[aYz bO8 q2];rw[<-sJ] at au;simp only[oo,au.frz (aU (λ_=>rfl) _),hk]
       refine aG l (step:=gE (λs:Ser=>iL s.name name)) (fin:=id) (λi k vs S=>k=i/\vs=[O J (i:Int)]/\S=⟨0,.nil⟩) (λr=>r=pR (λs:Ser=>iL s.name name) l) ?_ ?_ ⟨rfl,rfl,rfl⟩ rfl
       ·rintro i s k vs S hi ⟨rfl,rfl,rfl⟩ aE H;have ai:=(Oq.1 hi).1;simp only[gE] at H;simp only[aKi,kk,bG hi,nO hi,Ser.enc,gM (show k<1000000000 by omega)];cases c:iL s.name name<;>simp only[c,kk,Oy,Ou,OO] at H|-
        ·exact hj _ H
        ·exact H _ _ ⟨rfl,rfl⟩
       ·rintro k vs S ⟨rfl,rfl,rfl⟩ aE H;simp only[aKi,kk,OZ];exact hj _ (by simpa using H)
  ·have hn:dV name=false:=by simpa using hn
   simp only[hn,kk,oo,Oy,Py]
 ·have hr:mM l=false:=by simpa using hr
  simp only[hr,kk,oo,gX,Oy,Py]
theorem bUm(l:On Ser)(name:On OP)(S:St)(K:KW):C 177 [.imm (l.map Ser.enc),.str name] S K=K (.tup [.imm ((sK l name).1.map Ser.enc),O J (sK l name).2]) S:=by
 refine(bRx rfl ?_).eq S K;delta Tryz.f177;simp only[↓cw,↓Oo,Om,kk,bOf,dU,sK];by_cases h0:(kK l name).2=0
 ·obtain⟨hr,i,s,h1,_,h2,h3,_⟩:=aB2 h0;have hb:=pS hr;have ai:=(Oq.1 h2).1;have e1:(kK l name).1=(i:Int):=by rw[h1]
  simp only[↓cw,↓Oo,Om,h0,kk,OK,Ou];refine bIg l (by omega) mB λv S1 x1 own=>?_;obtain⟨a,ver,_,_,_,e4,_,er⟩:=own.setK x1 mB (i:=i) (cs:=s.enc) (by simp[h2]) J;obtain⟨S2,bz,x2,n2,au,am,w2⟩:=er 3 1 (.bool OB) rfl rfl (by decide);have fm:(l.map Ser.enc).set i (splice s.enc 3 [.bool OB])=(l.set i { s with shut:=OB }).map Ser.enc:=by rw[RM];rfl
  simp only[Ur] at au;rw[fm] at au;simp only[↓cw,↓Oo,Om,e1,e4,kk,bz,oo,au.frz (aU (λ_=>rfl) _),Pn,h2]
 ·simp only[↓cw,↓Oo,Om,h0,kk,oo,Oy,OL,Py]
theorem bUn(l:On Ser)(name:On OP)(S:St)(K:KW):C 271 [.imm (l.map Ser.enc),.str name] S K=K (.tup [.imm ((dI l name).1.map Ser.enc),O J (dI l name).2.1,O J (dI l name).2.2]) S:=by
 refine(bT6 rfl ?_).eq S K;delta Tryz.f271;simp only[↓cw,↓Oo,Om,kk,bOf,dU,dI];by_cases h0:(kK l name).2=0
 ·obtain⟨hr,i,s,h1,_,h2,h3,_⟩:=aB2 h0;have hb:=pS hr;have ai:=(Oq.1 h2).1;have e1:(kK l name).1=(i:Int):=by rw[h1]
  simp only[↓cw,↓Oo,Om,h0,kk,OK,Ou,e1,nO h2,Ser.enc,Pn,h2];by_cases c:s.limit<s.next
  ·simp only[↓cw,↓Oo,Om,c,kk,oo,Oy,Py]
  ·simp only[↓cw,↓Oo,Om,c,kk,Ou];refine bIg l (by omega) mB λv S1 x1 own=>?_;obtain⟨a,ver,_,_,_,e4,em,er⟩:=own.setK x1 mB (i:=i) (cs:=s.enc) (by simp[h2]) J;obtain⟨S2,bz,x2,n2,au,am,w2⟩:=er 1 1 (O J (wr J (s.next+1))) rfl rfl (by decide);have da:=em.load OG 1;have fm:(l.map Ser.enc).set i (splice s.enc 1 [O J (wr J (s.next+1))])=(l.set i { s with next:=wr J (s.next+1) }).map Ser.enc:=by rw[RM];rfl
   simp only[Ur] at au;rw[fm] at au;simp only[↓cw,↓Oo,Om,adv,kk] at da;simp only[↓cw,↓Oo,Om,e4,kk,da,Ser.enc,bz,oo,au.frz (aU (λ_=>rfl) _)]
 ·simp only[↓cw,↓Oo,Om,h0,kk,oo,Oy,OL,Py]
theorem zne{S:St}(h:0<S.next):((0:Nat)=S.next)=False:=by simp;omega
theorem bUo(l:On Rate)(cat:On OP)(d:Date)(S:St)(K:KW):C 278 [.imm (l.map Rate.enc),.str cat,.agg [O J d.y,O J d.m,O J d.d]] S K=K (.tup [O J (kL l cat d).1,.bool (kL l cat d).2]) S:=by
 refine(bT7 rfl ?_).eq S K;delta Tryz.f278;simp only[↓cw,↓Oo,Om,kk,g85,aMn,kL];by_cases hr:fL l=OB
 ·have hb:=zK hr;simp only[↓cw,↓Oo,Om,hr,kk,Pq,Ou];cases hd:d.right
  ·simp only[↓cw,↓Oo,Om,hd,kk,oo,Oy]
  simp only[↓cw,↓Oo,Om,hd,kk,Pq,Ou];refine aG l (step:=lV cat d) (fin:=id) (λi s vs S=>vs=[O J s.1,.bool s.2,O J (i:Int)]/\aC S 0 0=.ok (3,[d.enc])/\0<S.next) (λr=>r=aD (lV cat d) id l (0,OA)) ?_ ?_ (s:=(0,OA)) ⟨rfl,by simp only[↓cw,↓Oo,Om,kk];rfl,TV⟩ rfl
  ·rintro i r ⟨bp,ok⟩ vs S hi ⟨rfl,hg,h0⟩ aE H;have ai:=(Oq.1 hi).1;simp only[lV] at H;simp only[↓cw,↓Oo,Om,kk,bG hi,pV hi,Rate.enc,gM (show i<1000000000 by omega),eY,zne h0,gm,hg,Date.enc,bCa];have ke:∀b b':Blk,aC ⟨S.next+1,(S.heap.put S.next b).put S.next b'⟩ 0 0=.ok (3,[d.enc]):=λb b'=>by simp only[↓cw,↓Oo,Om,eY,kk,zne h0,gm,hg]
   cases c1:(r.cat == cat)<;>simp only[↓cw,↓Oo,Om,c1,kk,OO,false_and,Ou,true_and] at H|-
   ·exact H _ _ ⟨rfl,ke _ _,Tv _⟩
   ·cases c2:d.before r.day<;>simp only[↓cw,↓Oo,Om,c2,kk,Oy,Ou,Pq] at H|-<;>exact H _ _ ⟨rfl,ke _ _,Tv _⟩
  ·rintro⟨bp,ok⟩ vs S ⟨rfl,hg,h0⟩ aE H;have H:(bp,ok)=aD (lV cat d) id l (0,OA):=H;simp only[↓cw,↓Oo,Om,kk,OZ,oo,<-H]
 ·have hr:fL l=false:=by simpa using hr
  simp only[↓cw,↓Oo,Om,hr,kk,oo,Oy]
theorem bUp:apT prog 24=Ot (5,48):=by kernel_rfl
theorem bOg:lS 237=Ot (.spec ((Sp.ins 24).run prog)):=by kernel_rfl
theorem aS1(x:Rate):x.enc.length=5/\aH x.enc=true:=⟨rfl,rfl⟩
theorem Date.ext_iff(a b:Date):(a=b)=((a.y=b.y/\a.m=b.m)/\a.d=b.d):=by
 obtain⟨_,_,_⟩:=a;obtain⟨_,_,_⟩:=b;simp[and_assoc]
theorem bCg{P:OI}{T:OH}{α:Type}{enc:α->On V}{n b:Nat}(hT:apT P T=Ot (n,b))(hn:1<n)(hl:∀x,(enc x).length=n/\aH (enc x)=OB)(l:On α){S:St}(w:WF S){ka kb m:Nat}(hk:S.next<=ka)(hm:ka<m)(mw:S.next<=kb)(hmb:kb<m)(ah:ka≠kb)
  (h1:(l.length+1)*b<=35184372088832) (h2:l.length+1<eG) (x:α) {i:Nat} (hi:i<=l.length):
  ∃v S1 v' S',eC n b .nils (.imm (l.map enc)) (Ot ka) ⟨m,S.heap⟩=.ok (v,S1)/\(∀y,y<S.next->S1.heap.get y=S.heap.get y)/\jR P T v (O J (i:Int)) (.sl kb 0 n 0 1) ⟨S1.next,S1.heap.put kb (.row 0 n [enc x])⟩=.ok (v',S')/\Own E0 S' n v' ((fU l i x).map enc):=by
 have hx:Ext S ⟨m,S.heap⟩:=⟨λa b h=>h,by show S.next<=m;omega,λw a b h=>by have:=w a b h;show a<m;omega⟩;have eh:∀k,S.next<=k->S.heap.get k=none:=by
  intro k hk;cases hq:S.heap.get k with
  | none=>rfl
  | some b=>have:=w k b hq;omega
 have hc:∀cs,cs∈l.map enc->cs.length=n/\aH cs=true:=λcs hc=>by obtain⟨x,_,rfl⟩:=Pv.1 hc;exact hl x
 obtain⟨a1,a2⟩:=cU hc;have Lg:WF ⟨m,S.heap⟩:=hx.wf w;have key:∃v S1,eC n b .nils (.imm (l.map enc)) (Ot ka) ⟨m,S.heap⟩=.ok (v,S1)/\WF S1/\S1.next=m/\(∀y,y<S.next->S1.heap.get y=S.heap.get y)/\S1.heap.get kb=OG/\(∀a ver k,v=.sl a ver n 0 k->a=ka)/\Own E0 S1 n v (l.map enc):=by
  cases l with
  | nil=>exact⟨.nils,⟨m,S.heap⟩,rfl,Lg,rfl,λ_ _=>rfl,eh kb mw,(λ_ _ _ h=>by cases h),Rf _ _ _⟩
  | cons y l=>
   refine⟨.sl ka 0 n 0 (l.length+1),⟨m,S.heap.put ka (.row 0 n ((y::l).map enc))⟩,?_,gO Lg hm (Ov _),rfl,λz hz=>OJ _ _ _ _ trivial (by omega),?_,λ_ _ _ h=>(by cases h;rfl),⟨.inr ⟨ka,0,[],by simp,PS _,hm,?_⟩,hc⟩⟩
   ·simp only[eC,aK];rw[OE ⟨a1,a2⟩];simp only[Qd,OQ,ON,xB] at h1 h2|-
    have wl:(l.length+1)*b<=(l.length+1+1)*b:=Nat.mul_le_mul_right _ (by omega);rw[OE ⟨by omega,by omega⟩]
   ·rw[OJ _ _ _ _ trivial (SJ ah)];exact eh kb mw
   ·rw[OS];exact Ox _ _ _ trivial
 obtain⟨v,S1,q1,w1,n1,q2,q3,q4,own⟩:=key;have x1:Ext S1 ⟨S1.next,S1.heap.put kb (.row 0 n [enc x])⟩:=⟨λa c hc=>by
  show(S1.heap.put kb _).get a=Ot c;rw[OJ _ _ _ _ trivial (λe=>by rw[e,q3] at hc;cases hc)];exact hc,Ov _,λw=>gO w (by omega) (Ov _)⟩
 obtain⟨v',S',p1,_,p3⟩:=(own.ext x1).insert hT hn (rV (x1.wf w1)) mB (bx:=kb) (c:=enc x) (aA _ _ _ _ _ _) (λa ver k hv=>by rw[q4 a ver k hv];exact ah) (hl x) (by simpa using h1) (by simpa using h2) (i:=i) (by simpa using hi);rw[<-sJ] at p3;exact⟨v,S1,v',S',q1,q2,p1,p3⟩
theorem bUq(l:On Rate)(r:Rate)(S:St)(K:KW):C 178 [.imm (l.map Rate.enc),.agg [.str r.cat,O J r.day.y,O J r.day.m,O J r.day.d,O J r.bp]] S K=K (.tup [.imm ((jV l r).1.map Rate.enc),O J (jV l r).2]) S:=by
 refine(bRy rfl ?_).eq S K;delta Tryz.f178;simp only[↓cw,↓Oo,Om,kk,g85,jV];by_cases hr:fL l=OB
 ·have hb:=zK hr;simp only[↓cw,↓Oo,Om,hr,kk,Pq,Ou,bO0];by_cases h0:uX r=0
  ·simp only[↓cw,↓Oo,Om,h0,kk,OK,Ou];refine aG l (step:=mX r) (fin:=Ot) (λi k vs S=>vs=[.nils,O J 0,O J (k:Int),O J (i:Int)]/\aC S 0 0=.ok (5,[r.enc])/\0<S.next/\WF S/\k<=i) (λq=>q=aD (mX r) Ot l 0) ?_ ?_ (s:=0) ⟨rfl,by simp only[↓cw,↓Oo,Om,kk];rfl,TV,gO mB (by decide) (by decide),Ov _⟩ rfl
   ·rintro i x k vs S hi ⟨rfl,hg,hp,w,By⟩ aE H;have ai:=(Oq.1 hi).1;simp only[↓cw,↓Oo,Om,mX,Date.ext_iff,kk] at H;have ke:∀b b':Blk,aC ⟨S.next+1,(S.heap.put S.next b).put S.next b'⟩ 0 0=.ok (5,[r.enc]):=λb b'=>by simp only[↓cw,↓Oo,Om,eY,kk,zne hp,gm,hg]
    have je:∀b b':Blk,WF ⟨S.next+1,(S.heap.put S.next b).put S.next b'⟩:=λb b'=>gO (gO w (Qb _) (PX _)) (Qb _) (Ov _);simp only[↓cw,↓Oo,Om,kk,bG hi,pV hi,Rate.enc,gM (show i<1000000000 by omega),gM (show k<1000000000 by omega),eY,zne hp,gm,hg,bO1];cases c1:(x.cat == r.cat)<;>simp only[↓cw,↓Oo,Om,c1,kk,OO,false_and,Ou,true_and,OU,PB] at H|-
    ·cases c3:fW x r<;>simp only[↓cw,↓Oo,Om,c3,kk,Oy,Ou,OO] at H|-<;>exact H _ _ ⟨rfl,ke _ _,Tv _,je _ _,by omega⟩
    ·by_cases c2:(x.day.y=r.day.y/\x.day.m=r.day.m)/\x.day.d=r.day.d<;>simp only[↓cw,↓Oo,Om,c2,kk,Oy,Ou] at H|-
     ·have H':aD (mX r) Ot l 0=none:=H.symm;simp only[oo,H',Py]
     ·cases c3:fW x r<;>simp only[↓cw,↓Oo,Om,c3,kk,Oy,Ou,OO] at H|-<;>exact H _ _ ⟨rfl,ke _ _,Tv _,je _ _,by omega⟩
   ·rintro k vs S ⟨rfl,hg,hp,w,By⟩ aE H;have H':aD (mX r) Ot l 0=Ot k:=H.symm;simp only[↓cw,↓Oo,Om,kk,OZ,H'];by_cases c:24<=l.length
    ·simp only[↓cw,↓Oo,Om,c,show(24:Int)<=(l.length:Int) by omega,kk,oo,Oy,Py]
    ·obtain⟨v,S1,v',S',q1,q2,q3,own⟩:=bCg bUp (by decide) aS1 l w (ka:=S.next+1) (kb:=S.next+4) (m:=S.next+8) (by omega) (by omega) (by omega) (by omega) (by omega) (by omega) (by unfold eG;omega) r By;have rl:aC S1 0 0=.ok (5,[r.enc]):=aX hg (q2 0 hp);simp only[Rate.enc] at hg rl q3;simp only[↓cw,↓Oo,Om,c,show¬(24:Int)<=(l.length:Int) by omega,kk,gm,hg,q1,rl,aPh,Ou];rw[aYz bOg q3];simp only[oo,own.frz (aU (λ_=>rfl) _),c,Ou]
  ·simp only[↓cw,↓Oo,Om,h0,kk,oo,Oy,OL,Py]
 ·have hr:fL l=false:=by simpa using hr
  simp only[↓cw,↓Oo,Om,hr,kk,oo,Oy,Py]
end Go.Proofs.YtoaibmbldmckaaaGreat
end
section
namespace Go.AM
theorem bCh(n:Nat)(z:On V)(parts:On (Nat×V))(fr:Ow Nat)(S:St)(hn:n<=1000):cX n z 2 parts fr S=(match aA8 n [z,z] parts with
  | .error e=>.error e
  | .ok elems=>match bR fr S (.row 0 n elems) with
   | .error e=>.error e
   | .ok (a,S')=>.ok (.sl a 0 n 0 2,S')):=by
 unfold cX;rw[OE (by omega)];rfl
theorem bH2(z:On V)(parts:On (Nat×V))(fr:Ow Nat)(S:St):type_of% (bCh 2 z parts fr S (by decide)):=bCh 2 z parts fr S (by decide)
theorem Own.bump{S0 S:St}{n:Nat}{v:V}{es:On (On V)}(h:Own S0 S n v es)(c:Nat):Own S0 ⟨S.next+c,S.heap⟩ n v es:=h.ext ((Tm S).bump c)
theorem Own.newV{S0 S:St}{n:Nat}{v:V}{es:On (On V)}(h:Own S0 S n v es)(hp:es.all (λcs=>cs.all nV)=OB):newV S v=true:=by
 have he:=h.sl.elems;rcases h.is with ⟨rfl,_⟩ | ⟨a,ver,tl,rfl,_⟩
 ·rfl
 ·simp only[Go.AM.newV,he,hp]
theorem aFn{α:Type}{enc:α->On V}(h:∀a,(enc a).all nV=OB):∀l:On α,(l.map enc).all (λcs=>cs.all nV)=OB
 | []=>rfl
 | a::l=>by simp only[Qd,SR,h a,aFn h l,QG]
theorem aS2{n b:Nat}{S:St}{v:V}{es:On (On V)}(h:Own E0 S n v es)(w:WF S){cs:On (On V)}(hc:∀c,c∈cs->c.length=n/\aH c=OB)(ah:cs≠[])(h1:(es.length+cs.length)*b<=35184372088832)(h2:es.length+cs.length<eG):
  ∃v' S',eC n b v (.sl S.next 0 n 0 cs.length) OG ⟨S.next+1,S.heap.put S.next (.row 0 n cs)⟩=.ok (v',S')/\Own E0 S' n v' (es++cs)/\WF S'/\∀y,y<S.next->(∀a ver m,v=.sl a ver n 0 m->y≠a)->S'.heap.get y=S.heap.get y:=by
 have x:Ext S ⟨S.next+1,S.heap.put S.next (.row 0 n cs)⟩:=Rg w _;have hu:aK ⟨S.next+1,S.heap.put S.next (.row 0 n cs)⟩ (.sl S.next 0 n 0 cs.length)=.ok cs:=by
  have hb:Ru (0+cs.length) cs.length=true:=RK (by omega);simp only[aK,aA,hb,PW,Rh,List.take_length]
 obtain⟨v',S',q1,q2,_,q3,q4⟩:=(h.ext x).pushK (b:=b) (rV (x.wf w)) mB hu hc ah h1 h2;refine⟨v',S',q1,q3,q2.wf mB,λy hy As=>?_⟩;rw[q4 y (by show y<S.next+1;omega) As];exact OJ _ _ _ _ trivial (by omega)
end Go.AM
namespace Go.Proofs.YtoaibmbldmckaaaGreat
open Go.AM Tryz
def Total.enc(t:Total):On V:=[O J t.net,O J t.tax,O J t.gross,.imm (t.parts.map Part.enc)]
def oP(t:Total):Prop:=t.parts.length<=12/\∀q∈t.parts,q.cat.length<=1000000
theorem aE5{P:OI}{t:OH}{a b:On OP}(h:a.length+b.length<2000000):cC P .add t (.str a) (.str b)=.ok (.str (a++b)):=by
 have:QI (a.length+b.length) eG=true:=by rw[Nat.blt_eq];unfold eG;omega
 simp only[cC,aCe,this,PW]
theorem aH7(x:Bal):x.enc.length=2/\aH x.enc=true:=⟨rfl,rfl⟩
theorem aIf(x:Part):x.enc.length=4/\aH x.enc=true:=⟨rfl,rfl⟩
theorem bOh(t:Total)(hf:oP t):FnK prog lS 157 [.agg [O J t.net,O J t.tax,O J t.gross,.imm (t.parts.map Part.enc)]] (.tup [.imm ((bQ t).1.map Bal.enc),O J (bQ t).2]):=by
 refine bRk ?_;delta Tryz.f157;simp only[↓cw,↓Oo,Om,kk,bCf];have bc:=hf.1;refine aG t.parts (step:=kQ) (fin:=λl=>(l,0)) (λi s vs S=>∃v,vs=[.nils,O J 0,v,O J (i:Int)]/\Own E0 S 2 v (s.map Bal.enc)/\WF S/\s.length=1+2*i) (λr=>r=bQ t) ?_ ?_ (s:=[⟨[111,119,101,100],t.gross⟩]) ⟨_,rfl,⟨.inr ⟨1,0,[],rfl,PS _,Qb 1,rfl⟩,?_⟩,gO (gO (m:=1) mB (by decide) (by decide)) (by decide) (by decide),rfl⟩ rfl
 ·rintro i p s vs S hi ⟨v,rfl,own,w,cd⟩ aE H;have ai:=(Oq.1 hi).1;have HN:=hf.2 p (OM hi);simp only[↓cw,↓Oo,Om,kQ,kk] at H;have e1:zL.length+p.cat.length<2000000:=by simp only[zL,OQ,Pf];omega
  have e2:zM.length+p.cat.length<2000000:=by simp only[zM,OQ,Pf];omega
  have c1:=aE5 (P:=prog) (t:=9) e1;have c2:=aE5 (P:=prog) (t:=9) e2;simp only[zL,zM] at c1 c2;simp only[↓cw,↓Oo,Om,kk,bG hi,kJ hi,Part.enc,gM (show i<1000000000 by omega),bIa,dU,eY,c1,c2,bH2];by_cases h1:(cM 0 p.net).2=0
  ·by_cases h2:(cM 0 p.tax).2=0
   ·simp only[↓cw,↓Oo,Om,h1,h2,kk,OK,Ou] at H|-
    have w1:WF ⟨S.next+1,(S.heap.put S.next (.row 0 4 [[V.str [],O J 0,O J 0,O J 0]])).put S.next (.row 0 4 [p.enc])⟩:=gO (gO w (Qb _) (PX _)) (Qb _) (Ov _);have x1:Ext S ⟨S.next+1,(S.heap.put S.next (.row 0 4 [[V.str [],O J 0,O J 0,O J 0]])).put S.next (.row 0 4 [p.enc])⟩:=Wo w 4 _ _;obtain⟨v',S',q1,q2,q3,_⟩:=aS2 (b:=24) (own.ext x1) w1 (cs:=[Bal.enc ⟨zL++p.cat,(cM 0 p.net).1⟩,Bal.enc ⟨zM++p.cat,(cM 0 p.tax).1⟩]) (λc hc=>by
     rcases Pu.1 hc with rfl | hc
     ·exact aH7 _
     ·rcases Pu.1 hc with rfl | hc
      ·exact aH7 _
      ·cases hc) (by simp) (by simp;omega) (by simp[eG];omega)
    simp only[↓cw,↓Oo,Om,Part.enc,Bal.enc,zL,zM,kk] at q1;simp only[↓cw,↓Oo,Om,q1,kk];exact H _ _ ⟨_,rfl,by rw[PK];exact q2,q3,by rw[OC,cd];simp;omega⟩
   ·simp only[↓cw,↓Oo,Om,h1,h2,kk,OK,OL,Ou,Oy] at H|-
    exact⟨rfl,by simp only[oo,<-H,Py]⟩
  ·simp only[↓cw,↓Oo,Om,h1,kk,OL,Oy] at H|-
   exact⟨rfl,by simp only[oo,<-H,Py]⟩
 ·rintro s vs S ⟨v,rfl,own,w,_⟩ aE H;have H':bQ t=(s,0):=H.symm;simp only[↓cw,↓Oo,Om,kk,OZ,Ou];exact⟨by simp only[aEl,SR,List.all_nil,own.newV (aFn (λ_=>rfl) _),Rn,QQ];rfl,by simp only[oo,own.frz (aU (λ_=>rfl) _),H']⟩
 ·intro c hc;simp at hc;subst hc;exact⟨rfl,rfl⟩
theorem bOi(t:Total)(hf:oP t)(S:St)(K:KW):C 157 [.agg [O J t.net,O J t.tax,O J t.gross,.imm (t.parts.map Part.enc)]] S K=K (.tup [.imm ((bQ t).1.map Bal.enc),O J (bQ t).2]) S:=(bOh t hf).eq (by simp only[Tl,nK,aU (enc:=Part.enc) (λ_=>rfl) t.parts,QG]) S K
theorem bOj(l:On Bal)(hb:l.length<1000000):Fv 220 [.imm (l.map Bal.enc)] (.bool (yI l)):=by
 refine bSi rfl ?_;delta Tryz.f220;simp only[↓cw,↓Oo,Om];refine aG (l.drop 1) (step:=vV) (fin:=λ_=>OB) (λj s vs S=>s=l[j]?/\vs=[.bool OA,O J ((j+1:Nat):Int)]) (λr=>V.bool r=.bool (yI l)) ?_ ?_ (s:=l[0]?) ⟨rfl,rfl⟩ rfl
 ·rintro j b s vs S hi ⟨rfl,rfl⟩ aE H;rw[PP,Nat.add_comm] at hi;have ai:=(Oq.1 hi).1;have hj:l[j]?=Ot l[j]:=OF (by omega);simp only[hj,vV,hi] at H;simp only[↓cw,↓Oo,Om,kk,bG hi,oJ hi,oJ hj,Bal.enc,wrm (show j+1<1000000000 by omega),gM (show j+1<1000000000 by omega)];cases c:iL l[j].acc b.acc<;>simp only[↓cw,↓Oo,Om,c,kk,Oy,Ou,OO] at H|-
  ·exact H
  ·exact H _ _ rfl
 ·rintro s vs S ⟨rfl,rfl⟩ aE H;have hn:¬(((l.drop 1).length+1:Nat):Int)<(l.length:Int):=by rw[PQ];omega
  simp only[↓cw,↓Oo,Om,kk,hn];exact H
theorem bUr(l:On Bal)(hb:l.length<1000000)(S:St)(K:KW):C 220 [.imm (l.map Bal.enc)] S K=K (.bool (yI l)) S:=(bOj l hb).eq S K
theorem bUs:apT prog 27=Ot (2,24):=by kernel_rfl
theorem bOk:lS 221=Ot (.spec ((Sp.ins 27).run prog)):=by kernel_rfl
theorem bIh(book l:On Bal)(so:book.length+l.length<1000000)(S:St)(K:KW):C 158 [.imm (book.map Bal.enc),.imm (l.map Bal.enc)] S K=K (.tup [.imm ((aV book l).1.map Bal.enc),O J (aV book l).2]) S:=by
 refine(bTf rfl ?_).eq S K;simp only[bBw,kk,bUr book (show book.length<1000000 by omega),aV];by_cases hr:yI book=OB
 ·simp only[hr,kk,Pq,Ou];obtain⟨v0,S0,q0,x0,HO⟩:=aYy (b:=24) aH7 book mB (by omega) (by unfold eG;omega);simp only[q0,kk];refine aG l (step:=bN) (fin:=λl=>(l,0)) (λi s vs S=>∃v,vs=[.nils,O J 0,v,O J (i:Int)]/\Own E0 S 2 v (s.map Bal.enc)/\WF S/\s.length<=book.length+i) (λr=>r=aD bN (λl=>(l,0)) l book) ?_ ?_ (s:=book) ⟨_,rfl,HO,x0.wf mB,Ov _⟩ rfl
  ·rintro i x s vs S hi ⟨v,rfl,own,w,cd⟩ aE H;have ai:=(Oq.1 hi).1;rw[tW] at H;simp only[aKf,kk,bG hi,oJ hi,Bal.enc];obtain⟨S1,av⟩:∃S1:St,S1=⟨S.next+1,(S.heap.put S.next (.row 0 2 [[V.str [],O J 0]])).put S.next (.row 0 2 [[.str x.acc,O J x.amount]])⟩:=⟨_,rfl⟩;have x1:Ext S S1:=by rw[av];exact Wo w 2 _ _
   have w1:=x1.wf w;have rl:aC S1 S.next 0=.ok (2,[x.enc]):=by rw[av];exact aA _ _ _ _ _ _
   have om:=own.ext x1;have NP:S.next<S1.next:=by rw[av];exact Qb _
   rw[<-av];have NQ:∀a ver m,v=.sl a ver 2 0 m->S.next≠a:=by
    intro a ver m hv;rcases own.is with ⟨rfl,_⟩ | ⟨a',bd,tl,rfl,_,ag,_⟩
    ·cases hv
    ·cases hv;omega
   have hlen:s.length<1000000:=by omega
   have Bz:=qW s x.acc;have ug:∀(v':V) (S':St),Own E0 S' 2 v' ((bX s x.acc).map Bal.enc)->WF S'->aC S' S.next 0=.ok (2,[x.enc])->aDx C (λv0 S0=>eX S0 v0=.ok (.tup [.imm ((aD bN (λl=>(l,0)) l book).1.map Bal.enc),O J (aD bN (λl=>(l,0)) l book).2])) aE .nils (O J 0) v' (.ptr S.next 0 0 0) (O J (aM s x.acc:Int)) (.imm (l.map Bal.enc)) (O J (l.length:Int)) (O J (i:Int)) S':=by
    intro v' S' cp w' ke;obtain⟨b,hb⟩:=rC s x.acc;obtain⟨a,ver,_,_,_,e4,em,er⟩:=(cp.bump 13).setK (rV (w'.bump 13)) mB (i:=aM s x.acc) (cs:=b.enc) (by simp[hb]) J;obtain⟨S2,bz,x2,n2,au,am,w2⟩:=er 1 1 (O J (dH b.amount x.amount).1) rfl rfl (by decide);have da:=em.load OG 1;simp only[adv,kk,Bal.enc] at da;have fm:((bX s x.acc).map Bal.enc).set (aM s x.acc) (splice b.enc 1 [O J (dH b.amount x.amount).1])=((bX s x.acc).set (aM s x.acc) ⟨b.acc,(dH b.amount x.amount).1⟩).map Bal.enc:=by rw[RM];rfl
    simp only[Ur] at au;rw[fm] at au;simp only[hb,Rv,Xy,kk] at H;have yh:aC ⟨S'.next+13,S'.heap⟩ S.next 0=.ok (2,[x.enc]):=ke;simp only[Bal.enc] at yh;simp only[aDx,e4,kk,da,yh,bCb,dU,gM (show i<1000000000 by omega),bz];by_cases h0:(dH b.amount x.amount).2=0
    ·simp only[h0,kk,OK,Ou] at H|-
     exact H _ _ ⟨_,rfl,au,w2 (w'.bump 13),by rw[Qm];have:=aCu s x.acc;omega⟩
    ·simp only[h0,kk,OL,Oy] at H|-
     simp only[oo,<-H,Py]
   have mu:∀(S':St),Own E0 S' 2 v (s.map Bal.enc)->WF S'->aC S' S.next 0=.ok (2,[x.enc])->S.next<S'.next->aB0 C (λv0 S0=>eX S0 v0=.ok (.tup [.imm ((aD bN (λl=>(l,0)) l book).1.map Bal.enc),O J (aD bN (λl=>(l,0)) l book).2])) aE .nils (O J 0) v (.ptr S.next 0 0 0) (O J (aM s x.acc:Int)) (.imm (l.map Bal.enc)) (O J (l.length:Int)) (O J (i:Int)) (.bool (gY s x.acc)) S':=by
    intro S' cp w' ke dt;cases hm:gY s x.acc
    ·simp only[aB0,kk];exact ug v S' (by rw[show bX s x.acc=s by simp[bX,hm]];exact cp) w' ke
    ·obtain⟨v2,S2,q1,w2,au,am⟩:=bH1 bUs (by decide) cp w' (aH7 ⟨x.acc,0⟩) (by simp;omega) (by simp[eG];omega) (i:=aM s x.acc) (by simpa using Bz);rw[<-sJ] at au;have yh:=aX ke (am S.next dt NQ);simp only[Bal.enc] at ke q1;simp only[aB0,kk,ke,bCf];rw[aYz bOk q1];exact ug v2 S2 (by rw[show bX s x.acc=fU s (aM s x.acc) ⟨x.acc,0⟩ by simp[bX,hm]];exact au) w2 yh
   have kz:∀(S':St),Own E0 S' 2 v (s.map Bal.enc)->WF S'->aC S' S.next 0=.ok (2,[x.enc])->S.next<S'.next->aDy C (λv0 S0=>eX S0 v0=.ok (.tup [.imm ((aD bN (λl=>(l,0)) l book).1.map Bal.enc),O J (aD bN (λl=>(l,0)) l book).2])) aE .nils (O J 0) v (.ptr S.next 0 0 0) (O J (aM s x.acc:Int)) (.imm (l.map Bal.enc)) (O J (l.length:Int)) (O J (i:Int)) S':=by
    intro S' cp w' ke dt;have h2:=mu ⟨S'.next+14,S'.heap⟩ (cp.bump 14) (w'.bump 14) ke (by show S.next<S'.next+14;omega);have DV:aC ⟨S'.next+14,S'.heap⟩ S.next 0=.ok (2,[x.enc]):=ke;simp only[Bal.enc] at DV;simp only[aDy,cp.sl.lenI,kk];by_cases hk:aM s x.acc=s.length
    ·have hm:gY s x.acc=true:=by unfold gY;rw[hk,Re (Ov _)]
     rw[hm] at h2;simp only[hk,kk,eq_self,Oy];rw[hk] at h2;exact h2
    ·have ag:aM s x.acc<s.length:=by omega
     have hb:s[aM s x.acc]?=Ot s[aM s x.acc]:=OF ag;have hm:gY s x.acc=!((s[aM s x.acc]).acc == x.acc):=by unfold gY;rw[hb]
     rw[hm] at h2;obtain⟨p,hp,em,_,_⟩:=(cp.bump 14).sl.elem hb;have da:=em.load OG 0;simp only[Bal.enc,kk] at da;simp only[show¬((aM s x.acc:Nat):Int)=(s.length:Int) by omega,kk,Ou,hp,em.advW,da,DV];exact h2
   refine aG s (step:=gE (λb:Bal=>iL b.acc x.acc)) (fin:=id) (λk n vs S'=>n=k/\vs=[O J (k:Int)]/\S'.heap=S1.heap/\S1.next<=S'.next) (λr=>r=aM s x.acc) ?_ ?_ ⟨rfl,rfl,rfl,Ov _⟩ rfl
   ·rintro k b n vs S' hk ⟨rfl,rfl,hh,hn⟩ dk H';have dw:=(Oq.1 hk).1;have yi:∀c,Own E0 ⟨S'.next+c,S'.heap⟩ 2 v (s.map Bal.enc):=λc=>om.same (by show S1.next<=S'.next+c;omega) (λa _=>by show S'.heap.get a=_;rw[hh]);have hw:∀c,WF ⟨S'.next+c,S'.heap⟩:=λc a b hb=>by
     have hb:S'.heap.get a=Ot b:=hb;rw[hh] at hb;have:=w1 a b hb;show a<S'.next+c;omega
    have FF:∀c,aC ⟨S'.next+c,S'.heap⟩ S.next 0=.ok (2,[x.enc]):=λc=>by
     show aC ⟨S'.next,S'.heap⟩ S.next 0=_;rw[hh];exact rl
    have DV:=FF 14;simp only[Bal.enc] at DV;obtain⟨p,hp,em,_,_⟩:=(yi 14).sl.elem hk;have da:=em.load OG 0;simp only[Bal.enc,kk] at da;simp only[gE] at H';simp only[aKe,kk,om.sl.lenI,bG hk,hp,em.advW,da,DV,gM (show n<1000000000 by omega)];cases c:iL b.acc x.acc<;>simp only[c,kk,Oy,Ou,OO] at H'|-
    ·have:=kz ⟨S'.next+14,S'.heap⟩ (yi 14) (hw 14) (FF 14) (by show S.next<S'.next+14;omega)
     rw[<-H'] at this;exact this
    ·exact H' _ _ ⟨rfl,hh,by show S1.next<=S'.next+14;omega⟩
   ·rintro n vs S' ⟨rfl,rfl,hh,hn⟩ dk H';have yi:∀c,Own E0 ⟨S'.next+c,S'.heap⟩ 2 v (s.map Bal.enc):=λc=>om.same (by show S1.next<=S'.next+c;omega) (λa _=>by show S'.heap.get a=_;rw[hh]);have hw:∀c,WF ⟨S'.next+c,S'.heap⟩:=λc a b hb=>by
     have hb:S'.heap.get a=Ot b:=hb;rw[hh] at hb;have:=w1 a b hb;show a<S'.next+c;omega
    have FF:∀c,aC ⟨S'.next+c,S'.heap⟩ S.next 0=.ok (2,[x.enc]):=λc=>by
     show aC ⟨S'.next,S'.heap⟩ S.next 0=_;rw[hh];exact rl
    have H':s.length=aM s x.acc:=H';simp only[aKe,kk,om.sl.lenI,OZ]
    have:=kz ⟨S'.next+14,S'.heap⟩ (yi 14) (hw 14) (FF 14) (by show S.next<S'.next+14;omega)
    rw[<-H'] at this;exact this
  ·rintro s vs S ⟨v,rfl,own,w,_⟩ aE H;have H':aD bN (λl=>(l,0)) l book=(s,0):=H.symm;simp only[aKf,kk,OZ,oo,own.frz (aU (λ_=>rfl) _),H']
 ·have hr:yI book=false:=by simpa using hr
  simp only[hr,kk,oo,Oy,Py]
end Go.Proofs.YtoaibmbldmckaaaGreat
end
section
namespace Go.Proofs.YtoaibmbldmckaaaGreat
open Go.AM Tryz
theorem bUt(tab:On Rate)(d:Date)(l:Line)(S:St)(K:KW):C 268 [.imm (tab.map Rate.enc),.agg [O J d.y,O J d.m,O J d.d],.agg [.str l.text,.str l.cat,O J l.count,O J l.price]] S K=K (aYr (iE tab d l)) S:=by
 refine(bT5 rfl ?_).eq S K;delta Tryz.f268;simp only[↓cw,↓Oo,Om,kk,eY,aYx,bUo,bU3,iE,aYr,dU];by_cases c1:64<l.text.length
 ·simp only[↓cw,↓Oo,Om,c1,show(64:Int)<(l.text.length:Int) by omega,kk,oo,Oy]
 simp only[↓cw,↓Oo,Om,c1,show¬(64:Int)<(l.text.length:Int) by omega,kk,Ou];cases c2:dV l.cat
 ·simp only[↓cw,↓Oo,Om,c2,kk,oo,Oy]
 simp only[↓cw,↓Oo,Om,c2,kk,Pq,Ou];by_cases c3:l.count<1
 ·simp only[↓cw,↓Oo,Om,c3,kk,oo,true_or,Oy]
 by_cases c4:1048576<l.count
 ·simp only[↓cw,↓Oo,Om,c3,c4,kk,oo,or_true,Oy,Ou]
 simp only[↓cw,↓Oo,Om,c3,c4,kk,Ou,or_self];cases c5:(kL tab l.cat d).2
 ·simp only[↓cw,↓Oo,Om,c5,kk,oo,Oy]
 ·simp only[↓cw,↓Oo,Om,c5,kk,oo,Pq,Ou]
theorem bUu:apT prog 80=Ot (4,40):=by kernel_rfl
theorem bOl:lS 280=Ot (.spec ((Sp.ins 80).run prog)):=by kernel_rfl
theorem bUv{P:OI}{T:OH}{n b:Nat}(hT:apT P T=Ot (n,b))(hn:1<n){S0 S:St}{v:V}{es:On (On V)}(h:Own S0 S n v es)(x:Ext S0 S)(w:WF S0){c:On V}(hc:c.length=n/\aH c=OB)(h1:(es.length+1)*b<=35184372088832)(h2:es.length+1<eG){i:Nat}(hi:i<=es.length):
  ∃v' S',jR P T v (O J (i:Int)) (.sl S.next 0 n 0 1) ⟨S.next+1,S.heap.put S.next (.row 0 n [c])⟩=.ok (v',S')/\Ext S0 S'/\Own S0 S' n v' (es.take i++c::es.drop i):=by
 have x1:Ext S ⟨S.next+1,S.heap.put S.next (.row 0 n [c])⟩:=Rg (x.wf w) _;obtain⟨v',S',q1,q2,q3,_⟩:=(h.ext x1).insertK hT hn (x.trans x1) w (bx:=S.next) (c:=c) (aA _ _ _ _ _ _) (λa ver m hv=>by
  rcases h.is with ⟨rfl,_⟩ | ⟨a',bd,tl,rfl,_,ag,_⟩
  ·cases hv
  ·cases hv;omega) hc h1 h2 hi
 exact⟨v',S',q1,q2,q3⟩
theorem bUw{S0 S:St}{v:V}{l:On Part}(own:Own S0 S 4 v (l.map Part.enc))(x:Ext S0 S)(w:WF S0)(hl:l.length<=1000)(cat:On OP)(bp n:Int){K:KW}(H:∀v' S',Ext S0 S'->Own S0 S' 4 v' ((uY l cat bp n).1.map Part.enc)->K (.tup [v',O J (uY l cat bp n).2]) S'):C 269 [v,.str cat,O J bp,O J n] S K:=by
 refine bTl ?_;simp only[bC2];have Bz:=tX l cat
 have hlen:lenW v=.ok (O J (l.length:Int)):=own.sl.lenI;have ug:∀(v':V) (S':St),Ext S0 S'->Own S0 S' 4 v' ((eD l cat bp).map Part.enc)->aE1 C K v' (O J n) (O J (cA l cat:Int)) S':=by
  intro v' S' x' cp;obtain⟨b,hb⟩:=tY l cat bp;obtain⟨a,ver,_,_,_,e4,em,er⟩:=cp.setK x' w (i:=cA l cat) (cs:=b.enc) (by simp[hb]) J;obtain⟨S2,bz,x2,n2,au,am,w2⟩:=er 2 1 (O J (dH b.net n).1) rfl rfl (by decide);have da:=em.load OG 2;simp only[adv,kk,Part.enc] at da;have fm:((eD l cat bp).map Part.enc).set (cA l cat) (splice b.enc 2 [O J (dH b.net n).1])=((eD l cat bp).set (cA l cat) { b with net:=(dH b.net n).1 }).map Part.enc:=by rw[RM];rfl
  simp only[Ur] at au;rw[fm] at au;have cn:uY l cat bp n=((eD l cat bp).set (cA l cat) { b with net:=(dH b.net n).1 },(dH b.net n).2):=by simp only[uY,hb]
  simp only[aE1,e4,kk,da,bCb,dU,bz]
  have:=H v' S2 x2 (by rw[cn];exact au)
  rw[cn] at this;exact this
 have mu:aB1 C K v (.str cat) (O J bp) (O J n) (O J (cA l cat:Int)) (.bool (lW l cat)) S:=by
  cases hm:lW l cat
  ·simp only[aB1,kk,OO,Ou];exact ug v S x (by rw[show eD l cat bp=l by simp[eD,hm]];exact own)
  ·obtain⟨v2,S2,q1,x2,au⟩:=bUv bUu (by decide) own x w (aIf ⟨cat,bp,0,0⟩) (by simp;omega) (by simp[eG];omega) (i:=cA l cat) (by simpa using Bz);rw[<-sJ] at au;simp only[Part.enc] at q1;simp only[aB1,kk,Oy,aMp];rw[aYz bOl q1];exact ug v2 S2 x2 (by rw[show eD l cat bp=fU l (cA l cat) ⟨cat,bp,0,0⟩ by simp[eD,hm]];exact au)
 have kz:aE2 C K v (.str cat) (O J bp) (O J n) (O J (cA l cat:Int)) S:=by
  simp only[aE2,kk,hlen];by_cases hk:cA l cat=l.length
  ·have hm:lW l cat=true:=by unfold lW;rw[hk,Re (Ov _)]
   rw[hm] at mu;rw[hk] at mu;simp only[hk,kk,Oy];exact mu
  ·have ag:cA l cat<l.length:=by omega
   have hb:l[cA l cat]?=Ot l[cA l cat]:=OF ag;have hm:lW l cat=!((l[cA l cat]).cat == cat):=by unfold lW;rw[hb]
   rw[hm] at mu;obtain⟨p,hp,em,_,_⟩:=own.sl.elem hb;have da:=em.load OG 0;simp only[Part.enc,kk] at da;simp only[show¬((cA l cat:Nat):Int)=(l.length:Int) by omega,kk,Ou,hp,em.advW,da];exact mu
 refine aG l (step:=gE (λb:Part=>iL b.cat cat)) (fin:=id) (λk n vs S'=>n=k/\vs=[O J (k:Int)]/\S'=S) (λr=>r=cA l cat) ?_ ?_ ⟨rfl,rfl,rfl⟩ rfl
 ·rintro k b m vs S' hk ⟨rfl,rfl,rfl⟩ dk H';have dw:=(Oq.1 hk).1;obtain⟨p,hp,em,_,_⟩:=own.sl.elem hk;have da:=em.load OG 0;simp only[Part.enc,kk] at da;simp only[gE] at H';simp only[aKk,kk,hlen,bG hk,hp,em.advW,da,gM (show m<1000000000 by omega)];cases c:iL b.cat cat<;>simp only[c,kk,Oy,Ou,OO] at H'|-
  ·rw[<-H'] at kz;exact kz
  ·exact H' _ _ ⟨rfl,rfl⟩
 ·rintro m vs S' ⟨rfl,rfl,rfl⟩ dk H';have H':l.length=cA l cat:=H';simp only[aKk,kk,hlen,OZ,Ou];rw[<-H'] at kz;exact kz
end Go.Proofs.YtoaibmbldmckaaaGreat
end
section
namespace Go.AM
theorem Own.one{S0 S:St}{n:Nat}{v:V}{es:On (On V)}(h:Own S0 S n v es):v.one=true:=by
 rcases h.is with ⟨rfl,_⟩ | ⟨a,ver,tl,rfl,_⟩<;>rfl
theorem Own.cells{S0 S:St}{n:Nat}{v:V}{es:On (On V)}(h:Own S0 S n v es):v.cells=[v]:=by
 rcases h.is with ⟨rfl,_⟩ | ⟨a,ver,tl,rfl,_⟩<;>rfl
theorem Own.lt{S0 S:St}{n:Nat}{v:V}{es:On (On V)}(h:Own S0 S n v es):∀a ver m,v=.sl a ver n 0 m->a<S.next:=by
 intro a ver m hv;rcases h.is with ⟨rfl,_⟩ | ⟨a',bd,tl,rfl,_,ag,_⟩
 ·cases hv
 ·cases hv;exact ag
theorem Own.ld{S0 S:St}{n:Nat}{v:V}{es:On (On V)}(h:Own S0 S n v es){a ver m:Nat}(hv:v=.sl a ver n 0 m){i:Nat}{cs:On V}(hi:es[i]?=Ot cs)(k:Ow Nat)(j:Nat):fZ k (.ptr a ver i j) S=jB k cs j:=by
 rcases h.is with ⟨rfl,rfl⟩ | ⟨a',bd,tl,rfl,q1,q2,q3⟩
 ·simp at hi
 ·cases hv;have ai:=(Oq.1 hi).1;have hg:(es++tl)[i]?=Ot cs:=by rw[Pr ai];exact hi
  simp only[ldP,aF q3,hg]
theorem Own.put{S0 S:St}{n:Nat}{v:V}{es:On (On V)}(h:Own S0 S n v es){k m:Nat}{b:Blk}(hm:S.next<=m)(hk:∀a ver m,v=.sl a ver n 0 m->k≠a):Own S0 ⟨m,S.heap.put k b⟩ n v es:=
 h.other hm λa ver m hv=>OJ _ _ _ _ trivial (SJ (hk a ver m hv))
theorem Ext.put{S S':St}(h:Ext S S'){a m:Nat}(ha:S.next<=a)(hb:a<m)(hm:S'.next<=m)(w:WF S)(b:Blk):Ext S ⟨m,S'.heap.put a b⟩:=
 ⟨λy c hy=>by
  show(S'.heap.put a b).get y=Ot c
  have:=w y c hy
  rw[OJ _ _ _ _ trivial (by omega)];exact h.old y c hy,QC h.next hm,λww=>gO (h.wf ww) hb hm⟩
end Go.AM
namespace Go.Proofs.YtoaibmbldmckaaaGreat
open Go.AM Tryz
theorem bUx{S0 S:St}{v:V}{l:On Part}(own:Own S0 S 4 v (l.map Part.enc))(x:Ext S0 S)(w:WF S0)(hl:l.length<=1000){K:KW}
  (H:∀v' S',Ext S0 S'->Own S0 S' 4 v' ((gK l).1.parts.map Part.enc)->K (.tup [.agg [O J (gK l).1.net,O J (gK l).1.tax,O J (gK l).1.gross,v'],O J (gK l).2]) S'):C 270 [v] S K:=by
 refine bTn ?_;have hlen:lenW v=.ok (O J (l.length:Int)):=own.sl.lenI;have h1:=own.one;have ag:=own.lt;have h2:=own.cells;simp only[bC4,kk,h1,h2,hlen];have hn:=x.next;refine aG l (step:=iX) (fin:=nM) (λi s vs S'=>vs=[O J 0,O J (i:Int)]/\Ext S0 S'/\Own S0 S' 4 v ((s.2.2++l.drop i).map Part.enc)/\s.2.2.length=i/\S.next+2<=S'.next/\aC S' S.next 0=.ok (4,[[O J 0,O J 0,O J 0,.nils]])/\aC S' (S.next+1) 0=.ok (4,[[O J s.1,O J s.2.1,O J 0,v]])) (λr=>r=gK l) ?_ ?_ (s:=(0,0,[])) ⟨rfl,?_,?_,rfl,?_,?_,?_⟩ rfl
 ·rintro i p ⟨net,tax,done⟩ vs S' hi ⟨rfl,x',cp,hd,qx,Cr,rl⟩ aE Hq;have ai:=(Oq.1 hi).1;obtain⟨a,ver,hv,ha,hb,e4,em,er⟩:=(cp.bump 17).setK (x'.bump 17) w (i:=i) (cs:=p.enc) (by
   rw[Pc,Pe (by omega),hd,Qt,PP,QT,hi];rfl) J
  obtain⟨S2,bz,x2,n2,au,am,w2⟩:=er 3 1 (O J (bC p.net p.bp).1) rfl rfl (by decide);have hav:=ag a ver _ hv;have uw:=em.load OG 2;have DW:=em.load OG 1;simp only[adv,kk,Part.enc] at DW uw;have HP:a≠S.next:=by omega
  have HQ:a≠S.next+1:=by omega
  have k0:=aX (S:=⟨S'.next+17,S'.heap⟩) Cr (am S.next (SJ HP));have k1:=aX (S:=⟨S'.next+17,S'.heap⟩) rl (am (S.next+1) (SJ HQ));have ch:((done++l.drop i).map Part.enc).set i (splice p.enc 3 [O J (bC p.net p.bp).1])=((done++[{ p with tax:=(bC p.net p.bp).1 }])++l.drop (i+1)).map Part.enc:=by
   have fe:done.length=i:=hd;rw[QV ai,(Oq.1 hi).2];simp only[PK,Qd,Py,Pd,Xb];rw[Sn _ _ (by simp;omega)];simp only[ON,fe,Qt,VJ];rfl
  simp only[Ur] at au;rw[ch] at au;have od:(((done++[{ p with tax:=(bC p.net p.bp).1 }])++l.drop (i+1)).map Part.enc)[i]?=Ot (Part.enc { p with tax:=(bC p.net p.bp).1 }):=by
   have fe:done.length=i:=hd;rw[Pc,Pr (by simp;omega),Pe (by omega),fe,Qt];rfl
  have Lh:∀(m:Nat) (b:Blk),S2.next<=m->Own S0 ⟨m,S2.heap.put (S.next+1) b⟩ 4 v (((done++[{ p with tax:=(bC p.net p.bp).1 }])++l.drop (i+1)).map Part.enc):=λm b hm=>au.put hm λa ver m hv=>by have:=ag a ver m hv;omega
  have ld3:∀(m:Nat) (b:Blk) (k:Ow Nat) (j:Nat),S2.next<=m->fZ k (.ptr a ver i j) ⟨m,S2.heap.put (S.next+1) b⟩=jB k (Part.enc { p with tax:=(bC p.net p.bp).1 }) j:=λm b k j hm=>(Lh m b hm).ld hv od k j;have ld2:∀k j,fZ k (.ptr a ver i j) ⟨S2.next+13,S2.heap⟩=jB k (Part.enc { p with tax:=(bC p.net p.bp).1 }) j:=λk j=>(au.bump 13).ld hv od k j;have l2:=ld2 OG 2;have l3:=λm b hm=>ld3 m b OG 3 hm;simp only[iX] at Hq;simp only[kk,Part.enc] at l2 l3;have CU:S2.next=S'.next+17:=n2;have g0:∀(m:Nat) (b:Blk),aC ⟨m,S2.heap.put (S.next+1) b⟩ S.next 0=.ok (4,[[V.int Pm 0,V.int Pm 0,V.int Pm 0,V.nils]]):=λm b=>by
   rw[dG _ S2.next _ _ _ _ _ (by omega)];exact k0
  have x3:∀(m:Nat) (b:Blk),S2.next<=m->Ext S0 ⟨m,S2.heap.put (S.next+1) b⟩:=λm b hm=>x2.put (by omega) (by omega) hm w b;simp only[aKl,kk,bG hi,e4,DW,uw,bCc,bCb,dU,bz,gM (show i<1000000000 by omega),gm,k1,l2,l3 _ _ (show S2.next<=S2.next+13+13 by omega)];obtain⟨S9,Cs⟩:∃S9:St,S9=⟨S2.next+13+13,(S2.heap.put (S.next+1) (Blk.row 0 4 [[V.int Pm (dH net p.net).1,V.int Pm tax,V.int Pm 0,v]])).put (S.next+1) (Blk.row 0 4 [[V.int Pm (dH net p.net).1,V.int Pm (dH tax (bC p.net p.bp).1).1,V.int Pm 0,v]])⟩:=⟨_,rfl⟩;have x9:Ext S0 S9:=by rw[Cs];exact(x3 S2.next _ (Ov _)).put (by omega) (by omega) (show S2.next<=S2.next+13+13 by omega) w _
  have o9:Own S0 S9 4 v (((done++[{ p with tax:=(bC p.net p.bp).1 }])++l.drop (i+1)).map Part.enc):=by rw[Cs];exact(Lh S2.next _ (Ov _)).put (show S2.next<=S2.next+13+13 by omega) λa ver m hv=>by have:=ag a ver m hv;omega
  have r9:aC S9 S.next 0=.ok (4,[[V.int Pm 0,V.int Pm 0,V.int Pm 0,V.nils]]):=by rw[Cs,dG _ S2.next _ _ _ _ _ (by omega)];exact g0 _ _
  have q9:aC S9 (S.next+1) 0=.ok (4,[[V.int Pm (dH net p.net).1,V.int Pm (dH tax (bC p.net p.bp).1).1,V.int Pm 0,v]]):=by rw[Cs];exact aA _ _ _ _ _ _
  have n9:S.next+2<=S9.next:=by rw[Cs];show _<=S2.next+13+13;omega
  rw[<-Cs];have fail:gK l=(Total.zero,7)->xG C K aE v (V.ptr S.next 0 0 0) (V.int Pm 0) (V.ptr (S.next+1) 0 0 0) (V.int Pm ↑l.length) (V.int Pm ↑i) (V.bool OB) S9:=by
   intro he
   have:=H .nils ⟨S9.next,S9.heap.put S.next (.row 0 4 [[O J 0,O J 0,O J 0,.nils]])⟩ (x9.put hn (by omega) (Ov _) w _) (by rw[he];exact Rf _ _ _)
   simp only[he,Total.zero] at this;simp only[xG,kk,r9];exact this
  by_cases c1:(bC p.net p.bp).2=0
  ·by_cases c2:(dH net p.net).2=0
   ·simp only[c1,c2,kk,OK,OL,false_or,Ou,Oy] at Hq|-
    by_cases c3:(dH tax (bC p.net p.bp).1).2=0
    ·simp only[c3,kk,OK,Ou] at Hq|-
     simp only[xG,kk,gM (show i<1000000000 by omega),Rk,Rp,OO,Ou];exact Hq _ _ ⟨rfl,x9,o9,by have fe:done.length=i:=hd;simp;omega,n9,r9,q9⟩
    ·simp only[c3,kk,OL,Oy,Rp] at Hq|-
     exact fail Hq.symm
   ·simp only[c1,c2,kk,OK,OL,false_or,true_or,Ou,Oy] at Hq|-
    exact fail Hq.symm
  ·simp only[c1,kk,OL,true_or,Oy] at Hq|-
   exact fail Hq.symm
 ·rintro⟨net,tax,done⟩ vs S' ⟨rfl,x',cp,hd,qx,Cr,rl⟩ aE Hq;rw[Tf,OS] at cp;simp only[nM] at Hq;simp only[aKl,kk,OZ,Ou,rl,bCb,dU];by_cases c:(dH net tax).2=0
  ·simp only[c,kk,OK,Ou] at Hq|-
   have hb:∀(k:Nat) (b:Blk),aC ⟨S'.next,S'.heap.put (S.next+1) b⟩ S.next 0=.ok (4,[[V.int Pm 0,V.int Pm 0,V.int Pm 0,V.nils]]):=λk b=>by rw[dG _ S'.next _ _ _ _ _ (by omega)];exact Cr
   simp only[hb 0,kk,h1,h2,gm];have x1:=x'.put (a:=S.next+1) (m:=S'.next) (by omega) (by omega) (Ov _) w (.row 0 4 [[O J net,O J tax,O J (dH net tax).1,v]]);have o1:=cp.put (k:=S.next+1) (m:=S'.next) (b:=.row 0 4 [[O J net,O J tax,O J (dH net tax).1,v]]) (Ov _) λa ver m hv=>by have:=ag a ver m hv;omega
   have:=H v _ (x1.put (a:=S.next) (m:=S'.next) hn (by omega) (Ov _) w (.row 0 4 [[O J net,O J tax,O J (dH net tax).1,v]])) (by rw[<-Hq];exact o1.put (Ov _) λa ver m hv=>by have:=ag a ver m hv;omega)
   rw[<-Hq] at this;exact this
  ·simp only[c,kk,OL,Oy] at Hq|-
   simp only[Cr,kk]
   have:=H .nils ⟨S'.next,S'.heap.put S.next (.row 0 4 [[O J 0,O J 0,O J 0,.nils]])⟩ (x'.put hn (by omega) (Ov _) w _) (by rw[<-Hq];exact Rf _ _ _)
   rw[<-Hq] at this;exact this
 ·exact((x.put (m:=S.next+1+1) hn (by omega) (by omega) w _).put (m:=S.next+1+1) (by omega) (by omega) (Ov _) w _).put (m:=S.next+1+1) (by omega) (by omega) (Ov _) w _
 ·rw[Pp,Rh];have nn:∀k,S.next<=k->∀a ver m,v=.sl a ver 4 0 m->k≠a:=λk hk a ver m hv=>by have:=ag a ver m hv;omega
  exact((own.put (m:=S.next+1+1) (by omega) (nn _ (Ov _))).put (Ov _) (nn _ (by omega))).put (Ov _) (nn _ (by omega))
 ·exact Ov _
 ·rw[dG _ S.next _ _ _ _ _ (by omega),dG _ S.next _ _ _ _ _ (by omega)];exact aA _ _ _ _ _ _
 ·exact aA _ _ _ _ _ _
end Go.Proofs.YtoaibmbldmckaaaGreat
end
section
namespace Go.AM
theorem Own.out{S0 S:St}{n:Nat}{v:V}{α:Type}{enc:α->On V}{l:On α}(h:Own S0 S n v (l.map enc))(hc:∀x,Tl (enc x)=OB):cP kP (kV (iS S 3) S) v=.ok (.imm (l.map enc)):=h.frz (aU hc _)
end Go.AM
namespace Go.Proofs.YtoaibmbldmckaaaGreat
open Go.AM Tryz
def aDl(r:Total×Int):V:=.tup [.agg [O J r.1.net,O J r.1.tax,O J r.1.gross,.imm (r.1.parts.map Part.enc)],O J r.2]
theorem bUy(tab:On Rate)(d:Date)(lines:On Line)(Li:lines.length<1000000)(S:St)(K:KW):C 238 [.imm (tab.map Rate.enc),.agg [O J d.y,O J d.m,O J d.d],.imm (lines.map Line.enc)] S K=K (aDl (dZ tab d lines)) S:=by
 refine(bSw rfl ?_).eq S K;delta Tryz.f238;simp only[↓cw,↓Oo,Om,kk,eY,g85,aMn,dZ,aDl];cases h1:fL tab
 ·simp only[↓cw,↓Oo,Om,h1,kk,oo,Oy,Total.zero,Py]
 cases h2:d.right
 ·simp only[↓cw,↓Oo,Om,h1,h2,kk,eY,oo,Oy,Pq,Ou,Total.zero,Py]
 simp only[↓cw,↓Oo,Om,h1,h2,kk,Pq,Ou,eY,aMn];by_cases h3:lines.length=0
 ·simp only[↓cw,↓Oo,Om,h3,kk,eY,oo,show((0:Nat):Int)=0 from rfl,Oy,Total.zero,Py]
 by_cases h4:12<lines.length
 ·simp only[↓cw,↓Oo,Om,h3,h4,kk,eY,oo,show¬(lines.length:Int)=0 by omega,show(12:Int)<(lines.length:Int) by omega,Oy,Ou,Total.zero,Py]
 simp only[↓cw,↓Oo,Om,h3,h4,kk,eY,show¬(lines.length:Int)=0 by omega,show¬(12:Int)<(lines.length:Int) by omega,Ou];obtain⟨S0,gc⟩:∃S0:St,S0=⟨1+1,(Tr.nil.put 0 (.row 0 3 [d.enc])).put 1 (.row 0 4 [[O J 0,O J 0,O J 0,.nils]])⟩:=⟨_,rfl⟩;have w0:WF S0:=by rw[gc];exact gO (n:=1) (gO mB (by decide) (by decide)) (by decide) (by decide)
 have a0:aC S0 0 0=.ok (3,[d.enc]):=by rw[gc];rfl
 have a1:aC S0 1 0=.ok (4,[[O J 0,O J 0,O J 0,.nils]]):=by rw[gc];rfl
 have n0:S0.next=2:=by rw[gc]
 simp only[Date.enc] at a0;refine aG lines (step:=kR tab d) (fin:=gK) (λi s vs S=>∃v,vs=[O J 0,v,O J (i:Int)]/\Own S0 S 4 v (s.map Part.enc)/\Ext S0 S/\s.length<=i) (λr=>r=aD (kR tab d) gK lines []) ?_ ?_ (s:=[]) ⟨_,rfl,Rf _ _ _,by rw[gc];exact Tm _,Ov _⟩ rfl
 ·rintro i l s vs S hi ⟨v,rfl,own,x,cd⟩ aE H;have ai:=(Oq.1 hi).1;simp only[kR] at H;have hn:=x.next;have b0:=x.row a0;have b1:=x.row a1;have z0:((0:Nat)=S.next)=False:=by simp;omega
  have z1:((1:Nat)=S.next)=False:=by simp;omega
  have x1:Ext S0 ⟨S.next+1,(S.heap.put S.next (.row 0 4 [[.str [],.str [],O J 0,O J 0]])).put S.next (.row 0 4 [l.enc])⟩:=(x.put (m:=S.next+1) hn (by omega) (by omega) w0 _).put (m:=S.next+1) hn (by omega) (Ov _) w0 _;have nn:∀a ver m,v=.sl a ver 4 0 m->S.next≠a:=λa ver m hv=>by have:=own.lt a ver m hv;omega
  have o1:Own S0 ⟨S.next+1,(S.heap.put S.next (.row 0 4 [[.str [],.str [],O J 0,O J 0]])).put S.next (.row 0 4 [l.enc])⟩ 4 v (s.map Part.enc):=(own.put (m:=S.next+1) (by omega) nn).put (m:=S.next+1) (Ov _) nn;simp only[Line.enc] at x1 o1;simp only[↓cw,↓Oo,Om,kk,bG hi,bI7 hi,Line.enc,eY,z0,z1,gm,b0,b1,bUt,aYr];by_cases c1:(iE tab d l).2.2=0
  ·simp only[↓cw,↓Oo,Om,c1,kk,OK,Ou] at H|-
   refine bUw o1 x1 w0 (by omega) l.cat _ _ λv' S' x' cp=>?_;have HR:=x'.row a1;by_cases c2:(uY s l.cat (iE tab d l).1 (iE tab d l).2.1).2=0
   ·simp only[↓cw,↓Oo,Om,c2,kk,OK,Ou,gM (show i<1000000000 by omega)] at H|-
    exact H _ _ ⟨v',rfl,cp,x',by have:=aMj s l.cat (iE tab d l).1 (iE tab d l).2.1;omega⟩
   ·simp only[↓cw,↓Oo,Om,c2,kk,HR,OL,Oy] at H|-
    simp only[oo,<-H,Total.zero,Py]
  ·simp only[↓cw,↓Oo,Om,c1,kk,OL,Oy] at H|-
   simp only[oo,<-H,Total.zero,Py]
 ·rintro s vs S ⟨v,rfl,own,x,cd⟩ aE H;simp only[↓cw,↓Oo,Om,kk,OZ,Ou];refine bUx own x w0 (by omega) λv' S' x' cp=>?_;have HR:=x'.row a1;have H':gK s=aD (kR tab d) gK lines []:=H;simp only[↓cw,↓Oo,Om,kk,cp.one,cp.cells,HR,<-H']
  have:=(cp.put (m:=S'.next) (k:=1) (b:=.row 0 4 [[O J (gK s).1.net,O J (gK s).1.tax,O J (gK s).1.gross,v']]) (Ov _) λa ver m hv=>by
   rcases cp.is with ⟨rfl,_⟩ | ⟨a',bd,tl,rfl,h,_⟩
   ·cases hv
   ·cases hv;omega).out λ_=>rfl
  simp only[oo,this]
end Go.Proofs.YtoaibmbldmckaaaGreat
end
section
namespace Go.AM
theorem bH3(n:Nat)(z:On V)(parts:On (Nat×V))(fr:Ow Nat)(S:St)(hn:n<=1000):cX n z 3 parts fr S=(match aA8 n [z,z,z] parts with
  | .error e=>.error e
  | .ok elems=>match bR fr S (.row 0 n elems) with
   | .error e=>.error e
   | .ok (a,S')=>.ok (.sl a 0 n 0 3,S')):=by
 unfold cX;rw[OE (by omega)];rfl
theorem bOm(z:On V)(parts:On (Nat×V))(fr:Ow Nat)(S:St):type_of% (bH3 1 z parts fr S (by decide)):=bH3 1 z parts fr S (by decide)
theorem aPi(z:On V)(parts:On (Nat×V))(fr:Ow Nat)(S:St):type_of% (bCh 1 z parts fr S (by decide)):=bCh 1 z parts fr S (by decide)
theorem ix3(b:Nat):(∀k:Qa,fV 1 (.sl b 0 1 0 3) (.int k 0)=.ok (.ptr b 0 0 0))/\(∀k:Qa,fV 1 (.sl b 0 1 0 3) (.int k 1)=.ok (.ptr b 0 1 0))/\(∀k:Qa,fV 1 (.sl b 0 1 0 3) (.int k 2)=.ok (.ptr b 0 2 0)) /\
 (∀k:Qa,fV 1 (.sl b 0 1 0 2) (.int k 0)=.ok (.ptr b 0 0 0))/\(∀k:Qa,fV 1 (.sl b 0 1 0 2) (.int k 1)=.ok (.ptr b 0 1 0)):=⟨λ_=>rfl,λ_=>rfl,λ_=>rfl,λ_=>rfl,λ_=>rfl⟩
theorem aI{n m:Nat}{h:Tr Blk}{a c ver k:Nat}{b:Blk}{el:On (On V)}(ah:c≠a)(hg:aC ⟨n,h⟩ c ver=.ok (k,el)):aC ⟨m,h.put a b⟩ c ver=.ok (k,el):=by
 rw[dG m n h a c ver b ah];exact hg
end Go.AM
namespace Go.Proofs.YtoaibmbldmckaaaGreat
open Go.AM Tryz
theorem bOn{S:St}{a b:Nat}{q:V}{x y z:Int}(hb:aC S b 0=.ok (1,[[.ptr a 0 0 0],[.ptr a 0 0 1],[.ptr a 0 0 2]]))(ha:aC S a 0=.ok (4,[[O J x,O J y,O J z,q]]))(ah:b≠a)(NR:a<S.next){K:KW}
  (H:∀S',S'.next=S.next->(∀y,y≠a->S'.heap.get y=S.heap.get y)->(WF S->WF S')->((iF [x,y,z]).2=0->aC S' a 0=.ok (4,[[O J ((iF [x,y,z]).1.getD 0 0),O J ((iF [x,y,z]).1.getD 1 0),O J ((iF [x,y,z]).1.getD 2 0),q]]))->K (O J (iF [x,y,z]).2) S'):C 259 [.sl b 0 1 0 3] S K:=by
 refine bJz ?_;delta Tryz.f259;simp only[↓cw,↓Oo,Om,kk];have AN:(b=a)=False:=by simp[ah]
 have key:∀(cs:On V) (h:Tr Blk),(∀y,y≠a->h.get y=S.heap.get y)->∀y,y≠a->(h.put a (.row 0 4 [cs])).get y=S.heap.get y:=λcs h hh y hy=>by rw[OJ _ _ _ _ trivial hy];exact hh y hy
 have kw:∀(cs:On V) (h:Tr Blk),(WF S->WF ⟨S.next,h⟩)->WF S->WF ⟨S.next,h.put a (.row 0 4 [cs])⟩:=λcs h hh w=>gO (hh w) NR (Ov _);have e0:∀y,y≠a->S.heap.get y=S.heap.get y:=λ_ _=>rfl;have w0:WF S->WF ⟨S.next,S.heap⟩:=λw=>w;refine⟨4,?_⟩;simp only[↓cw,↓Oo,Om,aCl,kk,show((3:Nat):Int)=3 from rfl,show(0:Int)<3 by decide,show(1:Int)<3 by decide,show(2:Int)<3 by decide,show¬(3:Int)<3 by decide,ix3,hb,ha,bIa,dU,eY,AN,gm,ldP,show wr J (0+1)=1 from rfl,show wr J (1+1)=2 from rfl,show wr J (2+1)=3 from rfl];simp only[iF,aD,rE,SI] at H;by_cases c1:(cM 0 x).2=0
 ·by_cases c2:(cM 0 y).2=0
  ·by_cases c3:(cM 0 z).2=0
   ·simp only[↓cw,↓Oo,Om,c1,c2,c3,kk,Ou,OK] at H|-
    exact H _ rfl (key _ _ (key _ _ (key _ _ e0))) (kw _ _ (kw _ _ (kw _ _ w0))) λ_=>aA _ _ _ _ _ _
   ·simp only[↓cw,↓Oo,Om,c1,c2,c3,kk,Ou,Oy,OK,OL] at H|-
    exact H _ rfl (key _ _ (key _ _ e0)) (kw _ _ (kw _ _ w0)) λh=>h.elim
  ·simp only[↓cw,↓Oo,Om,c1,c2,kk,Ou,Oy,OK,OL] at H|-
   exact H _ rfl (key _ _ e0) (kw _ _ w0) λh=>h.elim
 ·simp only[↓cw,↓Oo,Om,c1,kk,Oy,OL] at H|-
  exact H S rfl e0 id λh=>h.elim
theorem bOo{S:St}{v:V}{es:On (On V)}(own:Own E0 S 4 v es)(w:WF S){a b ver m i:Nat}(hv:v=.sl a ver 4 0 m){c:On OP}{bp x y:Int}(hi:es[i]?=Ot [.str c,O J bp,O J x,O J y])(hb:aC S b 0=.ok (1,[[.ptr a ver i 2],[.ptr a ver i 3]]))(ah:b≠a){K:KW}
  (H:∀S',S'.next=S.next->(∀y,y≠a->S'.heap.get y=S.heap.get y)->WF S'->((iF [x,y]).2=0->Own E0 S' 4 v (es.set i [.str c,O J bp,O J ((iF [x,y]).1.getD 0 0),O J ((iF [x,y]).1.getD 1 0)]))->K (O J (iF [x,y]).2) S'):C 259 [.sl b 0 1 0 2] S K:=by
 refine bJz ?_;delta Tryz.f259;simp only[↓cw,↓Oo,Om,kk];have ai:=(Oq.1 hi).1;obtain⟨a1,BA,Lj,_,_,_,_,er⟩:=own.setK (rV w) mB hi J;obtain⟨rfl,rfl⟩:a1=a/\BA=ver:=by rw[hv] at Lj;injection Lj with h1 h2;exact⟨h1.symm,h2.symm⟩
 obtain⟨S2,bz,x2,n2,au,am,w2⟩:=er 2 1 (O J (cM 0 x).1) rfl rfl (by decide);have od:(es.set i (splice [.str c,O J bp,O J x,O J y] 2 [O J (cM 0 x).1]))[i]?=Ot [.str c,O J bp,O J (cM 0 x).1,O J y]:=by rw[Rr ai];rfl
 obtain⟨a2,DX,Au,_,_,_,_,Bx⟩:=au.setK x2 mB od J;obtain⟨rfl,rfl⟩:a2=a1/\DX=BA:=by rw[hv] at Au;injection Au with h1 h2;exact⟨h1.symm,h2.symm⟩
 obtain⟨S3,qI,x3,n3,iv,bf,w3⟩:=Bx 3 1 (O J (cM 0 y).1) rfl rfl (by decide);have l1:=own.ld hv hi OG 2;have l2:=au.ld hv od OG 3;have wl:=aX hb (am b ah);simp only[Ur,VZ] at iv;simp only[↓cw,↓Oo,Om,kk] at l1 l2;refine⟨3,?_⟩;simp only[↓cw,↓Oo,Om,aCl,kk,show((2:Nat):Int)=2 from rfl,show(0:Int)<2 by decide,show(1:Int)<2 by decide,show¬(2:Int)<2 by decide,ix3,ldP OG b,hb,wl,bIa,dU,l1,l2,bz,qI,show wr J (0+1)=1 from rfl,show wr J (1+1)=2 from rfl];simp only[iF,aD,rE,SI] at H;by_cases c1:(cM 0 x).2=0
 ·by_cases c2:(cM 0 y).2=0
  ·simp only[↓cw,↓Oo,Om,c1,c2,kk,Ou,OK] at H|-
   exact H S3 (n3.trans n2) (λy hy=>(bf y hy).trans (am y hy)) (w3 (w2 w)) λ_=>iv
  ·simp only[↓cw,↓Oo,Om,c1,c2,kk,Ou,Oy,OK,OL] at H|-
   exact H S2 n2 am (w2 w) λh=>h.elim
 ·simp only[↓cw,↓Oo,Om,c1,kk,Oy,OL] at H|-
  exact H S rfl (λ_ _=>rfl) w λh=>h.elim
theorem bOp(t:Total)(hf:t.parts.length<=1000)(S:St)(K:KW):C 228 [.agg [O J t.net,O J t.tax,O J t.gross,.imm (t.parts.map Part.enc)]] S K=K (aDl (bI t)) S:=by
 refine(bSp rfl ?_).eq S K;delta Tryz.f228;simp only[↓cw,↓Oo,Om,kk,eY,aDl];obtain⟨S1,av⟩:∃S1:St,S1=⟨1+1,(Tr.nil.put 0 (Blk.row 0 4 [[O J t.net,O J t.tax,O J t.gross,.imm (t.parts.map Part.enc)]])).put 1 (.row 0 4 [[O J 0,O J 0,O J 0,.nils]])⟩:=⟨_,rfl⟩;have w1:WF S1:=by rw[av];exact gO (n:=1) (gO mB (by decide) (by decide)) (by decide) (by decide)
 have a0:aC S1 0 0=.ok (4,[[O J t.net,O J t.tax,O J t.gross,.imm (t.parts.map Part.enc)]]):=by rw[av];rfl
 have a1:aC S1 1 0=.ok (4,[[O J 0,O J 0,O J 0,.nils]]):=by rw[av];rfl
 obtain⟨v,S2,q1,x2,own⟩:=aS0 (b:=40) aIf t.parts w1 (by omega) (by unfold eG;omega);have n1:S1.next=2:=by rw[av]
 have n2:=x2.next;rw[<-av];have b0:=x2.row a0;have b1:=x2.row a1;have o1:=own.one;have o2:=own.cells;have Cd:∀a ver m,v=.sl a ver 4 0 m->2<=a:=by
  intro a ver m hv;rcases own.is with ⟨rfl,_⟩ | ⟨a',bd,tl,rfl,h,_⟩
  ·cases hv
  ·cases hv;omega
 simp only[↓cw,↓Oo,Om,q1,kk,o1,o2,b0,bOm];have nn:∀k,k<2->∀a ver m,v=.sl a ver 4 0 m->k≠a:=λk hk a ver m hv=>by have:=Cd a ver m hv;omega
 have nS:∀a ver m,v=.sl a ver 4 0 m->S2.next≠a:=λa ver m hv=>by have:=own.lt a ver m hv;omega
 have oA:=((own.put (m:=S2.next) (b:=.row 0 4 [[O J t.net,O J t.tax,O J t.gross,v]]) (Ov _) (nn 0 (by decide))).put (k:=S2.next) (m:=S2.next+1) (b:=.row 0 1 [[.ptr 0 0 0 0],[.ptr 0 0 0 1],[.ptr 0 0 0 2]]) (PX _) nS).weaken (A:=E0) (PS _);have wA:WF ⟨S2.next+1,(S2.heap.put 0 (.row 0 4 [[O J t.net,O J t.tax,O J t.gross,v]])).put S2.next (.row 0 1 [[.ptr 0 0 0 0],[.ptr 0 0 0 1],[.ptr 0 0 0 2]])⟩:=gO (n:=S2.next) (gO (n:=S2.next) (x2.wf w1) (by omega) (Ov _)) (by omega) (by omega);have bA:aC ⟨S2.next+1,(S2.heap.put 0 (.row 0 4 [[O J t.net,O J t.tax,O J t.gross,v]])).put S2.next (.row 0 1 [[.ptr 0 0 0 0],[.ptr 0 0 0 1],[.ptr 0 0 0 2]])⟩ 1 0=.ok (4,[[O J 0,O J 0,O J 0,.nils]]):=aI (n:=S2.next) (by omega) (aI (n:=S2.next) (by decide) b1);refine bOn (S:=⟨S2.next+1,(S2.heap.put 0 (.row 0 4 [[O J t.net,O J t.tax,O J t.gross,v]])).put S2.next (.row 0 1 [[.ptr 0 0 0 0],[.ptr 0 0 0 1],[.ptr 0 0 0 2]])⟩) (aA _ _ _ _ _ _) (aI (n:=S2.next) (by omega) (aA S2.next _ _ _ _ _)) (by omega) (by show 0<S2.next+1;omega) λS3 n3 bf w3 g3=>?_;have n3:S3.next=S2.next+1:=n3;have c1:=aX bA (bf 1 (by decide));have o3:Own E0 S3 4 v (t.parts.map Part.enc):=oA.other (by show S2.next+1<=S3.next;omega) λa ver m hv=>bf a (by have:=Cd a ver m hv;omega);simp only[↓cw,↓Oo,Om,kk,bI];by_cases h0:(iF [t.net,t.tax,t.gross]).2=0
 ·have g3:=g3 h0;have hlen:lenW v=.ok (O J (t.parts.length:Int)):=own.sl.lenI;obtain⟨x,hx⟩:∃x,x=(iF [t.net,t.tax,t.gross]).1.getD 0 0:=⟨_,rfl⟩;obtain⟨y,hy⟩:∃y,y=(iF [t.net,t.tax,t.gross]).1.getD 1 0:=⟨_,rfl⟩;obtain⟨z,hz⟩:∃z,z=(iF [t.net,t.tax,t.gross]).1.getD 2 0:=⟨_,rfl⟩;simp only[<-hx,<-hy,<-hz] at g3|-
  simp only[↓cw,↓Oo,Om,h0,kk,OK,Ou,g3,hlen];refine aG t.parts (step:=dW) (fin:=λl=>(l,0)) (λi s vs S=>vs=[O J 0,O J (i:Int)]/\Own E0 S 4 v ((s++t.parts.drop i).map Part.enc)/\s.length=i/\WF S/\2<=S.next/\aC S 0 0=.ok (4,[[O J x,O J y,O J z,v]])/\aC S 1 0=.ok (4,[[O J 0,O J 0,O J 0,.nils]])) (λr=>r=aD dW (λl=>(l,0)) t.parts []) ?_ ?_ (s:=[]) ⟨rfl,by simpa using o3,rfl,w3 wA,by omega,g3,c1⟩ rfl
  ·rintro i p s vs S hi ⟨rfl,own,hd,w,hn,r0,r1⟩ aE H;have ai:=(Oq.1 hi).1;have FG:((s++t.parts.drop i).map Part.enc)[i]?=Ot p.enc:=by
    rw[Pc,Pe (by omega),hd,Qt,PP,QT,hi];rfl
   obtain⟨a,ver,hv,_,hb,e4,_,_⟩:=own.setK (rV w) mB FG J;simp only[dW] at H;simp only[↓cw,↓Oo,Om,kk,bG hi,gm,r0,e4,aPi,gM (show i<1000000000 by omega)];have oB:=own.put (k:=S.next+10) (m:=S.next+13) (b:=.row 0 1 [[.ptr a ver i 2],[.ptr a ver i 3]]) (by omega) λa ver m hv=>by have:=own.lt a ver m hv;omega
   refine bOo oB (gO (n:=S.next) w (by omega) (by omega)) hv FG (aA _ _ _ _ _ _) (by omega) λS4 n4 iw w4 g4=>?_;have n4:S4.next=S.next+13:=n4;have GX:=Cd a ver _ hv;have d0:=aX (aI (n:=S.next) (m:=S.next+13) (a:=S.next+10) (b:=.row 0 1 [[.ptr a ver i 2],[.ptr a ver i 3]]) (by omega) r0) (iw 0 (by omega));have d1:=aX (aI (n:=S.next) (m:=S.next+13) (a:=S.next+10) (b:=.row 0 1 [[.ptr a ver i 2],[.ptr a ver i 3]]) (by omega) r1) (iw 1 (by omega));by_cases c:(iF [p.net,p.tax]).2=0
   ·have g4:=g4 c;simp only[↓cw,↓Oo,Om,c,kk,OK,Ou] at H|-
    refine H _ _ ⟨rfl,?_,by simp;omega,w4,by omega,d0,d1⟩
    have:((s++t.parts.drop i).map Part.enc).set i [.str p.cat,O J p.bp,O J ((iF [p.net,p.tax]).1.getD 0 0),O J ((iF [p.net,p.tax]).1.getD 1 0)]=((s++[{ p with net:=(iF [p.net,p.tax]).1.getD 0 0,tax:=(iF [p.net,p.tax]).1.getD 1 0 }])++t.parts.drop (i+1)).map Part.enc:=by
     rw[QV ai,(Oq.1 hi).2];simp only[PK,Qd,Py,Pd,Xb];rw[Sn _ _ (by simp;omega)];simp only[ON,hd,Qt,VJ];rfl
    rw[this] at g4;exact g4
   ·simp only[↓cw,↓Oo,Om,c,kk,OL,Oy,d1] at H|-
    simp only[oo,<-H,c,OL,Oy,Total.zero,Py]
  ·rintro s vs S ⟨rfl,own,hd,w,hn,r0,r1⟩ aE H;rw[Tf,OS] at own;have H':aD dW (λl=>(l,0)) t.parts []=(s,0):=H.symm
   have:=(own.put (m:=S.next) (k:=1) (b:=.row 0 4 [[O J x,O J y,O J z,v]]) (Ov _) (nn 1 (by decide))).out λ_=>rfl
   simp only[↓cw,↓Oo,Om,kk,OZ,Ou,r0,r1,o1,o2,H',OK];simp only[oo,this]
 ·simp only[↓cw,↓Oo,Om,h0,kk,OL,Oy,c1];simp only[oo,Total.zero,Py]
end Go.Proofs.YtoaibmbldmckaaaGreat
end
section
namespace Go.AM
theorem Fn.back{P:OI}{pl:kA}{f:PU}{args:On V}{v:V}(h:∀S K,W P pl f args S K=K v S):Fn P pl f args v:=λS=>by
 have h1:=h S λv' S'=>v'=v/\S'=S;obtain⟨v',S',e,rfl,rfl⟩:=h1.mpr ⟨rfl,rfl⟩;exact e
theorem Own.arg{P:OI}{pl:kA}{f:PU}{p:Nat->Ow (On bY)}(bc:pl f=Ot (.val p)){S0 S:St}{n:Nat}{v r:V}{es:On (On V)}(h:Own S0 S n v es)(hc:es.all Tl=OB)(hf:∀S K,W P pl f [.imm es] S K=K r S)(hk:jG r=OB)(K:KW):W P pl f [v] S K=K r S:=
 (Fn.back hf).frz bc rfl (by simp only[Sm,h.frz hc]) (by simp only[ptrsVs,h.ptrs];rfl) (.inl hk) K
theorem Own.there{S0 S:St}{n:Nat}{v:V}{es:On (On V)}(h:Own S0 S n v es){y:Nat}(hy:blkOf v=Ot y):S.heap.get y≠none:=by
 rcases h.is with ⟨rfl,_⟩ | ⟨a,ver,tl,rfl,_,_,hg⟩
 ·cases hy
 ·cases hy;rw[hg];exactλh=>by cases h
theorem aFo{n b:Nat}{S:St}{v:V}{es:On (On V)}(h:Own E0 S n v es)(w:WF S){k1 k2 m:Nat}(f1:S.heap.get k1=OG)(f2:S.heap.get k2=OG)(ah:k1≠k2)(DY:k1<m)(Dn:k2<m)(hm:S.next<=m){c:On V}(hc:c.length=n/\aH c=OB)(h1:(es.length+1)*b<=35184372088832)(h2:es.length+1<eG):
  ∃v' S',eC n b v (.sl k1 0 n 0 1) (Ot k2) ⟨m,S.heap.put k1 (.row 0 n [c])⟩=.ok (v',S')/\WF S'/\S'.next=m/\Own E0 S' n v' (es++[c])/\(blkOf v'=Ot k2\/blkOf v'=blkOf v)/\∀y,y≠k1->y≠k2->blkOf v≠Ot y->S'.heap.get y=S.heap.get y:=by
 have w1:WF ⟨m,S.heap.put k1 (.row 0 n [c])⟩:=gO (n:=S.next) w DY hm;have h':Own E0 ⟨m,S.heap.put k1 (.row 0 n [c])⟩ n v es:=h.same hm λa ha=>OJ _ _ _ _ trivial λe=>h.there ha (by rw[e];exact f1);have hu:aK ⟨m,S.heap.put k1 (.row 0 n [c])⟩ (.sl k1 0 n 0 1)=.ok [c]:=by
  simp only[aK,aA];rfl
 have hf:(⟨m,S.heap.put k1 (.row 0 n [c])⟩:St).heap.get k2=none:=by
  show(S.heap.put k1 _).get k2=OG;rw[OJ _ _ _ _ trivial (SJ ah)];exact f2
 obtain⟨v',S',q1,q2,q3,q4,q5,q6⟩:=h'.pushAt (b:=b) (rV w1) mB hu (λd hd=>by rcases PR.1 hd with rfl;exact hc) (by simp) (PS _) Dn hf h1 h2;refine⟨v',S',q1,q2.wf mB,q3,q4,q5,λy y1 y2 y3=>?_⟩;rw[q6 y y2 y3];exact OJ _ _ _ _ trivial y1
theorem fresh{S:St}(w:WF S){k:Nat}(hk:S.next<=k):S.heap.get k=none:=by
 cases hq:S.heap.get k with
 | none=>rfl
 | some b=>have:=w k b hq;omega
end Go.AM
namespace Go.Proofs.YtoaibmbldmckaaaGreat
open Go.AM Tryz
theorem aH8(x:Int):(dE x).length=1/\aH (dE x)=true:=⟨rfl,rfl⟩
theorem aUc{S0 S:St}{v:V}{l:On Int}(h:Own S0 S 1 v (l.map dE))(hl:l.length<1000000)(K:KW):C 218 [v] S K=K (.tup [O J (cI l).1,.bool (cI l).2]) S:=h.arg bJu (aU (λ_=>rfl) _) (λS K=>bU6 l hl S K) rfl K
theorem bUz(t:Total)(hl:t.parts.length<100000)(S:St)(K:KW):C 226 [.agg [O J t.net,O J t.tax,O J t.gross,.imm (t.parts.map Part.enc)]] S K=K (.bool (kF t)) S:=by
 refine(bSn rfl ?_).eq S K;delta Tryz.f226;simp only[↓cw,↓Oo,Om,kk];refine aG t.parts (step:=xI) (fin:=id) (λi s vs S=>∃u v,vs=[u,v,O J (i:Int)]/\Own E0 S 1 u (s.1.map dE)/\Own E0 S 1 v (s.2.map dE)/\s.1.length=i/\s.2.length=i/\WF S/\(∀y,AM.blkOf u=Ot y->AM.blkOf v≠Ot y)/\AM.blkOf u≠Ot 0/\AM.blkOf v≠Ot 0/\aC S 0 0=.ok (4,[[O J t.net,O J t.tax,O J t.gross,.imm (t.parts.map Part.enc)]])/\0<S.next) (λr=>r=(t.parts.map (·.net),t.parts.map (·.tax))) ?_ ?_ (s:=([],[])) ⟨_,_,rfl,Rf _ _ _,Rf _ _ _,rfl,rfl,gO mB (by decide) (by decide),λy h=>(by cases h),λh=>(by cases h),λh=>(by cases h),aA _ _ _ _ _ _,TV⟩ (by rw[bI5];rfl)
 ·rintro i p ⟨ns,ts⟩ vs S hi ⟨u,v,rfl,ou,ov,lu,lv,w,yj,yk,uk,r0,h0⟩ aE H;have ai:=(Oq.1 hi).1;have lu:ns.length=i:=lu;have lv:ts.length=i:=lv;simp only[xI] at H;have av:∃S1:St,S1=⟨S.next+1,(S.heap.put S.next (.row 0 4 [[.str [],O J 0,O J 0,O J 0]])).put S.next (.row 0 4 [p.enc])⟩:=⟨_,rfl⟩;obtain⟨S1,av⟩:=av;have n1:S1.next=S.next+1:=by rw[av]
  have w1:WF S1:=by rw[av];exact(Wo w 4 _ _).wf w
  have x1:Ext S S1:=by rw[av];exact Wo w 4 _ _
  have g1:aC S1 S.next 0=.ok (4,[p.enc]):=by rw[av];exact aA _ _ _ _ _ _
  have bu:∀y,AM.blkOf u=Ot y->y<S.next:=λy hy=>(cE ou hy).2;have bv:∀y,AM.blkOf v=Ot y->y<S.next:=λy hy=>(cE ov hy).2;obtain⟨u',S2,q1,w2,n2,HS,HT,am⟩:=aFo (b:=8) (ou.ext x1) w1 (k1:=S1.next+3) (k2:=S1.next+4) (m:=S1.next+12) (fresh w1 (by omega)) (fresh w1 (by omega)) (by omega) (by omega) (by omega) (by omega) (aH8 p.net) (by simp;omega) (by simp[eG];omega);have k2:∀y,y<S1.next->AM.blkOf u≠Ot y->S2.heap.get y=S1.heap.get y:=λy hy h=>am y (by omega) (by omega) h;have g2:aC S2 S.next 0=.ok (4,[p.enc]):=aX g1 (k2 S.next (by omega) λh=>by have:=bu _ h;omega);have HU:Own E0 S2 1 v (ts.map dE):=(ov.ext x1).same (by omega) λa ha=>k2 a (by have:=bv a ha;omega) λh=>yj a h ha;have DZ:∀k,5<=k->S2.heap.get (S1.next+k)=none:=λk hk=>by
   rw[am (S1.next+k) (by omega) (by omega) λh=>by have:=bu _ h;omega];exact fresh w1 (by omega)
  obtain⟨v',S3,q2,w3,n3,HV,HW,bf⟩:=aFo (b:=8) HU w2 (k1:=S1.next+8) (k2:=S1.next+9) (m:=S2.next) (DZ 8 (by omega)) (DZ 9 (by omega)) (by omega) (by omega) (by omega) (Ov _) (aH8 p.tax) (by simp;omega) (by simp[eG];omega);have oq:∀y,AM.blkOf u'=Ot y->y=S1.next+4\/AM.blkOf u=Ot y:=λy hy=>by
   rcases HT with h | h
   ·rw[h] at hy;cases hy;exact .inl rfl
   ·rw[h] at hy;exact .inr hy
  have Ct:∀y,AM.blkOf v'=Ot y->y=S1.next+9\/AM.blkOf v=Ot y:=λy hy=>by
   rcases HW with h | h
   ·rw[h] at hy;cases hy;exact .inl rfl
   ·rw[h] at hy;exact .inr hy
  have D':∀a,AM.blkOf u'=Ot a->a≠S1.next+8/\a≠S1.next+9:=λa ha=>by
   rcases oq a ha with h | h
   ·omega
   ·have:=bu a h;omega
  have HX:Own E0 S3 1 u' ((ns++[p.net]).map dE):=by
   rw[PK];exact HS.same (by omega) λa ha=>bf a (D' a ha).1 (D' a ha).2 λhv=>by
    rcases oq a ha with h | h
    ·have:=bv a hv;omega
    ·exact yj a h hv
  have r3:=aX (aX (x1.row r0) (k2 0 (by omega) yk)) (bf 0 (by omega) (by omega) uk);have hh:(S.heap.put S.next (.row 0 4 [[.str [],O J 0,O J 0,O J 0]])).put S.next (.row 0 4 [[.str p.cat,O J p.bp,O J p.net,O J p.tax]])=S1.heap:=by rw[av];rfl
  simp only[Part.enc] at g1;simp only[Part.enc,n1] at g2 q1 q2;simp only[dE] at q1 q2;simp only[↓cw,↓Oo,Om,kk,bG hi,kJ hi,Part.enc,gM (show i<1000000000 by omega),hh,gm,g1,aUb,q1,g2,q2];exact H _ _ ⟨u',v',rfl,HX,by rw[PK];exact HV,by simp;omega,by simp;omega,w3,λy hy FH=>by
   rcases oq y hy with h | h<;>rcases Ct y FH with h' | h'
   ·omega
   ·have:=bv y h';omega
   ·have:=bu y h;omega
   ·exact yj y h h',λh=>by
   rcases oq 0 h with h | h
   ·omega
   ·exact yk h,λh=>by
   rcases Ct 0 h with h | h
   ·omega
   ·exact uk h,r3,by omega⟩
 ·rintro⟨ns,ts⟩ vs S ⟨u,v,rfl,ou,ov,lu,lv,w,yj,yk,uk,r0,h0⟩ aE H;have lu:ns.length=t.parts.length:=lu;have lv:ts.length=t.parts.length:=lv;obtain⟨rfl,rfl⟩:ns=t.parts.map (·.net)/\ts=t.parts.map (·.tax):=Prod.mk.inj H;have NS:=aUc ou (by omega);have NT:=aUc ov (by omega);have ow:Own E0 ⟨S.next+1,S.heap.put S.next (.row 0 1 ([t.net,t.tax].map dE))⟩ 1 (.sl S.next 0 1 0 2) ([t.net,t.tax].map dE):=⟨.inr ⟨S.next,0,[],rfl,PS _,Qb _,by rw[OS];exact Ox _ _ _ trivial⟩,λc hc=>by
   rcases Pu.1 hc with rfl | hc
   ·exact aH8 _
   ·rcases Pu.1 hc with rfl | hc
    ·exact aH8 _
    ·cases hc⟩
  have Lk:=aUc ow (by simp);have z0:((0:Nat)=S.next)=False:=by simp;omega
  simp only[Qd,Py,dE] at Lk;simp only[↓cw,↓Oo,Om,kk,OZ,Ou,NS,NT,r0,aPi,Lk,eY,z0,gm,kF,oo];split;rotate_left
  ·rfl
  split;rotate_left
  ·rfl
  split;rotate_left
  ·rfl
  split;rotate_left
  ·rfl
  split<;>rfl
end Go.Proofs.YtoaibmbldmckaaaGreat
end
section
namespace Go.Proofs.YtoaibmbldmckaaaGreat
open Go.AM Tryz
theorem bV0(t:Total)(S:St)(K:KW):C 167 [.agg [O J t.net,O J t.tax,O J t.gross,.imm (t.parts.map Part.enc)]] S K=K (.bool (cN t)) S:=by
 refine(bRs rfl ?_).eq S K;delta Tryz.f167;simp only[↓cw,↓Oo,Om,kk,cN];by_cases c1:t.parts.length<1
 ·simp only[↓cw,↓Oo,Om,c1,show(t.parts.length:Int)<1 by omega,kk,oo,Oy]
 by_cases c2:12<t.parts.length
 ·simp only[↓cw,↓Oo,Om,c1,c2,show¬(t.parts.length:Int)<1 by omega,show(12:Int)<(t.parts.length:Int) by omega,kk,oo,Oy,Ou]
 simp only[↓cw,↓Oo,Om,c1,c2,show¬(t.parts.length:Int)<1 by omega,show¬(12:Int)<(t.parts.length:Int) by omega,kk,Ou];refine aG t.parts (step:=cY) (fin:=λ_=>kF t) (λi s vs S=>vs=[.bool OA,O J (i:Int)]/\s=cO t.parts i/\aC S 0 0=.ok (4,[[O J t.net,O J t.tax,O J t.gross,.imm (t.parts.map Part.enc)]])/\0<S.next) (λr=>r=aD cY (λ_=>kF t) t.parts OG) ?_ ?_ (s:=OG) ⟨rfl,rfl,aA _ _ _ _ _ _,TV⟩ rfl
 ·rintro i p s vs S hi ⟨rfl,rfl,r0,h0⟩ aE H;have ai:=(Oq.1 hi).1;have r1:∀(m:Nat) (b c:Blk),aC ⟨m,(S.heap.put S.next b).put S.next c⟩ 0 0=.ok (4,[[O J t.net,O J t.tax,O J t.gross,.imm (t.parts.map Part.enc)]]):=λm b c=>aI (n:=S.next) (by omega) (aI (n:=S.next) (by omega) r0);have hn:cO t.parts (i+1)=Ot p:=by simpa[cO] using hi
  simp only[hn,cY] at H;simp only[↓cw,↓Oo,Om,kk,bG hi,kJ hi,Part.enc,gM (show i<1000000000 by omega),aYx,bCc,dU,r1,oo];obtain⟨S',ul⟩:∃S':St,S'=⟨S.next+1+30,(S.heap.put S.next (.row 0 4 [[.str [],O J 0,O J 0,O J 0]])).put S.next (.row 0 4 [[.str p.cat,O J p.bp,O J p.net,O J p.tax]])⟩:=⟨_,rfl⟩;have r2:aC S' 0 0=.ok (4,[[O J t.net,O J t.tax,O J t.gross,.imm (t.parts.map Part.enc)]]):=by rw[ul];exact r1 _ _ _
  have h2:0<S'.next:=by rw[ul];exact Tv _
  rw[<-ul];clear ul r1;cases uv:dV p.cat
  ·simp only[↓cw,↓Oo,Om,uv,kk,Oy] at H|-
   rw[<-H]
  ·simp only[↓cw,↓Oo,Om,uv,kk,Pq,Ou] at H|-
   cases i with
   | zero=>
    simp only[↓cw,↓Oo,Om,cO,iY,kk,OO,Ou,Oy,xJ,xK,Ra,PB] at H|-
    simp only[↓cw,↓Oo,Om,Wz,OZ,kk,Ou]
    grind
   | succ j=>
    have hj:t.parts[j]?=Ot t.parts[j]:=OF (by omega);have hp:cO t.parts (j+1)=Ot t.parts[j]:=by simp[cO,hj]
    simp only[↓cw,↓Oo,Om,hp,gt0,kk,wrm (show j+1<1000000000 by omega),kJ hj,Part.enc,iY,xJ,xK,Ra,PB] at H|-
    grind
 ·rintro s vs S ⟨rfl,rfl,r0,h0⟩ aE H;have H':aD cY (λ_=>kF t) t.parts OG=kF t:=H.symm;simp only[↓cw,↓Oo,Om,kk,OZ,Ou,r0,bUz t (show t.parts.length<100000 by omega),oo,H']
theorem bV1(l r:On Part)(hb:l.length<1000000)(S:St)(K:KW):C 260 [.imm (l.map Part.enc),.imm (r.map Part.enc)] S K=K (.bool (decide (l=r))) S:=by
 refine(bT3 rfl ?_).eq S K;delta Tryz.f260;simp only[↓cw,↓Oo,Om,kk];by_cases h:l.length=r.length
 ·simp only[↓cw,↓Oo,Om,show(l.length:Int)=(r.length:Int) by omega,kk,OK,Ou];refine aG l (step:=fM r) (fin:=λ_=>OB) (λi n vs S=>n=i/\vs=[.bool OA,O J (i:Int)]) (λx=>x=decide (l=r)) ?_ ?_ (s:=0) ⟨rfl,rfl⟩ (eqL h)
  ·rintro i p n vs S hi ⟨rfl,rfl⟩ aE H;have ai:=(Oq.1 hi).1;have hj:r[n]?=Ot r[n]:=OF (by omega);have ag:((n:Int)<(r.length:Int))=True:=bG hj;have he:(r[n]=p)=(((p.cat=r[n].cat/\p.bp=r[n].bp)/\p.net=r[n].net)/\p.tax=r[n].tax):=by
    obtain⟨_,_,_,_⟩:=p;generalize r[n]=q;obtain⟨_,_,_,_⟩:=q;simp[and_assoc,VY]
   simp only[fM,hj,Qy,he] at H;simp only[↓cw,↓Oo,Om,kk,ag,kJ hi,kJ hj,Part.enc,gM (show n<1000000000 by omega),oo]
   grind
  ·rintro n vs S ⟨rfl,rfl⟩ aE H;simp only[↓cw,↓Oo,Om,kk,h,OZ,Ou,oo,<-H]
 ·simp only[↓cw,↓Oo,Om,show¬(l.length:Int)=(r.length:Int) by omega,kk,OL,Oy,oo]
  have:decide (l=r)=false:=by simpa usingλe=>h (by rw[e])
  rw[this]
def Posted.enc(p:Posted):On V:=[.str p.ref.ser,O J p.ref.num,O J p.day.y,O J p.day.m,O J p.day.d,O J p.total.net,O J p.total.tax,O J p.total.gross,.imm (p.total.parts.map Part.enc),.str p.of.ser,O J p.of.num,.bool p.back]
theorem mP{l:On Posted}{i:Nat}{a:Posted}(hi:l[i]?=Ot a)(k:Qa):fV 12 (.imm (l.map Posted.enc)) (.int k (i:Int))=.ok (.iptr a.enc 0):=ixI (enc:=Posted.enc) hi rfl k
theorem aKr(x:Posted):x.enc.length=12/\aH x.enc=true:=⟨rfl,rfl⟩
theorem Total.ext_iff(a b:Total):(a=b)=(((a.net=b.net/\a.tax=b.tax)/\a.gross=b.gross)/\a.parts=b.parts):=by
 obtain⟨_,_,_,_⟩:=a;obtain⟨_,_,_,_⟩:=b;simp[and_assoc]
theorem Ref.ext_iff(a b:Ref):(a=b)=(a.ser=b.ser/\a.num=b.num):=by
 obtain⟨_,_⟩:=a;obtain⟨_,_⟩:=b;simp
theorem g91(l r:On Bal)(hb:l.length<1000000)(S:St)(K:KW):C 91 [.imm (l.map Bal.enc),.imm (r.map Bal.enc)] S K=K (.bool (decide (l=r))) S:=by
 refine(v91 rfl ?_).eq S K;delta Tryz.f91;simp only[↓cw,↓Oo,Om,kk];by_cases h:l.length=r.length
 ·simp only[↓cw,↓Oo,Om,show(l.length:Int)=(r.length:Int) by omega,kk,OK,Ou];refine aG l (step:=fM r) (fin:=λ_=>OB) (λi n vs S=>n=i/\vs=[.bool OA,O J (i:Int)]) (λx=>x=decide (l=r)) ?_ ?_ (s:=0) ⟨rfl,rfl⟩ (eqL h)
  ·rintro i p n vs S hi ⟨rfl,rfl⟩ aE H;have ai:=(Oq.1 hi).1;have hj:r[n]?=Ot r[n]:=OF (by omega);have ag:((n:Int)<(r.length:Int))=True:=bG hj;have he:(r[n]=p)=(p.acc=r[n].acc/\p.amount=r[n].amount):=by
    obtain⟨_,_⟩:=p;generalize r[n]=q;obtain⟨_,_⟩:=q;simp[and_assoc,VY]
   simp only[fM,hj,Qy,he] at H;simp only[↓cw,↓Oo,Om,kk,ag,oJ hi,oJ hj,Bal.enc,gM (show n<1000000000 by omega),oo]
   grind
  ·rintro n vs S ⟨rfl,rfl⟩ aE H;simp only[↓cw,↓Oo,Om,kk,h,OZ,Ou,oo,<-H]
 ·simp only[↓cw,↓Oo,Om,show¬(l.length:Int)=(r.length:Int) by omega,kk,OL,Oy,oo]
  have:decide (l=r)=false:=by simpa usingλe=>h (by rw[e])
  rw[this]
theorem bV2(a b:Total)(hb:a.parts.length<1000000)(S:St)(K:KW):C 229 [.agg [O J a.net,O J a.tax,O J a.gross,.imm (a.parts.map Part.enc)],.agg [O J b.net,O J b.tax,O J b.gross,.imm (b.parts.map Part.enc)]] S K=K (.bool (decide (a=b))) S:=by
 refine(bSq rfl ?_).eq S K;delta Tryz.f229;simp only[↓cw,↓Oo,Om,kk,eY,bV1 a.parts b.parts hb,Total.ext_iff,oo]
 grind
theorem bV3(p fr:Posted)(hb:fr.total.parts.length<=1000)(S:St)(K:KW):C 169 [.agg [.str p.ref.ser,O J p.ref.num,O J p.day.y,O J p.day.m,O J p.day.d,O J p.total.net,O J p.total.tax,O J p.total.gross,.imm (p.total.parts.map Part.enc),.str p.of.ser,O J p.of.num,.bool p.back],.agg [.str fr.ref.ser,O J fr.ref.num,O J fr.day.y,O J fr.day.m,O J fr.day.d,O J fr.total.net,O J fr.total.tax,O J fr.total.gross,.imm (fr.total.parts.map Part.enc),.str fr.of.ser,O J fr.of.num,.bool fr.back]] S K=K (.bool (lX p fr)) S:=by
 refine(bRu rfl ?_).eq S K;have gg:=xL fr.total;delta Tryz.f169;simp only[↓cw,↓Oo,Om,kk,eY,bOp fr.total hb,aDl,bCa,bV2 (bI fr.total).1 p.total (by omega),lX,Ref.ext_iff,Ref.zero,oo]
 grind
theorem bOq:cV prog 227=Ot none:=by kernel_rfl
theorem bV4(r:Ref)(p:Posted):Fr 227 (λa=>[.agg p.enc,.ptr a 0 0 0]) 2 [.str r.ser,O J r.num] (.bool (decide (p.ref=r))) [.str r.ser,O J r.num]:=by
 refine Sw bJw (lv:=dY []) (Xg rfl (Rq rfl)) rfl ?_ rfl rfl;rw[bSo];delta Tryz.f227;simp only[↓cw,↓Oo,Om,kk,Posted.enc,eY,Ref.ext_iff];exact⟨by congr 1;rw[Bool.eq_iff_iff];simp,rfl⟩
theorem bV5(fk:Nat)(ht:cV prog fk=Ot OG){n:Nat}{cap:On V}(p:Posted->Ps)(hf:∀s:Posted,Fr fk (λa=>[.agg s.enc,.ptr a 0 0 0]) n cap (.bool (p s)) cap)(l:On Posted)(hb:l.length<1000000){S:St}{a:Nat}(hg:S.heap.get a=Ot (.row 0 n [cap])):
  ∀K:KW,C 155 [.imm (l.map Posted.enc),.func fk [] [.ptr a 0 0 0]] S K=K (O J (ixM p l)) S:=by
 refine bO2 (bJq ?_);delta Tryz.f155;simp only[↓cw,↓Oo,Om,kk];refine aG l (step:=dB p) (fin:=λ_=>-1) (λi k vs X=>k=i/\vs=[O J 0,O J (i:Int)]/\X=S) (λr=>r=ixM p l) ?_ ?_ ⟨rfl,rfl,rfl⟩ rfl
 ·rintro i s k vs X hi ⟨rfl,rfl,rfl⟩ aE H;have ai:=(Oq.1 hi).1;have he:=(hf s).eq_same hg;simp only[Posted.enc] at he;simp only[↓cw,↓Oo,Om,kk,bG hi,mP hi,Posted.enc,↓qV prog C ht,Pp,PJ,he,gM (show k<1000000000 by omega)];simp only[dB] at H;cases hp:p s<;>simp only[↓cw,↓Oo,Om,hp,kk] at H|-
  ·exact H _ _ ⟨rfl,rfl⟩
  ·rw[H]
 ·rintro k vs X ⟨rfl,rfl,rfl⟩ aE H;simp only[↓cw,↓Oo,Om,kk,OZ];rw[H]
theorem f168(l:On Posted)(r:Ref)(hb:l.length<1000000):Fv 168 [.imm (l.map Posted.enc),.agg [.str r.ser,O J r.num]] (O J (aY l r)):=by
 refine bRt rfl ?_;have h:=bV5 227 bOq _ (bV4 r) l hb (S:=⟨1,Tr.nil.put 0 (.row 0 2 [[.str r.ser,O J r.num]])⟩) (a:=0) (Ox _ _ _ trivial);delta Tryz.f168;simp only[↓cw,↓Oo,Om,kk,h,aY]
theorem bV6(l:On Posted)(r:Ref)(hb:l.length<1000000)(S:St)(K:KW):C 168 [.imm (l.map Posted.enc),.agg [.str r.ser,O J r.num]] S K=K (O J (aY l r)) S:=(f168 l r hb).eq S K
theorem bOr:(λ(a ver i j:Nat) (x:V)=>dT prog 246 (.ptr a ver i j) x)=λa ver i j x=>(match pG x 40 with
 | none=>.error "index"
 | some k=>.ok (.ptr a ver i (j+k*1))):=by kernel_rfl
theorem aZ0(a ver i j:Nat){k:Nat}(h:k<40):dT prog 246 (.ptr a ver i j) (O J (k:Int))=.ok (.ptr a ver i (j+k)):=by
 have:=OR (OR (OR (OR (OR bOr a) ver) i) j) (O J (k:Int))
 rw[gA h] at this;rw[this];simp only[Nat.mul_one]
theorem bOs:(λ(a ver i j:Nat) (x:V)=>dT prog 249 (.ptr a ver i j) x)=λa ver i j x=>(match pG x 8 with
 | none=>.error "index"
 | some k=>.ok (.ptr a ver i (j+k*1))):=by kernel_rfl
theorem aZ1(a ver i j:Nat){k:Nat}(h:k<8):dT prog 249 (.ptr a ver i j) (O J (k:Int))=.ok (.ptr a ver i (j+k)):=by
 have:=OR (OR (OR (OR (OR bOs a) ver) i) j) (O J (k:Int))
 rw[gA h] at this;rw[this];simp only[Nat.mul_one]
theorem aZ2{l:On Int}{k:Nat}(h:k<l.length):(l.map sL)[k]?=Ot (O J l[k]):=by
 rw[Pc,OF h];rfl
theorem bOt{l:On Int}{k:Nat}(h:k<l.length)(x:Int):wH (l.map sL) k [O J x]=Ot ((l.set k x).map sL):=by
 have hl:(l.map sL).length=l.length:=ON ..;rw[aB6,OE (by rw[hl];exact h),RM];simp only[splice,OQ,Pf];rw[List.set_eq_take_append_cons_drop,OE (by rw[hl];exact h)];rfl
def State.enc(s:State):On V:=[.imm (s.table.map Rate.enc),.imm (s.ser.map Ser.enc),.imm (s.posted.map Posted.enc),.imm (s.book.map Bal.enc),.imm (s.sess.map Sess.enc),O J s.next]
theorem bOu:cV prog 170=Ot none:=by kernel_rfl
theorem bV7(p:Posted)(s:Ser):Fr 170 (λa=>[.agg s.enc,.ptr a 0 0 0]) 12 p.enc (.bool (s.name == p.ref.ser)) p.enc:=by
 refine Sw bJs (lv:=dY []) (Xg rfl (Rq rfl)) rfl ?_ rfl rfl;rw[bHs];delta Tryz.f170;simp only[↓cw,↓Oo,Om,kk,Posted.enc,Ser.enc,eY];rfl
theorem z8:[V.int J 0,O J 0,O J 0,O J 0,O J 0,O J 0,O J 0,O J 0]=(PT 8 (0:Int)).map sL:=rfl
theorem g89(s:State)(h8:s.ser.length<=8)(h40:s.posted.length<=40)(S:St)(K:KW):C 89 [.agg [.imm (s.table.map Rate.enc),.imm (s.ser.map Ser.enc),.imm (s.posted.map Posted.enc),.imm (s.book.map Bal.enc),.imm (s.sess.map Sess.enc),O J s.next]] S K=K (.bool (pU s.ser s.posted)) S:=by
 refine(v89 rfl ?_).eq S K;delta Tryz.f89;simp only[↓cw,↓Oo,Om,kk,eY,z8];refine aG s.posted (step:=mY s.ser) (fin:=λis=>aD lY (λ_=>OB) s.ser is) (λi is vs S=>vs=[.bool OA,O J (i:Int)]/\aC S 0 0=.ok (6,[s.enc])/\aC S 1 0=.ok (8,[is.map sL])/\is.length=8/\(∀b∈is,0<=b/\b<=i)/\2<=S.next) (λr=>r=pU s.ser s.posted) ?_ ?_ (s:=PT 8 0) ⟨rfl,rfl,rfl,rfl,λb hb=>by rw[RG hb];omega,Ov _⟩ rfl
 ·rintro i p is vs S hi ⟨rfl,hc,hg,gg,oz,h2⟩ aE H;have ai:=(Oq.1 hi).1;have z0:((0:Nat)=S.next)=False:=by simp;omega
  have z1:((1:Nat)=S.next)=False:=by simp;omega
  have zn:(S.next=1)=False:=by simp;omega
  obtain⟨S1,av⟩:∃S1:St,S1=⟨S.next+1,(S.heap.put S.next (.row 0 12 [aDk])).put S.next (.row 0 12 [p.enc])⟩:=⟨_,rfl⟩;have e1:S1.heap.get S.next=Ot (.row 0 12 [p.enc]):=by rw[av];exact Ox _ _ _ trivial
  have n1:S1.next=S.next+1:=by rw[av]
  have c1:aC S1 0 0=.ok (6,[s.enc]):=by rw[av];exact aI (n:=S.next) (by omega) (aI (n:=S.next) (by omega) hc)
  have g1:aC S1 1 0=.ok (8,[is.map sL]):=by rw[av];exact aI (n:=S.next) (by omega) (aI (n:=S.next) (by omega) hg)
  have p1:aC S1 S.next 0=.ok (12,[p.enc]):=aF e1;have Ea:=bO3 170 bOu _ (bV7 p) s.ser (by omega) (a:=S.next) e1;have hx:ixM (λt:Ser=>t.name == p.ref.ser) s.ser=cD s.ser p.ref.ser:=rfl;rw[hx] at Ea;simp only[mY] at H;simp only[aDk,Posted.enc] at av;simp only[↓cw,↓Oo,Om,kk,bG hi,mP hi,Posted.enc,<-av,c1,State.enc,Ea];rcases jO s.ser p.ref.ser with hk | ⟨k,f,hk,hf,_⟩
  ·simp only[↓cw,↓Oo,Om,hk,show(-1:Int)<0 by decide,kk,Oy] at H|-
   rw[<-H]
  have Ni:k<s.ser.length:=(Oq.1 hf).1;have NU:k<8:=by omega
  have mw:k<is.length:=by omega
  have BB:=oz is[k] (Vt mw);have nc:wr J (is[k]+1)=is[k]+1:=fB (by omega) (by omega);have sr:bump is k=is.set k (is[k]+1):=by unfold bump;rw[aB3 is k mw]
  have Eb:k<(bump is k).length:=by rw[aB4];exact mw
  have Ll:=aYs is k mw;have HY:(bump is k)[k]=is[k]+1:=by rw[<-aB3 _ _ Eb];exact Ll
  have g2:aC ⟨S1.next+7,S1.heap.put 1 (.row 0 8 [(bump is k).map sL])⟩ 1 0=.ok (8,[(bump is k).map sL]):=aA _ _ _ _ _ _;have p2:aC ⟨S1.next+7,S1.heap.put 1 (.row 0 8 [(bump is k).map sL])⟩ S.next 0=.ok (12,[p.enc]):=aI (n:=S1.next) (by omega) p1;have c2:aC ⟨S1.next+7,S1.heap.put 1 (.row 0 8 [(bump is k).map sL])⟩ 0 0=.ok (6,[s.enc]):=aI (n:=S1.next) (by decide) c1;simp only[Posted.enc] at p2;simp only[↓cw,↓Oo,Om,hk,show¬(k:Int)<0 by omega,kk,Ou,Pn,Ll] at H|-
  simp only[↓cw,↓Oo,Om,aZ1 _ _ _ _ NU,kk,g1,aZ2 mw,aZ2 Eb,nc,bOt mw,<-sr,g2,p2,HY,gM (show i<1000000000 by omega)];by_cases c:p.ref.num=is[k]+1
  ·simp only[↓cw,↓Oo,Om,c,kk,Oy,Ou,OK] at H|-
   refine H _ _ ⟨rfl,c2,g2,by rw[aB4];exact gg,λb hb=>?_,by show 2<=S1.next+7;omega⟩;rw[sr] at hb;rcases PN hb with hb | rfl
   ·exact⟨(oz b hb).1,by have:=(oz b hb).2;omega⟩
   ·omega
  ·simp only[↓cw,↓Oo,Om,c,kk,Oy,Ou,OL] at H|-
   rw[<-H]
 ·rintro is vs S ⟨rfl,hc,hg,gg,oz,h2⟩ aE H;have H':pU s.ser s.posted=aD lY (λ_=>OB) s.ser is:=H.symm;simp only[↓cw,↓Oo,Om,kk,OZ,Ou,hc,State.enc,H'];refine aG s.ser (step:=lY) (fin:=λ_=>OB) (λi st vs S=>vs=[.bool OA,O J (i:Int)]/\st=is.drop i/\aC S 1 0=.ok (8,[is.map sL])/\2<=S.next) (λr=>r=aD lY (λ_=>OB) s.ser is) ?_ ?_ (s:=is) ⟨rfl,rfl,hg,h2⟩ rfl
  ·rintro i q st vs S hi ⟨rfl,rfl,hg,h2⟩ aE H;have ai:=(Oq.1 hi).1;have NV:i<8:=by omega
   have wo:i<is.length:=by omega
   have z1:((1:Nat)=S.next)=False:=by simp;omega
   have Lm:=oz is[i] (Vt wo);have nc:wr J (is[i]+1)=is[i]+1:=fB (by omega) (by omega);have Ec:(is.drop i).headD 0=is[i]:=by rw[QV wo];rfl
   have jj:(is.drop i).tail=is.drop (i+1):=by rw[QV wo];rfl
   have g1:∀m b c,aC ⟨m,(S.heap.put S.next b).put S.next c⟩ 1 0=.ok (8,[is.map sL]):=λm b c=>aI (n:=S.next) (by omega) (aI (n:=S.next) (by omega) hg);simp only[lY,Ec,jj] at H;simp only[↓cw,↓Oo,Om,kk,bG hi,nO hi,Ser.enc,aZ1 _ _ _ _ NV,g1,aZ2 wo,nc,gM (show i<1000000000 by omega)];by_cases c:q.next=is[i]+1
   ·simp only[↓cw,↓Oo,Om,c,kk,Oy,Ou,OK] at H|-
    exact H _ _ ⟨rfl,g1 _ _ _,by show 2<=S.next+1+7;omega⟩
   ·simp only[↓cw,↓Oo,Om,c,kk,Oy,Ou,OL] at H|-
    simp only[oo,<-H]
  ·rintro st vs S ⟨rfl,rfl,hg,h2⟩ aE H;simp only[↓cw,↓Oo,Om,kk,OZ,Ou,oo,<-H]
theorem z40:[V.int J 0,O J 0,O J 0,O J 0,O J 0,O J 0,O J 0,O J 0,O J 0,O J 0,O J 0,O J 0,O J 0,O J 0,O J 0,O J 0,O J 0,O J 0,O J 0,O J 0,O J 0,O J 0,O J 0,O J 0,O J 0,O J 0,O J 0,O J 0,O J 0,O J 0,O J 0,O J 0,O J 0,O J 0,O J 0,O J 0,O J 0,O J 0,O J 0,O J 0]=(PT 40 (0:Int)).map sL:=rfl
theorem bOv(l:On Posted){i:Nat}(hi:i<l.length):iZ prog 26 (.imm (l.map Posted.enc)) OG (Ot (O J (i:Int)))=.ok (.imm ((l.take i).map Posted.enc)):=by
 have hb:eR (l.map Posted.enc).length OG (Ot (O J (i:Int)))=.ok (0,i):=by
  have:(decide ((0:Int)<=(i:Int))&&decide ((i:Int)<=((l.map Posted.enc).length:Int)))=true:=by simp;omega
  simp only[eR,this,PW,Pn]
 rw[bMx _ (cU (n:=12) (λc hc=>by obtain⟨x,_,rfl⟩:=Pv.1 hc;exact aKr x)).1,hb];simp only[Rh,Nat.sub_zero,Se]
theorem aUd:(λ(a b:Ps)=>cC prog .neq 4 (.bool a) (.bool b))=λa b=>.ok (.bool (!(a == b))):=by kernel_rfl
theorem aC2(a b:Ps):cC prog .neq 4 (.bool a) (.bool b)=.ok (.bool (!(a == b))):=OR (OR aUd a) b
theorem g88(l:On Posted)(S:St)(K:KW):C 88 [.imm (l.map Posted.enc)] S K=K (.bool (kT l)) S:=by
 refine(v88 rfl ?_).eq S K;delta Tryz.f88;simp only[↓cw,↓Oo,Om,kk,kT];by_cases h40:40<l.length
 ·simp only[↓cw,↓Oo,Om,h40,show(40:Int)<(l.length:Int) by omega,kk,Oy,oo]
 simp only[↓cw,↓Oo,Om,h40,show¬(40:Int)<(l.length:Int) by omega,kk,Ou,z40];refine aG l (step:=iV) (fin:=λst=>aD jW (λ_=>OB) l st.2) (λi st vs S=>vs=[.bool OA,O J (i:Int)]/\aC S 0 0=.ok (40,[st.2.map sL])/\st.1=l.take i/\st.2.length=40/\(∀b∈st.2,0<=b/\b<=i)/\(∀p∈st.1,p.total.parts.length<=12)/\0<S.next) (λr=>r=aD iV (λst=>aD jW (λ_=>OB) l st.2) l ([],PT 40 0)) ?_ ?_ (s:=([],PT 40 0)) ⟨rfl,rfl,rfl,rfl,λb hb=>by rw[RG hb];omega,(λp h=>(by cases h)),TV⟩ rfl
 ·rintro i p ⟨done,bs⟩ vs S hi ⟨rfl,hg,jq,gg,oz,zo,h0⟩ aE H;simp only at hg jq gg oz zo;have ai:=(Oq.1 hi).1;obtain⟨S1,av⟩:∃S1:St,S1=⟨S.next+1,(S.heap.put S.next (.row 0 12 [aDk])).put S.next (.row 0 12 [p.enc])⟩:=⟨_,rfl⟩;have n1:S1.next=S.next+1:=by rw[av]
  have g1:aC S1 0 0=.ok (40,[bs.map sL]):=by rw[av];exact aI (n:=S.next) (by omega) (aI (n:=S.next) (by omega) hg)
  have p1:aC S1 S.next 0=.ok (12,[p.enc]):=by rw[av];exact aA _ _ _ _ _ _
  have ux:(done++[p])=l.take (i+1):=by
   rw[jq,Vl ai,(Oq.1 hi).2]
  simp only[iV,Ref.ext_iff,Ref.zero] at H;simp only[aDk,Posted.enc] at av;simp only[Posted.enc] at p1;simp only[↓cw,↓Oo,Om,kk,bG hi,mP hi,Posted.enc,<-av,gm,p1,aMn,bV0,gM (show i<1000000000 by omega),bOv l ai,oo];cases h1:p.day.right
  ·simp only[↓cw,↓Oo,Om,h1,kk,Oy] at H|-
   rw[<-H]
  cases h2:cN p.total
  ·simp only[↓cw,↓Oo,Om,h1,h2,kk,Pq,Oy,Ou] at H|-
   rw[<-H]
  simp only[↓cw,↓Oo,Om,h1,h2,kk,Pq,Ou] at H|-
  have Ed:∀q∈done++[p],q.total.parts.length<=12:=λq hq=>by
   rcases Qf.1 hq with hq | hq
   ·exact zo q hq
   ·rw[PR.1 hq];exact rF h2
  by_cases h3:p.of.ser=[]/\p.of.num=0
  ·simp only[↓cw,↓Oo,Om,h3,and_self,BEq.rfl,Rk,QG,kk,Oy] at H|-
   exact H _ _ ⟨rfl,g1,ux,gg,λb hb=>⟨(oz b hb).1,by have:=(oz b hb).2;omega⟩,Ed,by omega⟩
  have NW:¬(p.of.ser == []&&decide (p.of.num=0))=true:=by simpa using h3
  have dm:done.length<=i:=by rw[jq,PY];omega
  simp only[↓cw,↓Oo,Om,h3,NW,Ou,bV6 done p.of (show done.length<1000000 by omega),<-jq,kk,gm,p1] at H|-
  rcases iQ done p.of with hk | ⟨k,f,hk,hf,_⟩
  ·simp only[↓cw,↓Oo,Om,hk,show(-1:Int)<0 by decide,kk,Oy] at H|-
   rw[<-H]
  have hkd:=(Oq.1 hf).1;have By:k<i:=by omega
  have NX:l[k]?=Ot f:=by rw[jq,List.getElem?_take,OE By] at hf;exact hf
  have AE:f.total.parts.length<=12:=zo f (OM hf);have AR:∀d,done.getD k d=f:=λd=>by rw[Pl,hf];rfl
  have mw:k<bs.length:=by omega
  have HZ:k<40:=by omega
  have BB:=oz bs[k] (Vt mw);have nc:wr J (bs[k]+1)=bs[k]+1:=fB (by omega) (by omega);have sr:bump bs k=bs.set k (bs[k]+1):=by unfold bump;rw[aB3 bs k mw]
  have g2:aC ⟨S1.next+7+11,S1.heap.put 0 (.row 0 40 [(bump bs k).map sL])⟩ 0 0=.ok (40,[(bump bs k).map sL]):=aA _ _ _ _ _ _;simp only[↓cw,↓Oo,Om,hk,show¬(k:Int)<0 by omega,kk,Ou,Pn,AR,mP NX,Posted.enc,bV3 p f (show f.total.parts.length<=1000 by omega)] at H|-
  cases h4:lX p f
  ·simp only[↓cw,↓Oo,Om,h4,kk,Oy] at H|-
   rw[<-H]
  ·simp only[↓cw,↓Oo,Om,h4,kk,Pq,Ou,aZ0 _ _ _ _ HZ,gm,g1,aZ2 mw,nc,bOt mw,<-sr] at H|-
   refine H _ _ ⟨rfl,g2,ux,by rw[aB4];exact gg,λb hb=>?_,Ed,Tv _⟩;rw[sr] at hb;rcases PN hb with hb | rfl
   ·exact⟨(oz b hb).1,by have:=(oz b hb).2;omega⟩
   ·omega
 ·rintro⟨done,bs⟩ vs S ⟨rfl,hg,jq,gg,oz,zo,h0⟩ aE H;simp only at hg gg;have H':aD iV (λst=>aD jW (λ_=>OB) l st.2) l ([],PT 40 0)=aD jW (λ_=>OB) l bs:=H.symm;simp only[↓cw,↓Oo,Om,kk,OZ,Ou,H'];refine aG l (step:=jW) (fin:=λ_=>OB) (λi st vs S=>vs=[.bool OA,O J (i:Int)]/\st=bs.drop i/\aC S 0 0=.ok (40,[bs.map sL])/\0<S.next) (λr=>r=aD jW (λ_=>OB) l bs) ?_ ?_ (s:=bs) ⟨rfl,rfl,hg,h0⟩ rfl
  ·rintro i p st vs S hi ⟨rfl,rfl,hg,h0⟩ aE H;have ai:=(Oq.1 hi).1;have Ia:i<40:=by omega
   have wo:i<bs.length:=by omega
   have Ec:(bs.drop i).headD 0=bs[i]:=by rw[QV wo];rfl
   have jj:(bs.drop i).tail=bs.drop (i+1):=by rw[QV wo];rfl
   have g1:∀m b c,aC ⟨m,(S.heap.put S.next b).put S.next c⟩ 0 0=.ok (40,[bs.map sL]):=λm b c=>aI (n:=S.next) (by omega) (aI (n:=S.next) (by omega) hg);simp only[jW,Ec,jj] at H;simp only[↓cw,↓Oo,Om,kk,bG hi,mP hi,Posted.enc,aZ0 _ _ _ _ Ia,g1,aZ2 wo,aC2,gM (show i<1000000000 by omega)];by_cases c1:1<bs[i]
   ·simp only[↓cw,↓Oo,Om,c1,kk,Oy] at H|-
    simp only[oo,<-H]
   ·by_cases c2:p.back=decide (bs[i]=1)
    ·simp only[↓cw,↓Oo,Om,c1,c2,kk,Oy,Ou,BEq.rfl,Bool.not_true,OO] at H|-
     exact H _ _ ⟨rfl,g1 _ _ _,Tv _⟩
    ·have c3:(!(p.back == decide (bs[i]=1)))=true:=by simpa using c2
     simp only[↓cw,↓Oo,Om,c1,c2,c3,kk,Oy,Ou] at H|-
     simp only[oo,<-H]
  ·rintro st vs S ⟨rfl,rfl,hg,h2⟩ aE H;simp only[↓cw,↓Oo,Om,kk,OZ,Ou,oo,<-H]
theorem bOw{v:V}(book l:On Bal)(hv:v=.imm (book.map Bal.enc)\/(v=.nils/\book=[]))(so:book.length+l.length<1000000)(S:St)(K:KW):C 158 [v,.imm (l.map Bal.enc)] S K=K (.tup [.imm ((aV book l).1.map Bal.enc),O J (aV book l).2]) S:=by
 rcases hv with rfl | ⟨rfl,rfl⟩
 ·exact bIh book l so S K
 ·exact(Fn.back (args:=[.imm [],.imm (l.map Bal.enc)]) λS K=>bIh [] l so S K).frz bKd rfl rfl rfl (.inr rfl) K
theorem aMq(l:On Posted):cL l=aD aP (λb=>(b,0)) l []:=rfl
theorem g90(l:On Posted)(hl:l.length<=1000)(hf:∀p∈l,oP p.total)(S:St)(K:KW):C 90 [.imm (l.map Posted.enc)] S K=K (.tup [.imm ((cL l).1.map Bal.enc),O J (cL l).2]) S:=by
 refine(v90 rfl ?_).eq S K;delta Tryz.f90;simp only[↓cw,↓Oo,Om,kk,aMq];refine aG l (step:=aP) (fin:=λb=>(b,0)) (λi s vs S=>∃v,vs=[.nils,O J 0,v,O J (i:Int)]/\(v=.imm (s.map Bal.enc)\/(v=.nils/\s=[]))/\s.length<=25*i) (λr=>r=aD aP (λb=>(b,0)) l []) ?_ ?_ (s:=[]) ⟨_,rfl,.inr ⟨rfl,rfl⟩,PS _⟩ rfl
 ·rintro i p s vs S hi ⟨v,rfl,hv,cd⟩ aE H;have ai:=(Oq.1 hi).1;have uy:=hf p (OM hi);simp only[aP] at H;simp only[↓cw,↓Oo,Om,kk,bG hi,mP hi,Posted.enc,bOi p.total uy,gM (show i<1000000000 by omega)];by_cases c1:(bQ p.total).2=0
  ·have ff:=(pT p.total).resolve_right (not_not_intro c1);have h12:=uy.1;have hle:=mN s (bQ p.total).1;simp only[↓cw,↓Oo,Om,c1,kk,OK,Ou,bOw s _ hv (show s.length+(bQ p.total).1.length<1000000 by omega)] at H|-
   by_cases c2:(aV s (bQ p.total).1).2=0
   ·simp only[↓cw,↓Oo,Om,c2,kk,OK,Ou] at H|-
    exact H _ _ ⟨_,rfl,.inl rfl,by omega⟩
   ·simp only[↓cw,↓Oo,Om,c2,kk,OL,Oy] at H|-
    simp only[oo,<-H,Py]
  ·simp only[↓cw,↓Oo,Om,c1,kk,OL,Oy] at H|-
   simp only[oo,<-H,Py]
 ·rintro s vs S ⟨v,rfl,hv,cd⟩ aE H;have H':aD aP (λb=>(b,0)) l []=(s,0):=H.symm;simp only[↓cw,↓Oo,Om,kk,OZ,Ou,H'];rcases hv with rfl | ⟨rfl,rfl⟩<;>simp only[oo,Py]
theorem g87(s:State)(S:St)(K:KW):C 87 [.agg [.imm (s.table.map Rate.enc),.imm (s.ser.map Ser.enc),.imm (s.posted.map Posted.enc),.imm (s.book.map Bal.enc),.imm (s.sess.map Sess.enc),O J s.next]] S K=K (.bool (jX s)) S:=by
 refine(v87 rfl ?_).eq S K;delta Tryz.f87;simp only[↓cw,↓Oo,Om,kk,gm,grS,bCe,jX,oo];cases h1:gD s.sess
 ·simp only[↓cw,↓Oo,Om,h1,kk,OO,Ou]
 have hb:=mK h1;simp only[↓cw,↓Oo,Om,h1,kk,Oy];by_cases h2:1<=s.next
 ·by_cases h3:s.next<=1099511627776
  ·simp only[↓cw,↓Oo,Om,h2,h3,kk,Oy];by_cases h4:s.sess.length=0
   ·have:s.sess=[]:=WI.1 h4
    simp only[↓cw,↓Oo,Om,h4,show((0:Nat):Int)=0 from rfl,kk,Oy,tZ,this]
   ·obtain⟨j,hj⟩:∃j,s.sess.length=j+1:=⟨s.sess.length - 1,by omega⟩;have ed:s.sess[j]?=Ot s.sess[j]:=OF (by omega);simp only[↓cw,↓Oo,Om,h4,hj,show¬((j+1:Nat):Int)=0 by omega,kk,Ou,oo,wrm (show j+1<1000000000 by omega),mO ed,Sess.enc,tZ,Nat.add_sub_cancel,ed]
  ·simp only[↓cw,↓Oo,Om,h2,h3,kk,Oy,Ou]
 ·simp only[↓cw,↓Oo,Om,h2,kk,Ou]
theorem g24(s:State)(S:St)(K:KW):C 24 [.agg [.imm (s.table.map Rate.enc),.imm (s.ser.map Ser.enc),.imm (s.posted.map Posted.enc),.imm (s.book.map Bal.enc),.imm (s.sess.map Sess.enc),O J s.next]] S K=K (.bool (bB s)) S:=by
 refine(v24 rfl ?_).eq S K;delta Tryz.f24;simp only[↓cw,↓Oo,Om,kk,g85,g86,g87 s,g88,bB,oo];cases h1:fL s.table
 ·simp only[↓cw,↓Oo,Om,h1,kk,Oy]
 cases h2:mM s.ser
 ·simp only[↓cw,↓Oo,Om,h2,kk,Oy,Pq,Ou]
 cases h3:jX s
 ·simp only[↓cw,↓Oo,Om,h3,kk,Oy,Pq,Ou]
 cases h4:kT s.posted
 ·simp only[↓cw,↓Oo,Om,h4,kk,Oy,Pq,Ou]
 obtain⟨h40,bh⟩:=zN h4;simp only[↓cw,↓Oo,Om,kk,Pq,Ou,g89 s (pS h2) h40];cases h5:pU s.ser s.posted
 ·simp only[↓cw,↓Oo,Om,h5,kk,Oy]
 have gg:=vY s.posted [] (cL s.posted) (λp hp=>rF (bh p hp).2) rfl;simp only[Pf,Px] at gg;simp only[↓cw,↓Oo,Om,kk,Pq,Ou,g90 s.posted (show s.posted.length<=1000 by omega) (λp hp=>vX (bh p hp).2)];by_cases h6:(cL s.posted).2=0
 ·simp only[↓cw,↓Oo,Om,h6,kk,Oy,g91 (cL s.posted).1 s.book (show(cL s.posted).1.length<1000000 by omega),oo]
 ·simp only[↓cw,↓Oo,Om,h6,kk,Ou,oo]
end Go.Proofs.YtoaibmbldmckaaaGreat
end
section
namespace Go.AM
structure Mv (a:Nat) (v:V) (S:St) (v':V) (S':St):Prop where
 next:S.next<=S'.next
 keep:∀y,y<S.next->y≠a->blkOf v≠Ot y->S'.heap.get y=S.heap.get y
 fresh:∀y,blkOf v'=Ot y->blkOf v=Ot y\/S.next<=y
theorem Mv.refl(a:Nat)(v:V)(S:St):Mv a v S v S:=⟨Ov _,λ_ _ _ _=>rfl,λ_ h=>.inl h⟩
theorem Mv.trans{a:Nat}{u v w:V}{S S' Lo:St}(h:Mv a u S v S')(k:Mv a v S' w Lo):Mv a u S w Lo:=
 ⟨QC h.next k.next,λy hy ha hu=>by
  rw[k.keep y (RE hy h.next) ha (λe=>(h.fresh y e).elim hu λq=>by omega),h.keep y hy ha hu],λy hy=>by
  rcases k.fresh y hy with q | q
  ·exact h.fresh y q
  ·exact .inr (QC h.next q)⟩
theorem Mv.put{a:Nat}{v w:V}{S S':St}(h:Mv a v S w S'){k m:Nat}{b:Blk}(hk:k=a\/S.next<=k)(hm:S'.next<=m):Mv a v S w ⟨m,S'.heap.put k b⟩:=
 ⟨QC h.next hm,λy hy ha hv=>by
  show(S'.heap.put k b).get y=_;rw[OJ _ _ _ _ trivial (by
   rcases hk with rfl | q
   ·exact ha
   ·omega)];exact h.keep y hy ha hv,h.fresh⟩
theorem Mv.bump{a:Nat}{v w:V}{S S':St}(h:Mv a v S w S')(c:Nat):Mv a v S w ⟨S'.next+c,S'.heap⟩:=
 ⟨QC h.next (UT _ _),h.keep,h.fresh⟩
end Go.AM
namespace Go.Proofs.YtoaibmbldmckaaaGreat
open Go.AM Tryz
def State.cells(s:State)(v:V):On V:=[.imm (s.table.map Rate.enc),.imm (s.ser.map Ser.enc),v,.imm (s.book.map Bal.enc),.imm (s.sess.map Sess.enc),O J s.next]
structure StAt (S:St) (a:Nat) (s:State) (v:V):Prop where
 row:aC S a 0=.ok (6,[s.cells v])
 own:Own E0 S 12 v (s.posted.map Posted.enc)
 wf:WF S
 ne:AM.blkOf v≠Ot a
theorem StAt.lt{S:St}{a:Nat}{s:State}{v:V}(h:StAt S a s v):a<S.next:=h.wf _ _ (aB9 h.row)
theorem StAt.put{S:St}{a:Nat}{s:State}{v:V}(h:StAt S a s v){k m:Nat}{b:Blk}(hk:k≠a)(hv:AM.blkOf v≠Ot k)(hm:k<m)(hn:S.next<=m):StAt ⟨m,S.heap.put k b⟩ a s v:=
 ⟨aI (n:=S.next) (SJ hk) h.row,h.own.same hn λy hy=>OJ _ _ _ _ trivial (λe=>hv (by rw[<-e];exact hy)),gO (n:=S.next) h.wf hm hn,h.ne⟩
theorem StAt.bump{S:St}{a:Nat}{s:State}{v:V}(h:StAt S a s v)(c:Nat):StAt ⟨S.next+c,S.heap⟩ a s v:=⟨h.row,h.own.bump c,h.wf.bump c,h.ne⟩
theorem StAt.set{S:St}{a:Nat}{s s':State}{v:V}(h:StAt S a s v)(hp:s'.posted=s.posted):StAt ⟨S.next,S.heap.put a (.row 0 6 [s'.cells v])⟩ a s' v:=
 ⟨aA _ _ _ _ _ _,by rw[hp];exact h.own.same (Ov _) λy hy=>OJ _ _ _ _ trivial (λe=>h.ne (by rw[<-e];exact hy)),gO (n:=S.next) h.wf h.lt (Ov _),h.ne⟩
theorem StAt.new{S:St}{a:Nat}{s:State}{v:V}(h:StAt S a s v){k:Nat}(hk:S.next<=k):AM.blkOf v≠Ot k:=λe=>by have:=(cE h.own e).2;omega
theorem oQ(w:Int)(S:St)(K:KW):C 103 [O J w] S K=K (.agg [O J w,O J 0,O J 0]) S:=by
 refine(bQy rfl ?_).eq S K;delta Tryz.f103;simp only[↓cw,↓Oo,Om,kk,oo]
theorem bOx{S:St}{a:Nat}{s:State}{v:V}(st:StAt S a s v)(name:On OP)(p:Posted)(hf:oP p.total)(hb:s.book.length<900000){K:KW}
  (H:∀S' v',StAt S' a (bE s name p).1 v'->Mv a v S v' S'->K (.agg [O J (bE s name p).2.why,O J (bE s name p).2.number,O J (bE s name p).2.gross]) S'):
  C 239 [.ptr a 0 0 0,.str name,.agg [.str p.ref.ser,O J p.ref.num,O J p.day.y,O J p.day.m,O J p.day.d,O J p.total.net,O J p.total.tax,O J p.total.gross,.imm (p.total.parts.map Part.enc),.str p.of.ser,O J p.of.num,.bool p.back]] S K:=by
 refine bSx ?_;have ha:=st.lt;obtain⟨S1,av⟩:∃S1:St,S1=⟨S.next+1+1,(S.heap.put S.next (.row 0 12 [p.enc])).put (S.next+1) (.row 0 3 [[O J 0,O J 0,O J 0]])⟩:=⟨_,rfl⟩;have n1:S1.next=S.next+2:=by rw[av]
 have bz:StAt S1 a s v:=by
  rw[av];exact(st.put (k:=S.next) (m:=S.next+1) (by omega) (st.new (Ov _)) (by omega) (by omega)).put (by omega) (st.new (by omega)) (by omega) (PX _)
 have jt:Mv a v S v S1:=by
  rw[av];exact((Mv.refl a v S).put (k:=S.next) (m:=S.next+1) (.inr (Ov _)) (by omega)).put (.inr (by omega)) (PX _)
 have r0:aC S1 S.next 0=.ok (12,[p.enc]):=by rw[av];exact aI (n:=S.next+1) (by omega) (aA _ _ _ _ _ _)
 have r1:aC S1 (S.next+1) 0=.ok (3,[[O J 0,O J 0,O J 0]]):=by rw[av];exact aA _ _ _ _ _ _
 have ra:=bz.row;simp only[Posted.enc] at r0 av;simp only[State.cells] at ra;have hlen:lenW v=.ok (O J (s.posted.length:Int)):=bz.own.sl.lenI;delta Tryz.f239;simp only[↓cw,↓Oo,Om,kk,<-av,ra,r0,bUn,hlen,bOi p.total hf];simp only[↓cw,↓Oo,Om,oQ,kk,r1];have dx:∀w:Int,bE s name p=(s,why w)->K (.agg [O J w,O J 0,O J 0]) ⟨S1.next,S1.heap.put (S.next+1) (.row 0 3 [[O J w,O J 0,O J 0]])⟩:=by
  intro w hw
  have:=H _ v (by rw[hw];exact bz.put (k:=S.next+1) (m:=S1.next) (b:=.row 0 3 [[O J w,O J 0,O J 0]]) (by omega) (st.new (by omega)) (by omega) (Ov _)) (jt.put (.inr (by omega)) (Ov _))
  rw[hw] at this;exact this
 by_cases c1:(dI s.ser name).2.2=0;rotate_left
 ·simp only[↓cw,↓Oo,Om,c1,kk,OL,Oy];exact dx _ (by simp only[bE,c1,OL,Oy,SI])
 by_cases c2:40<=s.posted.length
 ·simp only[↓cw,↓Oo,Om,c1,show(40:Int)<=(s.posted.length:Int) by omega,kk,OK,Ou,Oy];exact dx _ (by simp only[bE,c1,c2,OK,Ou,Oy,SI])
 by_cases c3:(bQ p.total).2=0;rotate_left
 ·simp only[↓cw,↓Oo,Om,c1,c3,show¬(40:Int)<=(s.posted.length:Int) by omega,kk,OK,OL,Ou,Oy];exact dx _ (by simp only[bE,c1,c2,c3,OK,OL,Ou,Oy,SI])
 have ff:=(pT p.total).resolve_right (not_not_intro c3);have h12:=hf.1;simp only[↓cw,↓Oo,Om,bIh s.book (bQ p.total).1 (show s.book.length+(bQ p.total).1.length<1000000 by omega),kk];by_cases c4:(aV s.book (bQ p.total).1).2=0;rotate_left
 ·simp only[↓cw,↓Oo,Om,c1,c3,c4,show¬(40:Int)<=(s.posted.length:Int) by omega,kk,oQ,r1,OK,OL,Ou,Oy];exact dx (aV s.book (bQ p.total).1).2 (by simp only[bE,c1,c2,c3,c4,OK,OL,Ou,Oy,SI])
 simp only[↓cw,↓Oo,Om,c1,c3,c4,show¬(40:Int)<=(s.posted.length:Int) by omega,kk,OK,Ou,bO5];obtain⟨q,hq⟩:∃q:Posted,q={ p with ref:=⟨name,(dI s.ser name).2.1⟩ }:=⟨_,rfl⟩;have Ee:bE s name p=({ s with ser:=(dI s.ser name).1,book:=(aV s.book (bQ p.total).1).1,posted:=s.posted++[q] },⟨0,(dI s.ser name).2.1,p.total.gross⟩):=by
  rw[hq];simp only[bE,c1,c2,c3,c4,OK,OL,Ou,Oy,SI]
 have NY:q.enc=[.str name,O J (dI s.ser name).2.1,O J p.day.y,O J p.day.m,O J p.day.d,O J p.total.net,O J p.total.tax,O J p.total.gross,.imm (p.total.parts.map Part.enc),.str p.of.ser,O J p.of.num,.bool p.back]:=by rw[hq];rfl
 have qI:=bz.put (k:=S.next) (m:=S1.next) (b:=.row 0 12 [q.enc]) (by omega) (st.new (Ov _)) (by omega) (Ov _);have dq:=jt.put (k:=S.next) (m:=S1.next) (b:=.row 0 12 [q.enc]) (.inr (Ov _)) (Ov _);obtain⟨v',S3,q1,w3,n3,iv,Ib,bf⟩:=aFo (b:=128) qI.own qI.wf (k1:=S1.next+10) (k2:=S1.next+11) (m:=S1.next+21) (fresh qI.wf (by show S1.next<=_;omega)) (fresh qI.wf (by show S1.next<=_;omega)) (by omega) (by omega) (by omega) (by show S1.next<=_;omega) (aKr q) (by simp;omega) (by simp[eG];omega);have gh:∀y,AM.blkOf v=Ot y->y<S.next:=λy hy=>(cE st.own hy).2;have qx:AM.blkOf v'≠Ot a:=λe=>by
  rcases Ib with h | h
  ·rw[h] at e;have:=Qz e;omega
  ·rw[h] at e;exact st.ne e
 have uz:Mv a v S v' S3:=⟨by omega,λy hy As Fj=>by rw[bf y (by omega) (by omega) Fj];exact dq.keep y hy As Fj,λy hy=>by
  rcases Ib with h | h
  ·rw[h] at hy;have:=Qz hy;exact .inr (by omega)
  ·rw[h] at hy;exact .inl hy⟩
 have Ef:aC S3 a 0=.ok (6,[s.cells v]):=aX qI.row (bf a (by omega) (by omega) st.ne);have su:aC S3 S.next 0=.ok (12,[q.enc]):=aX (aA S1.next S1.heap S.next 0 12 [q.enc]) (bf S.next (by omega) (by omega) (st.new (Ov _)));have yl:aC S3 (S.next+1) 0=.ok (3,[[O J 0,O J 0,O J 0]]):=aX (aI (n:=S1.next) (m:=S1.next) (b:=.row 0 12 [q.enc]) (by omega) r1) (bf (S.next+1) (by omega) (by omega) (st.new (PX _)));have hm:s.posted.map Posted.enc++[q.enc]=(s.posted++[q]).map Posted.enc:=by rw[PK];rfl
 rw[hm] at iv;have o1:=iv.one;have o2:=iv.cells;have zz:(S.next=a)=False:=by simp;omega
 have zy:(a=S.next)=False:=by simp;omega
 have zx:(S.next+1=a)=False:=by simp;omega
 have zw:(a=S.next+1)=False:=by simp;omega
 have zv:(S.next+1=S.next)=False:=by simp
 have zu:(S.next=S.next+1)=False:=by simp
 rw[NY] at q1 su;simp only[State.cells] at Ef;simp only[↓cw,↓Oo,Om,kk,r0,gm,eY,zz,zy,zx,zw,ra]
 dsimp only at q1
 simp only[↓cw,↓Oo,Om,q1,kk,Ef,o1,o2,gm,eY,zz,zy,zx,zw,zv,zu,su,yl,r1];have key:=H ⟨S3.next,(((S3.heap.put a (.row 0 6 [({ s with ser:=(dI s.ser name).1 }:State).cells v])).put a (.row 0 6 [({ s with ser:=(dI s.ser name).1,book:=(aV s.book (bQ p.total).1).1 }:State).cells v])).put a (.row 0 6 [({ s with ser:=(dI s.ser name).1,book:=(aV s.book (bQ p.total).1).1,posted:=s.posted++[q] }:State).cells v'])).put (S.next+1) (.row 0 3 [[O J 0,O J (dI s.ser name).2.1,O J p.total.gross]])⟩ v' ?_ ?_
 ·rw[Ee] at key;exact key
 ·rw[Ee];have ka:∀(h:Tr Blk) (b:Blk),∀y,AM.blkOf v'=Ot y->(h.put a b).get y=h.get y:=λh b y hy=>OJ _ _ _ _ trivial (λe=>qx (by rw[<-e];exact hy));have kn:AM.blkOf v'≠Ot (S.next+1):=λe=>by
   rcases Ib with h | h
   ·rw[h] at e;have:=Qz e;omega
   ·rw[h] at e;have:=gh _ e;omega
  have ow:Own E0 ⟨S3.next,((S3.heap.put a (.row 0 6 [({ s with ser:=(dI s.ser name).1 }:State).cells v])).put a (.row 0 6 [({ s with ser:=(dI s.ser name).1,book:=(aV s.book (bQ p.total).1).1 }:State).cells v])).put a (.row 0 6 [({ s with ser:=(dI s.ser name).1,book:=(aV s.book (bQ p.total).1).1,posted:=s.posted++[q] }:State).cells v'])⟩ 12 v' ((s.posted++[q]).map Posted.enc):=iv.same (Ov _) λy hy=>by
   show((((S3.heap.put a _).put a _).put a _).get y)=_;rw[ka _ _ y hy,ka _ _ y hy,ka _ _ y hy]
  have hs:StAt ⟨S3.next,((S3.heap.put a (.row 0 6 [({ s with ser:=(dI s.ser name).1 }:State).cells v])).put a (.row 0 6 [({ s with ser:=(dI s.ser name).1,book:=(aV s.book (bQ p.total).1).1 }:State).cells v])).put a (.row 0 6 [({ s with ser:=(dI s.ser name).1,book:=(aV s.book (bQ p.total).1).1,posted:=s.posted++[q] }:State).cells v'])⟩ a { s with ser:=(dI s.ser name).1,book:=(aV s.book (bQ p.total).1).1,posted:=s.posted++[q] } v':=
   ⟨aA _ _ _ _ _ _,ow,gO (n:=S3.next) (gO (n:=S3.next) (gO (n:=S3.next) w3 (by omega) (Ov _)) (by omega) (Ov _)) (by omega) (Ov _),qx⟩
  exact hs.put (k:=S.next+1) (m:=S3.next) (by omega) kn (by omega) (Ov _)
 ·exact(((uz.put (m:=S3.next) (.inl rfl) (Ov _)).put (m:=S3.next) (.inl rfl) (Ov _)).put (m:=S3.next) (.inl rfl) (Ov _)).put (m:=S3.next) (.inr (PX _)) (Ov _)
end Go.Proofs.YtoaibmbldmckaaaGreat
end
section
namespace Go.Proofs.YtoaibmbldmckaaaGreat
open Go.AM Tryz
theorem aE6{S:St}{a:Nat}{s:State}{v:V}(st:StAt S a s v)(n m:Nat)(x y:On V):∃S1:St,S1=⟨S.next+1+1,(S.heap.put S.next (.row 0 n [x])).put (S.next+1) (.row 0 m [y])⟩/\S.next+1+1=S1.next/\(S.heap.put S.next (.row 0 n [x])).put (S.next+1) (.row 0 m [y])=S1.heap/\S1.next=S.next+2/\StAt S1 a s v/\Mv a v S v S1/\aC S1 S.next 0=.ok (n,[x])/\aC S1 (S.next+1) 0=.ok (m,[y]):=by
 have ha:=st.lt;exact⟨_,rfl,rfl,rfl,rfl,(st.put (k:=S.next) (m:=S.next+1) (by omega) (st.new (Ov _)) (by omega) (by omega)).put (by omega) (st.new (by omega)) (by omega) (PX _),((Mv.refl a v S).put (k:=S.next) (m:=S.next+1) (.inr (Ov _)) (by omega)).put (.inr (by omega)) (PX _),
  aI (n:=S.next+1) (by omega) (aA _ _ _ _ _ _),aA _ _ _ _ _ _⟩
theorem bV8{S:St}{a:Nat}{s:State}{v:V}(st:StAt S a s v)(c:Cmd)(hl:c.lines.length<1000000)(hb:s.book.length<900000){K:KW}
  (H:∀S' v',StAt S' a (nN s c).1 v'->Mv a v S v' S'->K (.agg [O J (nN s c).2.why,O J (nN s c).2.number,O J (nN s c).2.gross]) S'):
  C 180 [.ptr a 0 0 0,.agg [O J c.kind,.str c.series,O J c.limit,.str c.row.cat,O J c.row.day.y,O J c.row.day.m,O J c.row.day.d,O J c.row.bp,O J c.day.y,O J c.day.m,O J c.day.d,.imm (c.lines.map Line.enc),.str c.of.ser,O J c.of.num,O J c.session]] S K:=by
 refine bS0 ?_;have ha:=st.lt;obtain⟨S1,av,kh,jh,n1,bz,jt,r0,r1⟩:=aE6 st 15 3 [O J c.kind,.str c.series,O J c.limit,.str c.row.cat,O J c.row.day.y,O J c.row.day.m,O J c.row.day.d,O J c.row.bp,O J c.day.y,O J c.day.m,O J c.day.d,.imm (c.lines.map Line.enc),.str c.of.ser,O J c.of.num,O J c.session] [O J 0,O J 0,O J 0];have ra:=bz.row;simp only[State.cells] at ra;have e1:(S.next=S1.next+12)=False:=by simp;omega
 have e2:(S.next+1=S1.next+12)=False:=by simp;omega
 delta Tryz.f180;simp only[↓cw,↓Oo,Om,kk,kh,jh,gm,ra,r0,bUy s.table c.day c.lines hl,aDl,eY,e1,e2,r1,oQ,gm];obtain⟨S2,kj⟩:∃S2:St,S2=⟨S1.next+15,(S1.heap.put (S1.next+12) (.row 0 4 [[O J 0,O J 0,O J 0,.nils]])).put (S1.next+12) (.row 0 4 [[O J (dZ s.table c.day c.lines).1.net,O J (dZ s.table c.day c.lines).1.tax,O J (dZ s.table c.day c.lines).1.gross,.imm ((dZ s.table c.day c.lines).1.parts.map Part.enc)]])⟩:=⟨_,rfl⟩;have qI:StAt S2 a s v:=by
  rw[kj];exact(bz.put (k:=S1.next+12) (m:=S1.next+15) (by omega) (st.new (by omega)) (by omega) (by omega)).put (by omega) (st.new (by omega)) (by omega) (Ov _)
 have dq:Mv a v S v S2:=by
  rw[kj];exact(jt.put (k:=S1.next+12) (m:=S1.next+15) (.inr (by omega)) (by omega)).put (.inr (by omega)) (Ov _)
 have n2:S2.next=S1.next+15:=by rw[kj]
 have Eg:aC S2 (S.next+1) 0=.ok (3,[[O J 0,O J 0,O J 0]]):=by
  rw[kj];exact aI (n:=S1.next+15) (by omega) (aI (n:=S1.next) (by omega) r1)
 rw[<-kj];by_cases h:(dZ s.table c.day c.lines).2=0
 ·have xm:nN s c=bE s c.series ⟨Ref.zero,c.day,(dZ s.table c.day c.lines).1,Ref.zero,OA⟩:=by simp only[nN,h,SI,OK,Ou]
  rw[xm] at H;simp only[↓cw,↓Oo,Om,h,kk,OK,Ou];refine bOx qI c.series ⟨Ref.zero,c.day,(dZ s.table c.day c.lines).1,Ref.zero,OA⟩ (zO h) hb λS3 v3 st3 uz=>?_;have n3:=uz.next;have yl:=aX Eg (uz.keep (S.next+1) (by omega) (by omega) (st.new (PX _)));simp only[↓cw,↓Oo,Om,kk,yl];have Ct:AM.blkOf v3≠Ot (S.next+1):=λe=>by
   rcases uz.fresh _ e with q | q
   ·exact st.new (PX _) q
   ·omega
  exact H _ v3 (st3.put (k:=S.next+1) (m:=S3.next) (by omega) Ct (by omega) (Ov _)) ((dq.trans uz).put (.inr (PX _)) (Ov _))
 ·have xm:nN s c=(s,why (dZ s.table c.day c.lines).2):=by simp only[nN,h,SI,OL,Oy]
  rw[xm] at H;simp only[↓cw,↓Oo,Om,h,kk,OL,Oy]
  have:=H ⟨S2.next,S2.heap.put (S.next+1) (.row 0 3 [[O J (dZ s.table c.day c.lines).2,O J 0,O J 0]])⟩ v (qI.put (by omega) (st.new (by omega)) (by omega) (Ov _)) (dq.put (.inr (PX _)) (Ov _))
  subst kj;exact this
theorem bOy{S:St}{a:Nat}{s:State}{v:V}(st:StAt S a s v)(l:On Ser)(w:Int){K:KW}
  (H:∀S' v',StAt S' a (jC s (l,w)).1 v'->Mv a v S v' S'->K (.agg [O J (jC s (l,w)).2.why,O J (jC s (l,w)).2.number,O J (jC s (l,w)).2.gross]) S'):C 176 [.ptr a 0 0 1,.imm (l.map Ser.enc),O J w] S K:=by
 refine bRw ?_;have ha:=st.lt;have bz:=st.put (k:=S.next) (m:=S.next+1) (b:=.row 0 3 [[O J 0,O J 0,O J 0]]) (by omega) (st.new (Ov _)) (by omega) (by omega);have jt:=(Mv.refl a v S).put (k:=S.next) (m:=S.next+1) (b:=.row 0 3 [[O J 0,O J 0,O J 0]]) (.inr (Ov _)) (by omega);have ra:=bz.row;simp only[State.cells] at ra;have z:(S.next=a)=False:=by simp;omega
 by_cases h:w=0
 ·subst h;delta Tryz.f176;simp only[↓cw,↓Oo,Om,kk,oQ,ra,eY,z,Oy];simp only[jC,Oy,why] at H;exact H _ v ((bz.set (s':={ s with ser:=l }) rfl).put (k:=S.next) (m:=S.next+1) (by omega) (st.new (Ov _)) (by omega) (Ov _)) ((jt.put (k:=a) (m:=S.next+1) (.inl rfl) (Ov _)).put (.inr (Ov _)) (Ov _))
 ·delta Tryz.f176;simp only[↓cw,↓Oo,Om,kk,oQ,ra,eY,z,h,Ou];simp only[jC,h,Ou,why] at H;exact H _ v (bz.put (k:=S.next) (m:=S.next+1) (by omega) (st.new (Ov _)) (by omega) (Ov _)) (jt.put (.inr (Ov _)) (Ov _))
theorem bV9{S:St}{a:Nat}{s:State}{v:V}(st:StAt S a s v)(l:On Rate)(w:Int){K:KW}
  (H:∀S' v',StAt S' a (mZ s (l,w)).1 v'->Mv a v S v' S'->K (.agg [O J (mZ s (l,w)).2.why,O J (mZ s (l,w)).2.number,O J (mZ s (l,w)).2.gross]) S'):C 179 [.ptr a 0 0 0,.imm (l.map Rate.enc),O J w] S K:=by
 refine bRz ?_;have ha:=st.lt;have bz:=st.put (k:=S.next) (m:=S.next+1) (b:=.row 0 3 [[O J 0,O J 0,O J 0]]) (by omega) (st.new (Ov _)) (by omega) (by omega);have jt:=(Mv.refl a v S).put (k:=S.next) (m:=S.next+1) (b:=.row 0 3 [[O J 0,O J 0,O J 0]]) (.inr (Ov _)) (by omega);have ra:=bz.row;simp only[State.cells] at ra;have z:(S.next=a)=False:=by simp;omega
 by_cases h:w=0
 ·subst h;delta Tryz.f179;simp only[↓cw,↓Oo,Om,kk,oQ,ra,eY,z,Oy];simp only[mZ,Oy,why] at H;exact H _ v ((bz.set (s':={ s with table:=l }) rfl).put (k:=S.next) (m:=S.next+1) (by omega) (st.new (Ov _)) (by omega) (Ov _)) ((jt.put (k:=a) (m:=S.next+1) (.inl rfl) (Ov _)).put (.inr (Ov _)) (Ov _))
 ·delta Tryz.f179;simp only[↓cw,↓Oo,Om,kk,oQ,ra,eY,z,h,Ou];simp only[mZ,h,Ou,why] at H;exact H _ v (bz.put (k:=S.next) (m:=S.next+1) (by omega) (st.new (Ov _)) (by omega) (Ov _)) (jt.put (.inr (Ov _)) (Ov _))
theorem bVa{S:St}{a:Nat}{s:State}{v:V}(st:StAt S a s v)(l:On Sess)(w:Int){K:KW}
  (H:∀S' v',StAt S' a (kM s (l,w)).1 v'->Mv a v S v' S'->K (.agg [O J (kM s (l,w)).2.why,O J (kM s (l,w)).2.number,O J (kM s (l,w)).2.gross]) S'):C 183 [.ptr a 0 0 4,.imm (l.map Sess.enc),O J w] S K:=by
 refine bS3 ?_;have ha:=st.lt;have bz:=st.put (k:=S.next) (m:=S.next+1) (b:=.row 0 3 [[O J 0,O J 0,O J 0]]) (by omega) (st.new (Ov _)) (by omega) (by omega);have jt:=(Mv.refl a v S).put (k:=S.next) (m:=S.next+1) (b:=.row 0 3 [[O J 0,O J 0,O J 0]]) (.inr (Ov _)) (by omega);have ra:=bz.row;simp only[State.cells] at ra;have z:(S.next=a)=False:=by simp;omega
 by_cases h:w=0
 ·subst h;delta Tryz.f183;simp only[↓cw,↓Oo,Om,kk,oQ,ra,eY,z,Oy];simp only[kM,Oy,why] at H;exact H _ v ((bz.set (s':={ s with sess:=l }) rfl).put (k:=S.next) (m:=S.next+1) (by omega) (st.new (Ov _)) (by omega) (Ov _)) ((jt.put (k:=a) (m:=S.next+1) (.inl rfl) (Ov _)).put (.inr (Ov _)) (Ov _))
 ·delta Tryz.f183;simp only[↓cw,↓Oo,Om,kk,oQ,ra,eY,z,h,Ou];simp only[kM,h,Ou,why] at H;exact H _ v (bz.put (k:=S.next) (m:=S.next+1) (by omega) (st.new (Ov _)) (by omega) (Ov _)) (jt.put (.inr (Ov _)) (Ov _))
theorem bVb{S:St}{a:Nat}{s:State}{v:V}(st:StAt S a s v)(name:On OP)(h1:s.ser.length<1000000)(h2:s.book.length<1000000){K:KW}
  (H:∀S',StAt S' a s v->Mv a v S v S'->K (.agg [O J (aH5 s name).why,O J (aH5 s name).number,O J (aH5 s name).gross]) S'):C 184 [.ptr a 0 0 0,.str name] S K:=by
 refine bS4 ?_;have ha:=st.lt;obtain⟨f,hf⟩:∃f,f=(mW s.ser name).1:=⟨_,rfl⟩;obtain⟨S1,av,kh,jh,n1,bz,jt,r0,r7⟩:=aE6 st 3 4 [O J 0,O J 0,O J 0] [.str [],O J 0,O J 0,.bool OA];have qI:=bz.put (k:=S.next+1) (m:=S1.next) (b:=.row 0 4 [[.str f.name,O J f.next,O J f.limit,.bool f.shut]]) (by omega) (st.new (by omega)) (by omega) (Ov _);have dq:=jt.put (k:=S.next+1) (m:=S1.next) (b:=.row 0 4 [[.str f.name,O J f.next,O J f.limit,.bool f.shut]]) (.inr (by omega)) (Ov _);have ra:=st.row;have ym:=qI.row;simp only[State.cells] at ra ym;have z0:(a=S.next)=False:=by simp;omega
 have z1:(a=S.next+1)=False:=by simp;omega
 have z2:(S.next=S.next+1)=False:=by simp
 delta Tryz.f184;simp only[↓cw,↓Oo,Om,kk,eY,z0,gm,ra,bUk s.ser name h1,<-hf,kh,jh,oQ,z2,r0,r7];cases c:(mW s.ser name).2
 ·simp only[↓cw,↓Oo,Om,c,kk,Oy,oQ,eY,z2,gm,r0];simp only[aH5,c,Oy] at H;exact H _ (qI.put (k:=S.next) (m:=S1.next) (by omega) (st.new (by omega)) (by show S.next<S1.next;omega) (Ov _)) (dq.put (.inr (Ov _)) (Ov _))
 ·simp only[↓cw,↓Oo,Om,c,kk,Pq,Ou,eY,z0,z1,gm,ym];simp only[aH5,c,Pq,Ou,<-hf] at H;have z3:(a=S1.next)=False:=by simp;omega
  have Ic:=st.new (k:=S1.next) (by omega);obtain⟨S3,mi⟩:∃S3:St,S3=⟨S1.next+1,((S1.heap.put (S.next+1) (.row 0 4 [[.str f.name,O J f.next,O J f.limit,.bool f.shut]])).put S1.next (.row 0 3 [[O J 0,O J 0,O J 0]])).put S1.next (.row 0 3 [[O J 0,O J (wr J (f.next - 1)),O J 0]])⟩:=⟨_,rfl⟩;have st3:StAt S3 a s v:=by rw[mi];exact(qI.put (k:=S1.next) (m:=S1.next+1) (by omega) Ic (by omega) (PX _)).put (by omega) Ic (by omega) (Ov _)
  have uz:Mv a v S v S3:=by rw[mi];exact(dq.put (k:=S1.next) (m:=S1.next+1) (.inr (by omega)) (PX _)).put (.inr (by omega)) (Ov _)
  have su:aC S3 S.next 0=.ok (3,[[O J 0,O J 0,O J 0]]):=by
   rw[mi];exact aI (n:=S1.next+1) (by omega) (aI (n:=S1.next) (by omega) (aI (n:=S1.next) (by omega) r0))
  have yl:aC S3 S1.next 0=.ok (3,[[O J 0,O J (wr J (f.next - 1)),O J 0]]):=by rw[mi];exact aA _ _ _ _ _ _
  have n3:S3.next=S1.next+1:=by rw[mi]
  rw[<-mi];have Ef:=st3.row;simp only[State.cells] at Ef;simp only[↓cw,↓Oo,Om,Ef,kk];refine aG s.book (step:=uA) (fin:=id) (λi g vs S'=>vs=[O J (i:Int)]/\StAt S' a s v/\Mv a v S v S'/\aC S' S.next 0=.ok (3,[[O J 0,O J 0,O J 0]])/\aC S' S1.next 0=.ok (3,[[O J 0,O J (wr J (f.next - 1)),O J g]])/\S1.next+1<=S'.next) (λg=>g=aD uA id s.book 0) ?_ ?_ (s:=0) ⟨rfl,st3,uz,su,yl,by omega⟩ rfl
  ·rintro i b g vs S' hi ⟨rfl,st4,qk,Id,Aq,h4⟩ aE Hq;have ai:=(Oq.1 hi).1;simp only[uA,bGz] at Hq;have e0:(S1.next=S'.next)=False:=by simp;omega
   have Eh:=st.new (k:=S'.next) (by omega);have st5:=(st4.put (k:=S'.next) (m:=S'.next+1) (b:=.row 0 2 [[.str [],O J 0]]) (by omega) Eh (by omega) (PX _)).put (k:=S'.next) (m:=S'.next+1) (b:=.row 0 2 [[.str b.acc,O J b.amount]]) (by omega) Eh (by omega) (Ov _);have Av:=(qk.put (k:=S'.next) (m:=S'.next+1) (b:=.row 0 2 [[.str [],O J 0]]) (.inr (by omega)) (PX _)).put (k:=S'.next) (m:=S'.next+1) (b:=.row 0 2 [[.str b.acc,O J b.amount]]) (.inr (by omega)) (Ov _);have Lp:∀m x y,aC ⟨m,(S'.heap.put S'.next x).put S'.next y⟩ S.next 0=.ok (3,[[O J 0,O J 0,O J 0]]):=λm x y=>aI (n:=S'.next) (by omega) (aI (n:=S'.next) (by omega) Id);have Ei:∀m x y,aC ⟨m,(S'.heap.put S'.next x).put S'.next y⟩ S1.next 0=.ok (3,[[O J 0,O J (wr J (f.next - 1)),O J g]]):=λm x y=>aI (n:=S'.next) (by omega) (aI (n:=S'.next) (by omega) Aq);simp only[↓cw,↓Oo,Om,kk,bG hi,oJ hi,Bal.enc,Ei,gM (show i<1000000000 by omega)];by_cases c:(b.acc == [111,119,101,100])=OB
   ·simp only[↓cw,↓Oo,Om,c,kk,Oy] at Hq|-
    exact Hq _ _ ⟨rfl,st5.put (k:=S1.next) (m:=S'.next+1) (by omega) Ic (by omega) (Ov _),Av.put (k:=S1.next) (m:=S'.next+1) (.inr (by omega)) (Ov _),aI (n:=S'.next+1) (by omega) (Lp _ _ _),aA _ _ _ _ _ _,by show _<=S'.next+1;omega⟩
   ·simp only[↓cw,↓Oo,Om,c,kk,Ou] at Hq|-
    exact Hq _ _ ⟨rfl,st5,Av,Lp _ _ _,Ei _ _ _,by show _<=S'.next+1;omega⟩
  ·rintro g vs S' ⟨rfl,st4,qk,Id,Aq,h4⟩ aE Hq;have Hq:g=aD uA id s.book 0:=Hq;simp only[↓cw,↓Oo,Om,kk,OZ,Ou,Aq,Id];rw[<-Hq] at H;exact H _ (st4.put (k:=S.next) (m:=S'.next) (by omega) (st.new (Ov _)) (by omega) (Ov _)) (qk.put (.inr (Ov _)) (Ov _))
end Go.Proofs.YtoaibmbldmckaaaGreat
end
section
namespace Go.AM
theorem Own.fv{S0 S:St}{n:Nat}{v:V}{α:Type}{enc:α->On V}{l:On α}(h:Own S0 S n v (l.map enc))(hc:∀x,Tl (enc x)=OB)(bs:On V)(hb:Tl bs=OB):Sm kP (kV (iS S 3) S) (v::bs)=.ok (.imm (l.map enc)::bs):=by
 simp only[Sm,h.out hc,clo_frzs bs hb]
end Go.AM
namespace Go.Proofs.YtoaibmbldmckaaaGreat
open Go.AM Tryz
theorem bVc{S0 S:St}{v:V}{l:On Posted}(h:Own S0 S 12 v (l.map Posted.enc))(r:Ref)(hb:l.length<1000000)(K:KW):C 168 [v,.agg [.str r.ser,O J r.num]] S K=K (O J (aY l r)) S:=
 (f168 l r hb).frz bJr rfl (h.fv (λ_=>rfl) _ rfl) (by simp only[ptrsVs,h.ptrs];rfl) (.inl rfl) K
theorem bVd{S:St}{a:Nat}{s:State}{v:V}(st:StAt S a s v)(c:Cmd)(hp:s.posted.length<900000)(hq:∀p∈s.posted,oP p.total)(hb:s.book.length<900000){K:KW}
  (H:∀S' v',StAt S' a (fS s c).1 v'->Mv a v S v' S'->K (.agg [O J (fS s c).2.why,O J (fS s c).2.number,O J (fS s c).2.gross]) S'):
  C 181 [.ptr a 0 0 0,.agg [O J c.kind,.str c.series,O J c.limit,.str c.row.cat,O J c.row.day.y,O J c.row.day.m,O J c.row.day.d,O J c.row.bp,O J c.day.y,O J c.day.m,O J c.day.d,.imm (c.lines.map Line.enc),.str c.of.ser,O J c.of.num,O J c.session]] S K:=by
 refine bS1 ?_;have ha:=st.lt;obtain⟨S1,av,kh,jh,n1,bz,jt,r0,r1⟩:=aE6 st 15 3 [O J c.kind,.str c.series,O J c.limit,.str c.row.cat,O J c.row.day.y,O J c.row.day.m,O J c.row.day.d,O J c.row.bp,O J c.day.y,O J c.day.m,O J c.day.d,.imm (c.lines.map Line.enc),.str c.of.ser,O J c.of.num,O J c.session] [O J 0,O J 0,O J 0];have ra:=bz.row;simp only[State.cells] at ra;have Ie:=bVc (bz.bump 8).own c.of (show s.posted.length<1000000 by omega);delta Tryz.f181;simp only[↓cw,↓Oo,Om,kk,kh,jh,gm,ra,r0,Ie,oQ,r1];have dx:∀(S2:St) (w:Int),StAt S2 a s v->Mv a v S v S2->S1.next<=S2.next->fS s c=(s,why w)->K (.agg [O J w,O J 0,O J 0]) ⟨S2.next,S2.heap.put (S.next+1) (.row 0 3 [[O J w,O J 0,O J 0]])⟩:=by
  intro S2 w qI dq hn hw
  have:=H _ v (by rw[hw];exact qI.put (k:=S.next+1) (m:=S2.next) (b:=.row 0 3 [[O J w,O J 0,O J 0]]) (by omega) (st.new (by omega)) (by omega) (Ov _)) (dq.put (.inr (by omega)) (Ov _))
  rw[hw] at this;exact this
 rcases iQ s.posted c.of with hk | ⟨k,p,hk,Ej,_⟩
 ·simp only[↓cw,↓Oo,Om,hk,show(-1:Int)<0 by decide,kk,Oy];exact dx ⟨S1.next+8,S1.heap⟩ 11 (bz.bump 8) (jt.bump 8) (UT _ _) (by simp only[fS,hk];rfl)
 have dw:=(Oq.1 Ej).1;have Cu:fS s c=iG s c k p:=by
  have:s.posted.getD k Posted.zero=p:=by rw[Pl,Ej];rfl
  simp only[fS,hk,show¬(k:Int)<0 by omega,Ou,Pn,this]
 have uy:=hq p (OM Ej);have NZ:=uy.1;have Ek:(s.posted.map Posted.enc)[k]?=Ot p.enc:=by rw[Pc,Ej];rfl
 obtain⟨va,ver,hv,_,GK,xx,_,_⟩:=(bz.bump 8).own.setK (rV (bz.bump 8).wf) mB Ek J;have da:=(bz.bump 8).own.ld hv Ek (Ot 12) 0;simp only[↓cw,↓Oo,Om,kk,Posted.enc] at da;have nkb:=st.new (k:=S1.next+8) (by omega);obtain⟨S2,kj⟩:∃S2:St,S2=⟨S1.next+8+1,(S1.heap.put (S1.next+8) (.row 0 12 [aDk])).put (S1.next+8) (.row 0 12 [p.enc])⟩:=⟨_,rfl⟩;have qI:StAt S2 a s v:=by rw[kj];exact(bz.put (k:=S1.next+8) (m:=S1.next+8+1) (by omega) nkb (by omega) (by omega)).put (by omega) nkb (by omega) (Ov _)
 have dq:Mv a v S v S2:=by rw[kj];exact(jt.put (k:=S1.next+8) (m:=S1.next+8+1) (.inr (by omega)) (by omega)).put (.inr (by omega)) (Ov _)
 have n2:S2.next=S1.next+9:=by rw[kj]
 have El:aC S2 S.next 0=aC S1 S.next 0:=by rw[kj,dG _ S1.next _ _ _ _ _ (by omega),dG _ S1.next _ _ _ _ _ (by omega)]
 have Eg:aC S2 (S.next+1) 0=aC S1 (S.next+1) 0:=by rw[kj,dG _ S1.next _ _ _ _ _ (by omega),dG _ S1.next _ _ _ _ _ (by omega)]
 have Lq:aC S2 (S1.next+8) 0=.ok (12,[p.enc]):=by rw[kj];exact aA _ _ _ _ _ _
 rw[r0] at El;rw[r1] at Eg;simp only[aDk,Posted.enc] at kj;simp only[Posted.enc] at Lq;simp only[↓cw,↓Oo,Om,hk,show¬(k:Int)<0 by omega,kk,Ou,xx,da,gm,ra,<-kj,Lq,El,Eg,oQ,aMn,bCa,bOp p.total (show p.total.parts.length<=1000 by omega),aDl];cases d1:p.back;rotate_left
 ·simp only[↓cw,↓Oo,Om,d1,kk,Oy];exact dx S2 12 qI dq (by omega) (by rw[Cu];simp only[iG,d1,Oy])
 by_cases d2:p.of.ser=[]/\p.of.num=0;rotate_left
 ·have N':¬p.of=Ref.zero:=by rw[Ref.ext_iff];exact d2
  have BC:(!(p.of.ser == []&&decide (p.of.num=0)))=true:=by
   cases h:(p.of.ser == []&&decide (p.of.num=0)) with
   | false=>rfl
   | true=>exact absurd (by simpa using h) d2
  simp only[↓cw,↓Oo,Om,d1,BC,kk,Oy,OO,Ou];exact dx S2 12 qI dq (by omega) (by rw[Cu];simp only[iG,d1,OO,Ou,N'])
 have FI:p.of=Ref.zero:=by rw[Ref.ext_iff];exact d2
 have BC:(p.of.ser == []&&decide (p.of.num=0))=true:=by simpa using d2
 simp only[↓cw,↓Oo,Om,d1,BC,kk,OO,Ou];cases d3:c.day.right
 ·simp only[↓cw,↓Oo,Om,d3,kk,Oy];exact dx S2 9 qI dq (by omega) (by rw[Cu];simp only[iG,d1,FI,d3,OO,Ou,Oy])
 cases d4:c.day.before p.day;rotate_left
 ·simp only[↓cw,↓Oo,Om,d3,d4,kk,OO,Ou,Oy];exact dx S2 9 qI dq (by omega) (by rw[Cu];simp only[iG,d1,FI,d3,d4,OO,Pq,Ou,Oy])
 simp only[↓cw,↓Oo,Om,d3,d4,kk,OO,Ou];have Eh:=st.new (k:=S2.next) (by omega);obtain⟨S3,mi⟩:∃S3:St,S3=⟨S2.next+1,(S2.heap.put S2.next (.row 0 4 [[O J 0,O J 0,O J 0,.nils]])).put S2.next (.row 0 4 [[O J (bI p.total).1.net,O J (bI p.total).1.tax,O J (bI p.total).1.gross,.imm ((bI p.total).1.parts.map Part.enc)]])⟩:=⟨_,rfl⟩;have st3:StAt S3 a s v:=by rw[mi];exact(qI.put (k:=S2.next) (m:=S2.next+1) (by omega) Eh (by omega) (PX _)).put (by omega) Eh (by omega) (Ov _)
 have uz:Mv a v S v S3:=by rw[mi];exact(dq.put (k:=S2.next) (m:=S2.next+1) (.inr (by omega)) (PX _)).put (.inr (by omega)) (Ov _)
 have n3:S3.next=S2.next+1:=by rw[mi]
 have su:=aI (n:=S2.next+1) (m:=S2.next+1) (a:=S2.next) (b:=.row 0 4 [[O J (bI p.total).1.net,O J (bI p.total).1.tax,O J (bI p.total).1.gross,.imm ((bI p.total).1.parts.map Part.enc)]]) (by omega) (aI (n:=S2.next) (m:=S2.next+1) (a:=S2.next) (b:=.row 0 4 [[O J 0,O J 0,O J 0,.nils]]) (by omega) El);have yl:=aI (n:=S2.next+1) (m:=S2.next+1) (a:=S2.next) (b:=.row 0 4 [[O J (bI p.total).1.net,O J (bI p.total).1.tax,O J (bI p.total).1.gross,.imm ((bI p.total).1.parts.map Part.enc)]]) (by omega) (aI (n:=S2.next) (m:=S2.next+1) (a:=S2.next) (b:=.row 0 4 [[O J 0,O J 0,O J 0,.nils]]) (by omega) Eg);have Oa:aC S3 S2.next 0=.ok (4,[[O J (bI p.total).1.net,O J (bI p.total).1.tax,O J (bI p.total).1.gross,.imm ((bI p.total).1.parts.map Part.enc)]]):=by rw[mi];exact aA _ _ _ _ _ _
 simp only[<-mi] at su yl|-
 by_cases d5:(bI p.total).2=0;rotate_left
 ·simp only[↓cw,↓Oo,Om,d5,kk,yl,OL,Oy]
  have:=dx S3 (bI p.total).2 st3 uz (by omega) (by rw[Cu];simp only[iG,d1,FI,d3,d4,d5,OO,Pq,Ou,Oy,SI,OL])
  subst mi;exact this
 simp only[↓cw,↓Oo,Om,d5,kk,su,Oa,OK,Ou];obtain⟨q,If⟩:∃q:Posted,q=⟨Ref.zero,c.day,(bI p.total).1,c.of,OA⟩:=⟨_,rfl⟩;have Ob:fS s c=if(bE s c.series q).2.why=0 then({ (bE s c.series q).1 with posted:=cW (bE s c.series q).1.posted k },(bE s c.series q).2) else bE s c.series q:=by
  rw[Cu];simp only[iG,d1,FI,d3,d4,d5,<-If,OO,Pq,Ou,Oy,SI,OK]
 have Oc:oP q.total:=by rw[If];exact aU8 uy d5
 rw[Ob] at H;have BD:=@bOx S3 a s v st3 c.series q Oc hb;obtain⟨s',gp⟩:∃s',s'=(bE s c.series q).1:=⟨_,rfl⟩;obtain⟨r,hr⟩:∃r,r=(bE s c.series q).2:=⟨_,rfl⟩;obtain⟨lx,Lr⟩:=aKp s c.series q;have Od:bE s c.series q=(s',r):=by rw[gp,hr]
 simp only[Od] at H BD Lr;rw[If] at BD;refine BD λS4 v4 st4 qk=>?_;have n4:=qk.next;have Oe:∀y,y<S3.next->AM.blkOf v≠Ot y->AM.blkOf v4≠Ot y:=λy h1 h2 e=>by
  rcases qk.fresh y e with h | h
  ·exact h2 h
  ·omega
 have BE:AM.blkOf v4≠Ot S4.next:=λe=>by have:=(cE st4.own e).2;omega
 have ha4:=st4.lt;obtain⟨S5,Cw⟩:∃S5:St,S5=⟨S4.next+1,(S4.heap.put S4.next (.row 0 3 [[O J 0,O J 0,O J 0]])).put S4.next (.row 0 3 [[O J r.why,O J r.number,O J r.gross]])⟩:=⟨_,rfl⟩;have n5:S5.next=S4.next+1:=by rw[Cw]
 have st5:StAt S5 a s' v4:=by rw[Cw];exact(st4.put (k:=S4.next) (m:=S4.next+1) (by omega) BE (by omega) (PX _)).put (by omega) BE (by omega) (Ov _)
 have Av:Mv a v S v4 S5:=by rw[Cw];exact((uz.trans qk).put (k:=S4.next) (m:=S4.next+1) (.inr (by omega)) (PX _)).put (.inr (by omega)) (Ov _)
 have Aq:=aX yl (qk.keep (S.next+1) (by omega) (by omega) (st.new (PX _)));have Ei:aC S5 (S.next+1) 0=.ok (3,[[O J 0,O J 0,O J 0]]):=by rw[Cw];exact aI (n:=S4.next+1) (by omega) (aI (n:=S4.next) (by omega) Aq)
 have Ls:aC S5 S4.next 0=.ok (3,[[O J r.why,O J r.number,O J r.gross]]):=by rw[Cw];exact aA _ _ _ _ _ _
 have BF:=Oe (S.next+1) (by omega) (st.new (PX _));have Lt:=st5.row;simp only[State.cells] at Lt;simp only[↓cw,↓Oo,Om,kk,<-Cw,Ls,Lt];by_cases d6:r.why=0
 ·simp only[d6,Oy] at H;have Lu:s'.posted[k]?=Ot p:=by rw[Lr,Pr dw];exact Ej
  have Of:(s'.posted.map Posted.enc)[k]?=Ot p.enc:=by rw[Pc,Lu];rfl
  obtain⟨vb,Og,Oh,_,Oi,e5,_,BG⟩:=st5.own.setK (rV st5.wf) mB Of J;obtain⟨S6,q6,x6,n6,dy,qm,w6⟩:=BG 11 1 (.bool OB) rfl rfl (by decide);have ee:AM.blkOf v4=Ot vb:=by rw[Oh];rfl
  have ch:(s'.posted.map Posted.enc).set k (splice p.enc 11 [.bool OB])=(cW s'.posted k).map Posted.enc:=by
   simp only[cW,Lu,RM];rfl
  simp only[Ur] at dy;rw[ch] at dy;have Oj:StAt S6 a { s' with posted:=cW s'.posted k } v4:=⟨aX st5.row (qm a (λe=>st5.ne (by rw[ee,e]))),dy,w6 st5.wf,st5.ne⟩;have Ok:Mv a v S v4 S6:=⟨by have:=Av.next;omega,λy h1 h2 h3=>by
   rw[qm y (λe=>by
    have:=Av.fresh y (by rw[ee,e])
    rcases this with h | h
    ·exact h3 h
    ·omega)]
   exact Av.keep y h1 h2 h3,Av.fresh⟩
  have Ol:=aX Ls (qm S4.next (λe=>BE (by rw[ee,e])));have r16:=aX Ei (qm (S.next+1) (λe=>BF (by rw[ee,e])));simp only[↓cw,↓Oo,Om,d6,kk,Oy,e5,q6,Ol,r16]
  have:=H _ v4 (Oj.put (k:=S.next+1) (m:=S6.next) (b:=.row 0 3 [[O J r.why,O J r.number,O J r.gross]]) (by omega) BF (by omega) (Ov _)) (Ok.put (.inr (PX _)) (Ov _))
  simp only[d6] at this;exact this
 ·simp only[d6,Ou] at H;simp only[↓cw,↓Oo,Om,d6,kk,Ou,Ei];exact H _ v4 (st5.put (k:=S.next+1) (m:=S5.next) (by omega) BF (by omega) (Ov _)) (Av.put (.inr (PX _)) (Ov _))
end Go.Proofs.YtoaibmbldmckaaaGreat
end
section
namespace Go.Proofs.YtoaibmbldmckaaaGreat
open Go.AM Tryz
theorem bVe{S:St}{a:Nat}{s:State}{v:V}(st:StAt S a s v)(c:Cmd)(hl:c.lines.length<1000000)(hs:s.ser.length<1000000)(hp:s.posted.length<900000)(hq:∀p∈s.posted,oP p.total)(hb:s.book.length<900000){K:KW}
  (H:∀S' v',StAt S' a (vB s c).1 v'->Mv a v S v' S'->K (.agg [O J (vB s c).2.why,O J (vB s c).2.number,O J (vB s c).2.gross]) S'):
  C 106 [.ptr a 0 0 0,.agg [O J c.kind,.str c.series,O J c.limit,.str c.row.cat,O J c.row.day.y,O J c.row.day.m,O J c.row.day.d,O J c.row.bp,O J c.day.y,O J c.day.m,O J c.day.d,.imm (c.lines.map Line.enc),.str c.of.ser,O J c.of.num,O J c.session]] S K:=by
 refine bR1 ?_;have ha:=st.lt;obtain⟨S1,av,kh,jh,n1,bz,jt,r0,r1⟩:=aE6 st 15 3 [O J c.kind,.str c.series,O J c.limit,.str c.row.cat,O J c.row.day.y,O J c.row.day.m,O J c.row.day.d,O J c.row.bp,O J c.day.y,O J c.day.m,O J c.day.d,.imm (c.lines.map Line.enc),.str c.of.ser,O J c.of.num,O J c.session] [O J 0,O J 0,O J 0];have ra:=bz.row;simp only[State.cells] at ra;have bj:∀(S2:St) (v2:V) (r:State×Rep),vB s c=r->StAt S2 a r.1 v2->Mv a v S1 v2 S2->K (.agg [O J r.2.why,O J r.2.number,O J r.2.gross]) ⟨S2.next,S2.heap.put (S.next+1) (.row 0 3 [[O J r.2.why,O J r.2.number,O J r.2.gross]])⟩:=by
  rintro S2 v2 r rfl qI dq;have n2:=dq.next;have Au:AM.blkOf v2≠Ot (S.next+1):=λe=>by
   rcases dq.fresh _ e with h | h
   ·exact st.new (PX _) h
   ·omega
  exact H _ v2 (qI.put (k:=S.next+1) (m:=S2.next) (by omega) Au (by omega) (Ov _)) ((jt.trans dq).put (.inr (PX _)) (Ov _))
 have pc:∀(S2:St) (v2:V),Mv a v S1 v2 S2->aC S2 (S.next+1) 0=.ok (3,[[O J 0,O J 0,O J 0]]):=λS2 v2 dq=>aX r1 (dq.keep (S.next+1) (by omega) (by omega) (st.new (PX _)));delta Tryz.f106;simp only[↓cw,↓Oo,Om,kk,kh,jh,<-av,gm,ra,r0];by_cases k1:c.kind=1
 ·simp only[↓cw,↓Oo,Om,k1,kk,Oy,bUl];refine bOy (bz.bump 14) _ _ λS2 v2 qI dq=>?_;have iz:=((Mv.refl a v S1).bump 14).trans dq;simp only[↓cw,↓Oo,Om,kk,pc _ _ iz];exact bj S2 v2 _ (by simp only[vB,k1,Oy]) qI iz
 by_cases k2:c.kind=2
 ·simp only[↓cw,↓Oo,Om,k1,k2,kk,show¬(2:Int)=1 by decide,Oy,Ou,bUm];refine bOy (bz.bump 12) _ _ λS2 v2 qI dq=>?_;have iz:=((Mv.refl a v S1).bump 12).trans dq;simp only[↓cw,↓Oo,Om,kk,pc _ _ iz];exact bj S2 v2 _ (by simp only[vB,k2,show¬(2:Int)=1 by decide,Oy,Ou]) qI iz
 by_cases k3:c.kind=3
 ·simp only[↓cw,↓Oo,Om,k1,k2,k3,kk,show¬(3:Int)=1 by decide,show¬(3:Int)=2 by decide,Oy,Ou,bUq];refine bV9 (bz.bump 12) _ _ λS2 v2 qI dq=>?_;have iz:=((Mv.refl a v S1).bump 12).trans dq;simp only[↓cw,↓Oo,Om,kk,pc _ _ iz];exact bj S2 v2 _ (by simp only[vB,k3,show¬(3:Int)=1 by decide,show¬(3:Int)=2 by decide,Oy,Ou]) qI iz
 by_cases k4:c.kind=4
 ·simp only[↓cw,↓Oo,Om,k1,k2,k3,kk,Oy,Ou,show(c.kind=4)=UF by simp[k4]];refine bV8 bz c hl hb λS2 v2 qI dq=>?_;simp only[↓cw,↓Oo,Om,kk,pc _ _ dq];exact bj S2 v2 _ (by simp only[vB,k1,k2,k3,show(c.kind=4)=UF by simp[k4],Oy,Ou]) qI dq
 by_cases k5:c.kind=5
 ·simp only[↓cw,↓Oo,Om,k1,k2,k3,k4,kk,Oy,Ou,show(c.kind=5)=UF by simp[k5]];refine bVd bz c hp hq hb λS2 v2 qI dq=>?_;simp only[↓cw,↓Oo,Om,kk,pc _ _ dq];exact bj S2 v2 _ (by simp only[vB,k1,k2,k3,k4,show(c.kind=5)=UF by simp[k5],Oy,Ou]) qI dq
 by_cases k7:c.kind=7
 ·simp only[↓cw,↓Oo,Om,k1,k2,k3,k4,k5,kk,Oy,Ou,show(c.kind=7)=UF by simp[k7],bUg];refine bVa (bz.bump 12) _ _ λS2 v2 qI dq=>?_;have iz:=((Mv.refl a v S1).bump 12).trans dq;simp only[↓cw,↓Oo,Om,kk,pc _ _ iz];exact bj S2 v2 _ (by simp only[vB,k1,k2,k3,k4,k5,show(c.kind=7)=UF by simp[k7],Oy,Ou]) qI iz
 ·simp only[↓cw,↓Oo,Om,k1,k2,k3,k4,k5,k7,kk,Ou];refine bVb bz c.series hs (by omega) λS2 qI dq=>?_;simp only[↓cw,↓Oo,Om,kk,pc _ _ dq];exact bj S2 v (s,aH5 s c.series) (by simp only[vB,k1,k2,k3,k4,k5,k7,Ou]) qI dq
end Go.Proofs.YtoaibmbldmckaaaGreat
end
