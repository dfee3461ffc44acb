import Derived.KernelRfl
import Derived.Test.YtoaibmbldmckaaaGreatProg
import Derived.Test.YtoaibmbldmckaaaGreatX5
set_option linter.unusedSimpArgs false
set_option linter.unusedVariables false
set_option linter.unusedSectionVars false
set_option maxRecDepth 100000
open Go.AM.V renaming int→O
open Nat renaming reduceLT→Om,le_refl→Ov,reduceAdd→Pi,zero_add→Px,zero_le→PS,le_succ→PX,lt_succ_self→Qb,sub_self→Qt,le_trans→QC,add_zero→QT
open _root_ renaming List→On,reduceIte→Oo,if_false→Ou,Option→Ow,if_true→Oy,if_neg→Oz,if_pos→OE,not_true_eq_false→OK,not_false_eq_true→OL,UInt8→OP,congrFun→OR,congrArg→Qo
open List renaming getElem?_eq_some_iff→Oq,length_append→OC,getElem?_eq_getElem→OF,mem_of_getElem?→OM,length_map→ON,length_cons→OQ,append_nil→OS,mem_cons_of_mem→OY,getElem?_map→Pc,append_assoc→Pd,getElem?_append_right→Pe,length_nil→Pf,mem_cons_self→Ph,getElem?_append_left→Pr,mem_map→Pv,map_nil→Py,cons_append→PJ,map_append→PK,getElem?_drop→PP,length_drop→PQ,mem_singleton→PR,zipWith→Qc,mem_append→Qf,getElem?_set→Qi,length_set→Qm,take_append_of_le_length→Rj,map_set→RM,ext_getElem?→RN,map_take→Se,set_append_right→Sn,pairwise_iff_getElem→Ta,drop_length→Tf,length→TN,map_congr_left→Xp
open Option renaming some→Ot,none→OG,map_some→Rv
open Go.AM renaming Tr.get_put_sameB→Ox,Tr.get_put_neB→OJ,Own.nil→Rf,Ext.new→Rg,frzVs→Sm,cloVs→Tl,Ext.refl→Tm,ptrsVs→TC,Fn.back→WC
open Bool renaming false→OA,true→OB,false_eq_true→OO,and_self→QG,and_true→QQ
open Go.Proofs.YtoaibmbldmckaaaGreat renaming Posted→OT,Posted.enc→Pg,Bal.enc→PC,Part.enc→PI,Ser.enc→PZ,Sess.enc→Qe,State→Qg,Rate.enc→Qk,Ref.zero→Qr,Posted.encW→QX,State.zero→Rc,Date.enc→Rz,Own.wput→RQ,State.new→Sg,Rate→Tn,Part→TX,Sess→Uj,Own.wide→UD,Own.apart→UE,St.at→VM,Rd.cells→WE,St.at_get→Yo
open Int renaming lt_irrefl→OZ,toNat_natCast→Pn,eq_ofNat_of_zero_le→Qx,le_refl→TT
open Option.some renaming inj→Qz
open Ne renaming symm→SJ
open Go.IntKind renaming i64→J,u8→ω
section
namespace Go.Proofs.YtoaibmbldmckaaaGreat
open Go.AM Tryz
section
structure Stg (S X:St) (q a:Nat) (row cs:On V):Prop where
 w:WF S
 ext:Ext S X
 lq:S.next<=q
 la:S.next<=a
 ne:a≠q
 rq:X.heap.get q=Ot (.row 0 6 [row])
 ra:X.heap.get a=Ot (.row 0 3 [cs])
section
variable{S X:St}{q a:Nat}{row cs:On V}
theorem Stg.wf(h:Stg S X q a row cs):WF X:=h.ext.wf h.w
theorem Stg.qlt(h:Stg S X q a row cs):q<X.next:=h.wf _ _ h.rq
theorem Stg.alt(h:Stg S X q a row cs):a<X.next:=h.wf _ _ h.ra
theorem Stg.put(h:Stg S X q a row cs)(dg:On V):Stg S ⟨X.next,X.heap.put q (.row 0 6 [dg])⟩ q a dg cs:=
 ⟨h.w,h.ext.put h.lq h.qlt (Ov _) h.w _,h.lq,h.la,h.ne,Ox _ _ _ trivial,(OJ _ _ _ _ trivial h.ne).trans h.ra⟩
theorem Stg.at(h:Stg S X q a row cs){ef:On V}{X':St}(e:Ext (VM X a ef) X'):Stg S X' q a row ef:=
 ⟨h.w,(h.ext.put h.la h.alt (Ov _) h.w _).trans e,h.lq,h.la,h.ne,e.old _ _ ((OJ _ _ _ _ trivial h.ne.symm).trans h.rq),e.old _ _ (Yo _ _ _)⟩
theorem Stg.ownP(h:Stg S X q a row cs){n:Nat}{v:V}{es:On (On V)}{S0:St}(o:Own S0 X n v es)(hn:6≠n)(dg:On V):Own S0 ⟨X.next,X.heap.put q (.row 0 6 [dg])⟩ n v es:=RQ o h.rq hn (Ov _) _
theorem Stg.ownA(h:Stg S X q a row cs){n:Nat}{v:V}{es:On (On V)}{S0:St}(o:Own S0 X n v es)(hn:3≠n){ef:On V}{X':St}(e:Ext (VM X a ef) X'):Own S0 X' n v es:=(RQ o h.ra hn (Ov _) _).ext e
theorem Stg.plP(h:Stg S X q a row cs){us:On V}{l:On OT}{S0:St}(o:PL S0 X us l)(dg:On V):PL S0 ⟨X.next,X.heap.put q (.row 0 6 [dg])⟩ us l:=o.wput h.rq (by decide) (Ov _) _
theorem Stg.plA(h:Stg S X q a row cs){us:On V}{l:On OT}{S0:St}(o:PL S0 X us l){ef:On V}{X':St}(e:Ext (VM X a ef) X'):PL S0 X' us l:=(o.wput h.ra (by decide) (Ov _) _).move λ_ _ _ _ _ o=>o.ext e
end
theorem PL.weak{S0 X A:St}{us:On V}{l:On OT}(h:PL S0 X us l)(hA:A.next<=S0.next):PL A X us l:=h.move λ_ _ _ _ _ o=>o.weaken hA
theorem Got.put{X:St}{v:V}{s:Qg}(h:Got X v s){y ver:Nat}{el:On (On V)}(hy:X.heap.get y=Ot (.row ver 6 el))(bl:Blk):Got ⟨X.next,X.heap.put y bl⟩ v s:=by
 obtain⟨tv,sv,pv,bv,cv,us,h1,h2,h3,h4,h5,h6,h7⟩:=h.is;exact⟨tv,sv,pv,bv,cv,us,h1,RQ h2 hy (by decide) (Ov _) _,RQ h3 hy (by decide) (Ov _) _,RQ h4 hy (by decide) (Ov _) _,h5.wput hy (by decide) (Ov _) _,h6,RQ h7 hy (by decide) (Ov _) _⟩
theorem aV2(b:On OP)(r:Rd):(gV b 64 r).1.length<=64:=by
 unfold gV;split
 ·rename_i h
  have:=aBj h
  split
  ·exact PS _
  ·rw[List.length_take];omega
 ·exact PS _
theorem aGi{α:Type}(f:Rd->α×Rd):∀(n:Nat) (r:Rd),(aJ f n r).1.length<=n
 | 0,r=>Ov _
 | n+1,r=>by
  unfold aJ;split
  ·simpa using aGi f n (f r).2
  ·exact PS _
theorem lC{α:Type}(f:Rd->α×Rd):∀(n:Nat) (r:Rd) (a:α),a∈(aJ f n r).1->∃r',a=(f r').1
 | 0,r,a,h=>by cases h
 | n+1,r,a,h=>by
  unfold aJ at h;split at h
  ·rcases List.mem_cons.1 h with h | h
   ·exact⟨r,h⟩
   ·exact lC f n _ a h
  ·cases h
theorem mR{α:Type}(b:On OP)(f:Rd->α×Rd)(most:Nat)(r:Rd):(aS b f most r).1.length<=most:=by
 unfold aS
 have:=(iK (b:=b) (r:=r) (most:=most) (by omega) fP).2
 have:=aGi f (cB b most r).1.toNat (cB b most r).2
 omega
theorem aSx(b:On OP)(r:Rd):oP (dA b r).1.total:=by
 refine⟨mR b (fA b) 12 _,λq hq=>?_⟩;obtain⟨r',rfl⟩:=lC _ _ _ _ hq
 have:(fA b r').1.cat.length<=64:=aV2 b r'
 omega
theorem bXh{b:On OP}(hb:b.length<1000000000){r:Rd}(hr:r.pos<=b.length){X:St}{a:Nat}(hX:X.heap.get a=Ot (.row 0 3 [r.cells b]))(K:KW):C 69 [.ptr a 0 0 0] X K=K (O J (aZ b r).1) (VM X a ((aZ b r).2.cells b)):=(r69 hb hr).eq hX K
theorem bXi{b:On OP}{r:Rd}{X:St}{a:Nat}(hX:X.heap.get a=Ot (.row 0 3 [r.cells b]))(K:KW):C 70 [.ptr a 0 0 0] X K=K (O J (lI b r).err) (VM X a ((lI b r).cells b)):=r70.eq hX K
theorem g20{b:On OP}(hb:b.length<1000000000){S:St}(w:WF S){v:V}(he:aK S v=.ok (b.map fX)){K:KW}
  (H:∀X u,Ext S X->Got X u (iI b).1->K (.tup [u,O J (iI b).2]) X):C 20 [v] S K:=by
 refine v20 ?_;obtain⟨S1,av⟩:∃S1:St,S1=⟨S.next+1,S.heap.put S.next (.row 0 6 [[.nils,.nils,.nils,.nils,.nils,O J 0]])⟩:=⟨_,rfl⟩;have x1:Ext S S1:=by rw[av];exact Rg w _
 delta Tryz.f20;simp only[↓cw,↓Oo,Om,kk,<-av];refine bX1 hb (x1.wf w) (x1.elems he) λa T xT ha haT hz vh=>?_;obtain⟨T',xd⟩:∃T':St,T'=⟨T.next+1,T.heap.put T.next (.row 0 6 [[.nils,.nils,.nils,.nils,.nils,O J 0]])⟩:=⟨_,rfl⟩;have CD:Ext T T':=by rw[xd];exact Rg (xT.wf (x1.wf w)) _
 simp only[<-xd];obtain⟨Y,hYn,wY,hY,vh⟩:=vh T' CD;obtain⟨q,hq⟩:∃q,q=T.next:=⟨_,rfl⟩;have n1:S1.next=S.next+1:=by rw[av]
 have nT:T'.next=T.next+1:=by rw[xd]
 have nx:=xT.next;have w1:=x1.wf w;have xS:Ext S1 T':=xT.trans CD;have xY:Ext S1 Y:=⟨λy c hy=>by have:=w1 y c hy;rw[hY y (.inl (by omega))];exact xS.old y c hy,by omega,λ_=>wY⟩;have qY:Y.heap.get q=Ot (.row 0 6 [[.nils,.nils,.nils,.nils,.nils,O J 0]]):=by rw[hq,hY T.next (.inr (Ov _)),xd];exact Ox _ _ _ trivial
 rw[<-hq];have gI:iI b=(if(uR b ⟨0,0⟩).2.err=0 then(if(uR b ⟨0,0⟩).2.pos<b.length then(Rc,(5:Int)) else match sU (uR b ⟨0,0⟩).1 with
  | none=>(Rc,4)
  | some s=>if bB s=OB then(s,0) else(Rc,4)) else(Rc,(uR b ⟨0,0⟩).2.err)):=aJ9 b
 unfold uR at gI;refine bWt hb (S:=Y) (by omega) (PS _:(⟨0,0⟩:Rd).pos<=b.length) wY (vh 24) λtv X1 e1 o1 p1=>?_;generalize aS b (eE b) 24 ⟨0,0⟩=m1 at e1 o1 p1 gI|-
 obtain⟨tab,r1⟩:=m1;simp only at e1 o1 p1 gI|-
 have s1:Stg S1 X1 q a [.nils,.nils,.nils,.nils,.nils,O J 0] (r1.cells b):=by
  have As:q≠a:=by omega
  exact⟨w1,(xY.put (a:=a) (m:=Y.next) (by omega) (by omega) (Ov _) w1 _).trans e1,by omega,by omega,by omega,e1.old _ _ ((OJ _ _ _ _ trivial As).trans qY),e1.old _ _ (Yo _ _ _)⟩
 have t1:=o1.weaken (A:=S1) (by show S1.next<=Y.next;omega);have t1c:=t1.cells;have t1o:=t1.one;have q1:=aF s1.rq;simp only[↓cw,↓Oo,Om,kk,q1,t1c,t1o];have BO:=s1.put [tv,.nils,.nils,.nils,.nils,O J 0];have Ak:=s1.ownP t1 (by decide) [tv,.nils,.nils,.nils,.nils,O J 0];generalize (⟨X1.next,X1.heap.put q (.row 0 6 [[tv,.nils,.nils,.nils,.nils,O J 0]])⟩:St)=X1' at BO Ak|-
 refine g63 hb BO.alt p1 BO.wf BO.ra λsv X2 e2 o2 p2=>?_;have CE:=mR b (eF b) 8 r1;rw[show((8:Nat):Int)=8 from rfl] at CE;generalize aS b (eF b) 8 r1=m2 at e2 o2 p2 gI CE|-
 obtain⟨ser,r2⟩:=m2;simp only at e2 o2 p2 gI CE|-
 have s2:=BO.at e2;have t2:=BO.ownA Ak (by decide) e2;have v2:=o2.weaken (A:=S1) BO.ext.next;have v2c:=v2.cells;have v2o:=v2.one;have q2:=aF s2.rq;simp only[↓cw,↓Oo,Om,kk,q2,v2c,v2o];have yw:=s2.put [tv,sv,.nils,.nils,.nils,O J 0];have LU:=s2.ownP t2 (by decide) [tv,sv,.nils,.nils,.nils,O J 0];have IN:=s2.ownP v2 (by decide) [tv,sv,.nils,.nils,.nils,O J 0];generalize (⟨X2.next,X2.heap.put q (.row 0 6 [[tv,sv,.nils,.nils,.nils,O J 0]])⟩:St)=X2' at yw LU IN|-
 have jv:=mR b (dA b) 40 r2;have lg:∀p∈(aS b (dA b) 40 r2).1,oP p.total:=λp hp=>by
  obtain⟨r',rfl⟩:=lC _ _ _ _ hp;exact aSx b r'
 rw[show((40:Nat):Int)=40 from rfl] at jv;refine g65 hb yw.alt p2 yw.wf yw.ra λpv us X3 e3 o3 yu p3=>?_;generalize aS b (dA b) 40 r2=m3 at e3 o3 yu p3 gI jv lg|-
 obtain⟨pst,r3⟩:=m3;simp only at e3 o3 yu p3 gI jv lg|-
 have s3:=yw.at e3;have t3:=yw.ownA LU (by decide) e3;have v3:=yw.ownA IN (by decide) e3;have u3:=o3.weaken (A:=S1) yw.ext.next;have sep:∀(i:Nat) (u:V) (y:Nat),us[i]?=Ot u->AM.blkOf u=Ot y->AM.blkOf sv≠Ot y:=by
  intro i u y hu hy e;have hi:i<pst.length:=by rw[<-yu.len];exact(Oq.1 hu).1
  have h1:X2'.next<=y:=(cE (yu.own i u _ hu (OF hi)) hy).1;have h2:=(cE IN e).2;omega
 have l3:=yu.weak (A:=S1) yw.ext.next;have u3c:=u3.cells;have u3o:=u3.one;have q3:=aF s3.rq;simp only[↓cw,↓Oo,Om,kk,q3,u3c,u3o];have xe:=s3.put [tv,sv,pv,.nils,.nils,O J 0];have LV:=s3.ownP t3 (by decide) [tv,sv,pv,.nils,.nils,O J 0];have LW:=s3.ownP v3 (by decide) [tv,sv,pv,.nils,.nils,O J 0];have LX:=s3.ownP u3 (by decide) [tv,sv,pv,.nils,.nils,O J 0];have LY:=s3.plP l3 [tv,sv,pv,.nils,.nils,O J 0];generalize (⟨X3.next,X3.heap.put q (.row 0 6 [[tv,sv,pv,.nils,.nils,O J 0]])⟩:St)=X3' at xe LV LW LX LY|-
 refine g67 hb xe.alt p3 xe.wf xe.ra λcv X4 e4 o4 p4=>?_;generalize aS b (eU b) 8 r3=m4 at e4 o4 p4 gI|-
 obtain⟨ses,r4⟩:=m4;simp only at e4 o4 p4 gI|-
 have s4:=xe.at e4;have t4:=xe.ownA LV (by decide) e4;have v4:=xe.ownA LW (by decide) e4;have u4:=xe.ownA LX (by decide) e4;have l4:=xe.plA LY e4;have c4:=o4.weaken (A:=S1) xe.ext.next;have c4c:=c4.cells;have c4o:=c4.one;have q4:=aF s4.rq;simp only[↓cw,↓Oo,Om,kk,q4,c4c,c4o];have Ay:=s4.put [tv,sv,pv,.nils,cv,O J 0];have LZ:=s4.ownP t4 (by decide) [tv,sv,pv,.nils,cv,O J 0];have Ma:=s4.ownP v4 (by decide) [tv,sv,pv,.nils,cv,O J 0];have Mb:=s4.ownP u4 (by decide) [tv,sv,pv,.nils,cv,O J 0];have Mc:=s4.ownP c4 (by decide) [tv,sv,pv,.nils,cv,O J 0];have Md:=s4.plP l4 [tv,sv,pv,.nils,cv,O J 0];generalize (⟨X4.next,X4.heap.put q (.row 0 6 [[tv,sv,pv,.nils,cv,O J 0]])⟩:St)=Me at Ay LZ Ma Mb Mc Md|-
 have p5:=aO p4;simp only[bXh hb p4 Ay.ra];generalize aZ b r4=m5 at gI p5|-
 obtain⟨nx,r5⟩:=m5;simp only at gI p5|-
 have e5:=Tm (VM Me a (r5.cells b));have s5:=Ay.at e5;have t5:=Ay.ownA LZ (by decide) e5;have v5:=Ay.ownA Ma (by decide) e5;have u5:=Ay.ownA Mb (by decide) e5;have c5:=Ay.ownA Mc (by decide) e5;have l5:=Ay.plA Md e5;generalize VM Me a (r5.cells b)=X5 at s5 t5 v5 u5 c5 l5|-
 have q5:=aF s5.rq;simp only[↓cw,↓Oo,Om,kk,q5];have Az:=s5.put [tv,sv,pv,.nils,cv,O J nx];have Mf:=s5.ownP t5 (by decide) [tv,sv,pv,.nils,cv,O J nx];have Mg:=s5.ownP v5 (by decide) [tv,sv,pv,.nils,cv,O J nx];have Mh:=s5.ownP u5 (by decide) [tv,sv,pv,.nils,cv,O J nx];have Mi:=s5.ownP c5 (by decide) [tv,sv,pv,.nils,cv,O J nx];have Mj:=s5.plP l5 [tv,sv,pv,.nils,cv,O J nx];generalize (⟨X5.next,X5.heap.put q (.row 0 6 [[tv,sv,pv,.nils,cv,O J nx]])⟩:St)=Mk at Az Mf Mg Mh Mi Mj|-
 simp only[bXi Az.ra];have e6:=Tm (VM Mk a ((lI b r5).cells b));have s6:=Az.at e6;have t6:=Az.ownA Mf (by decide) e6;have v6:=Az.ownA Mg (by decide) e6;have u6:=Az.ownA Mh (by decide) e6;have c6:=Az.ownA Mi (by decide) e6;have l6:=Az.plA Mj e6;generalize VM Mk a ((lI b r5).cells b)=X6 at s6 t6 v6 u6 c6 l6|-
 have hE:(lI b r5).err=if r5.err=0 then(if r5.pos<b.length then 5 else 0) else r5.err:=by
  unfold lI;split
  ·split
   ·rfl
   ·assumption
  ·rfl
 rw[hE];have rS:X6.heap.get S.next=Ot (.row 0 6 [[.nils,.nils,.nils,.nils,.nils,O J 0]]):=s6.ext.old _ _ (by rw[av];exact Ox _ _ _ trivial);have hSq:S.next≠q:=by omega
 have fail:∀(X:St) (e:Int),Ext S1 X->X.heap.get S.next=Ot (.row 0 6 [[.nils,.nils,.nils,.nils,.nils,O J 0]])->iI b=(Rc,e)->K (.tup [.agg [.nils,.nils,.nils,.nils,.nils,O J 0],O J e]) ⟨X.next,X.heap.put S.next (.row 0 6 [[.nils,.nils,.nils,.nils,.nils,O J 0]])⟩:=by
  intro X e x hr hg
  have:=H ⟨X.next,X.heap.put S.next (.row 0 6 [[.nils,.nils,.nils,.nils,.nils,O J 0]])⟩ _ ((x1.trans x).put (Ov _) (by have:=x.next;omega) (Ov _) w _) (by rw[hg];exact Got.zero _)
  rw[hg] at this;exact this
 by_cases h5:r5.err=0;rotate_left
 ·rw[Oz h5] at gI|-
  simp only[↓cw,↓Oo,Om,kk,h5,OL,Oy,aF rS,aA];exact fail X6 _ s6.ext rS gI
 rw[OE h5] at gI|-
 by_cases h6:r5.pos<b.length
 ·rw[OE h6] at gI|-
  simp only[↓cw,↓Oo,Om,kk,show¬((5:Int)=0) by decide,OL,Oy,aF rS,aA];exact fail X6 _ s6.ext rS gI
 rw[Oz h6] at gI|-
 simp only[↓cw,↓Oo,Om,kk,OK,Ou];have f0:FL X6 X6 q tv sv pv cv nx us ser pst .nils:=⟨s6.wf,Ov _,s6.rq,v6.weaken (PS _),u6.weaken (PS _),l6.weak (PS _),sep,λy b h _ _ _ _=>h⟩;have z6:S.next<S1.next:=by omega
 have bV:∀y,AM.blkOf sv=Ot y->S1.next<=y:=λy hy=>(cE v6 hy).1;have bU:∀y,AM.blkOf pv=Ot y->S1.next<=y:=λy hy=>(cE u6 hy).1;have bL:∀(i:Nat) (u:V) (y:Nat),us[i]?=Ot u->AM.blkOf u=Ot y->S1.next<=y:=λi u y hu hy=>by
  have hi:i<pst.length:=by rw[<-l6.len];exact(Oq.1 hu).1
  exact(cE (l6.own i u _ hu (OF hi)) hy).1
 have kS:∀{X:St},FK X6 X q sv pv us->Ext S1 X/\X.heap.get S.next=Ot (.row 0 6 [[.nils,.nils,.nils,.nils,.nils,O J 0]]):=by
  intro X k;have BM:∀y c,y<S1.next->X6.heap.get y=Ot c->X.heap.get y=Ot c:=λy c hy hc=>k.keep y c hc (by omega) (λe=>by have:=bV y e;omega) (λe=>by have:=bU y e;omega) (λi u hu e=>by have:=bL i u y hu e;omega);exact⟨⟨λy c hy=>BM y c (w1 y c hy) (s6.ext.old y c hy),QC s6.ext.next k.nxt,λ_=>k.wf⟩,BM _ _ z6 rS⟩
 refine g71 (s:=⟨tab,ser,pst,[],ses,nx⟩) f0 CE jv lg (λs' bv X hf f gh=>?_) λX hf k=>?_;rotate_left
 ·obtain⟨xX,rX⟩:=kS k;rw[hf] at gI;simp only[↓cw,↓Oo,Om,kk,aF rX,aA];exact fail X 4 xX rX gI
 rw[hf] at gI;simp only at gI;obtain⟨xX,rX⟩:=kS f.fk;have gp:s'.table=tab/\s'.sess=ses/\s'.next=nx:=by
  rw[tA] at hf;split at hf
  ·cases hf
  ·split at hf
   ·cases hf;exact⟨rfl,rfl,rfl⟩
   ·cases hf
 have o5:∀{v:V} {es:On (On V)},Own S1 X6 5 v es->Own E0 X 5 v es:=by
  intro v es o;refine(o.weaken (A:=E0) (PS _)).same f.nxt λy hy=>?_;obtain⟨ver,tl,_,hg⟩:=Own.blk o hy;rw[hg];exact f.keep y _ hg (λe=>UD o s6.rq (by decide) (e▸hy)) (λe=>UE (by decide) o v6 hy e) (λe=>UE (by decide) o u6 hy e) λi u hu e=>by
   have hi:i<pst.length:=by rw[<-l6.len];exact(Oq.1 hu).1
   exact UE (by decide) o (l6.own i u _ hu (OF hi)) hy e
 have got:Got X (.agg [tv,sv,pv,bv,cv,O J nx]) s':=⟨tv,sv,pv,bv,cv,us,by rw[gp.2.2],by rw[gp.1];exact o5 t6,f.os,f.op,f.pl,gh,by rw[gp.2.1];exact o5 c6⟩;have lf:=λK':KW=>(WC (λS K=>g24 s' S K)).frz bJn (by simp only[Tl,nK,aU (enc:=Qk) (λ_=>rfl),aU (enc:=PZ) (λ_=>rfl),aU (enc:=Pg) (λ_=>rfl),aU (enc:=PC) (λ_=>rfl),aU (enc:=Qe) (λ_=>rfl),QG]) (args:=[.agg [tv,sv,pv,bv,cv,O J nx]]) (S:=X) (by simp only[Sm,got.frz]) (by simp only[TC,got.ptr,OS]) (.inl rfl) K';simp only[↓cw,↓Oo,Om,kk,aF f.row,lf];cases hr:bB s'
 ·simp only[hr,OO,Ou] at gI;simp only[↓cw,↓Oo,Om,kk,hr,aF rX,aA];exact fail X 4 xX rX gI
 ·simp only[hr,Oy] at gI;simp only[↓cw,↓Oo,Om,kk,hr,aF rX,aF f.row,aA];have b1:bv.one=true:=by rcases gh with rfl | ⟨rfl,_⟩<;>rfl
  have b2:=(o5 t6).one;have b3:=f.os.one;have b4:=f.op.one;have b5:=(o5 c6).one;simp only[↓cw,↓Oo,Om,kk,b1,b2,b3,b4,b5,aA]
  have:=H ⟨X.next,X.heap.put S.next (.row 0 6 [[tv,sv,pv,bv,cv,O J nx]])⟩ (.agg [tv,sv,pv,bv,cv,O J nx]) ((x1.trans xX).put (Ov _) (by have:=xX.next;omega) (Ov _) w _) (by rw[gI];exact got.put rX _)
  rw[gI] at this;exact this
end
theorem bXj:lS 25=Ot (.spec (Sp.told.run prog)):=by kernel_rfl
theorem g25(S:St)(K:KW):C 25 [] S K=K (.bool OB) S:=aOj bXj rfl K
structure After (s:Qg):Prop where
 beh:Beh s
 rep:RepI s
theorem After.new:After Sg:=⟨Beh.new,RepI.new⟩
theorem After.play{s:Qg}(h:After s)(l:On Call):After (playM s l).1:=⟨h.beh.playM l,RepI.playM h.beh h.rep l⟩
theorem After.img{s:Qg}(h:After s):ImgOK s:=ImgOK.of (aZz h.beh.right h.beh.ints h.rep)
theorem State.clo(s:Qg):Tl [.agg [.imm (s.table.map Qk),.imm (s.ser.map PZ),.imm (s.posted.map Pg),.imm (s.book.map PC),.imm (s.sess.map Qe),O J s.next]]=true:=by
 simp only[Tl,nK,aU (enc:=Qk) (λ_=>rfl),aU (enc:=PZ) (λ_=>rfl),aU (enc:=Pg) (λ_=>rfl),aU (enc:=PC) (λ_=>rfl),aU (enc:=Qe) (λ_=>rfl),QG]
theorem bXk{ρ:Nat->Ow Nat}{σ:V->R V}{a b a' b':V}(h:cP ρ σ a=.ok a')(k:cP ρ σ b=.ok b'):Sm ρ σ [a,b]=.ok [a',b']:=by simp only[Sm,h,k]
theorem bQ7{a b:V}(h:pJ a=[])(k:pJ b=[]):TC [a,b]=[]:=by simp only[TC,h,k,OS]
theorem State.clo'(s:Qg):nK (.agg [.imm (s.table.map Qk),.imm (s.ser.map PZ),.imm (s.posted.map Pg),.imm (s.book.map PC),.imm (s.sess.map Qe),O J s.next])=true:=by
 have:=State.clo s
 simpa only[Tl,QQ] using this
theorem bXl:lS 22=Ot (.val (dD [])):=by kernel_rfl
end Go.Proofs.YtoaibmbldmckaaaGreat
end
section
namespace Go.Proofs.YtoaibmbldmckaaaGreat
open Go.AM Go.Pack Tryz
def kO(l:On OT)(r:Ref):On Posted:=l.map λq=>if q.ref=r then{ q with back:=OB } else q
structure FillD where
 ser:On Ser
 done:On OT
 book:On Bal
def bW(st:FillD)(p:OT):Ow FillD⊕FillD:=
 if cD st.ser p.ref.ser<0 then .inl OG else match sT p.total with
 | none=>.inl OG
 | some t=>match st.ser[(cD st.ser p.ref.ser).toNat]? with
  | none=>.inl OG
  | some x=>if(bQ t).2≠0 then .inl OG else if(aV st.book (bQ t).1).2≠0 then .inl OG else
   .inr ⟨st.ser.set (cD st.ser p.ref.ser).toNat { x with next:=wr J (x.next+1) },kO st.done p.of++[{ p with ref:=⟨p.ref.ser,x.next⟩,total:=t }],(aV st.book (bQ t).1).1⟩
def wU(s:Qg):Ow State:=match aD bW Ot s.posted ⟨s.ser,[],[]⟩ with
 | none=>OG
 | some r=>Ot { s with ser:=r.ser,posted:=r.done,book:=r.book }
theorem bAk(l:On OT)(r:Ref):(kO l r).map gQ=l.map gQ:=by
 unfold kO;rw[List.map_map];refine Xp λq _=>?_;show gQ (if q.ref=r then{ q with back:=OB } else q)=gQ q;split<;>rfl
theorem aGj{l:On OT}{r:Ref}(h:aY l r<0):kO l r=l:=by
 unfold kO
 conv=>rhs;rw[<-List.map_id l]
 refine Xp λq hq=>?_
 have:=aSb h q hq
 rw[Oz (by simpa using this)];rfl
theorem aV3{l:On OT}{r:Ref}(hp:l.Pairwise λa b=>a.ref≠b.ref)(h:0<=aY l r):kO l r=cW l (aY l r).toNat:=by
 rcases iQ l r with e | ⟨i,s,e,hi,hs⟩
 ·omega
 rw[e,Pn];unfold cW kO;rw[hi];apply RN;intro j;rw[Pc,Qi];by_cases c:i=j
 ·subst c;rw[OE rfl,OE (Oq.1 hi).1,hi,Rv,OE hs]
 ·rw[Oz c];cases hj:l[j]? with
  | none=>rfl
  | some q=>
   rw[Rv,Oz];obtain⟨li,ei⟩:=Oq.1 hi;obtain⟨lj,ej⟩:=Oq.1 hj;rcases Nat.lt_or_gt_of_ne c with h' | h'
   ·have:=Ta.1 hp i j li lj h'
    rw[ei,ej,hs] at this
    exactλe=>this e.symm
   ·have:=Ta.1 hp j i lj li h'
    rw[ei,ej,hs] at this;exact this
theorem aCc{l:On Ser}{k:Nat}{x:Ser}(hk:l[k]?=Ot x)(n:Int)(nm:On OP):cD (l.set k { x with next:=n }) nm=cD l nm:=by
 have h:∀l:On Ser,cD l nm=ixM (λa:On OP=>a == nm) (l.map (·.name)):=λl=>by
  unfold cD;rw[<-aRw]
 rw[h,h]
 congr 1
 apply RN;intro j;rw[Pc,Pc,Qi];split
 ·rename_i e;subst e;rw[OE (Oq.1 hk).1,hk];rfl
 ·rfl
structure FInv (ser:On Ser) (done:On OT):Prop where
 nx:∀(k:Nat) (s:Ser),ser[k]?=Ot s->1<=s.next/\s.next<=(done.length:Int)+1
 ge:∀q∈done.map gQ,1<=q.ref.num/\∃(k:Nat) (s:Ser),cD ser q.ref.ser=(k:Int)/\ser[k]?=Ot s/\q.ref.num<s.next
 ne:(done.map gQ).Pairwise λa b=>a.ref≠b.ref
theorem FInv.pw{ser:On Ser}{done:On OT}(h:FInv ser done):done.Pairwise λa b=>a.ref≠b.ref:=by
 have:=h.ne
 rw[List.pairwise_map] at this;exact this
theorem FInv.nz{ser:On Ser}{done:On OT}(h:FInv ser done):aY done Qr<0:=by
 rcases iQ done Qr with e | ⟨i,s,e,hi,hs⟩
 ·omega
 ·have:=(h.ge (gQ s) (Pv.2 ⟨s,OM hi,rfl⟩)).1
  have e':(gQ s).ref=Qr:=hs;rw[e'] at this;exact absurd this (by decide)
theorem FInv.step{ser:On Ser}{done cm:On OT}(h:FInv ser done)(hn:done.length<1000){p q:OT}{x:Ser}(h0:¬cD ser p.ref.ser<0)(hx:ser[(cD ser p.ref.ser).toNat]?=Ot x)(hd:cm.map gQ=done.map gQ)(hq:q.ref=⟨p.ref.ser,x.next⟩):
  FInv (ser.set (cD ser p.ref.ser).toNat { x with next:=wr J (x.next+1) }) (cm++[q]):=by
 obtain⟨b1,b2⟩:=h.nx _ _ hx;have hl:cm.length=done.length:=by have:=Qo TN hd;simpa using this
 have hw:wr J (x.next+1)=x.next+1:=fB (by omega) (by omega);rw[hw];obtain⟨k,hk⟩:∃k:Nat,cD ser p.ref.ser=(k:Int):=⟨(cD ser p.ref.ser).toNat,by omega⟩;rw[hk,Pn] at hx|-
 have dw:=(Oq.1 hx).1;have hge:∀r∈done.map gQ,r.ref≠⟨p.ref.ser,x.next⟩:=by
  intro r hr e;obtain⟨g1,k',s',g2,g3,g4⟩:=h.ge r hr;rw[e] at g2 g4;have g2:cD ser p.ref.ser=(k':Int):=g2
  have:k=k':=by omega
  subst this;rw[hx] at g3;cases g3;exact absurd g4 (OZ _)
 refine⟨λj s hj=>?_,λr hr=>?_,?_⟩
 ·rw[OC,hl];show _/\_<=(((done.length+1:Nat)):Int)+1;rw[Qi] at hj;split at hj
  ·cases hj;simp only;omega
  ·have:=h.nx _ _ hj
   omega
 ·rw[PK,Qf,hd] at hr;rcases hr with hr | hr
  ·obtain⟨g1,k',s',g2,g3,g4⟩:=h.ge r hr;refine⟨g1,k',?_⟩;by_cases c:k=k'
   ·subst c;rw[hx] at g3;cases g3;refine⟨_,?_,by rw[Qi,OE rfl,OE dw],?_⟩
    ·rw[aCc hx];exact g2
    ·simp only;omega
   ·refine⟨s',?_,by rw[Qi,Oz c];exact g3,g4⟩;rw[aCc hx];exact g2
  ·rcases PR.1 hr with rfl;have e:(gQ q).ref=⟨p.ref.ser,x.next⟩:=hq;rw[e];refine⟨b1,k,_,?_,by rw[Qi,OE rfl,OE dw],?_⟩
   ·rw[aCc hx];exact hk
   ·simp only;omega
 ·rw[PK,hd,List.pairwise_append];refine⟨h.ne,List.pairwise_singleton _ _,λa ha b hb=>?_⟩;rcases PR.1 hb with rfl;have e:(gQ q).ref=⟨p.ref.ser,x.next⟩:=hq;rw[e];exact hge a ha
theorem aPy(l l':On OT)(b:On Bal)(h:l.map gQ=l'.map gQ):aD aP (λb=>(b,(0:Int))) l b=aD aP (λb=>(b,(0:Int))) l' b:=by
 rw[<-lB l,h,lB]
theorem aDd:∀(l m:On OT) (b c:On Bal),aD aP (λb=>(b,(0:Int))) l b=(c,0)->aD aP (λb=>(b,(0:Int))) (l++m) b=aD aP (λb=>(b,(0:Int))) m c
 | [],m,b,c,h=>by cases h;rfl
 | p::l,m,b,c,h=>by
  simp only[PJ,aD] at h|-
  cases e:aP b p with
  | inl r=>
   rw[e] at h;have h:r=(c,0):=h;subst h;unfold aP at e;split at e
   ·rename_i h1;injection e with e
    injection e with _ e
    exact absurd e h1
   ·split at e
    ·rename_i h1;injection e with e
     injection e with _ e
     exact absurd e h1
    ·cases e
  | inr s=>rw[e] at h;exact aDd l m s c h
theorem aDe:∀(l m:On OT) (b:On Bal),(aD aP (λb=>(b,(0:Int))) (l++m) b).2=0->(aD aP (λb=>(b,(0:Int))) l b).2=0
 | [],m,b,h=>rfl
 | p::l,m,b,h=>by
  simp only[PJ,aD] at h|-
  cases e:aP b p with
  | inl r=>rw[e] at h;exact h
  | inr s=>rw[e] at h;exact aDe l m s h
theorem aJc:∀(l:On OT) (st r:On Ser×On OT),aD cH Ot l st=Ot r->∃t,r.2.map gQ=st.2.map gQ++t
 | [],st,r,h=>by cases h;exact⟨[],by simp⟩
 | p::l,st,r,h=>by
  simp only[aD] at h;have key:∀wz,cH st p=.inr wz->∃q,wz.2.map gQ=st.2.map gQ++[q]:=by
   intro wz he;unfold cH at he
   repeat' split at he
   all_goals first | (cases he;done) | skip
   ·cases he;exact⟨_,by rw[PK];rfl⟩
   ·cases he;exact⟨_,by rw[PK,uJ];rfl⟩
  cases he:cH st p with
  | inl r'=>
   rw[he] at h
   have:r'=none:=by
    unfold cH at he
    repeat' split at he
    all_goals first | cases he;rfl | cases he
   rw[this] at h;cases h
  | inr wz=>
   rw[he] at h;obtain⟨q,hq⟩:=key wz he;obtain⟨t,ht⟩:=aJc l wz r h;exact⟨q::t,by rw[ht,hq,Pd];rfl⟩
theorem aGk:∀(l:On OT) (st r:FillD),aD bW Ot l st=Ot r->∃t,r.done.map gQ=st.done.map gQ++t
 | [],st,r,h=>by cases h;exact⟨[],by simp⟩
 | p::l,st,r,h=>by
  simp only[aD] at h;cases he:bW st p with
  | inl r'=>
   rw[he] at h
   have:r'=none:=by
    unfold bW at he
    repeat' split at he
    all_goals first | cases he;rfl | cases he
   rw[this] at h;cases h
  | inr wz=>
   rw[he] at h;have hq:∃q,wz.done.map gQ=st.done.map gQ++[q]:=by
    unfold bW at he
    repeat' split at he
    all_goals first | (cases he;done) | skip
    cases he;exact⟨_,by rw[PK,bAk];rfl⟩
   obtain⟨q,hq⟩:=hq;obtain⟨t,ht⟩:=aGk l wz r h;exact⟨q::t,by rw[ht,hq,Pd];rfl⟩
def Lost(l:On OT):Prop:=∃i p,l[i]?=Ot p/\p.of≠Qr/\aY (l.take i) p.of<0
theorem Lost.nb{l m:On OT}(h:Lost l){t:On OT}(e:m.map gQ=l.map gQ++t):Lost m:=by
 obtain⟨i,p,h1,h2,h3⟩:=h;obtain⟨hi,he⟩:=Oq.1 h1;have hm:(m.map gQ)[i]?=Ot (gQ p):=by
  rw[e,Pr (by rw[ON];exact hi),Pc,h1];rfl
 rw[Pc] at hm;cases hq:m[i]? with
 | none=>rw[hq] at hm;cases hm
 | some q=>
  rw[hq] at hm;have hm:gQ q=gQ p:=Qz hm;have ho:(gQ q).of=(gQ p).of:=Qo Posted.of hm;have ho:q.of=p.of:=ho;refine⟨i,q,hq,by rw[ho];exact h2,?_⟩;have et:(m.take i).map gQ=(l.take i).map gQ:=by
   rw[Se,Se,e,Rj (by rw[ON];omega)]
  rw[ho,<-sR,et,sR];exact h3
theorem Lost.wrong{s:Qg}(h:Lost s.posted):bB s=false:=by
 cases hr:bB s with
 | false=>rfl
 | true=>
  obtain⟨_,_,_,h4,_,_⟩:=(cJ s).1 hr;obtain⟨_,hO,_⟩:=(eO _).1 h4;obtain⟨i,p,h1,h2,h3⟩:=h;rcases(hO i p h1).2.2 with c | ⟨c,_⟩
  ·exact absurd c h2
  ·omega
def aL4(r:Ow (On Ser×On OT)):Ow FillD:=match r with
 | none=>OG
 | some r=>if(cL r.2).2=0 then Ot ⟨r.1,r.2,(cL r.2).1⟩ else OG
theorem aNo{done:On OT}(hb:(cL done).2≠0){l:On OT}{st:On Ser×On OT}(hd:st.2.map gQ=done.map gQ):aL4 (aD cH Ot l st)=none:=by
 cases h:aD cH Ot l st with
 | none=>rfl
 | some r=>
  obtain⟨t,ht⟩:=aJc l st r h;unfold aL4;simp only;rw[Oz];intro h0;refine hb ?_;unfold cL at h0|-
  rw[<-lB r.2,ht,hd] at h0;rw[<-lB done];exact aDe _ _ _ h0
theorem aJd:∀(l:On OT) (ser:On Ser) (done:On OT) (book:On Bal),FInv ser done->done.length+l.length<=1000->cL done=(book,0)->
  aL4 (aD cH Ot l (ser,done))=aD bW Ot l ⟨ser,done,book⟩\/(aL4 (aD cH Ot l (ser,done))=OG/\∃r,aD bW Ot l ⟨ser,done,book⟩=Ot r/\Lost r.done)
 | [],ser,done,book,hI,hn,hb=>by
  left
  simp only[aD,aL4,hb,Oy]
 | p::l,ser,done,book,hI,hn,hb=>by
  have qx:done.length<1000:=by simp only[OQ] at hn;omega
  by_cases c1:cD ser p.ref.ser<0
  ·have e1:cH (ser,done) p=.inl none:=by unfold cH;rw[OE c1]
   have e2:bW ⟨ser,done,book⟩ p=.inl none:=by unfold bW;rw[OE c1]
   simp only[aD,e1,e2];left;rfl
  cases c2:sT p.total with
  | none=>
   have e1:cH (ser,done) p=.inl none:=by unfold cH;simp only[Oz c1,c2]
   have e2:bW ⟨ser,done,book⟩ p=.inl none:=by unfold bW;simp only[Oz c1,c2]
   simp only[aD,e1,e2];left;rfl
  | some t=>
  cases c3:ser[(cD ser p.ref.ser).toNat]? with
  | none=>
   have e1:cH (ser,done) p=.inl none:=by unfold cH;simp only[Oz c1,c2,c3]
   have e2:bW ⟨ser,done,book⟩ p=.inl none:=by unfold bW;simp only[Oz c1,c2,c3]
   simp only[aD,e1,e2];left;rfl
  | some x=>
  obtain⟨q,hq⟩:∃q:OT,q={ p with ref:=⟨p.ref.ser,x.next⟩,total:=t }:=⟨_,rfl⟩;have hqr:q.ref=⟨p.ref.ser,x.next⟩:=by rw[hq]
  have hqt:q.total=t:=by rw[hq]
  have Ml:q.of=p.of:=by rw[hq]
  have BB:∀cm:On OT,cm.map gQ=done.map gQ->cL (cm++[q])=aD aP (λb=>(b,(0:Int))) [q] book:=by
   intro cm hd;unfold cL at hb|-
   rw[<-aDd done [q] [] book hb];exact aPy _ _ _ (by rw[PK,PK,hd])
  have lh:aD aP (λb=>(b,(0:Int))) [q] book=if(bQ t).2≠0 then([],(bQ t).2) else if(aV book (bQ t).1).2≠0 then([],(aV book (bQ t).1).2) else((aV book (bQ t).1).1,0):=by
   simp only[aD,aP,hqt];by_cases d1:(bQ t).2≠0
   ·rw[OE d1,OE d1]
   ·rw[Oz d1,Oz d1];by_cases d2:(aV book (bQ t).1).2≠0
    ·rw[OE d2,OE d2]
    ·rw[Oz d2,Oz d2]
  have e2:bW ⟨ser,done,book⟩ p=if(bQ t).2≠0 then .inl OG else if(aV book (bQ t).1).2≠0 then .inl OG else
   .inr ⟨ser.set (cD ser p.ref.ser).toNat { x with next:=wr J (x.next+1) },kO done p.of++[q],(aV book (bQ t).1).1⟩:=by
   unfold bW;simp only[Oz c1,c2,c3,hq]
  have go:∀cm:On OT,cm.map gQ=done.map gQ->kO done p.of=cm->cH (ser,done) p=.inr (ser.set (cD ser p.ref.ser).toNat { x with next:=wr J (x.next+1) },cm++[q])->
    aL4 (aD cH Ot (p::l) (ser,done))=aD bW Ot (p::l) ⟨ser,done,book⟩\/(aL4 (aD cH Ot (p::l) (ser,done))=OG/\∃r,aD bW Ot (p::l) ⟨ser,done,book⟩=Ot r/\Lost r.done):=by
   intro cm hd hm e1;have mj:=BB cm hd;rw[lh] at mj;have hlen:cm.length=done.length:=by have:=Qo TN hd;simpa using this
   simp only[aD,e1,e2];by_cases d1:(bQ t).2≠0
   ·rw[OE d1] at mj|-
    left
    exact aNo (done:=cm++[q]) (by rw[mj];exact d1) rfl
   ·rw[Oz d1] at mj|-
    by_cases d2:(aV book (bQ t).1).2≠0
    ·rw[OE d2] at mj|-
     left
     exact aNo (done:=cm++[q]) (by rw[mj];exact d2) rfl
    ·rw[Oz d2] at mj|-
     simp only[hm];exact aJd l _ _ _ (hI.step qx c1 c3 hd hqr) (by simp only[OC,OQ,Pf,hlen] at hn|-;omega) mj
  by_cases c4:p.of=Qr
  ·have hm:kO done p.of=done:=aGj (by rw[c4];exact hI.nz);exact go done rfl hm (by unfold cH;simp only[Oz c1,c2,c3,OE c4,hq])
  by_cases c5:aY done p.of<0
  ·have hm:kO done p.of=done:=aGj c5;have e1:cH (ser,done) p=.inl none:=by unfold cH;simp only[Oz c1,c2,c3,Oz c4,OE c5]
   simp only[aD,e1,e2,hm];have hL:Lost (done++[q]):=by
    refine⟨done.length,q,by simp,by rw[Ml];exact c4,?_⟩;rw[Ml];simpa using c5
   by_cases d1:(bQ t).2≠0
   ·rw[OE d1];left;rfl
   rw[Oz d1];by_cases d2:(aV book (bQ t).1).2≠0
   ·rw[OE d2];left;rfl
   rw[Oz d2];simp only;cases hr:aD bW Ot l ⟨ser.set (cD ser p.ref.ser).toNat { x with next:=wr J (x.next+1) },done++[q],(aV book (bQ t).1).1⟩ with
   | none=>left;rfl
   | some r=>
    right
    obtain⟨tl,ht⟩:=aGk _ _ _ hr;exact⟨rfl,r,rfl,hL.nb ht⟩
  ·have hm:kO done p.of=cW done (aY done p.of).toNat:=aV3 hI.pw (by omega);exact go _ (uJ _ _) hm (by unfold cH;simp only[Oz c1,c2,c3,Oz c4,Oz c5,hq])
end Go.Proofs.YtoaibmbldmckaaaGreat
end
section
namespace Go.Proofs.YtoaibmbldmckaaaGreat
open Go.AM Tryz
section
section
variable{S X:St}{q:Nat}{tv sv pv cv:V}{nx:Int}{us:On V}{ser:On Ser}{l:On OT}{bv:V}
theorem aNp{α:Type}:∀(l:On α) (i:Nat) (a:α),l[i]?=Ot a->l.set i a=l
 | [],i,a,h=>by simp at h
 | b::l,0,a,h=>by simp at h;simp[h]
 | b::l,i+1,a,h=>by simp at h;simp[aNp l i a h]
theorem FL.setU(h:FL S X q tv sv pv cv nx us ser l bv){i:Nat}{p:OT}(hp:l[i]?=Ot p){u:V}(hu:us[i]?=Ot u){k:Nat}{x:TX}(hk:p.total.parts[k]?=Ot x)(t:Int):
  ∃a ver,u=.sl a ver 4 0 p.total.parts.length/\fV 4 u (O J (k:Int))=.ok (.ptr a ver k 0)/\(∀c j m,fZ c (.ptr a ver k j) ⟨m,X.heap⟩=jB c x.enc j)/\∃X',eL 1 (.ptr a ver k 3) (O J t) X=.ok X'/\X'.next=X.next/\(∀y,y≠a->X'.heap.get y=X.heap.get y) /\
   FL S X' q tv sv pv cv nx us ser (l.set i { p with total:={ p.total with parts:=p.total.parts.set k { x with tax:=t } } }) bv:=by
 have ho:=h.pl.own i u p hu hp;have ai:=(Oq.1 hp).1;have dl:(p.total.parts.map PI)[k]?=Ot x.enc:=by rw[Pc,hk];rfl
 obtain⟨a,ver,q1,q2,q3,q4,q5,q6⟩:=ho.setK (rV h.wf) mB dl J;obtain⟨X',r1,_,r3,r4,r5,r6⟩:=q6 3 1 (O J t) rfl rfl (by decide);have qo:AM.blkOf u=Ot a:=by rw[q1];rfl
 have e4:(p.total.parts.map PI).set k (splice x.enc 3 (V.int J t).cells)=(p.total.parts.set k { x with tax:=t }).map PI:=by rw[RM];rfl
 rw[e4] at r4;refine⟨a,ver,by rw[q1,ON],q4,λc j m=>?_,X',r1,r3,r5,FL.mk (r6 h.wf) (by rw[r3];exact h.nxt) ?_ ?_ ?_ ?_ h.sep λy c h1 h2 h3 h4 h5=>?_⟩
 ·obtain⟨bd,tl,e1,e2⟩:=Own.blk ho qo;rw[q1] at e1;injection e1 with _ e1
  subst e1;exact ldR e2 (by rw[Pr (Oq.1 dl).1];exact dl) c j m
 ·rw[r5 q λe=>h.qu hu (e▸qo)];exact h.row
 ·exact h.os.same (by omega) λy hy=>r5 y λe=>h.sep i u y hu (e▸qo) hy
 ·have hz:Qc QX us (l.set i { p with total:={ p.total with parts:=p.total.parts.set k { x with tax:=t } } })=Qc QX us l:=by
   rw[<-aBk us l i u _ hu];have hz:(Qc QX us l)[i]?=Ot (p.encW u):=aEc hu hp;exact aNp (Qc QX us l) i (p.encW u) hz
  rw[hz];exact h.op.same (by omega) λy hy=>r5 y λe=>h.pu hu (e▸qo) hy
 ·refine PL.mk (by rw[Qm];exact h.pl.len) (λj v r h1 h2=>?_) h.pl.sep;by_cases e:i=j
  ·subst e;rw[hu] at h1;cases h1;rw[List.getElem?_set_self ai] at h2;cases h2;exact r4
  ·rw[List.getElem?_set_ne e] at h2;exact(h.pl.own j v r h1 h2).same (by omega) λy hy=>r5 y λe'=>e (h.pl.sep i j u v y hu h1 (e'▸qo) hy)
 ·rw[r5 y λe=>h5 i u hu (e▸qo)];exact h.keep y c h1 h2 h3 h4 h5
end
end
section
theorem bQ8:lS 117=Ot (.val (dD [])):=by kernel_rfl
theorem bQ9:lS 161=Ot (.val (dD [(5,[(0,[]),(1,[]),(2,[]),(3,[]),(4,[]),(5,[]),(8,[]),(9,[]),(10,[]),(11,[]),(12,[]),(13,[]),(6,[]),(7,[13]),(14,[]),(15,[]),(16,[]),(17,[])])])):=by kernel_rfl
theorem bXm{S0 X:St}{v:V}{l:On Ser}(o:Own S0 X 4 v (l.map PZ))(hb:l.length<1000000)(name:On OP)(K:KW):C 117 [v,.str name] X K=K (O J (cD l name)) X:=
 (WC λS K=>bIn l name hb S K).frz bQ8 (by simp only[Tl,nK,aU (enc:=PZ) (λ_=>rfl),QG]) (by simp only[Sm,cP,o.frz (aU (λ_=>rfl) _)]) (by simp only[TC,o.ptrs];rfl) (.inl rfl) K
theorem bXn{S0 X:St}{v:V}{l:On TX}(o:Own S0 X 4 v (l.map PI))(hl:l.length<100000)(K:KW):C 161 [v] X K=K (.tup [O J (eP l).1,O J (eP l).2.1,.bool (eP l).2.2]) X:=o.arg bQ9 (aU (λ_=>rfl) _) (λS K=>bPg l hl S K) rfl K
theorem aV4{ps:On TX}(hi:∀p∈ps,I64 p.net/\I64 p.tax)(hl:ps.length<=1000000):oV ps=if(eP ps).2.2=OB then(if(dH (eP ps).1 (eP ps).2.1).2=0 then Ot ⟨(eP ps).1,(eP ps).2.1,(dH (eP ps).1 (eP ps).2.1).1,ps⟩ else OG) else none:=by
 have h1:∀n∈ps.map (·.net),I64 n:=λn h=>by obtain⟨p,hp,rfl⟩:=Pv.1 h;exact(hi p hp).1
 have h2:∀n∈ps.map (·.tax),I64 n:=λn h=>by obtain⟨p,hp,rfl⟩:=Pv.1 h;exact(hi p hp).2
 unfold eP oV;simp only;rw[aEa h1 (by rw[ON];exact hl),aEa h2 (by rw[ON];exact hl)];by_cases c1:(cI (ps.map (·.net))).2=OB
 ·by_cases c2:(cI (ps.map (·.tax))).2=OB
  ·simp only[c1,c2,QG,Oy];have i1:I64 (cI (ps.map (·.net))).1:=by rw[(eN h1 (by rw[ON];exact hl)).1];exact rW _
   have i2:I64 (cI (ps.map (·.tax))).1:=by rw[(eN h2 (by rw[ON];exact hl)).1];exact rW _
   generalize (cI (ps.map (·.net))).1=a at i1|-
   generalize (cI (ps.map (·.tax))).1=b at i2|-
   rw[pD i1 i2];have hx:=eN (l:=[a,b]) (λn hn=>by simp at hn;rcases hn with rfl | rfl<;>assumption) (by simp);have hs:[a,b].sum=a+b:=by simp
   rw[hs] at hx;by_cases c5:I64 (a+b)
   ·rw[OE c5,OE (hx.2.2 c5),hx.1,eZ c5];rfl
   ·rw[Oz c5,Oz (λh=>c5 (hx.2.1 h))];rfl
  ·simp only[c1,c2,Bool.and_false,Oy,Ou,OO,Bool.true_and]
 ·simp only[c1,Bool.false_and,Ou,OO]
theorem iR(s:Qg):wU s=(match aD bW Ot s.posted ⟨s.ser,[],[]⟩ with
 | none=>OG
 | some r=>Ot { s with ser:=r.ser,posted:=r.done,book:=r.book }):=rfl
theorem tC{α:Type}{l:On α}{i:Nat}{a:α}(h:l[i]?=Ot a):l.drop i=a::l.drop (i+1):=by
 obtain⟨h1,h2⟩:=Oq.1 h;rw[<-h2];exact(List.getElem_cons_drop h1).symm
section
variable{S S0 X:St}{q:Nat}{tv sv pv cv:V}{nx:Int}{us:On V}{ser:On Ser}{l:On OT}{bv:V}
theorem FL.base(h:FL S X q tv sv pv cv nx us ser l bv)(x:Ext S0 S):FL S0 X q tv sv pv cv nx us ser l bv:=
 ⟨h.wf,QC x.next h.nxt,h.row,h.os,h.op,h.pl,h.sep,λy b hb h2 h3 h4 h5=>h.keep y b (x.old _ _ hb) h2 h3 h4 h5⟩
theorem FK.base(h:FK S X q sv pv us)(x:Ext S0 S):FK S0 X q sv pv us:=
 ⟨h.wf,QC x.next h.nxt,λy b hb h2 h3 h4 h5=>h.keep y b (x.old _ _ hb) h2 h3 h4 h5⟩
theorem FK.put(h:FK S X q sv pv us)(w:WF S){y:Nat}(hy:y<X.next)(hS:S.next<=y)(bl:Blk):FK S ⟨X.next,X.heap.put y bl⟩ q sv pv us:=
 ⟨gO (n:=X.next) h.wf hy (Ov _),h.nxt,λz b hb h2 h3 h4 h5=>(OJ _ _ _ _ trivial (by have:=w _ _ hb;omega)).trans (h.keep z b hb h2 h3 h4 h5)⟩
theorem FL.put(h:FL S X q tv sv pv cv nx us ser l bv)(w:WF S){y ver:Nat}{el:On (On V)}(hy:X.heap.get y=Ot (.row ver 6 el))(hyq:y≠q)(hS:S.next<=y)(bl:Blk):FL S ⟨X.next,X.heap.put y bl⟩ q tv sv pv cv nx us ser l bv:=
 ⟨(h.fk.put w (h.wf _ _ hy) hS bl).wf,h.nxt,(OJ _ _ _ _ trivial (SJ hyq)).trans h.row,RQ h.os hy (by decide) (Ov _) _,RQ h.op hy (by decide) (Ov _) _,h.pl.wput hy (by decide) (Ov _) _,h.sep,(h.fk.put w (h.wf _ _ hy) hS bl).keep⟩
end
def Posted.made(p:OT)(n:Int)(t:Total):Posted:=⟨⟨p.ref.ser,n⟩,p.day,t,p.of,p.back⟩
set_option maxHeartbeats 2000000 in
theorem g79{S:St}{tv sv pv cv:V}{us:On V}{s:Qg}(w:WF S)(os:Own E0 S 4 sv (s.ser.map PZ))(op:Own E0 S 12 pv (Qc QX us s.posted))(pl:PL E0 S us s.posted)(sep:∀(i:Nat) (u:V) (y:Nat),us[i]?=Ot u->AM.blkOf u=Ot y->AM.blkOf sv≠Ot y)
  (t1:tv.one=OB) (v1:cv.one=OB) (h8:s.ser.length<=8) (h40:s.posted.length<=40) (h12:∀p∈s.posted,oP p.total) (hI:∀p∈s.posted,∀x∈p.total.parts,I64 x.net) {K:KW}
  (H1:∀s' bv X q,S.next<=q->wU s=Ot s'->FL S X q tv sv pv cv s.next us s'.ser s'.posted bv->(bv=.imm (s'.book.map PC)\/(bv=.nils/\s'.book=[]))->K (.tup [.agg [tv,sv,pv,bv,cv,O J s.next],.bool OB]) X)
  (H2:∀X q bv,S.next<=q->wU s=OG->bv.one=OB->FK S X q sv pv us->K (.tup [.agg [tv,sv,pv,bv,cv,O J s.next],.bool OA]) X):C 79 [.agg [tv,sv,pv,.nils,cv,O J s.next]] S K:=by
 refine v79 ?_;have o1:=os.one;have o2:=op.one;have n0:V.nils.one=true:=rfl;obtain⟨S1,av⟩:∃S1:St,S1=⟨S.next+1,S.heap.put S.next (.row 0 6 [[tv,sv,pv,.nils,cv,O J s.next]])⟩:=⟨_,rfl⟩;have x1:Ext S S1:=by rw[av];exact Rg w _
 have n1:S1.next=S.next+1:=by rw[av]
 obtain⟨S2,kj⟩:∃S2:St,S2=⟨S1.next+1,S1.heap.put S1.next (.row 0 6 [[.nils,.nils,.nils,.nils,.nils,O J 0]])⟩:=⟨_,rfl⟩;have x2:Ext S1 S2:=by rw[kj];exact Rg (x1.wf w) _
 have uq:=x1.trans x2;have w2:WF S2:=uq.wf w;have g1:S2.heap.get S.next=Ot (.row 0 6 [[tv,sv,pv,.nils,cv,O J s.next]]):=x2.old _ _ (by rw[av];exact Ox _ _ _ trivial);have g2:S2.heap.get (S.next+1)=Ot (.row 0 6 [[.nils,.nils,.nils,.nils,.nils,O J 0]]):=by rw[<-n1,kj];exact Ox _ _ _ trivial
 have f0:FL S2 S2 S.next tv sv pv cv s.next us s.ser s.posted .nils:=⟨w2,Ov _,g1,os.ext uq,op.ext uq,pl.move λ_ _ _ _ _ o=>o.ext uq,sep,λy b h _ _ _ _=>h⟩;have bS:∀y,AM.blkOf sv=Ot y->y<S.next:=λy hy=>(cE os hy).2;have bP:∀y,AM.blkOf pv=Ot y->y<S.next:=λy hy=>(cE op hy).2;have bU:∀(i:Nat) (u:V) (y:Nat),us[i]?=Ot u->AM.blkOf u=Ot y->y<S.next:=λi u y hu hy=>by
  have hi:i<s.posted.length:=by rw[<-pl.len];exact(Oq.1 hu).1
  exact(cE (pl.own i u _ hu (OF hi)) hy).2
 have rK:∀{X:St},FK S2 X S.next sv pv us->X.heap.get (S.next+1)=Ot (.row 0 6 [[.nils,.nils,.nils,.nils,.nils,O J 0]]):=λ{X} k=>
  k.keep _ _ g2 (by omega) (λe=>by have:=bS _ e;omega) (λe=>by have:=bP _ e;omega) λi u hu e=>by have:=bU i u _ hu e;omega
 have fail:∀(Y:St) (bv:V),FK S2 Y S.next sv pv us->bv.one=OB->wU s=OG->K (.tup [.agg [tv,sv,pv,bv,cv,O J s.next],.bool OA]) ⟨Y.next,Y.heap.put (S.next+1) (.row 0 6 [[tv,sv,pv,bv,cv,O J s.next]])⟩:=λY bv k gh hn=>
  H2 _ S.next bv (Ov _) hn gh (FK.put (k.base uq) w (k.wf _ _ (rK k)) (PX _) _)
 delta Tryz.f79;simp only[↓cw,↓Oo,Om,kk,o1,o2,t1,v1,<-av,<-kj];rw[n1];refine aG s.posted (step:=bW) (fin:=Ot) (λi st vs X=>vs=[.bool OA,O J (i:Int)]/\∃bv,FL S2 X S.next tv sv pv cv s.next us st.ser (st.done++s.posted.drop i) bv/\(bv=.imm (st.book.map PC)\/(bv=.nils/\st.book=[]))/\st.book.length<=25*i/\st.done.length=i/\st.ser.length=s.ser.length) (λr=>r=aD bW Ot s.posted ⟨s.ser,[],[]⟩) ?_ ?_ (s:=⟨s.ser,[],[]⟩) ⟨rfl,_,f0,.inr ⟨rfl,rfl⟩,PS _,rfl,rfl⟩ rfl
 ·rintro i p ⟨ser,done,book⟩ vs X hi ⟨rfl,bv,f,gh,gg,dm,cd⟩ aE H;have dm:done.length=i:=dm;have cd:ser.length=s.ser.length:=cd;have gg:book.length<=25*i:=gg;have f:FL S2 X S.next tv sv pv cv s.next us ser (done++s.posted.drop i) bv:=f;have gh:bv=.imm (book.map PC)\/(bv=.nils/\book=[]):=gh;have ea:bv.one=true:=by rcases gh with rfl | ⟨rfl,_⟩<;>rfl
  have ai:=(Oq.1 hi).1;have rk:=OM hi;have hp:(done++s.posted.drop i)[i]?=Ot p:=by rw[Pe (by omega),PP,dm,Qt,QT,hi]
  have ED:=(Oq.1 hp).1;obtain⟨u,b,vb,tl,hu,ec,hb,al⟩:=f.at hp;have r1:=aF f.row;have ix:fV 12 pv (O J (i:Int))=.ok (.ptr b vb i 0):=by
   rw[ec];simp only[fV,gA ED,Oy,Px]
  have hlen:lenW pv=.ok (O J (s.posted.length:Int)):=by
   rw[f.atS,OC,PQ,dm,Nat.add_sub_cancel' (Nat.le_of_lt ai)]
  have f1:=f.bump 9;have q1:=aF f1.row;have l0:=ldR hb al OG 0 (X.next+9);have IO:=λK=>bXm f1.os (by omega) p.ref.ser K;simp only[QX] at l0;simp only[↓cw,↓Oo,Om,kk,bG hi,r1,hlen,ix,q1,l0,IO];have rp:=λ{Y:St} (k:FK S2 Y S.next sv pv us)=>aF (rK k);simp only[bW] at H;rcases jO ser p.ref.ser with h | ⟨k,z,h,h2,h3⟩
  ·simp only[h,show((-1:Int)<0)=True by simp,Oy] at H;simp only[↓cw,↓Oo,Om,kk,h,show((-1:Int)<0)=True by simp,Oy,o1,o2,t1,v1,ea,rp f1.fk,aA];exact fail _ _ f1.fk ea (by rw[iR,<-H])
  have k0:((k:Int)<0)=False:=by simp
  simp only[h,k0,Ou,Pn,h2] at H;simp only[↓cw,↓Oo,Om,kk,h,k0,Ou];have hz:(ser.map PZ)[k]?=Ot z.enc:=by rw[Pc,h2];rfl
  obtain⟨sa,sver,nv,_,ID,e4,_,_⟩:=f1.os.setK (rV f1.wf) mB hz J;have l3:=f1.os.ld nv hz OG 1;obtain⟨X2,qI,nX2,oX2,f2⟩:=f1.setP (p':=p.made z.next p.total) hp ec (j:=1) (x:=O J z.next) rfl rfl (by decide) (λ_=>rfl) rfl;have q2:=aF f2.row;have l4:=f2.os.ld nv hz OG 1;simp only[PZ,kk] at l3 l4;obtain⟨FV,vj,vm,_,_,_,_,IP⟩:=f2.os.setK (rV f2.wf) mB hz J;obtain⟨rfl,rfl⟩:FV=sa/\vj=sver:=by rw[nv] at vm;injection vm with h1 h2;exact⟨h1.symm,h2.symm⟩
  obtain⟨X3,st3,_,nX3,IQ,oX3,w3⟩:=IP 1 1 (O J (wr J (z.next+1))) rfl rfl (by decide);have BN:(ser.map PZ).set k (splice z.enc 1 [O J (wr J (z.next+1))])=(ser.set k { z with next:=wr J (z.next+1) }).map PZ:=by rw[RM];rfl
  simp only[V.cells] at IQ;rw[BN] at IQ;have f3:=f2.turnS (by rw[nv];rfl) nX3 (w3 f2.wf) oX3 IQ;simp only[↓cw,↓Oo,Om,kk,e4,l3,qI,q2,l4,st3];have hl1:∀p':OT,(done++s.posted.drop i).set i p'=done++[p']++s.posted.drop (i+1):=λp'=>by
   rw[tC hi,Sn _ _ (by omega),dm,Qt,List.set_cons_zero,Pd];rfl
  have em:∀p':OT,(done++[p']++s.posted.drop (i+1))[i]?=Ot p':=λp'=>by
   rw[Pd,Pe (by omega),dm,Qt];rfl
  have fq:∀p' IS:OT,(done++[p']++s.posted.drop (i+1)).set i IS=done++[IS]++s.posted.drop (i+1):=λp' IS=>by
   rw[Pd,Sn _ _ (by omega),dm,Qt,Pd];rfl
  rw[hl1] at f3;have AA:(ser.set k { z with next:=wr J (z.next+1) }).length=s.ser.length:=by rw[Qm];exact cd
  generalize ser.set k { z with next:=wr J (z.next+1) }=ph at f3 AA H;have ptr:∀{Y:St} {p':OT},FL S2 Y S.next tv sv pv cv s.next us ph (done++[p']++s.posted.drop (i+1)) bv->∃tl,Y.heap.get b=Ot (.row vb 12 (Qc QX us (done++[p']++s.posted.drop (i+1))++tl))/\(Qc QX us (done++[p']++s.posted.drop (i+1))++tl)[i]?=Ot (p'.encW u):=by
   intro Y p' g;obtain⟨u',b',IB,LP,FM,EN,bm,EO⟩:=g.at (em p');obtain⟨rfl,rfl⟩:b'=b/\IB=vb:=by rw[ec] at EN;injection EN with h1 h2;exact⟨h1.symm,h2.symm⟩
   rw[hu] at FM;cases FM;exact⟨LP,bm,EO⟩
  have uy:=h12 p rk;have IL:=uy.1;refine aG p.total.parts (step:=kN) (fin:=Ot) (λk st vs Y=>vs=[.bool OA,O J (k:Int)]/\FL S2 Y S.next tv sv pv cv s.next us ph (done++[p.made z.next ⟨p.total.net,p.total.tax,p.total.gross,st++p.total.parts.drop k⟩]++s.posted.drop (i+1)) bv/\st.length=k/\st=(p.total.parts.take k).map rH) (λr=>r=aD kN Ot p.total.parts []) ?_ ?_ (s:=[]) ⟨rfl,f3,rfl,rfl⟩ rfl
  ·rintro k x st vs Y hk ⟨rfl,g,CF,vq⟩ aE H';have dw:=(Oq.1 hk).1;have gb:=g.bump 22;obtain⟨tl1,IT,IU⟩:=ptr gb;have l8:=λm=>ldR (S:=⟨Y.next+22,Y.heap⟩) IT IU OG 8 m;simp only[QX,kk] at l8;have hkx:(st++p.total.parts.drop k)[k]?=Ot x:=by rw[Pe (by omega),PP,CF,Qt,QT,hk]
   obtain⟨ua,uver,qo,eua,lua,Y',stU,nU,oU,gU⟩:=gb.setU (em _) hu hkx (bC x.net x.bp).1;have hlen:lenW u=.ok (O J (p.total.parts.length:Int)):=by
    rw[qo]
    have:(st++p.total.parts.drop k).length=p.total.parts.length:=by rw[OC,PQ,CF];omega
    exact Qo (λn:Nat=>(Except.ok (V.int J (n:Int)):R V)) this
   have q3:=aF g.row;have qb:=aF gb.row;have Mm:=λc j=>lua c j (Y.next+22);have m1:=Mm OG 1;have m2:=Mm OG 2;simp only[PI,kk] at m1 m2;have h3:=aSk (n:=x.net) (bp:=x.bp) (hI p rk x (OM hk));obtain⟨tl0,yx,yy⟩:=ptr g;have l7:=ldR (S:=Y) yx yy OG 8 Y.next;simp only[QX,kk] at l7;simp only[kN] at H';simp only[↓cw,↓Oo,Om,kk,bG hk,l7,l8,hlen,eua,m1,m2,bNy,h3,dU,stU];have e5:(st++p.total.parts.drop k).set k { x with tax:=(bC x.net x.bp).1 }=st++[rH x]++p.total.parts.drop (k+1):=by
    rw[tC hk,Sn _ _ (by omega),CF,Qt,Pd];rfl
   have gU:FL S2 Y' S.next tv sv pv cv s.next us ph ((done++[p.made z.next ⟨p.total.net,p.total.tax,p.total.gross,st++p.total.parts.drop k⟩]++s.posted.drop (i+1)).set i (p.made z.next ⟨p.total.net,p.total.tax,p.total.gross,(st++p.total.parts.drop k).set k { x with tax:=(bC x.net x.bp).1 }⟩)) bv:=gU;rw[fq,e5] at gU;by_cases he:(bC x.net x.bp).2=0;rotate_left
   ·simp only[he,Ou] at H';have hr:sT p.total=none:=by rw[pE,<-H']
    simp only[hr] at H;simp only[↓cw,↓Oo,Om,kk,he,OL,Oy,o1,o2,t1,v1,ea,qb,rp gb.fk,aA];exact fail _ _ gb.fk ea (by rw[iR,<-H])
   simp only[he,Oy] at H';simp only[he,OK,Ou,gM (show k<1000000000 by omega)];exact H' _ _ ⟨rfl,gU,by rw[OC,CF];rfl,by rw[vq,List.take_add_one,hk];simp⟩
  ·rintro st vs Y ⟨rfl,g,CF,vq⟩ aE H';rw[List.take_length] at vq;rw[Tf,OS] at g;have hr:sT p.total=oV st:=by rw[pE,<-H']
   have hI2:∀y∈st,I64 y.net/\I64 y.tax:=λy hy=>by
    rw[vq] at hy;obtain⟨x,hx,rfl⟩:=Pv.1 hy;exact⟨hI p rk x hx,uD _ _⟩
   rw[aV4 hI2 (by omega)] at hr;have ou:Own E0 Y 4 u (st.map PI):=g.pl.own i u _ hu (em _);have c1:=λK=>bXn ou (by omega) K;have hlen:lenW u=.ok (O J (p.total.parts.length:Int)):=by rw[ou.sl.lenI,CF]
   obtain⟨tl0,yx,yy⟩:=ptr g;have l7:=ldR (S:=Y) yx yy OG 8 Y.next;have rq:=aF g.row;simp only[QX,kk] at l7;simp only[↓cw,↓Oo,Om,kk,OZ,Ou,l7,hlen,c1,bI9,dU];by_cases a1:(dH (eP st).1 (eP st).2.1).2=0;rotate_left
   ·rw[Oz a1] at hr;have hr:sT p.total=none:=by rw[hr];split<;>rfl
    simp only[hr] at H;simp only[↓cw,↓Oo,Om,kk,a1,OL,Oy,o1,o2,t1,v1,ea,rq,rp g.fk,aA];exact fail _ _ g.fk ea (by rw[iR,<-H])
   by_cases a2:(eP st).2.2=OB;rotate_left
   ·rw[Oz a2] at hr;simp only[hr] at H;have a2:(eP st).2.2=false:=by simpa using a2
    simp only[↓cw,↓Oo,Om,kk,a1,a2,OK,Ou,Bool.not_false,Oy,o1,o2,t1,v1,ea,rq,rp g.fk,aA];exact fail _ _ g.fk ea (by rw[iR,<-H])
   rw[OE a1,OE a2] at hr;simp only[hr] at H;generalize (eP st).1=A at H a1|-
   generalize (eP st).2.1=B at H a1|-
   generalize dH A B=GG at H a1|-
   obtain⟨G,e0⟩:=GG;simp only at H a1|-
   obtain⟨Y1,y1,n1',k1,IV⟩:=g.setP (p':=p.made z.next ⟨A,p.total.tax,p.total.gross,st⟩) (em _) ec (j:=5) (x:=O J A) rfl rfl (by decide) (λ_=>rfl) rfl;rw[fq] at IV;obtain⟨Y2,y2,LN,k2,IW⟩:=IV.setP (p':=p.made z.next ⟨A,B,p.total.gross,st⟩) (em _) ec (j:=6) (x:=O J B) rfl rfl (by decide) (λ_=>rfl) rfl;rw[fq] at IW;obtain⟨Y3,y3,n3',k3,En⟩:=IW.setP (p':=p.made z.next ⟨A,B,G,st⟩) (em _) ec (j:=7) (x:=O J G) rfl rfl (by decide) (λ_=>rfl) rfl;rw[fq] at En;simp only[↓cw,↓Oo,Om,kk,a1,a2,OK,Ou,Bool.not_true,OO,y1,y2,y3];clear y1 y2 y3 IV IW k1 k2 k3 n1' LN n3' yx yy l7 rq c1 hlen ou;obtain⟨p2,hp2⟩:∃p2,p2=p.made z.next ⟨A,B,G,st⟩:=⟨_,rfl⟩;have IX:p2.of=p.of:=by rw[hp2];rfl
   have IY:p2.total=⟨A,B,G,st⟩:=by rw[hp2];rfl
   rw[<-hp2] at En;have IZ:({ p with ref:=⟨p.ref.ser,z.next⟩,total:=⟨A,B,G,st⟩ }:OT)=p2:=by rw[hp2];rfl
   simp only[IZ] at H;subst dm;have Li:(done++[p2]++s.posted.drop (done.length+1)).length=s.posted.length:=by simp only[OC,OQ,Pf,PQ];omega
   refine aG done (step:=λ(acc:On OT) q=>(.inr (acc++[if q.ref=p.of then{ q with back:=OB } else q]):On OT⊕On OT)) (fin:=id) (λj acc vs Z=>vs=[O J (j:Int)]/\FL S2 Z S.next tv sv pv cv s.next us ph ((acc++done.drop j)++[p2]++s.posted.drop (done.length+1)) bv/\acc.length=j) (λr=>r=kO done p.of) ?_ ?_ (s:=[]) ⟨rfl,En,rfl⟩ ?_
   ·rintro j x acc vs Z hj ⟨rfl,m,vg⟩ cz AB;have ed:=(Oq.1 hj).1;have mb:=m.bump 11;have CE:∀z,(acc++done.drop j++[p2]++s.posted.drop (done.length+1)).set j z=acc++[z]++done.drop (j+1)++[p2]++s.posted.drop (done.length+1):=λz=>by
     rw[tC hj,Pd,Pd,Sn _ _ (by omega),vg,Qt];simp
    have I':(acc++done.drop j++[p2]++s.posted.drop (done.length+1))[j]?=Ot x:=by
     rw[Pd,Pd,Pe (by omega),vg,Qt,tC hj];rfl
    have FX:(acc++done.drop j++[p2]++s.posted.drop (done.length+1))[done.length]?=Ot p2:=by
     rw[Pd,Pe (by simp;omega)]
     have:done.length - (acc++done.drop j).length=0:=by simp;omega
     rw[this];rfl
    obtain⟨u5,b5,Ax,tl5,hu5,pi,yp,ju⟩:=mb.at I';obtain⟨u6,b6,FY,tl6,Mn,vu,Ja,vv⟩:=mb.at FX;obtain⟨rfl,rfl⟩:b5=b/\Ax=vb:=by rw[ec] at pi;injection pi with h1 h2;exact⟨h1.symm,h2.symm⟩
    obtain⟨rfl,rfl⟩:b6=b5/\FY=Ax:=by rw[pi] at vu;injection vu with h1 h2;exact⟨h1.symm,h2.symm⟩
    have r5:=aF mb.row;have Mo:=ldR yp ju (Ot 2) 0 (Z.next+11);have Mp:=ldR Ja vv (Ot 2) 9 (Z.next+11);simp only[QX,kk] at Mo Mp;have ixj:fV 12 pv (O J (j:Int))=.ok (.ptr b6 FY j 0):=by
     rw[pi];simp only[fV,gA (Oq.1 I').1,Oy,Px]
    obtain⟨Z2,z2,nz2,kz2,m2⟩:=mb.setP (p':={ x with back:=OB }) I' ec (j:=11) (x:=.bool OB) rfl rfl (by decide) (λ_=>rfl) rfl;simp only[↓cw,↓Oo,Om,kk,bG hj,r5,ixj,Mo,Mp,z2,IX,gM (show j<1000000000 by omega)];rw[show(x.ref.ser == p.of.ser&&decide (x.ref.num=p.of.num))=decide (x.ref=p.of) by rw[Bool.eq_iff_iff];simp[Ref.ext_iff]];rw[CE] at m2;by_cases c:x.ref=p.of
    ·simp only[c,decide_true,Oy] at AB|-
     rw[c] at m2;exact AB _ _ ⟨rfl,m2,by rw[OC,vg];rfl⟩
    ·simp only[c,decide_false,OO,Ou] at AB|-
     exact AB _ _ ⟨rfl,by rw[tC hj] at mb;simpa using mb,by rw[OC,vg];rfl⟩
   ·rintro acc vs Z ⟨rfl,m,vg⟩ cz AB;have AB:acc=kO done p.of:=AB;rw[Tf,OS] at m;have FX:(acc++[p2]++s.posted.drop (done.length+1))[done.length]?=Ot p2:=by
     rw[Pd,Pe (by omega),vg,Qt];rfl
    obtain⟨u6,b6,FY,tl6,Mn,vu,Ja,vv⟩:=m.at FX;obtain⟨rfl,rfl⟩:b6=b/\FY=vb:=by rw[ec] at vu;injection vu with h1 h2;exact⟨h1.symm,h2.symm⟩
    have l5:=ldR (S:=Z) Ja vv (Ot 4) 5 Z.next;simp only[QX,kk] at l5;have ou:=m.pl.own _ u6 _ Mn FX;rw[IY] at ou l5;have o6:=ou.one;have o7:=ou.cells;have FO:oP ⟨A,B,G,st⟩:=by
     refine⟨by show st.length<=12;omega,λy hy=>?_⟩;have hy:y∈st:=hy;rw[vq] at hy;obtain⟨x,hx,rfl⟩:=Pv.1 hy;exact uy.2 x hx
    have Jb:=λK':KW=>(bPl ⟨A,B,G,st⟩ FO).frz (S:=Z) (args:=[.agg [O J A,O J B,O J G,u6]]) (by simp only[Sm,cP,ou.frz (aU (λ_=>rfl) _)]) K';have rq:=aF m.row;have ff:=pT ⟨A,B,G,st⟩;have hle:=mN book (bQ ⟨A,B,G,st⟩).1;simp only[↓cw,↓Oo,Om,kk,OZ,Ou,l5,Jb];by_cases d1:(bQ ⟨A,B,G,st⟩).2=0;rotate_left
    ·simp only[d1,OL,ne_eq,Oy] at H;simp only[↓cw,↓Oo,Om,kk,d1,OL,Oy,o1,o2,t1,v1,ea,rq,rp m.fk,aA];exact fail _ _ m.fk ea (by rw[iR,<-H])
    have ff:=ff.resolve_right (not_not_intro d1);have EP:=λ(K':KW)=>bPn book (bQ ⟨A,B,G,st⟩).1 gh (by simp only at ff;omega) Z K';have mq:=m.turnQ (Ov _) (.imm ((aV book (bQ ⟨A,B,G,st⟩).1).1.map PC));by_cases d2:(aV book (bQ ⟨A,B,G,st⟩).1).2=0;rotate_left
    ·simp only[d1,d2,OL,OK,ne_eq,Oy,Ou] at H;simp only[↓cw,↓Oo,Om,kk,d1,d2,EP,OL,OK,Oy,Ou,o1,o2,t1,v1,ea,rq,rp m.fk,rp mq.fk,aA];exact fail _ _ mq.fk rfl (by rw[iR,<-H])
    simp only[d1,d2,OK,ne_eq,Ou] at H;simp only[↓cw,↓Oo,Om,kk,d1,d2,EP,OK,Ou,o1,o2,t1,v1,ea,rq,aA,gM (show done.length<1000000000 by omega)];rw[AB] at mq vg;exact H _ _ ⟨rfl,_,mq,.inl rfl,by simp only at ff hle|-;omega,by simp[vg],AA⟩
   ·have:∀(l a:On OT),aD (λ(acc:On OT) q=>(.inr (acc++[if q.ref=p.of then{ q with back:=OB } else q]):On OT⊕On OT)) id l a=a++kO l p.of:=by
     intro l
     induction l with
     | nil=>intro a;simp[aD,kO]
     | cons x l ih=>intro a;simp only[aD];rw[ih];simp[kO]
    exact this _ _
 ·rintro⟨ser,done,book⟩ vs X ⟨rfl,bv,f,gh,gg,dm,cd⟩ aE H;have dm:done.length=s.posted.length:=dm;have f:FL S2 X S.next tv sv pv cv s.next us ser (done++s.posted.drop s.posted.length) bv:=f;have gh:bv=.imm (book.map PC)\/(bv=.nils/\book=[]):=gh;have ea:bv.one=true:=by rcases gh with rfl | ⟨rfl,_⟩<;>rfl
  rw[Tf,OS] at f;have r1:=aF f.row;have r2:=aF (rK f.fk);have hlen:lenW pv=.ok (O J (s.posted.length:Int)):=by rw[f.atS,dm]
  simp only[↓cw,↓Oo,Om,kk,r1,r2,hlen,OZ,Ou,o1,o2,t1,v1,ea,aA];refine H1 ⟨s.table,ser,done,book,s.sess,s.next⟩ bv _ S.next (Ov _) (by rw[iR,<-H]) ((f.base uq).put w (rK f.fk) (by omega) (PX _) _) gh
end
section
structure RB (B:St) (b:On OP) (a q n:Nat) (r:Rd) (row:On V) (X:St):Prop where
 wf:WF X
 nx:B.next<=X.next
 la:a<B.next
 lq:q<B.next
 aq:a≠q
 ra:X.heap.get a=Ot (.row 0 3 [r.cells b])
 rq:X.heap.get q=Ot (.row 0 n [row])
 old:∀y,y<B.next->y≠a->y≠q->X.heap.get y=B.heap.get y
structure RT (B:St) (b:On OP) (a q n t m:Nat) (r:Rd) (row tv:On V) (X:St):Prop extends RB B b a q n r row X where
 lt:t<X.next
 ge:B.next<=t
 rt:X.heap.get t=Ot (.row 0 m [tv])
section
variable{B X:St}{b:On OP}{a q n t m:Nat}{r:Rd}{row tv:On V}
theorem RB.refl(w:WF X)(ra:X.heap.get a=Ot (.row 0 3 [r.cells b]))(rq:X.heap.get q=Ot (.row 0 n [row]))(aq:a≠q):RB X b a q n r row X:=
 ⟨w,Ov _,w _ _ ra,w _ _ rq,aq,ra,rq,λ_ _ _ _=>rfl⟩
theorem RB.trans{Y:St}{r':Rd}{dg:On V}(h:RB B b a q n r row X)(k:RB X b a q n r' dg Y):RB B b a q n r' dg Y:=
 ⟨k.wf,QC h.nx k.nx,h.la,h.lq,h.aq,k.ra,k.rq,λy h1 h2 h3=>(k.old y (Nat.lt_of_lt_of_le h1 h.nx) h2 h3).trans (h.old y h1 h2 h3)⟩
theorem RB.rd(h:RB B b a q n r row X)(r':Rd):RB B b a q n r' row ⟨X.next,X.heap.put a (.row 0 3 [r'.cells b])⟩:=
 ⟨gO (n:=X.next) h.wf (h.wf _ _ h.ra) (Ov _),h.nx,h.la,h.lq,h.aq,Ox _ _ _ trivial,(OJ _ _ _ _ trivial (SJ h.aq)).trans h.rq,λy h1 h2 h3=>(OJ _ _ _ _ trivial h2).trans (h.old y h1 h2 h3)⟩
theorem RB.qset(h:RB B b a q n r row X)(dg:On V):RB B b a q n r dg ⟨X.next,X.heap.put q (.row 0 n [dg])⟩:=
 ⟨gO (n:=X.next) h.wf (h.wf _ _ h.rq) (Ov _),h.nx,h.la,h.lq,h.aq,(OJ _ _ _ _ trivial h.aq).trans h.ra,Ox _ _ _ trivial,λy h1 h2 h3=>(OJ _ _ _ _ trivial h3).trans (h.old y h1 h2 h3)⟩
theorem RB.new(h:RB B b a q n r row X)(m:Nat)(tv:On V):RT B b a q n X.next m r row tv ⟨X.next+1,X.heap.put X.next (.row 0 m [tv])⟩:=
 have na:a≠X.next:=by have:=h.la;have:=h.nx;omega
 have nq:q≠X.next:=by have:=h.lq;have:=h.nx;omega
 ⟨⟨gO (n:=X.next) h.wf (Qb _) (PX _),Nat.le_succ_of_le h.nx,h.la,h.lq,h.aq,(OJ _ _ _ _ trivial na).trans h.ra,(OJ _ _ _ _ trivial nq).trans h.rq,λy h1 h2 h3=>(OJ _ _ _ _ trivial (by have:=h.nx;omega)).trans (h.old y h1 h2 h3)⟩,Qb _,h.nx,Ox _ _ _ trivial⟩
theorem RT.tmp(h:RT B b a q n t m r row tv X)(Mq:On V):RT B b a q n t m r row Mq ⟨X.next,X.heap.put t (.row 0 m [Mq])⟩:=
 have na:a≠t:=by have:=h.la;have:=h.ge;omega
 have nq:q≠t:=by have:=h.lq;have:=h.ge;omega
 ⟨⟨gO (n:=X.next) h.wf h.lt (Ov _),h.nx,h.la,h.lq,h.aq,(OJ _ _ _ _ trivial na).trans h.ra,(OJ _ _ _ _ trivial nq).trans h.rq,λy h1 h2 h3=>(OJ _ _ _ _ trivial (by have:=h.ge;omega)).trans (h.old y h1 h2 h3)⟩,h.lt,h.ge,Ox _ _ _ trivial⟩
theorem RT.rdT(h:RT B b a q n t m r row tv X)(r':Rd):RT B b a q n t m r' row tv ⟨X.next,X.heap.put a (.row 0 3 [r'.cells b])⟩:=
 ⟨h.toRB.rd r',h.lt,h.ge,(OJ _ _ _ _ trivial (by have:=h.la;have:=h.ge;omega)).trans h.rt⟩
theorem RB.keep(h:RB B b a q n r row X){r0:Rd}{Jc:On V}(ra:B.heap.get a=Ot (.row 0 3 [r0.cells b]))(rq:B.heap.get q=Ot (.row 0 n [Jc])){S0:St}{w:Nat}{v:V}{es:On (On V)}(o:Own S0 B w v es)(hw:3≠w)(hn:n≠w):Own S0 X w v es:=
 o.same h.nx λy hy=>h.old y (cE o hy).2 (λe=>UD o ra hw (e▸hy)) λe=>UD o rq hn (e▸hy)
theorem RB.app(h:RB B b a q n r row X){w bb:Nat}{v:V}{es:On (On V)}(o:Own E0 X w v es)(lb:∀y,AM.blkOf v=Ot y->B.next<=y){c:On V}(hc:c.length=w/\aH c=OB)(h1:(es.length+1)*bb<=35184372088832)(h2:es.length+1<eG):
  ∃v' X',eC w bb v (.sl X.next 0 w 0 1) OG ⟨X.next+1,X.heap.put X.next (.row 0 w [c])⟩=.ok (v',X')/\RB B b a q n r row X'/\Own E0 X' w v' (es++[c])/\(∀y,AM.blkOf v'=Ot y->B.next<=y)/\(∀y,y<X.next->AM.blkOf v≠Ot y->X'.heap.get y=X.heap.get y)/\X.next<=X'.next/\(∀y,AM.blkOf v'=Ot y->AM.blkOf v=Ot y\/X.next<=y):=by
 have x:Ext X ⟨X.next+1,X.heap.put X.next (.row 0 w [c])⟩:=Rg h.wf _;obtain⟨v',X',q1,q2,q3,q4,q5,q6⟩:=(o.ext x).pushG (b:=bb) (rV (x.wf h.wf)) mB (u:=.sl X.next 0 w 0 1) (cs:=[c]) (by simp only[aK,aA];rfl) (λd hd=>by rcases PR.1 hd with rfl;exact hc) (by simp) h1 h2;have q5:∀y,y<X.next->AM.blkOf v≠Ot y->X'.heap.get y=X.heap.get y:=λy hy hv=>by
  rw[q5 y (Nat.lt_succ_of_lt hy) hv];exact OJ _ _ _ _ trivial (by omega)
 have q6:X.next<=X'.next:=QC (PX _) q6;have ob:∀y,y<B.next->AM.blkOf v≠Ot y:=λy hy e=>by have:=lb y e;omega
 have kh:=h.nx;have keep:∀y,y<B.next->X'.heap.get y=X.heap.get y:=λy hy=>q5 y (by omega) (ob y hy);refine⟨v',X',q1,⟨q2.wf mB,by omega,h.la,h.lq,h.aq,(keep a h.la).trans h.ra,(keep q h.lq).trans h.rq,λy h1 h2 h3=>(keep y h1).trans (h.old y h1 h2 h3)⟩,q3,λy hy=>?_,q5,q6,λy hy=>?_⟩
 ·rcases q4 with e | e
  ·rw[e] at hy;cases hy;show B.next<=X.next+1;omega
  ·rw[e] at hy;exact lb y hy
 ·rcases q4 with e | e
  ·rw[e] at hy;cases hy;exact .inr (PX _)
  ·rw[e] at hy;exact .inl hy
end
end
abbrev bAl:Nat->Ow (On bY):=dD []
abbrev bAm:Nat->On Nat:=dY [(5,[7]),(13,[9]),(29,[14]),(21,[11]),(38,[16])]
def aGl(C:aL)(K:KW)(p2 p5 Jd:V)(S:St):Prop:=
aN Jd (qD 30 [] λt28=>
qS 30 p2 t28 S λFC=>
qL 30 p2 FC λt30=>
K (.tup [t30,(jI 4)]) FC) (qL 30 p5 S λt31=>
qS 30 p2 t31 S λFD=>
qL 30 p2 FD λt33=>
K (.tup [t33,(jI 0)]) FD)
def aGm(C:aL)(K:KW)(p2 p4 p5:V)(S:St):Prop:=
C 76 [p4] S λt12 HJ=>
qF 30 p5 5 λt14=>
qS 3 t14 t12 HJ λS15=>
C 78 [p4] S15 λt16 Bg=>
(qG .neq 3 t16 (jI 0) λt18=>
aN t18 (qD 30 [] λt19=>
qS 30 p2 t19 Bg λCq=>
qL 30 p2 Cq λt21=>
K (.tup [t21,t16]) Cq) (qL 30 p5 Bg λt22=>
C 79 [t22] Bg λt23 wq=>
fI t23 0 λt25=>
fI t23 1 λt26=>
qS 30 p5 t25 wq λJe=>
wR (unV .not t26) λt34=>
aN t34 (aGl C K p2 p5 (.bool OB) Je) (qL 30 p5 Je λt35=>
C 38 [t35] Je λt36 DF=>
wR (unV .not t36) λt38=>
aGl C K p2 p5 t38 DF)))
def bAn(C:aL)(K:KW)(p2 p4 p5 p6:V)(vs:On V)(S:St)(aa:On V->St->Prop):Prop:=
vA vs λAr vs=>
qB .lss 3 Ar p6 λt39=>
aN t39 (uU p4 (qE 142 p4 2 3 S λt41=>
(qG .eql 3 t41 (jI 0) λt42=>
aN t42 (C 76 [p4] S λt43 S44=>
qD 132 [(0,t43)] λt45=>
qN S44 5 [jI 0,jI 0,jI 0,jI 0,jI 0] λxf=>
qS 132 (pt xf) t45 xf.2 λS47=>
C 76 [p4] S47 λt48 FE=>
qF 132 (pt xf) 1 λt50=>
qS 3 t50 t48 FE λS51=>
C 76 [p4] S51 λt52 yg=>
qF 132 (pt xf) 2 λt54=>
qF 48 t54 0 λt55=>
qS 31 t55 t52 yg λHH=>
C 76 [p4] HH λt57 DN=>
qF 132 (pt xf) 2 λt59=>
qF 48 t59 1 λt60=>
qS 3 t60 t57 DN λwx=>
C 76 [p4] wx λt62 DO=>
qF 132 (pt xf) 2 λt64=>
qF 48 t64 2 λt65=>
qS 3 t65 t62 DO λJf=>
qE 30 p5 4 28 Jf λt68=>
qL 132 (pt xf) Jf λt69=>
qQ 28 1 [(0,t69)] OG Jf λr70=>
qP 28 t68 r70.1 OG r70.2 λMr=>
qF 30 p5 4 λBf=>
qS 28 Bf Mr.1 Mr.2 λHm=>
qB .add 3 Ar (jI 1) λt74=>
aa [t74] Hm) (aGm C K p2 p4 p5 S)))) (aGm C K p2 p4 p5 S)
def aGn(C:aL)(K:KW)(p2 p4 p5:V)(S:St):Prop:=
C 73 [p4,(jI 8)] S λt10 S11=>
iN [(jI 0)] S11 (bAn C K p2 p4 p5 t10)
def aL5(C:aL)(K:KW)(cj:On V->St->Prop)(p2 p4 p5 p6 BP CG:V)(S:St):Prop:=
qE 30 p5 2 26 S λBp=>
qL 84 CG S λuo=>
qQ 26 1 [(0,uo)] OG S λEQ=>
qP 26 Bp EQ.1 OG EQ.2 λER=>
qF 30 p5 2 λBj=>
qS 26 Bj ER.1 ER.2 λJg=>
qB .add 3 BP (jI 1) λBk=>
cj [Bk] Jg
def bAo(C:aL)(K:KW)(cj:On V->St->Prop)(p2 p4 p5 p6 BP CG p13:V)(vs:On V)(S:St)(cz:On V->St->Prop):Prop:=
vA vs λMs vs=>
qB .lss 3 Ms p13 λJh=>
aN Jh (uU p4 (qE 142 p4 2 3 S λBl=>
(qG .eql 3 Bl (jI 0) λBm=>
aN Bm (C 74 [p4,(jI 64)] S λBn Ji=>
qD 145 [(0,Bn)] λJj=>
qN Ji 4 [.str [],jI 0,jI 0,jI 0] λvw=>
qS 145 (pt vw) Jj vw.2 λJk=>
C 76 [p4] Jk λBr Jl=>
qF 145 (pt vw) 1 λBt=>
qS 3 Bt Br Jl λJm=>
C 76 [p4] Jm λt122 Jn=>
qF 145 (pt vw) 2 λBu=>
qS 3 Bu t122 Jn λBQ=>
qF 84 CG 2 λBv=>
qE 82 Bv 3 80 BQ λJo=>
qL 145 (pt vw) BQ λJp=>
qQ 80 1 [(0,Jp)] OG BQ λES=>
qP 80 Jo ES.1 OG ES.2 λET=>
qF 84 CG 2 λJq=>
qF 82 Jq 3 λJr=>
qS 80 Jr ET.1 ET.2 λJs=>
qB .add 3 Ms (jI 1) λJt=>
cz [Jt] Js) (aL5 C K cj p2 p4 p5 p6 BP CG S)))) (aL5 C K cj p2 p4 p5 p6 BP CG S)
def bAp(C:aL)(K:KW)(p2 p4 p5 p6:V)(vs:On V)(S:St)(cj:On V->St->Prop):Prop:=
vA vs λBo vs=>
qB .lss 3 Bo p6 λt75=>
aN t75 (uU p4 (qE 142 p4 2 3 S λt77=>
(qG .eql 3 t77 (jI 0) λt78=>
aN t78 (C 74 [p4,(jI 64)] S λDC DD=>
qD 57 [(0,DC)] λDE=>
qD 84 [(0,DE)] λCl=>
qN DD 12 [.str [],jI 0,jI 0,jI 0,jI 0,jI 0,jI 0,jI 0,.nils,.str [],jI 0,.bool OA] λCH=>
qS 84 (pt CH) Cl CH.2 λS84=>
C 75 [p4] S84 λHC S86=>
qF 84 (pt CH) 1 λHD=>
qS 52 HD HC S86 λS88=>
C 74 [p4,(jI 64)] S88 λDJ S90=>
qF 84 (pt CH) 3 λHy=>
qF 57 Hy 0 λHr=>
qS 9 Hr DJ S90 λS93=>
C 76 [p4] S93 λDK S95=>
qF 84 (pt CH) 3 λHz=>
qF 57 Hz 1 λDL=>
qS 3 DL DK S95 λS98=>
C 73 [p4,(jI 12)] S98 λDM Ju=>
iN [(jI 0)] Ju (bAo C K cj p2 p4 p5 p6 Bo (pt CH) DM)) (aGn C K p2 p4 p5 S)))) (aGn C K p2 p4 p5 S)
def aGo(C:aL)(K:KW)(p2 p4 p5:V)(S:St):Prop:=
C 73 [p4,(jI 40)] S λt8 S9=>
iN [(jI 0)] S9 (bAp C K p2 p4 p5 t8)
def bAq(C:aL)(K:KW)(p2 p4 p5 p6:V)(vs:On V)(S:St)(BR:On V->St->Prop):Prop:=
vA vs λx9 vs=>
qB .lss 3 x9 p6 λJv=>
aN Jv (uU p4 (qE 142 p4 2 3 S λJw=>
(qG .eql 3 Jw (jI 0) λbIw=>
aN bIw (C 74 [p4,(jI 64)] S λJx Jy=>
qD 126 [(0,Jx),(1,(jI 1))] λJz=>
qN Jy 4 [.str [],jI 0,jI 0,.bool OA] λvx=>
qS 126 (pt vx) Jz vx.2 λJA=>
C 76 [p4] JA λbAd JB=>
qF 126 (pt vx) 2 λbIx=>
qS 3 bIx bAd JB λJC=>
C 77 [p4] JC λJD JE=>
qF 126 (pt vx) 3 λbIv=>
qS 4 bIv JD JE λBS=>
qE 30 p5 1 25 BS λJF=>
qL 126 (pt vx) BS λJG=>
qQ 25 1 [(0,JG)] OG BS λEU=>
qP 25 JF EU.1 OG EU.2 λEV=>
qF 30 p5 1 λbHw=>
qS 25 bHw EV.1 EV.2 λJH=>
qB .add 3 x9 (jI 1) λJI=>
BR [JI] JH) (aGo C K p2 p4 p5 S)))) (aGo C K p2 p4 p5 S)
def aGp(C:aL)(K:KW)(p2 p4 p5:V)(S:St):Prop:=
C 73 [p4,(jI 8)] S λt6 S7=>
iN [(jI 0)] S7 (bAq C K p2 p4 p5 t6)
def bAr(C:aL)(K:KW)(p2 p4 p5 p6:V)(vs:On V)(S:St)(BT:On V->St->Prop):Prop:=
vA vs λx7 vs=>
qB .lss 3 x7 p6 λJJ=>
aN JJ (uU p4 (qE 142 p4 2 3 S λJK=>
(qG .eql 3 JK (jI 0) λJL=>
aN JL (C 74 [p4,(jI 64)] S λJM JN=>
qD 54 [(0,JM)] λJO=>
qN JN 5 [.str [],jI 0,jI 0,jI 0,jI 0] λvy=>
qS 54 (pt vy) JO vy.2 λJP=>
C 75 [p4] JP λbHs JQ=>
qF 54 (pt vy) 1 λJR=>
qS 52 JR bHs JQ λJS=>
C 76 [p4] JS λJT JU=>
qF 54 (pt vy) 2 λJV=>
qS 3 JV JT JU λBU=>
qE 30 p5 0 24 BU λJW=>
qL 54 (pt vy) BU λJX=>
qQ 24 1 [(0,JX)] OG BU λEW=>
qP 24 JW EW.1 OG EW.2 λEX=>
qF 30 p5 0 λJY=>
qS 24 JY EX.1 EX.2 λJZ=>
qB .add 3 x7 (jI 1) λJ'=>
BT [J'] JZ) (aGp C K p2 p4 p5 S)))) (aGp C K p2 p4 p5 S)
def m21(C:aL)(a0:V)(S:St)(K:KW):Prop:=
qN S 6 [.nils,.nils,.nils,.nils,.nils,jI 0] λr0=>
C 72 [a0] r0.2 λt1 S2=>
qN S2 6 [.nils,.nils,.nils,.nils,.nils,jI 0] λr3=>
C 73 [t1,(jI 24)] r3.2 λt4 S5=>
iN [(jI 0)] S5 (bAr C K (pt r0) t1 (pt r3) t4)
theorem bJ0:(λ(C:aL) (a0:V) (S:St) (K:KW)=>dR prog C bAl bAm 21 [a0] S K)=λC a0 S K=>m21 C a0 S K:=by kernel_rfl
theorem t21(C:aL)(a0:V)(S:St)(K:KW):dR prog C bAl bAm 21 [a0] S K=m21 C a0 S K:=OR (OR (OR (OR bJ0 C) a0) S) K
theorem u21{a0:V}{v:V}(hc:Tl [a0]=OB)(h:m21 C a0 ⟨0,.nil⟩ λv0 S0=>eX S0 v0=.ok v):Fv 21 [a0] v:=Go.AM.Fn.of (p:=bAl) (lv:=bAm) (by kernel_rfl) hc (by rw[t21];exact h)
section
section
variable{b:On OP}{r:Rd}{X:St}{a:Nat}
theorem aGq(hb:b.length<1000000000)(hr:r.pos<=b.length)(hX:X.heap.get a=Ot (.row 0 3 [r.cells b]))(K:KW):C 76 [.ptr a 0 0 0] X K=K (O J (aZ b r).1) ⟨X.next,X.heap.put a (.row 0 3 [(aZ b r).2.cells b])⟩:=(r76 hb hr).eq hX K
theorem bAs(hb:b.length<1000000000)(hr:r.pos<=b.length)(hX:X.heap.get a=Ot (.row 0 3 [r.cells b]))(K:KW):C 74 [.ptr a 0 0 0,O J 64] X K=K (.str (gV b 64 r).1) ⟨X.next,X.heap.put a (.row 0 3 [(gV b 64 r).2.cells b])⟩:=(r74 hb hr 64).eq hX K
theorem bQa(hb:b.length<1000000000)(hr:r.pos<=b.length)(hX:X.heap.get a=Ot (.row 0 3 [r.cells b]))(K:KW):C 75 [.ptr a 0 0 0] X K=K (.agg [O J (rM b r).1.y,O J (rM b r).1.m,O J (rM b r).1.d]) ⟨X.next,X.heap.put a (.row 0 3 [(rM b r).2.cells b])⟩:=(r75 hb hr).eq hX K
theorem bXo(hb:b.length<1000000000)(hr:r.pos<=b.length)(hX:X.heap.get a=Ot (.row 0 3 [r.cells b]))(K:KW):C 77 [.ptr a 0 0 0] X K=K (.bool (mF b r).1) ⟨X.next,X.heap.put a (.row 0 3 [(mF b r).2.cells b])⟩:=(r77 hb hr).eq hX K
theorem bXp(hX:X.heap.get a=Ot (.row 0 3 [r.cells b]))(K:KW):C 78 [.ptr a 0 0 0] X K=K (O J (lI b r).err) ⟨X.next,X.heap.put a (.row 0 3 [(lI b r).cells b])⟩:=r78.eq hX K
theorem bDd(hb:b.length<1000000000)(hr:r.pos<=b.length)(most:Int)(hX:X.heap.get a=Ot (.row 0 3 [r.cells b]))(K:KW):C 73 [.ptr a 0 0 0,O J most] X K=K (O J (cB b most r).1) ⟨X.next,X.heap.put a (.row 0 3 [(cB b most r).2.cells b])⟩:=(r73 hb hr most).eq hX K
end
def bDe(b:On OP)(tab:On Tn)(ser:On Ser)(pst:On OT)(ses:On Uj)(r:Rd):Qg×Int:=
 if(lI b (aZ b r).2).err=0 then(match wU ⟨tab,ser,pst,[],ses,(aZ b r).1⟩ with
  | none=>(Rc,4)
  | some s=>if bB s=OB then(s,0) else(Rc,4)) else(Rc,(lI b (aZ b r).2).err)
def aCd(x:Qg×Int):V:=.tup [.agg [.imm (x.1.table.map Qk),.imm (x.1.ser.map PZ),.imm (x.1.posted.map Pg),.imm (x.1.book.map PC),.imm (x.1.sess.map Qe),O J x.1.next],O J x.2]
theorem aL6{s:FillD}{p:OT}{s':FillD}(h:bW s p=.inr s'):∃q:OT,s'.done=kO s.done p.of++[q]/\(∀x∈q.total.parts,∃y∈p.total.parts,x=rH y)/\q.total.parts.length=p.total.parts.length/\s'.ser.length=s.ser.length/\((∀x∈s.ser,I64 x.next)->∀x∈s'.ser,I64 x.next):=by
 unfold bW at h;split at h
 ·cases h
 split at h
 ·cases h
 rename_i t ht;split at h
 ·cases h
 rename_i x hx;split at h
 ·cases h
 split at h
 ·cases h
 cases h;have Mt:t.parts=p.total.parts.map rH:=by
  rw[pE] at ht;split at ht
  ·cases ht
  ·rename_i ps Cy;have e:=zZ _ _ _ Cy
   have:t.parts=ps:=by
    unfold oV at ht
    repeat' split at ht
    all_goals first | (cases ht;done) | (cases ht;rfl)
   rw[this,e];rfl
 refine⟨_,rfl,λy hy=>?_,by show t.parts.length=_;rw[Mt,ON],by simp,λhI y hy=>?_⟩
 ·have hy:y∈t.parts:=hy;rw[Mt] at hy;obtain⟨z,hz,rfl⟩:=Pv.1 hy;exact⟨z,hz,rfl⟩
 ·rcases List.mem_or_eq_of_mem_set hy with hy | rfl
  ·exact hI y hy
  ·exact rW _
theorem aJe:∀(l:On OT) (s r:FillD),aD bW Ot l s=Ot r->(∀p∈s.done,∀x∈p.total.parts,I64 x.net/\I64 x.tax)->(∀p∈l,∀x∈p.total.parts,I64 x.net)->(∀x∈s.ser,I64 x.next)->(∀p∈s.done,p.total.parts.length<=12)->(∀p∈l,p.total.parts.length<=12)->
  (∀p∈r.done,∀x∈p.total.parts,I64 x.net/\I64 x.tax)/\(∀x∈r.ser,I64 x.next)/\r.done.length=s.done.length+l.length/\∀p∈r.done,p.total.parts.length<=12
 | [],s,r,h,h1,_,h3,h4,_=>by cases h;exact⟨h1,h3,rfl,h4⟩
 | p::l,s,r,h,h1,h2,h3,h4,h5=>by
  simp only[aD] at h;cases e:bW s p with
  | inl z=>
   rw[e] at h
   have:z=none:=by
    unfold bW at e
    repeat' split at e
    all_goals first | cases e;rfl | cases e
   rw[this] at h;cases h
  | inr s'=>
   rw[e] at h;obtain⟨q,q1,q2,q5,q3,q4⟩:=aL6 e;have mk:∀z∈kO s.done p.of,∃y∈s.done,z.total=y.total:=λz hz=>by
    obtain⟨y,hy,rfl⟩:=Pv.1 hz;exact⟨y,hy,by split<;>rfl⟩
   obtain⟨r1,r2,r3,r4⟩:=aJe l s' r h (λz hz x hx=>by
    rw[q1] at hz;rcases Qf.1 hz with hz | hz
    ·obtain⟨y,hy,e⟩:=mk z hz;rw[e] at hx;exact h1 y hy x hx
    ·rw[PR.1 hz] at hx;obtain⟨y,hy,rfl⟩:=q2 x hx;exact⟨h2 p (Ph ..) y hy,uD _ _⟩) (λz hz=>h2 z (OY _ hz)) (q4 h3) (λz hz=>by
    rw[q1] at hz;rcases Qf.1 hz with hz | hz
    ·obtain⟨y,hy,e⟩:=mk z hz;rw[e];exact h4 y hy
    ·rw[PR.1 hz,q5];exact h5 p (Ph ..)) (λz hz=>h5 z (OY _ hz))
   refine⟨r1,r2,?_,r4⟩;rw[r3,q1]
   have:(kO s.done p.of).length=s.done.length:=by unfold kO;rw[ON]
   simp[this];omega
end
theorem bXq:lS 38=Ot (.val (dD [])):=by kernel_rfl
theorem aV5{S:St}{v v':V}(h:cP kP (kV (iS S 3) S) v=.ok v')(e:Int):eX S (.tup [v,O J e])=.ok (.tup [v',O J e]):=by
 unfold eX;simp only[cP,Sm,h]
structure GL (X:St) (tv sv pv cv:V) (us:On V) (tab:On Tn) (ser:On Ser) (pst:On OT) (ses:On Uj):Prop where
 ot:Own E0 X 5 tv (tab.map Qk)
 os:Own E0 X 4 sv (ser.map PZ)
 op:Own E0 X 12 pv (Qc QX us pst)
 pl:PL E0 X us pst
 oc:Own E0 X 5 cv (ses.map Qe)
 sep:∀(i:Nat) (u:V) (y:Nat),us[i]?=Ot u->AM.blkOf u=Ot y->AM.blkOf sv≠Ot y
theorem GL.move{X Y:St}{tv sv pv cv:V}{us:On V}{tab:On Tn}{ser:On Ser}{pst:On OT}{ses:On Uj}(h:GL X tv sv pv cv us tab ser pst ses)(hm:∀{w:Nat} {v:V} {es:On (On V)},w≠3->w≠6->Own E0 X w v es->Own E0 Y w v es):GL Y tv sv pv cv us tab ser pst ses:=
 ⟨hm (by decide) (by decide) h.ot,hm (by decide) (by decide) h.os,hm (by decide) (by decide) h.op,h.pl.move λ_ _ _ _ _ o=>hm (by decide) (by decide) o,hm (by decide) (by decide) h.oc,h.sep⟩
set_option maxHeartbeats 2000000 in
theorem bQb{b:On OP}(hb:b.length<1000000000){K:KW}{X:St}{a q:Nat}{r:Rd}(hr:r.pos<=b.length){tv sv pv cv:V}{us:On V}{tab:On Tn}{ser:On Ser}{pst:On OT}{ses:On Uj}(w:WF X)(ra:X.heap.get a=Ot (.row 0 3 [r.cells b]))(rq:X.heap.get q=Ot (.row 0 6 [[tv,sv,pv,.nils,cv,O J 0]]))(CI:a≠q)(h0a:0≠a)(h0q:0≠q)
  (r0:X.heap.get 0=Ot (.row 0 6 [[.nils,.nils,.nils,.nils,.nils,O J 0]])) (g:GL X tv sv pv cv us tab ser pst ses) (h8:ser.length<=8) (h40:pst.length<=40) (h12:∀p∈pst,oP p.total) (hI:∀p∈pst,∀x∈p.total.parts,I64 x.net) (hS:∀x∈ser,I64 x.next)
  (H:∀v S0,eX S0 v=.ok (aCd (bDe b tab ser pst ses r))->K v S0):aGm C K (.ptr 0 0 0 0) (.ptr a 0 0 0) (.ptr q 0 0 0) X:=by
 simp only[aGm,kk,aGq hb hr ra];unfold bDe at H;have hp:=aO hr;generalize aZ b r=y at H hp|-
 obtain⟨nx,r5⟩:=y;simp only at H hp|-
 obtain⟨X1,fg⟩:∃X1:St,X1=⟨X.next,X.heap.put a (.row 0 3 [r5.cells b])⟩:=⟨_,rfl⟩;have g1:GL X1 tv sv pv cv us tab ser pst ses:=by rw[fg];exact g.move λh3 h6 o=>RQ o ra (SJ h3) (Ov _) _
 have w1:WF X1:=by rw[fg];exact gO (n:=X.next) w (w _ _ ra) (Ov _)
 have ra1:X1.heap.get a=Ot (.row 0 3 [r5.cells b]):=by rw[fg];exact Ox _ _ _ trivial
 have Ka:X1.heap.get q=Ot (.row 0 6 [[tv,sv,pv,.nils,cv,O J 0]]):=by rw[fg];exact(OJ _ _ _ _ trivial CI.symm).trans rq
 have r01:X1.heap.get 0=Ot (.row 0 6 [[.nils,.nils,.nils,.nils,.nils,O J 0]]):=by rw[fg];exact(OJ _ _ _ _ trivial h0a).trans r0
 have q1:=aF Ka;have nr:=q1;rw[fg] at nr;simp only[↓cw,↓Oo,Om,kk,nr];clear nr;obtain⟨X2,qq⟩:∃X2:St,X2=⟨X.next,(X.heap.put a (.row 0 3 [r5.cells b])).put q (.row 0 6 [[tv,sv,pv,.nils,cv,O J nx]])⟩:=⟨_,rfl⟩;have e2:X2=⟨X1.next,X1.heap.put q (.row 0 6 [[tv,sv,pv,.nils,cv,O J nx]])⟩:=by rw[qq,fg]
 have g2:GL X2 tv sv pv cv us tab ser pst ses:=by rw[e2];exact g1.move λh3 h6 o=>RQ o Ka (SJ h6) (Ov _) _
 have w2:WF X2:=by rw[e2];exact gO (n:=X1.next) w1 (w1 _ _ Ka) (Ov _)
 have ym:X2.heap.get a=Ot (.row 0 3 [r5.cells b]):=by rw[e2];exact(OJ _ _ _ _ trivial CI).trans ra1
 have rq2:X2.heap.get q=Ot (.row 0 6 [[tv,sv,pv,.nils,cv,O J nx]]):=by rw[e2];exact Ox _ _ _ trivial
 have El:X2.heap.get 0=Ot (.row 0 6 [[.nils,.nils,.nils,.nils,.nils,O J 0]]):=by rw[e2];exact(OJ _ _ _ _ trivial h0q).trans r01
 simp only[<-qq,bXp ym];clear qq e2 fg;obtain⟨X3,qr⟩:∃X3:St,X3=⟨X2.next,X2.heap.put a (.row 0 3 [(lI b r5).cells b])⟩:=⟨_,rfl⟩;have g3:GL X3 tv sv pv cv us tab ser pst ses:=by rw[qr];exact g2.move λh3 h6 o=>RQ o ym (SJ h3) (Ov _) _
 have w3:WF X3:=by rw[qr];exact gO (n:=X2.next) w2 (w2 _ _ ym) (Ov _)
 have FZ:X3.heap.get q=Ot (.row 0 6 [[tv,sv,pv,.nils,cv,O J nx]]):=by rw[qr];exact(OJ _ _ _ _ trivial CI.symm).trans rq2
 have su:X3.heap.get 0=Ot (.row 0 6 [[.nils,.nils,.nils,.nils,.nils,O J 0]]):=by rw[qr];exact(OJ _ _ _ _ trivial h0a).trans El
 simp only[<-qr];clear qr;have s0:=aF su;have q3:=aF FZ;by_cases he:(lI b r5).err=0;rotate_left
 ·rw[Oz he] at H;simp only[↓cw,↓Oo,Om,kk,he,OL,Oy,s0,aA];exact H _ _ (by simp only[oo,aCd,Rc,Py])
 rw[OE he] at H;have o1:=g3.ot.one;have o2:=g3.os.one;have o3:=g3.op.one;have o4:=g3.oc.one;simp only[↓cw,↓Oo,Om,kk,he,OK,Ou,q3,o1,o2,o3,o4];have keepR:∀{Z:St} {q':Nat} {y:Nat} {row:On V},FK X3 Z q' sv pv us->X3.next<=q'->X3.heap.get y=Ot (.row 0 6 [row])->Z.heap.get y=Ot (.row 0 6 [row]):=λ{Z q' y row} k jo hy=>
  k.keep y _ hy (by have:=w3 _ _ hy;omega) (UD g3.os hy (by decide)) (UD g3.op hy (by decide)) λi u hu=>by
   have hi:i<pst.length:=by rw[<-g3.pl.len];exact(Oq.1 hu).1
   exact UD (g3.pl.own i u _ hu (OF hi)) hy (by decide)
 have hgg:∀{h:Tr Blk} {n:Nat} {row dg:On V},aC ⟨n,h.put q (.row 0 6 [dg])⟩ q 0=.ok (6,[dg]):=aA _ _ _ _ _ _;refine g79 (s:=⟨tab,ser,pst,[],ses,nx⟩) w3 g3.os g3.op g3.pl g3.sep o1 o4 h8 h40 h12 hI (λs' bv Z q' jo hf f gh=>?_) λZ q' bv jo hf ea k=>?_;rotate_left
 ·rw[hf] at H;have t1:=aF (keepR k jo FZ);have t2:=aF (S:=⟨Z.next,Z.heap.put q (.row 0 6 [[tv,sv,pv,bv,cv,O J nx]])⟩) ((OJ _ _ _ _ trivial h0q).trans (keepR k jo su));simp only[↓cw,↓Oo,Om,kk,t1,o1,o2,o3,o4,ea];simp only[aGl];simp only[↓cw,↓Oo,Om,kk,t2,aA];exact H _ _ (by simp only[oo,aCd,Rc,Py])
 ·rw[hf] at H;simp only at H;have b1:bv.one=true:=by rcases gh with rfl | ⟨rfl,_⟩<;>rfl
  have t1:=aF (keepR f.fk jo FZ);have gp:s'.table=tab/\s'.sess=ses/\s'.next=nx:=by
   rw[iR] at hf;split at hf
   ·cases hf
   ·cases hf;exact⟨rfl,rfl,rfl⟩
  have o5:∀{v:V} {es:On (On V)},Own E0 X3 5 v es->Own E0 Z 5 v es:=by
   intro v es o;refine o.same f.nxt λy hy=>?_;obtain⟨ver,tl,_,hg⟩:=Own.blk o hy;rw[hg];exact f.keep y _ hg (by have:=w3 _ _ hg;omega) (λe=>UE (by decide) o g3.os hy e) (λe=>UE (by decide) o g3.op hy e) λi u hu e=>by
    have hi:i<pst.length:=by rw[<-g3.pl.len];exact(Oq.1 hu).1
    exact UE (by decide) o (g3.pl.own i u _ hu (OF hi)) hy e
  have got:Got Z (.agg [tv,sv,pv,bv,cv,O J nx]) s':=⟨tv,sv,pv,bv,cv,us,by rw[gp.2.2],by rw[gp.1];exact o5 g3.ot,f.os,f.op,f.pl,gh,by rw[gp.2.1];exact o5 g3.oc⟩;have BV:=got.put (keepR f.fk jo FZ) (.row 0 6 [[tv,sv,pv,bv,cv,O J nx]]);have EY:(∀p∈s'.posted,∀x∈p.total.parts,I64 x.net/\I64 x.tax)/\(∀x∈s'.ser,I64 x.next)/\s'.posted.length=pst.length/\∀p∈s'.posted,p.total.parts.length<=12:=by
   rw[iR] at hf;split at hf
   ·cases hf
   ·rename_i rr EA;cases hf;obtain⟨q1,q2,q3,q4⟩:=aJe _ _ _ EA (λp hp=>by cases hp) hI hS (λp hp=>by cases hp) λp hp=>(h12 p hp).1;exact⟨q1,q2,by rw[q3];simp,q4⟩
  have bc:∀p∈s'.posted,p.total.parts.length<=1100000:=λp hp=>by
   have:=EY.2.2.2 p hp
   omega
  have Mu:=λK':KW=>(WC (λS K=>g38 s' EY.1 (by rw[EY.2.2.1];omega) bc S K)).frz bXq (State.clo s') (args:=[.agg [tv,sv,pv,bv,cv,O J nx]]) (S:=⟨Z.next,Z.heap.put q (.row 0 6 [[tv,sv,pv,bv,cv,O J nx]])⟩) (by simp only[Sm,BV.frz]) (by simp only[TC,BV.ptr,OS]) (.inl rfl) K';rw[aJ4 EY.1 EY.2.1] at Mu;have t2:=aF (S:=⟨Z.next,Z.heap.put q (.row 0 6 [[tv,sv,pv,bv,cv,O J nx]])⟩) ((OJ _ _ _ _ trivial h0q).trans (keepR f.fk jo su));simp only[↓cw,↓Oo,Om,kk,t1,o1,o2,o3,o4,b1,aA,Mu];cases hr:bB s'
  ·simp only[hr,OO,Ou] at H;simp only[aGl];simp only[↓cw,↓Oo,Om,kk,t2,aA];exact H _ _ (by simp only[oo,aCd,Rc,Py])
  ·simp only[hr,Oy] at H;simp only[aGl];simp only[↓cw,↓Oo,Om,kk,t2,aA,o1,o2,o3,o4,b1];have BW:=BV.put ((OJ _ _ _ _ trivial h0q).trans (keepR f.fk jo su)) (.row 0 6 [[tv,sv,pv,bv,cv,O J nx]]);exact H _ _ (aV5 BW.frz 0)
structure P21 (b:On OP) (X:St) (a q:Nat) (r:Rd) (row:On V):Prop where
 w:WF X
 ra:X.heap.get a=Ot (.row 0 3 [r.cells b])
 rq:X.heap.get q=Ot (.row 0 6 [row])
 aq:a≠q
 h0a:0≠a
 h0q:0≠q
 r0:X.heap.get 0=Ot (.row 0 6 [[.nils,.nils,.nils,.nils,.nils,O J 0]])
 hp:r.pos<=b.length
theorem P21.rd{b:On OP}{X:St}{a q:Nat}{r:Rd}{row:On V}(h:P21 b X a q r row){r':Rd}(hp:r'.pos<=b.length):P21 b ⟨X.next,X.heap.put a (.row 0 3 [r'.cells b])⟩ a q r' row:=
 ⟨gO (n:=X.next) h.w (h.w _ _ h.ra) (Ov _),Ox _ _ _ trivial,(OJ _ _ _ _ trivial h.aq.symm).trans h.rq,h.aq,h.h0a,h.h0q,(OJ _ _ _ _ trivial h.h0a).trans h.r0,hp⟩
theorem P21.rb{b:On OP}{B X:St}{a q:Nat}{r r':Rd}{row dg:On V}(h:P21 b B a q r row)(k:RB B b a q 6 r' dg X)(hp:r'.pos<=b.length):P21 b X a q r' dg:=
 ⟨k.wf,k.ra,k.rq,k.aq,h.h0a,h.h0q,(k.old 0 (h.w _ _ h.r0) h.h0a h.h0q).trans h.r0,hp⟩
theorem P21.refl{b:On OP}{X:St}{a q:Nat}{r:Rd}{row:On V}(h:P21 b X a q r row):RB X b a q 6 r row X:=RB.refl h.w h.ra h.rq h.aq
theorem P21.gl{b:On OP}{B X:St}{a q:Nat}{r r':Rd}{row dg:On V}(h:P21 b B a q r row)(k:RB B b a q 6 r' dg X){tv sv pv cv:V}{us:On V}{tab:On Tn}{ser:On Ser}{pst:On OT}{ses:On Uj}(g:GL B tv sv pv cv us tab ser pst ses):GL X tv sv pv cv us tab ser pst ses:=
 g.move λh3 h6 o=>k.keep h.ra h.rq o (SJ h3) (SJ h6)
theorem GL.rd{b:On OP}{X:St}{a q:Nat}{r:Rd}{row:On V}{tv sv pv cv:V}{us:On V}{tab:On Tn}{ser:On Ser}{pst:On OT}{ses:On Uj}(g:GL X tv sv pv cv us tab ser pst ses)(h:P21 b X a q r row)(r':Rd):GL ⟨X.next,X.heap.put a (.row 0 3 [r'.cells b])⟩ tv sv pv cv us tab ser pst ses:=
 g.move λh3 h6 o=>RQ o h.ra (SJ h3) (Ov _) _
def bDf(b:On OP)(tab:On Tn)(ser:On Ser)(pst:On OT)(r:Rd):Qg×Int:=bDe b tab ser pst (aS b (eU b) 8 r).1 (aS b (eU b) 8 r).2
structure F21 (ser:On Ser) (pst:On OT):Prop where
 h8:ser.length<=8
 h40:pst.length<=40
 h12:∀p∈pst,oP p.total
 hI:∀p∈pst,∀x∈p.total.parts,I64 x.net
 hS:∀x∈ser,I64 x.next
set_option maxHeartbeats 2000000 in
theorem bJ1{b:On OP}(hb:b.length<1000000000){K:KW}{X:St}{a q:Nat}{r:Rd}{tv sv pv:V}{us:On V}{tab:On Tn}{ser:On Ser}{pst:On OT}(P:P21 b X a q r [tv,sv,pv,.nils,.nils,O J 0])(g:GL X tv sv pv .nils us tab ser pst [])(F:F21 ser pst)
  (H:∀v S0,eX S0 v=.ok (aCd (bDf b tab ser pst r))->K v S0):aGn C K (.ptr 0 0 0 0) (.ptr a 0 0 0) (.ptr q 0 0 0) X:=by
 simp only[aGn,kk,bDd hb P.hp 8 P.ra];unfold bDf aS at H;obtain⟨z0,z8⟩:=iK (b:=b) (r:=r) (show(0:Int)<=8 by decide) fP;have kq:=fC (most:=8) P.hp;generalize cB b 8 r=y0 at kq z0 z8 H|-
 obtain⟨n,r0⟩:=y0;simp only at kq z0 z8 H|-
 obtain⟨n,rfl⟩:=Qx z0;rw[show((n:Int)).toNat=n from by omega] at H;have P1:=P.rd kq;have g1:=g.rd P r0;generalize (⟨X.next,X.heap.put a (.row 0 3 [r0.cells b])⟩:St)=B at P1 g1|-
 refine eH (λm vs X=>∃(i:Nat) (r1:Rd) (v:V) (done:On Uj),i+m=n/\vs=[O J (i:Int)]/\RB B b a q 6 r1 [tv,sv,pv,.nils,v,O J 0] X/\Own E0 X 5 v (done.map Qe)/\(∀y,AM.blkOf v=Ot y->B.next<=y)/\done.length=i/\r1.pos<=b.length/\done++(aJ (eU b) m r1).1=(aJ (eU b) n r0).1/\(aJ (eU b) m r1).2=(aJ (eU b) n r0).2) ?_ (n:=n) ⟨0,r0,.nils,[],by omega,rfl,P1.refl,Rf _ _ _,(λy h=>by cases h),rfl,kq,rfl,rfl⟩;rintro m vs Z ⟨i,r1,v,done,hi,rfl,k,o,lb,hd,hp,e1,e2⟩ aE gv;have ra:=aF k.ra;simp only[WE] at ra;simp only[bAn];simp only[↓cw,↓Oo,Om,kk,ra];have fin:∀(done:On Uj) (r1:Rd) (v:V) (Z:St),RB B b a q 6 r1 [tv,sv,pv,.nils,v,O J 0] Z->Own E0 Z 5 v (done.map Qe)->r1.pos<=b.length->done=(aJ (eU b) n r0).1->r1=(aJ (eU b) n r0).2->aGm C K (.ptr 0 0 0 0) (.ptr a 0 0 0) (.ptr q 0 0 0) Z:=by
  intro done r1 v Z k o hp e1 e2;rw[<-e1,<-e2] at H;have Pz:=P1.rb k hp;have gz:=P1.gl k g1;exact bQb hb hp Pz.w Pz.ra Pz.rq Pz.aq Pz.h0a Pz.h0q Pz.r0 ⟨gz.ot,gz.os,gz.op,gz.pl,o,gz.sep⟩ F.h8 F.h40 F.h12 F.hI F.hS H
 by_cases ba:(i:Int)<(n:Int);rotate_left
 ·obtain rfl:m=0:=by omega
  simp only[aJ,OS] at e1 e2;simp only[ba,Ou];exact fin done r1 v Z k o hp e1 e2
 by_cases he:r1.err=0;rotate_left
 ·obtain⟨m,rfl⟩:∃m',m=m'+1:=⟨m - 1,by omega⟩;simp only[aJ,he,Ou,OS] at e1 e2;simp only[ba,he,Oy,Ou];exact fin done r1 v Z k o hp e1 e2
 obtain⟨m,rfl⟩:∃m',m=m'+1:=⟨m - 1,by omega⟩;simp only[aJ,he,Oy] at e1 e2;simp only[ba,he,Oy];have kZ:RB Z b a q 6 r1 [tv,sv,pv,.nils,v,O J 0] Z:=RB.refl k.wf k.ra k.rq k.aq;obtain⟨x0,R0,h0⟩:∃v r,aZ b r1=(v,r):=⟨_,_,rfl⟩;have vz:R0.pos<=b.length:=by have:=aO hp;rw[h0] at this;exact this
 have c0:=λK:KW=>aGq (r:=r1) hb hp k.ra K;rw[h0] at c0
 dsimp only at c0
 obtain⟨eu,ew⟩:∃Y:St,Y=⟨Z.next+1,((Z.heap.put a (.row 0 3 [R0.cells b])).put Z.next (.row 0 5 [[O J 0,O J 0,O J 0,O J 0,O J 0]])).put Z.next (.row 0 5 [[O J x0,O J 0,O J 0,O J 0,O J 0]])⟩:=⟨_,rfl⟩;have a0:RT Z b a q 6 Z.next 5 R0 [tv,sv,pv,.nils,v,O J 0] [O J x0,O J 0,O J 0,O J 0,O J 0] eu:=by rw[ew];exact((kZ.rd R0).new 5 [O J 0,O J 0,O J 0,O J 0,O J 0]).tmp [O J x0,O J 0,O J 0,O J 0,O J 0]
 simp only[c0];simp only[↓cw,↓Oo,Om,Pi,kk,Rz,<-ew];clear ew c0;obtain⟨x1,R1,h1⟩:∃v r,aZ b R0=(v,r):=⟨_,_,rfl⟩;have wa:R1.pos<=b.length:=by have:=aO vz;rw[h1] at this;exact this
 have c1:=λK:KW=>aGq (r:=R0) hb vz a0.ra K;rw[h1] at c1
 dsimp only at c1
 have d1:RT Z b a q 6 Z.next 5 R1 [tv,sv,pv,.nils,v,O J 0] [O J x0,O J 0,O J 0,O J 0,O J 0] (⟨eu.next,eu.heap.put a (.row 0 3 [R1.cells b])⟩:St):=a0.rdT R1;have g1:=aF (S:=(⟨eu.next,eu.heap.put a (.row 0 3 [R1.cells b])⟩:St)) d1.rt;simp only[c1];obtain⟨ey,fa⟩:∃Y:St,Y=⟨eu.next,(eu.heap.put a (.row 0 3 [R1.cells b])).put Z.next (.row 0 5 [[O J x0,O J x1,O J 0,O J 0,O J 0]])⟩:=⟨_,rfl⟩;have a1:RT Z b a q 6 Z.next 5 R1 [tv,sv,pv,.nils,v,O J 0] [O J x0,O J x1,O J 0,O J 0,O J 0] ey:=by rw[fa];exact d1.tmp [O J x0,O J x1,O J 0,O J 0,O J 0]
 simp only[↓cw,↓Oo,Om,Pi,kk,Rz,g1,<-fa];clear fa c1 g1 d1 a0;obtain⟨x2,R2,h2⟩:∃v r,aZ b R1=(v,r):=⟨_,_,rfl⟩;have yz:R2.pos<=b.length:=by have:=aO wa;rw[h2] at this;exact this
 have c2:=λK:KW=>aGq (r:=R1) hb wa a1.ra K;rw[h2] at c2
 dsimp only at c2
 have d2:RT Z b a q 6 Z.next 5 R2 [tv,sv,pv,.nils,v,O J 0] [O J x0,O J x1,O J 0,O J 0,O J 0] (⟨ey.next,ey.heap.put a (.row 0 3 [R2.cells b])⟩:St):=a1.rdT R2;have g2:=aF (S:=(⟨ey.next,ey.heap.put a (.row 0 3 [R2.cells b])⟩:St)) d2.rt;simp only[c2];obtain⟨kr,fb⟩:∃Y:St,Y=⟨ey.next,(ey.heap.put a (.row 0 3 [R2.cells b])).put Z.next (.row 0 5 [[O J x0,O J x1,O J x2,O J 0,O J 0]])⟩:=⟨_,rfl⟩;have a2:RT Z b a q 6 Z.next 5 R2 [tv,sv,pv,.nils,v,O J 0] [O J x0,O J x1,O J x2,O J 0,O J 0] kr:=by rw[fb];exact d2.tmp [O J x0,O J x1,O J x2,O J 0,O J 0]
 simp only[↓cw,↓Oo,Om,Pi,kk,Rz,g2,<-fb];clear fb c2 g2 d2 a1;obtain⟨x3,R3,h3⟩:∃v r,aZ b R2=(v,r):=⟨_,_,rfl⟩;have EZ:R3.pos<=b.length:=by have:=aO yz;rw[h3] at this;exact this
 have c3:=λK:KW=>aGq (r:=R2) hb yz a2.ra K;rw[h3] at c3
 dsimp only at c3
 have d3:RT Z b a q 6 Z.next 5 R3 [tv,sv,pv,.nils,v,O J 0] [O J x0,O J x1,O J x2,O J 0,O J 0] (⟨kr.next,kr.heap.put a (.row 0 3 [R3.cells b])⟩:St):=a2.rdT R3;have g3:=aF (S:=(⟨kr.next,kr.heap.put a (.row 0 3 [R3.cells b])⟩:St)) d3.rt;simp only[c3];obtain⟨wb,pj⟩:∃Y:St,Y=⟨kr.next,(kr.heap.put a (.row 0 3 [R3.cells b])).put Z.next (.row 0 5 [[O J x0,O J x1,O J x2,O J x3,O J 0]])⟩:=⟨_,rfl⟩;have a3:RT Z b a q 6 Z.next 5 R3 [tv,sv,pv,.nils,v,O J 0] [O J x0,O J x1,O J x2,O J x3,O J 0] wb:=by rw[pj];exact d3.tmp [O J x0,O J x1,O J x2,O J x3,O J 0]
 simp only[↓cw,↓Oo,Om,Pi,kk,Rz,g3,<-pj];clear pj c3 g3 d3 a2;obtain⟨x4,R4,h4⟩:∃v r,aZ b R3=(v,r):=⟨_,_,rfl⟩;have pR4:R4.pos<=b.length:=by have:=aO EZ;rw[h4] at this;exact this
 have c4:=λK:KW=>aGq (r:=R3) hb EZ a3.ra K;rw[h4] at c4
 dsimp only at c4
 have d4:RT Z b a q 6 Z.next 5 R4 [tv,sv,pv,.nils,v,O J 0] [O J x0,O J x1,O J x2,O J x3,O J 0] (⟨wb.next,wb.heap.put a (.row 0 3 [R4.cells b])⟩:St):=a3.rdT R4;have g4:=aF (S:=(⟨wb.next,wb.heap.put a (.row 0 3 [R4.cells b])⟩:St)) d4.rt;simp only[c4];obtain⟨Zb4,BX⟩:∃Y:St,Y=⟨wb.next,(wb.heap.put a (.row 0 3 [R4.cells b])).put Z.next (.row 0 5 [[O J x0,O J x1,O J x2,O J x3,O J x4]])⟩:=⟨_,rfl⟩;have a4:RT Z b a q 6 Z.next 5 R4 [tv,sv,pv,.nils,v,O J 0] [O J x0,O J x1,O J x2,O J x3,O J x4] Zb4:=by rw[BX];exact d4.tmp [O J x0,O J x1,O J x2,O J x3,O J x4]
 simp only[↓cw,↓Oo,Om,Pi,kk,Rz,g4,<-BX];clear BX c4 g4 d4 a3;obtain⟨ss,wc⟩:∃ss:Uj,ss=⟨x0,x1,⟨x2,x3,x4⟩⟩:=⟨_,rfl⟩;have jb:eU b r1=(ss,R4):=by rw[wc];unfold eU;simp only[h0,h1,h2,h3,h4]
 rw[jb] at e1 e2;have gt:=aF a4.rt;have gq:=aF a4.rq;have o6:=a4.toRB.keep k.ra k.rq o (by decide) (by decide);obtain⟨v',X',q1,k7,o7,za,_,_,_⟩:=(k.trans a4.toRB).app (bb:=40) o6 lb (sess5 ss) (by simp;omega) (by simp[eG];omega);have gx:=aF k7.rq;have k8:=k7.qset [tv,sv,pv,.nils,v',O J 0];have vo:=o7.one;have vc:=o7.cells;rw[wc] at q1;simp only[Qe] at q1;simp only[↓cw,↓Oo,Om,Pi,kk,gt,gq,aPh,q1,gx,vo,vc,gM (show i<1000000000 by omega)];exact gv m _ _ (by omega) ⟨i+1,R4,v',done++[ss],by omega,rfl,k8,by rw[PK];exact RQ o7 k7.rq (by decide) (Ov _) _,za,by simp[hd],pR4,by rw[<-e1];simp,e2⟩
theorem aV6(b:On OP)(r:Rd):I64 (aZ b r).1:=by
 unfold aZ;split
 ·split
  ·rename_i u t e
   have:Go.Pack.numR (b.drop r.pos)=.ok (Go.Pack.zag u,t):=by unfold Go.Pack.numR;rw[e]
   exact⟨(Go.Pack.num_back this).2.1,(Go.Pack.num_back this).2.2⟩
  ·exact(⟨by decide,by decide⟩:I64 0)
 ·exact(⟨by decide,by decide⟩:I64 0)
def bDg(b:On OP)(tab:On Tn)(ser:On Ser)(r:Rd):Qg×Int:=bDf b tab ser (aS b (dA b) 40 r).1 (aS b (dA b) 40 r).2
set_option maxHeartbeats 2000000 in
theorem bQc{b:On OP}(hb:b.length<1000000000){K:KW}{X:St}{a q:Nat}{r:Rd}{tv sv:V}{tab:On Tn}{ser:On Ser}(P:P21 b X a q r [tv,sv,.nils,.nils,.nils,O J 0])(g:GL X tv sv .nils .nils [] tab ser [] [])(h8:ser.length<=8)(hS:∀x∈ser,I64 x.next)
  (H:∀v S0,eX S0 v=.ok (aCd (bDg b tab ser r))->K v S0):aGo C K (.ptr 0 0 0 0) (.ptr a 0 0 0) (.ptr q 0 0 0) X:=by
 simp only[aGo,kk,bDd hb P.hp 40 P.ra];unfold bDg at H;have jv:=mR b (dA b) 40 r;have lg:∀p∈(aS b (dA b) 40 r).1,oP p.total/\∀x∈p.total.parts,I64 x.net:=λp hp=>by
  obtain⟨r',rfl⟩:=lC _ _ _ _ hp;refine⟨aSx b r',λx hx=>?_⟩;obtain⟨r2,rfl⟩:=lC _ _ _ _ hx;exact aV6 _ _
 rw[show((40:Nat):Int)=40 from rfl] at jv;unfold aS at H jv lg;obtain⟨z0,z8⟩:=iK (b:=b) (r:=r) (show(0:Int)<=40 by decide) fP;have kq:=fC (most:=40) P.hp;generalize cB b 40 r=y0 at kq z0 z8 H jv lg|-
 obtain⟨n,r0⟩:=y0;simp only at kq z0 z8 H jv lg|-
 obtain⟨n,rfl⟩:=Qx z0;rw[show((n:Int)).toNat=n from by omega] at H jv lg;have P1:=P.rd kq;have g1:=g.rd P r0;generalize (⟨X.next,X.heap.put a (.row 0 3 [r0.cells b])⟩:St)=B at P1 g1|-
 refine eH (λm vs X=>∃(i:Nat) (r1:Rd) (v:V) (us:On V) (done:On OT),i+m=n/\vs=[O J (i:Int)]/\RB B b a q 6 r1 [tv,sv,v,.nils,.nils,O J 0] X/\Own E0 X 12 v (Qc QX us done)/\(∀y,AM.blkOf v=Ot y->B.next<=y)/\PL E0 X us done/\(∀(j:Nat) (u:V) (y:Nat),us[j]?=Ot u->AM.blkOf u=Ot y->B.next<=y)/\done.length=i/\r1.pos<=b.length/\done++(aJ (dA b) m r1).1=(aJ (dA b) n r0).1/\(aJ (dA b) m r1).2=(aJ (dA b) n r0).2) ?_ (n:=n) ⟨0,r0,.nils,[],[],by omega,rfl,P1.refl,Rf _ _ _,(λy h=>by cases h),PL.nil _ _,(λj u y h=>by simp at h),rfl,kq,rfl,rfl⟩;rintro m vs Z ⟨i,r1,v,us,done,hi,rfl,k,o,lb,pl,lbu,hd,hp,e1,e2⟩ aE gv;have ra:=aF k.ra;simp only[WE] at ra;simp only[bAp];simp only[↓cw,↓Oo,Om,kk,ra];have fin:done=(aJ (dA b) n r0).1->r1=(aJ (dA b) n r0).2->aGn C K (.ptr 0 0 0 0) (.ptr a 0 0 0) (.ptr q 0 0 0) Z:=by
  intro e1 e2;rw[<-e1,<-e2] at H;rw[<-e1] at jv lg;have gz:=P1.gl k g1;exact bJ1 hb (P1.rb k hp) ⟨gz.ot,gz.os,o,pl,Rf _ _ _,λi u y hu hy e=>by have:=lbu i u y hu hy;have:=(cE g1.os e).2;omega⟩ ⟨h8,jv,λp hp=>(lg p hp).1,λp hp=>(lg p hp).2,hS⟩ H
 by_cases ba:(i:Int)<(n:Int);rotate_left
 ·obtain rfl:m=0:=by omega
  simp only[aJ,OS] at e1 e2;simp only[ba,Ou];exact fin e1 e2
 by_cases he:r1.err=0;rotate_left
 ·obtain⟨m,rfl⟩:∃m',m=m'+1:=⟨m - 1,by omega⟩;simp only[aJ,he,Ou,OS] at e1 e2;simp only[ba,he,Oy,Ou];exact fin e1 e2
 obtain⟨m,rfl⟩:∃m',m=m'+1:=⟨m - 1,by omega⟩;clear fin;simp only[aJ,he,Oy] at e1 e2;simp only[ba,he,Oy];have kZ:RB Z b a q 6 r1 [tv,sv,v,.nils,.nils,O J 0] Z:=RB.refl k.wf k.ra k.rq k.aq;obtain⟨x0,R0,h0⟩:∃v r,gV b 64 r1=(v,r):=⟨_,_,rfl⟩;have vz:R0.pos<=b.length:=by have:=dS (most:=64) hp;rw[h0] at this;exact this
 have c0:=λK:KW=>bAs (r:=r1) hb hp k.ra K;rw[h0] at c0
 dsimp only at c0
 obtain⟨eu,ew⟩:∃W0:St,W0=⟨Z.next+1,((Z.heap.put a (.row 0 3 [R0.cells b])).put Z.next (.row 0 12 [[.str [],O J 0,O J 0,O J 0,O J 0,O J 0,O J 0,O J 0,.nils,.str [],O J 0,.bool OA]])).put Z.next (.row 0 12 [[.str x0,O J 0,O J 0,O J 0,O J 0,O J 0,O J 0,O J 0,.nils,.str [],O J 0,.bool OA]])⟩:=⟨_,rfl⟩;have a0:RT Z b a q 6 Z.next 12 R0 [tv,sv,v,.nils,.nils,O J 0] [.str x0,O J 0,O J 0,O J 0,O J 0,O J 0,O J 0,O J 0,.nils,.str [],O J 0,.bool OA] eu:=by rw[ew];exact((kZ.rd R0).new 12 [.str [],O J 0,O J 0,O J 0,O J 0,O J 0,O J 0,O J 0,.nils,.str [],O J 0,.bool OA]).tmp [.str x0,O J 0,O J 0,O J 0,O J 0,O J 0,O J 0,O J 0,.nils,.str [],O J 0,.bool OA]
 simp only[c0];simp only[↓cw,↓Oo,Om,Pi,kk,Rz,<-ew];clear ew c0;obtain⟨x1,R1,h1⟩:∃v r,rM b R0=(v,r):=⟨_,_,rfl⟩;have wa:R1.pos<=b.length:=by have:=sY vz;rw[h1] at this;exact this
 have c1:=λK:KW=>bQa (r:=R0) hb vz a0.ra K;rw[h1] at c1
 dsimp only at c1
 have d1:RT Z b a q 6 Z.next 12 R1 [tv,sv,v,.nils,.nils,O J 0] [.str x0,O J 0,O J 0,O J 0,O J 0,O J 0,O J 0,O J 0,.nils,.str [],O J 0,.bool OA] (⟨eu.next,eu.heap.put a (.row 0 3 [R1.cells b])⟩:St):=a0.rdT R1;have g1:=aF (S:=(⟨eu.next,eu.heap.put a (.row 0 3 [R1.cells b])⟩:St)) d1.rt;simp only[c1];obtain⟨ey,fa⟩:∃W0:St,W0=⟨eu.next,(eu.heap.put a (.row 0 3 [R1.cells b])).put Z.next (.row 0 12 [[.str x0,O J 0,O J x1.y,O J x1.m,O J x1.d,O J 0,O J 0,O J 0,.nils,.str [],O J 0,.bool OA]])⟩:=⟨_,rfl⟩;have a1:RT Z b a q 6 Z.next 12 R1 [tv,sv,v,.nils,.nils,O J 0] [.str x0,O J 0,O J x1.y,O J x1.m,O J x1.d,O J 0,O J 0,O J 0,.nils,.str [],O J 0,.bool OA] ey:=by rw[fa];exact d1.tmp [.str x0,O J 0,O J x1.y,O J x1.m,O J x1.d,O J 0,O J 0,O J 0,.nils,.str [],O J 0,.bool OA]
 simp only[↓cw,↓Oo,Om,Pi,kk,Rz,g1,<-fa];clear fa c1 g1 d1 a0;obtain⟨x2,R2,h2⟩:∃v r,gV b 64 R1=(v,r):=⟨_,_,rfl⟩;have yz:R2.pos<=b.length:=by have:=dS (most:=64) wa;rw[h2] at this;exact this
 have c2:=λK:KW=>bAs (r:=R1) hb wa a1.ra K;rw[h2] at c2
 dsimp only at c2
 have d2:RT Z b a q 6 Z.next 12 R2 [tv,sv,v,.nils,.nils,O J 0] [.str x0,O J 0,O J x1.y,O J x1.m,O J x1.d,O J 0,O J 0,O J 0,.nils,.str [],O J 0,.bool OA] (⟨ey.next,ey.heap.put a (.row 0 3 [R2.cells b])⟩:St):=a1.rdT R2;have g2:=aF (S:=(⟨ey.next,ey.heap.put a (.row 0 3 [R2.cells b])⟩:St)) d2.rt;simp only[c2];obtain⟨kr,fb⟩:∃W0:St,W0=⟨ey.next,(ey.heap.put a (.row 0 3 [R2.cells b])).put Z.next (.row 0 12 [[.str x0,O J 0,O J x1.y,O J x1.m,O J x1.d,O J 0,O J 0,O J 0,.nils,.str x2,O J 0,.bool OA]])⟩:=⟨_,rfl⟩;have a2:RT Z b a q 6 Z.next 12 R2 [tv,sv,v,.nils,.nils,O J 0] [.str x0,O J 0,O J x1.y,O J x1.m,O J x1.d,O J 0,O J 0,O J 0,.nils,.str x2,O J 0,.bool OA] kr:=by rw[fb];exact d2.tmp [.str x0,O J 0,O J x1.y,O J x1.m,O J x1.d,O J 0,O J 0,O J 0,.nils,.str x2,O J 0,.bool OA]
 simp only[↓cw,↓Oo,Om,Pi,kk,Rz,g2,<-fb];clear fb c2 g2 d2 a1;obtain⟨x3,R3,h3⟩:∃v r,aZ b R2=(v,r):=⟨_,_,rfl⟩;have EZ:R3.pos<=b.length:=by have:=aO yz;rw[h3] at this;exact this
 have c3:=λK:KW=>aGq (r:=R2) hb yz a2.ra K;rw[h3] at c3
 dsimp only at c3
 have d3:RT Z b a q 6 Z.next 12 R3 [tv,sv,v,.nils,.nils,O J 0] [.str x0,O J 0,O J x1.y,O J x1.m,O J x1.d,O J 0,O J 0,O J 0,.nils,.str x2,O J 0,.bool OA] (⟨kr.next,kr.heap.put a (.row 0 3 [R3.cells b])⟩:St):=a2.rdT R3;have g3:=aF (S:=(⟨kr.next,kr.heap.put a (.row 0 3 [R3.cells b])⟩:St)) d3.rt;simp only[c3];obtain⟨wb,pj⟩:∃W0:St,W0=⟨kr.next,(kr.heap.put a (.row 0 3 [R3.cells b])).put Z.next (.row 0 12 [[.str x0,O J 0,O J x1.y,O J x1.m,O J x1.d,O J 0,O J 0,O J 0,.nils,.str x2,O J x3,.bool OA]])⟩:=⟨_,rfl⟩;have a3:RT Z b a q 6 Z.next 12 R3 [tv,sv,v,.nils,.nils,O J 0] [.str x0,O J 0,O J x1.y,O J x1.m,O J x1.d,O J 0,O J 0,O J 0,.nils,.str x2,O J x3,.bool OA] wb:=by rw[pj];exact d3.tmp [.str x0,O J 0,O J x1.y,O J x1.m,O J x1.d,O J 0,O J 0,O J 0,.nils,.str x2,O J x3,.bool OA]
 simp only[↓cw,↓Oo,Om,Pi,kk,Rz,g3,<-pj];clear pj c3 g3 d3 a2;simp only[bDd hb EZ 12 a3.ra];obtain⟨y0,Mw⟩:=iK (b:=b) (r:=R3) (show(0:Int)<=12 by decide) fP;have Kb:=fC (most:=12) EZ;obtain⟨nn,R4,h4⟩:∃v r,cB b 12 R3=(v,r):=⟨_,_,rfl⟩;rw[h4] at y0 Mw Kb;simp only at y0 Mw Kb;simp only[h4];obtain⟨nn,rfl⟩:=Qx y0;have d:=a3.rdT R4;generalize (⟨wb.next,wb.heap.put a (.row 0 3 [R4.cells b])⟩:St)=B2 at d|-
 have na:a≠Z.next:=by have:=k.la;have:=k.nx;omega
 have kd:RB B2 b a Z.next 12 R4 [.str x0,O J 0,O J x1.y,O J x1.m,O J x1.d,O J 0,O J 0,O J 0,.nils,.str x2,O J x3,.bool OA] B2:=RB.refl d.wf d.ra d.rt na;have jb:∀(l:On TX) (r5:Rd),(l,r5)=aJ (fA b) nn R4->dA b r1=(⟨⟨x0,0⟩,x1,⟨0,0,0,l⟩,⟨x2,x3⟩,OA⟩,r5):=λl r5 e=>by
  unfold dA aS;simp only[h0,h1,h2,h3,h4,show((nn:Int)).toNat=nn from by omega,<-e]
 refine eH (λm2 vs Y=>∃(j:Nat) (r2:Rd) (u:V) (dn:On TX),j+m2=nn/\vs=[O J (j:Int)]/\RB B2 b a Z.next 12 r2 [.str x0,O J 0,O J x1.y,O J x1.m,O J x1.d,O J 0,O J 0,O J 0,u,.str x2,O J x3,.bool OA] Y/\Own E0 Y 4 u (dn.map PI)/\(∀y,AM.blkOf u=Ot y->B2.next<=y)/\dn.length=j/\r2.pos<=b.length/\dn++(aJ (fA b) m2 r2).1=(aJ (fA b) nn R4).1/\(aJ (fA b) m2 r2).2=(aJ (fA b) nn R4).2) ?_ (n:=nn) ⟨0,R4,.nils,[],by omega,rfl,kd,Rf _ _ _,(λy h=>by cases h),rfl,Kb,rfl,rfl⟩;rintro m2 vs Y ⟨j,r2,u,dn,hj,rfl,k2,o2,Kc,DU,hp2,e3,e4⟩ cz Kd;have ym:=aF k2.ra;simp only[WE] at ym;simp only[bAo];simp only[↓cw,↓Oo,Om,kk,ym];have BY:dn=(aJ (fA b) nn R4).1->r2=(aJ (fA b) nn R4).2->aL5 C K aE (.ptr 0 0 0 0) (.ptr a 0 0 0) (.ptr q 0 0 0) (O J (n:Int)) (O J (i:Int)) (.ptr Z.next 0 0 0) Y:=by
  intro e5 e6;have pf:=jb dn r2 (Prod.ext e5 e6);rw[pf] at e1 e2;have hZY:Z.next<B2.next:=d.lt;have kY:RB B b a q 6 r2 [tv,sv,v,.nils,.nils,O J 0] Y:=by
   have kd:=k.trans d.toRB;have hq:=kd.lq;have hn:=k.nx;exact⟨k2.wf,QC kd.nx k2.nx,kd.la,kd.lq,kd.aq,k2.ra,(k2.old q (by omega) kd.aq.symm (by omega)).trans kd.rq,λy h1 h2 h3=>(k2.old y (by omega) h2 (by omega)).trans (kd.old y h1 h2 h3)⟩
  have low:∀{w:Nat} {x:V} {es:On (On V)},3≠w->6≠w->Own E0 Z w x es->Own E0 Y w x es:=λh3 h6 q=>by
   have q2:=d.toRB.keep k.ra k.rq q h3 h6;exact q2.same k2.nx λy hy=>k2.old y (cE q2 hy).2 (λe=>UD q2 d.ra h3 (e▸hy)) (λe=>by have:=(cE q hy).2;omega)
  have oY:=low (by decide) (by decide) o;have plY:PL E0 Y us done:=pl.move λ_ _ _ _ _ q=>low (by decide) (by decide) q;obtain⟨pp,xx⟩:∃pp:OT,pp=⟨⟨x0,0⟩,x1,⟨0,0,0,dn⟩,⟨x2,x3⟩,OA⟩:=⟨_,rfl⟩;rw[<-xx] at e1 e2;have oU:Own E0 Y 4 u (pp.total.parts.map PI):=by rw[xx];exact o2
  have rt:=aF k2.rq;have rq:=aF kY.rq;have u1:=o2.one;have u2:=o2.cells;obtain⟨v',X',q1,k7,o7,za,keep,nxt,vb⟩:=kY.app (bb:=128) oY lb (aGe oU pp) (by simp;omega) (by simp[eG];omega);have rx:=aF k7.rq;have v1:=o7.one;have v2:=o7.cells;have hz:Qc QX us done++[pp.encW u]=Qc QX (us++[u]) (done++[pp]):=by rw[List.zipWith_append pl.len];rfl
  rw[hz] at o7;have FT:∀{x:V} {es:On (On V)},Own E0 Y 4 x es->Own E0 X' 4 x es:=λq=>q.same nxt λy hy=>keep y (cE q hy).2 (UE (by decide) q oY hy);have Cj:∀(j:Nat) (u':V) (y:Nat),us[j]?=Ot u'->AM.blkOf u'=Ot y->AM.blkOf u≠Ot y:=λj u' y h1 h2 h3=>by
   have ed:j<done.length:=by rw[<-pl.len];exact(Oq.1 h1).1
   have:=(cE (pl.own j u' _ h1 (OF ed)) h2).2
   have:=Kc y h3
   omega
  have yu:PL E0 X' (us++[u]) (done++[pp]):=(plY.snoc oU Cj).move λ_ _ _ _ _ q=>FT q;have k8:=k7.qset [tv,sv,v',.nils,.nils,O J 0];rw[xx] at q1;simp only[QX] at q1;simp only[aL5];simp only[↓cw,↓Oo,Om,Pi,kk,rt,rq,u1,u2,bAg,q1,rx,v1,v2,gM (show i<1000000000 by omega)];refine gv m _ _ (by omega) ⟨i+1,r2,v',us++[u],done++[pp],by omega,rfl,k8,RQ o7 k7.rq (by decide) (Ov _) _,za,yu.move λ_ _ _ _ _ q=>RQ q k7.rq (by decide) (Ov _) _,λj u' y h1 h2=>?_,by simp[hd],hp2,by rw[<-e1];simp,e2⟩;by_cases c:j<us.length
  ·rw[Pr c] at h1;exact lbu j u' y h1 h2
  ·rw[Pe (by omega)] at h1;have kz:j - us.length=0:=by have:=(Oq.1 h1).1;simp at this;omega
   rw[kz] at h1;cases h1
   have:=Kc y h2
   have:=k.nx
   omega
 by_cases BZ:(j:Int)<(nn:Int);rotate_left
 ·obtain rfl:m2=0:=by omega
  simp only[aJ,OS] at e3 e4;simp only[BZ,Ou];exact BY e3 e4
 by_cases F':r2.err=0;rotate_left
 ·obtain⟨m2,rfl⟩:∃m',m2=m'+1:=⟨m2 - 1,by omega⟩;simp only[aJ,F',Ou,OS] at e3 e4;simp only[BZ,F',Oy,Ou];exact BY e3 e4
 obtain⟨m2,rfl⟩:∃m',m2=m'+1:=⟨m2 - 1,by omega⟩;clear BY;simp only[aJ,F',Oy] at e3 e4;simp only[BZ,F',Oy]
 ·have kY:RB Y b a Z.next 12 r2 [.str x0,O J 0,O J x1.y,O J x1.m,O J x1.d,O J 0,O J 0,O J 0,u,.str x2,O J x3,.bool OA] Y:=RB.refl k2.wf k2.ra k2.rq k2.aq;obtain⟨sw,CJ,jg⟩:∃v r,gV b 64 r2=(v,r):=⟨_,_,rfl⟩;have Fb:CJ.pos<=b.length:=by have:=dS (most:=64) hp2;rw[jg] at this;exact this
  have Ga:=λK:KW=>bAs (r:=r2) hb hp2 k2.ra K;rw[jg] at Ga
  dsimp only at Ga
  obtain⟨pk,wd⟩:∃W0:St,W0=⟨Y.next+1,((Y.heap.put a (.row 0 3 [CJ.cells b])).put Y.next (.row 0 4 [[.str [],O J 0,O J 0,O J 0]])).put Y.next (.row 0 4 [[.str sw,O J 0,O J 0,O J 0]])⟩:=⟨_,rfl⟩;have Ke:RT Y b a Z.next 12 Y.next 4 CJ [.str x0,O J 0,O J x1.y,O J x1.m,O J x1.d,O J 0,O J 0,O J 0,u,.str x2,O J x3,.bool OA] [.str sw,O J 0,O J 0,O J 0] pk:=by rw[wd];exact((kY.rd CJ).new 4 [.str [],O J 0,O J 0,O J 0]).tmp [.str sw,O J 0,O J 0,O J 0]
  simp only[Ga];simp only[↓cw,↓Oo,Om,Pi,kk,Rz,<-wd];clear wd Ga;obtain⟨AC,zb,Fs⟩:∃v r,aZ b CJ=(v,r):=⟨_,_,rfl⟩;have Fc:zb.pos<=b.length:=by have:=aO Fb;rw[Fs] at this;exact this
  have Gb:=λK:KW=>aGq (r:=CJ) hb Fb Ke.ra K;rw[Fs] at Gb
  dsimp only at Gb
  have Kf:RT Y b a Z.next 12 Y.next 4 zb [.str x0,O J 0,O J x1.y,O J x1.m,O J x1.d,O J 0,O J 0,O J 0,u,.str x2,O J x3,.bool OA] [.str sw,O J 0,O J 0,O J 0] (⟨pk.next,pk.heap.put a (.row 0 3 [zb.cells b])⟩:St):=Ke.rdT zb;have Mx:=aF (S:=(⟨pk.next,pk.heap.put a (.row 0 3 [zb.cells b])⟩:St)) Kf.rt;simp only[Gb];obtain⟨pm,we⟩:∃W0:St,W0=⟨pk.next,(pk.heap.put a (.row 0 3 [zb.cells b])).put Y.next (.row 0 4 [[.str sw,O J AC,O J 0,O J 0]])⟩:=⟨_,rfl⟩;have Kg:RT Y b a Z.next 12 Y.next 4 zb [.str x0,O J 0,O J x1.y,O J x1.m,O J x1.d,O J 0,O J 0,O J 0,u,.str x2,O J x3,.bool OA] [.str sw,O J AC,O J 0,O J 0] pm:=by rw[we];exact Kf.tmp [.str sw,O J AC,O J 0,O J 0]
  simp only[↓cw,↓Oo,Om,Pi,kk,Rz,Mx,<-we];clear we Gb Mx Kf Ke;obtain⟨Gc,zc,od⟩:∃v r,aZ b zb=(v,r):=⟨_,_,rfl⟩;have Kh:zc.pos<=b.length:=by have:=aO Fc;rw[od] at this;exact this
  have Gd:=λK:KW=>aGq (r:=zb) hb Fc Kg.ra K;rw[od] at Gd
  dsimp only at Gd
  have Ki:RT Y b a Z.next 12 Y.next 4 zc [.str x0,O J 0,O J x1.y,O J x1.m,O J x1.d,O J 0,O J 0,O J 0,u,.str x2,O J x3,.bool OA] [.str sw,O J AC,O J 0,O J 0] (⟨pm.next,pm.heap.put a (.row 0 3 [zc.cells b])⟩:St):=Kg.rdT zc;have My:=aF (S:=(⟨pm.next,pm.heap.put a (.row 0 3 [zc.cells b])⟩:St)) Ki.rt;simp only[Gd];obtain⟨Kj,wg⟩:∃W0:St,W0=⟨pm.next,(pm.heap.put a (.row 0 3 [zc.cells b])).put Y.next (.row 0 4 [[.str sw,O J AC,O J Gc,O J 0]])⟩:=⟨_,rfl⟩;have Ge:RT Y b a Z.next 12 Y.next 4 zc [.str x0,O J 0,O J x1.y,O J x1.m,O J x1.d,O J 0,O J 0,O J 0,u,.str x2,O J x3,.bool OA] [.str sw,O J AC,O J Gc,O J 0] Kj:=by rw[wg];exact Ki.tmp [.str sw,O J AC,O J Gc,O J 0]
  simp only[↓cw,↓Oo,Om,Pi,kk,Rz,My,<-wg];clear wg Gd My Ki Kg;obtain⟨ss,wc⟩:∃ss:TX,ss=⟨sw,AC,Gc,0⟩:=⟨_,rfl⟩;have B':fA b r2=(ss,zc):=by rw[wc];unfold fA;simp only[jg,Fs,od]
  rw[B'] at e3 e4;have gt:=aF Ge.rt;have gq:=aF Ge.rq;have o6:=Ge.toRB.keep k2.ra k2.rq o2 (by decide) (by decide);obtain⟨u',X',q1,k7,o7,za,_,_,_⟩:=(k2.trans Ge.toRB).app (bb:=40) o6 Kc (aIf ss) (by simp;omega) (by simp[eG];omega);have gx:=aF k7.rq;have k8:=k7.qset [.str x0,O J 0,O J x1.y,O J x1.m,O J x1.d,O J 0,O J 0,O J 0,u',.str x2,O J x3,.bool OA];have vo:=o7.one;have vc:=o7.cells;rw[wc] at q1;simp only[PI] at q1;simp only[↓cw,↓Oo,Om,Pi,kk,gt,gq,aMp,q1,gx,vo,vc,gM (show j<1000000000 by omega)];exact Kd m2 _ _ (by omega) ⟨j+1,zc,u',dn++[ss],by omega,rfl,k8,by rw[PK];exact RQ o7 k7.rq (by decide) (Ov _) _,za,by simp[DU],Kh,by rw[<-e3];simp,e4⟩
def aV7(b:On OP)(tab:On Tn)(r:Rd):Qg×Int:=bDg b tab (aS b (eF b) 8 r).1 (aS b (eF b) 8 r).2
set_option maxHeartbeats 2000000 in
theorem bQd{b:On OP}(hb:b.length<1000000000){K:KW}{X:St}{a q:Nat}{r:Rd}{tv:V}{tab:On Tn}(P:P21 b X a q r [tv,.nils,.nils,.nils,.nils,O J 0])(g:GL X tv .nils .nils .nils [] tab [] [] [])
  (H:∀v S0,eX S0 v=.ok (aCd (aV7 b tab r))->K v S0):aGp C K (.ptr 0 0 0 0) (.ptr a 0 0 0) (.ptr q 0 0 0) X:=by
 simp only[aGp,kk,bDd hb P.hp 8 P.ra];unfold aV7 at H;have jv:=mR b (eF b) 8 r;have lg:∀x∈(aS b (eF b) 8 r).1,I64 x.next:=λp hp=>by
  obtain⟨r',rfl⟩:=lC _ _ _ _ hp;exact(⟨by decide,by decide⟩:I64 1)
 rw[show((8:Nat):Int)=8 from rfl] at jv;unfold aS at H jv lg;obtain⟨z0,z8⟩:=iK (b:=b) (r:=r) (show(0:Int)<=8 by decide) fP;have kq:=fC (most:=8) P.hp;generalize cB b 8 r=y0 at kq z0 z8 H jv lg|-
 obtain⟨n,r0⟩:=y0;simp only at kq z0 z8 H jv lg|-
 obtain⟨n,rfl⟩:=Qx z0;rw[show((n:Int)).toNat=n from by omega] at H jv lg;have P1:=P.rd kq;have g1:=g.rd P r0;generalize (⟨X.next,X.heap.put a (.row 0 3 [r0.cells b])⟩:St)=B at P1 g1|-
 refine eH (λm vs X=>∃(i:Nat) (r1:Rd) (v:V) (done:On Ser),i+m=n/\vs=[O J (i:Int)]/\RB B b a q 6 r1 [tv,v,.nils,.nils,.nils,O J 0] X/\Own E0 X 4 v (done.map PZ)/\(∀y,AM.blkOf v=Ot y->B.next<=y)/\done.length=i/\r1.pos<=b.length/\done++(aJ (eF b) m r1).1=(aJ (eF b) n r0).1/\(aJ (eF b) m r1).2=(aJ (eF b) n r0).2) ?_ (n:=n) ⟨0,r0,.nils,[],by omega,rfl,P1.refl,Rf _ _ _,(λy h=>by cases h),rfl,kq,rfl,rfl⟩;rintro m vs Z ⟨i,r1,v,done,hi,rfl,k,o,lb,hd,hp,e1,e2⟩ aE gv;have ra:=aF k.ra;simp only[WE] at ra;simp only[bAq];simp only[↓cw,↓Oo,Om,kk,ra];have fin:done=(aJ (eF b) n r0).1->r1=(aJ (eF b) n r0).2->aGo C K (.ptr 0 0 0 0) (.ptr a 0 0 0) (.ptr q 0 0 0) Z:=by
  intro e1 e2;rw[<-e1,<-e2] at H;rw[<-e1] at jv lg;have gz:=P1.gl k g1;exact bQc hb (P1.rb k hp) ⟨gz.ot,o,gz.op,gz.pl,gz.oc,λi u y hu _=>by simp at hu⟩ jv lg H
 by_cases ba:(i:Int)<(n:Int);rotate_left
 ·obtain rfl:m=0:=by omega
  simp only[aJ,OS] at e1 e2;simp only[ba,Ou];exact fin e1 e2
 by_cases he:r1.err=0;rotate_left
 ·obtain⟨m,rfl⟩:∃m',m=m'+1:=⟨m - 1,by omega⟩;simp only[aJ,he,Ou,OS] at e1 e2;simp only[ba,he,Oy,Ou];exact fin e1 e2
 obtain⟨m,rfl⟩:∃m',m=m'+1:=⟨m - 1,by omega⟩;clear fin;simp only[aJ,he,Oy] at e1 e2;simp only[ba,he,Oy];have kZ:RB Z b a q 6 r1 [tv,v,.nils,.nils,.nils,O J 0] Z:=RB.refl k.wf k.ra k.rq k.aq;obtain⟨x0,R0,h0⟩:∃v r,gV b 64 r1=(v,r):=⟨_,_,rfl⟩;have vz:R0.pos<=b.length:=by have:=dS (most:=64) hp;rw[h0] at this;exact this
 have c0:=λK:KW=>bAs (r:=r1) hb hp k.ra K;rw[h0] at c0
 dsimp only at c0
 obtain⟨eu,ew⟩:∃W0:St,W0=⟨Z.next+1,((Z.heap.put a (.row 0 3 [R0.cells b])).put Z.next (.row 0 4 [[.str [],O J 0,O J 0,.bool OA]])).put Z.next (.row 0 4 [[.str x0,O J 1,O J 0,.bool OA]])⟩:=⟨_,rfl⟩;have a0:RT Z b a q 6 Z.next 4 R0 [tv,v,.nils,.nils,.nils,O J 0] [.str x0,O J 1,O J 0,.bool OA] eu:=by rw[ew];exact((kZ.rd R0).new 4 [.str [],O J 0,O J 0,.bool OA]).tmp [.str x0,O J 1,O J 0,.bool OA]
 simp only[c0];simp only[↓cw,↓Oo,Om,Pi,kk,Rz,<-ew];clear ew c0;obtain⟨x1,R1,h1⟩:∃v r,aZ b R0=(v,r):=⟨_,_,rfl⟩;have wa:R1.pos<=b.length:=by have:=aO vz;rw[h1] at this;exact this
 have c1:=λK:KW=>aGq (r:=R0) hb vz a0.ra K;rw[h1] at c1
 dsimp only at c1
 have d1:RT Z b a q 6 Z.next 4 R1 [tv,v,.nils,.nils,.nils,O J 0] [.str x0,O J 1,O J 0,.bool OA] (⟨eu.next,eu.heap.put a (.row 0 3 [R1.cells b])⟩:St):=a0.rdT R1;have g1:=aF (S:=(⟨eu.next,eu.heap.put a (.row 0 3 [R1.cells b])⟩:St)) d1.rt;simp only[c1];obtain⟨ey,fa⟩:∃W0:St,W0=⟨eu.next,(eu.heap.put a (.row 0 3 [R1.cells b])).put Z.next (.row 0 4 [[.str x0,O J 1,O J x1,.bool OA]])⟩:=⟨_,rfl⟩;have a1:RT Z b a q 6 Z.next 4 R1 [tv,v,.nils,.nils,.nils,O J 0] [.str x0,O J 1,O J x1,.bool OA] ey:=by rw[fa];exact d1.tmp [.str x0,O J 1,O J x1,.bool OA]
 simp only[↓cw,↓Oo,Om,Pi,kk,Rz,g1,<-fa];clear fa c1 g1 d1 a0;obtain⟨x2,R2,h2⟩:∃v r,mF b R1=(v,r):=⟨_,_,rfl⟩;have yz:R2.pos<=b.length:=by have:=aC9 wa;rw[h2] at this;exact this
 have c2:=λK:KW=>bXo (r:=R1) hb wa a1.ra K;rw[h2] at c2
 dsimp only at c2
 have d2:RT Z b a q 6 Z.next 4 R2 [tv,v,.nils,.nils,.nils,O J 0] [.str x0,O J 1,O J x1,.bool OA] (⟨ey.next,ey.heap.put a (.row 0 3 [R2.cells b])⟩:St):=a1.rdT R2;have g2:=aF (S:=(⟨ey.next,ey.heap.put a (.row 0 3 [R2.cells b])⟩:St)) d2.rt;simp only[c2];obtain⟨kr,fb⟩:∃W0:St,W0=⟨ey.next,(ey.heap.put a (.row 0 3 [R2.cells b])).put Z.next (.row 0 4 [[.str x0,O J 1,O J x1,.bool x2]])⟩:=⟨_,rfl⟩;have a2:RT Z b a q 6 Z.next 4 R2 [tv,v,.nils,.nils,.nils,O J 0] [.str x0,O J 1,O J x1,.bool x2] kr:=by rw[fb];exact d2.tmp [.str x0,O J 1,O J x1,.bool x2]
 simp only[↓cw,↓Oo,Om,Pi,kk,Rz,g2,<-fb];clear fb c2 g2 d2 a1;obtain⟨ss,wc⟩:∃ss:Ser,ss=⟨x0,1,x1,x2⟩:=⟨_,rfl⟩;have jb:eF b r1=(ss,R2):=by rw[wc];unfold eF;simp only[h0,h1,h2]
 rw[jb] at e1 e2;have gt:=aF a2.rt;have gq:=aF a2.rq;have o6:=a2.toRB.keep k.ra k.rq o (by decide) (by decide);obtain⟨v',X',q1,k7,o7,za,_,_,_⟩:=(k.trans a2.toRB).app (bb:=40) o6 lb (ser4 ss) (by simp;omega) (by simp[eG];omega);have gx:=aF k7.rq;have k8:=k7.qset [tv,v',.nils,.nils,.nils,O J 0];have vo:=o7.one;have vc:=o7.cells;rw[wc] at q1;simp only[PZ] at q1;simp only[↓cw,↓Oo,Om,Pi,kk,gt,gq,aMp,q1,gx,vo,vc,gM (show i<1000000000 by omega)];exact gv m _ _ (by omega) ⟨i+1,R2,v',done++[ss],by omega,rfl,k8,by rw[PK];exact RQ o7 k7.rq (by decide) (Ov _) _,za,by simp[hd],yz,by rw[<-e1];simp,e2⟩
def aYv(o:Ow Qg):Qg×Int:=match o with
 | none=>(Rc,4)
 | some s=>if bB s=OB then(s,0) else(Rc,4)
theorem aV8(s:Qg)(h1:∀x∈s.ser,x.next=1)(hx:s.posted.length<=1000):aYv (sU s)=aYv (wU s):=by
 have hI:FInv s.ser []:=by
  refine⟨λk x hk=>?_,(λq hq=>by cases hq),List.Pairwise.nil⟩;rw[h1 x (OM hk)];exact⟨TT _,TT _⟩
 have h:=aJd s.posted s.ser [] [] hI (by simpa using hx) rfl;have e1:sU s=(match aL4 (aD cH Ot s.posted (s.ser,[])) with
  | none=>OG
  | some r=>Ot { s with ser:=r.ser,posted:=r.done,book:=r.book }):=by
  unfold sU aL4;cases aD cH Ot s.posted (s.ser,[]) with
  | none=>rfl
  | some r=>
   simp only;split<;>rfl
 rw[e1];unfold wU;rcases h with h | ⟨h,r,hr,hL⟩
 ·rw[h]<;>cases aD bW Ot s.posted ⟨s.ser,[],[]⟩<;>rfl
 ·rw[h,hr];simp only[aYv];rw[Lost.wrong hL];rfl
theorem bAt(b:On OP):iI b=aV7 b (aS b (eE b) 24 ⟨0,0⟩).1 (aS b (eE b) 24 ⟨0,0⟩).2:=by
 rw[aJ9];unfold uR aV7 bDg bDf bDe;simp only;generalize aS b (eE b) 24 ⟨0,0⟩=x;have hm:∀y∈(aS b (eF b) 8 x.2).1,y.next=1:=λp hp=>by
  obtain⟨r',rfl⟩:=lC _ _ _ _ hp;rfl
 generalize aS b (eF b) 8 x.2=y at hm|-
 have hl:=mR b (dA b) 40 y.2;rw[show((40:Nat):Int)=40 from rfl] at hl;generalize aS b (dA b) 40 y.2=z at hl|-
 generalize aS b (eU b) 8 z.2=u;generalize aZ b u.2=v;have hE:(lI b v.2).err=if v.2.err=0 then(if v.2.pos<b.length then 5 else 0) else v.2.err:=by
  unfold lI;split
  ·split
   ·rfl
   ·assumption
  ·rfl
 rw[hE];by_cases c1:v.2.err=0
 ·rw[OE c1,OE c1];by_cases c2:v.2.pos<b.length
  ·rw[OE c2,OE c2,Oz (by decide)]
  ·rw[Oz c2,Oz c2,OE rfl];refine Eq.trans (b:=aYv (sU ⟨x.1,y.1,z.1,[],u.1,v.1⟩)) ?_ ((aV8 ⟨x.1,y.1,z.1,[],u.1,v.1⟩ hm (by show z.1.length<=1000;omega)).trans ?_)
   ·cases sU ⟨x.1,y.1,z.1,[],u.1,v.1⟩<;>rfl
   ·cases wU ⟨x.1,y.1,z.1,[],u.1,v.1⟩<;>rfl
 ·rw[Oz c1,Oz c1,Oz c1]
set_option maxHeartbeats 2000000 in
theorem g21(b:On OP)(hb:b.length<1000000000):Fv 21 [.imm (b.map fX)] (aCd (iI b)):=by
 refine u21 (by simp only[Tl,nK,aU (enc:=fX) (λ_=>rfl),QG]) ?_;have H:∀v S0,eX S0 v=.ok (aCd (aV7 b (aS b (eE b) 24 ⟨0,0⟩).1 (aS b (eE b) 24 ⟨0,0⟩).2))->eX S0 v=.ok (aCd (iI b)):=λv S0 h=>by rw[bAt];exact h
 generalize hK:(λv S0=>eX S0 v=.ok (aCd (iI b)):KW)=K;have H:∀v S0,eX S0 v=.ok (aCd (aV7 b (aS b (eE b) 24 ⟨0,0⟩).1 (aS b (eE b) 24 ⟨0,0⟩).2))->K v S0:=λv S0 h=>by rw[<-hK];exact H v S0 h
 clear hK;obtain⟨S1,av⟩:∃S1:St,S1=⟨1,Tr.nil.put 0 (.row 0 6 [[.nils,.nils,.nils,.nils,.nils,O J 0]])⟩:=⟨_,rfl⟩;have w1:WF S1:=by rw[av];exact gO mB (by decide) (by decide)
 simp only[m21];simp only[↓cw,↓Oo,Om,kk,Px,<-av];have n1:S1.next=1:=by rw[av]
 have g1:S1.heap.get 0=Ot (.row 0 6 [[.nils,.nils,.nils,.nils,.nils,O J 0]]):=by rw[av];exact Ox _ _ _ trivial
 clear av;refine bXg hb w1 λa T xT ha haT hz h73=>?_;obtain⟨T',xd⟩:∃T':St,T'=⟨T.next+1,T.heap.put T.next (.row 0 6 [[.nils,.nils,.nils,.nils,.nils,O J 0]])⟩:=⟨_,rfl⟩;have CD:Ext T T':=by rw[xd];exact Rg (xT.wf w1) _
 obtain⟨Y,hYn,wY,hY,hC⟩:=h73 T' CD 24;simp only[↓cw,↓Oo,Om,kk,<-xd,hC];obtain⟨q,hq⟩:∃q,q=T.next:=⟨_,rfl⟩;have nT:T'.next=T.next+1:=by rw[xd]
 have nx:=xT.next;have qY:Y.heap.get q=Ot (.row 0 6 [[.nils,.nils,.nils,.nils,.nils,O J 0]]):=by rw[hq,hY T.next (.inr (Ov _)),xd];exact Ox _ _ _ trivial
 have pY:Y.heap.get 0=Ot (.row 0 6 [[.nils,.nils,.nils,.nils,.nils,O J 0]]):=by rw[hY 0 (.inl (by omega))];exact CD.old _ _ (xT.old _ _ g1)
 rw[<-hq];have CI:a≠q:=by omega
 have h0a:0≠a:=by omega
 have h0q:0≠q:=by omega
 have haY:a<Y.next:=by omega
 unfold aS at H;obtain⟨z0,z8⟩:=iK (b:=b) (r:=⟨0,0⟩) (show(0:Int)<=24 by decide) fP;have kq:=fC (most:=24) (show(⟨0,0⟩:Rd).pos<=b.length from PS _);generalize cB b 24 ⟨0,0⟩=y0 at kq z0 z8 H |-
 obtain⟨n,r0⟩:=y0;simp only at kq z0 z8 H |-
 obtain⟨n,rfl⟩:=Qx z0;rw[show((n:Int)).toNat=n from by omega] at H;have P1:P21 b (VM Y a (r0.cells b)) a q r0 [.nils,.nils,.nils,.nils,.nils,O J 0]:=⟨St.wf_at haY wY,Yo _ _ _,(OJ _ _ _ _ trivial CI.symm).trans qY,CI,h0a,h0q,(OJ _ _ _ _ trivial h0a).trans pY,kq⟩;clear hC hY qY pY xd CD;generalize VM Y a (r0.cells b)=B at P1|-
 have g1:GL B .nils .nils .nils .nils [] [] [] [] []:=⟨Rf _ _ _,Rf _ _ _,Rf _ _ _,PL.nil _ _,Rf _ _ _,λi u y hu _=>by simp at hu⟩;refine eH (λm vs X=>∃(i:Nat) (r1:Rd) (v:V) (done:On Tn),i+m=n/\vs=[O J (i:Int)]/\RB B b a q 6 r1 [v,.nils,.nils,.nils,.nils,O J 0] X/\Own E0 X 5 v (done.map Qk)/\(∀y,AM.blkOf v=Ot y->B.next<=y)/\done.length=i/\r1.pos<=b.length/\done++(aJ (eE b) m r1).1=(aJ (eE b) n r0).1/\(aJ (eE b) m r1).2=(aJ (eE b) n r0).2) ?_ (n:=n) ⟨0,r0,.nils,[],by omega,rfl,P1.refl,Rf _ _ _,(λy h=>by cases h),rfl,kq,rfl,rfl⟩;rintro m vs Z ⟨i,r1,v,done,hi,rfl,k,o,lb,hd,hp,e1,e2⟩ aE gv;have ra:=aF k.ra;simp only[WE] at ra;simp only[bAr];simp only[↓cw,↓Oo,Om,kk,ra];have fin:done=(aJ (eE b) n r0).1->r1=(aJ (eE b) n r0).2->aGp C K (.ptr 0 0 0 0) (.ptr a 0 0 0) (.ptr q 0 0 0) Z:=by
  intro e1 e2;rw[<-e1,<-e2] at H;have gz:=P1.gl k g1;exact bQd hb (P1.rb k hp) ⟨o,gz.os,gz.op,gz.pl,gz.oc,λi u y hu _=>by simp at hu⟩ H
 by_cases ba:(i:Int)<(n:Int);rotate_left
 ·obtain rfl:m=0:=by omega
  simp only[aJ,OS] at e1 e2;simp only[ba,Ou];exact fin e1 e2
 by_cases he:r1.err=0;rotate_left
 ·obtain⟨m,rfl⟩:∃m',m=m'+1:=⟨m - 1,by omega⟩;simp only[aJ,he,Ou,OS] at e1 e2;simp only[ba,he,Oy,Ou];exact fin e1 e2
 obtain⟨m,rfl⟩:∃m',m=m'+1:=⟨m - 1,by omega⟩;clear fin;simp only[aJ,he,Oy] at e1 e2;simp only[ba,he,Oy];have kZ:RB Z b a q 6 r1 [v,.nils,.nils,.nils,.nils,O J 0] Z:=RB.refl k.wf k.ra k.rq k.aq;obtain⟨x0,R0,h0⟩:∃v r,gV b 64 r1=(v,r):=⟨_,_,rfl⟩;have vz:R0.pos<=b.length:=by have:=dS (most:=64) hp;rw[h0] at this;exact this
 have c0:=λK:KW=>bAs (r:=r1) hb hp k.ra K;rw[h0] at c0
 dsimp only at c0
 obtain⟨eu,ew⟩:∃W0:St,W0=⟨Z.next+1,((Z.heap.put a (.row 0 3 [R0.cells b])).put Z.next (.row 0 5 [[.str [],O J 0,O J 0,O J 0,O J 0]])).put Z.next (.row 0 5 [[.str x0,O J 0,O J 0,O J 0,O J 0]])⟩:=⟨_,rfl⟩;have a0:RT Z b a q 6 Z.next 5 R0 [v,.nils,.nils,.nils,.nils,O J 0] [.str x0,O J 0,O J 0,O J 0,O J 0] eu:=by rw[ew];exact((kZ.rd R0).new 5 [.str [],O J 0,O J 0,O J 0,O J 0]).tmp [.str x0,O J 0,O J 0,O J 0,O J 0]
 simp only[c0];simp only[↓cw,↓Oo,Om,Pi,kk,Rz,<-ew];clear ew c0;obtain⟨x1,R1,h1⟩:∃v r,rM b R0=(v,r):=⟨_,_,rfl⟩;have wa:R1.pos<=b.length:=by have:=sY vz;rw[h1] at this;exact this
 have c1:=λK:KW=>bQa (r:=R0) hb vz a0.ra K;rw[h1] at c1
 dsimp only at c1
 have d1:RT Z b a q 6 Z.next 5 R1 [v,.nils,.nils,.nils,.nils,O J 0] [.str x0,O J 0,O J 0,O J 0,O J 0] (⟨eu.next,eu.heap.put a (.row 0 3 [R1.cells b])⟩:St):=a0.rdT R1;have g1:=aF (S:=(⟨eu.next,eu.heap.put a (.row 0 3 [R1.cells b])⟩:St)) d1.rt;simp only[c1];obtain⟨ey,fa⟩:∃W0:St,W0=⟨eu.next,(eu.heap.put a (.row 0 3 [R1.cells b])).put Z.next (.row 0 5 [[.str x0,O J x1.y,O J x1.m,O J x1.d,O J 0]])⟩:=⟨_,rfl⟩;have a1:RT Z b a q 6 Z.next 5 R1 [v,.nils,.nils,.nils,.nils,O J 0] [.str x0,O J x1.y,O J x1.m,O J x1.d,O J 0] ey:=by rw[fa];exact d1.tmp [.str x0,O J x1.y,O J x1.m,O J x1.d,O J 0]
 simp only[↓cw,↓Oo,Om,Pi,kk,Rz,g1,<-fa];clear fa c1 g1 d1 a0;obtain⟨x2,R2,h2⟩:∃v r,aZ b R1=(v,r):=⟨_,_,rfl⟩;have yz:R2.pos<=b.length:=by have:=aO wa;rw[h2] at this;exact this
 have c2:=λK:KW=>aGq (r:=R1) hb wa a1.ra K;rw[h2] at c2
 dsimp only at c2
 have d2:RT Z b a q 6 Z.next 5 R2 [v,.nils,.nils,.nils,.nils,O J 0] [.str x0,O J x1.y,O J x1.m,O J x1.d,O J 0] (⟨ey.next,ey.heap.put a (.row 0 3 [R2.cells b])⟩:St):=a1.rdT R2;have g2:=aF (S:=(⟨ey.next,ey.heap.put a (.row 0 3 [R2.cells b])⟩:St)) d2.rt;simp only[c2];obtain⟨kr,fb⟩:∃W0:St,W0=⟨ey.next,(ey.heap.put a (.row 0 3 [R2.cells b])).put Z.next (.row 0 5 [[.str x0,O J x1.y,O J x1.m,O J x1.d,O J x2]])⟩:=⟨_,rfl⟩;have a2:RT Z b a q 6 Z.next 5 R2 [v,.nils,.nils,.nils,.nils,O J 0] [.str x0,O J x1.y,O J x1.m,O J x1.d,O J x2] kr:=by rw[fb];exact d2.tmp [.str x0,O J x1.y,O J x1.m,O J x1.d,O J x2]
 simp only[↓cw,↓Oo,Om,Pi,kk,Rz,g2,<-fb];clear fb c2 g2 d2 a1;obtain⟨ss,wc⟩:∃ss:Tn,ss=⟨x0,x1,x2⟩:=⟨_,rfl⟩;have jb:eE b r1=(ss,R2):=by rw[wc];unfold eE;simp only[h0,h1,h2]
 rw[jb] at e1 e2;have gt:=aF a2.rt;have gq:=aF a2.rq;have o6:=a2.toRB.keep k.ra k.rq o (by decide) (by decide);obtain⟨v',X',q1,k7,o7,za,_,_,_⟩:=(k.trans a2.toRB).app (bb:=48) o6 lb (aS1 ss) (by simp;omega) (by simp[eG];omega);have gx:=aF k7.rq;have k8:=k7.qset [v',.nils,.nils,.nils,.nils,O J 0];have vo:=o7.one;have vc:=o7.cells;rw[wc] at q1;simp only[Qk] at q1;simp only[↓cw,↓Oo,Om,Pi,kk,gt,gq,aPh,q1,gx,vo,vc,gM (show i<1000000000 by omega)];exact gv m _ _ (by omega) ⟨i+1,R2,v',done++[ss],by omega,rfl,k8,by rw[PK];exact RQ o7 k7.rq (by decide) (Ov _) _,za,by simp[hd],yz,by rw[<-e1];simp,e2⟩
abbrev bAu:Nat->Ow (On bY):=dD []
abbrev bAv:Nat->On Nat:=dY []
def aA1(C:aL)(K:KW)(BP:V)(S:St):Prop:=
C 20 [BP] S λt19 Cq=>
fI t19 0 λt21=>
fI t19 1 λt22=>
qN Cq 6 [.nils,.nils,.nils,.nils,.nils,jI 0] λKk=>
qS 30 (pt Kk) t21 Kk.2 λwq=>
C 21 [BP] wq λt25 DT=>
fI t25 0 λt27=>
fI t25 1 λt28=>
qN DT 6 [.nils,.nils,.nils,.nils,.nils,jI 0] λwv=>
qS 30 (pt wv) t27 wv.2 λGf=>
(qG .eql 3 t22 t28 λt31=>
aN t31 (qL 30 (pt Kk) Gf λt32=>
qL 30 (pt wv) Gf λt33=>
C 22 [t32,t33] Gf λt34 qi=>
aN t34 (C 25 [] qi λt36 DF=>
K t36 DF) (K (.bool OA) qi)) (K (.bool OA) Gf))
def m14(C:aL)(a0 a1 a2 a3:V)(S:St)(K:KW):Prop:=
C 31 [] S λt0 S1=>
C 30 [a0,(jI 40)] S1 λt2 S3=>
C 35 [t0,t2] S3 λt4 S5=>
fI t4 0 λt6=>
fI t4 1 λt7=>
qN S5 6 [.nils,.nils,.nils,.nils,.nils,jI 0] λr8=>
qS 30 (pt r8) t6 r8.2 λS9=>
qL 30 (pt r8) S9 λt10=>
C 29 [t10] S9 λt11 Ap=>
qZ 22 t11 Ap λt13=>
(qG .eql 3 t13 (jI 0) λt14=>
aN t14 (K (.bool OA) Ap) (qZ 22 t11 Ap λt15=>
qB .sub 3 t15 (jI 1) λt16=>
C 45 [a1,(jI 0),t16] Ap λt17 Bw=>
C 45 [a3,(jI 0),(jI 2)] Bw λt38 Am=>
(qG .eql 3 t38 (jI 0) λt40=>
aN t40 (qX 22 t11 t17 λt41=>
qS 5 t41 a2 Am λS42=>
aA1 C K t11 S42) ((qG .eql 3 t38 (jI 1) λt43=>
aN t43 (wR (iZ prog 22 t11 OG (Ot t17)) λt44=>
aA1 C K t44 Am) ((qG .eql 3 t38 (jI 2) λt45=>
aN t45 (qQ 22 1 [(0,a2)] OG Am λxf=>
qP 22 t11 xf.1 OG xf.2 λMz=>
aA1 C K Mz.1 Mz.2) (aA1 C K t11 Am))))))))
theorem bJ2:(λ(C:aL) (a0 a1 a2 a3:V) (S:St) (K:KW)=>dR prog C bAu bAv 14 [a0,a1,a2,a3] S K)=λC a0 a1 a2 a3 S K=>m14 C a0 a1 a2 a3 S K:=by kernel_rfl
theorem t14(C:aL)(a0 a1 a2 a3:V)(S:St)(K:KW):dR prog C bAu bAv 14 [a0,a1,a2,a3] S K=m14 C a0 a1 a2 a3 S K:=OR (OR (OR (OR (OR (OR (OR bJ2 C) a0) a1) a2) a3) S) K
theorem u14{a0 a1 a2 a3:V}{v:V}(hc:Tl [a0,a1,a2,a3]=OB)(h:m14 C a0 a1 a2 a3 ⟨0,.nil⟩ λv0 S0=>eX S0 v0=.ok v):Fv 14 [a0,a1,a2,a3] v:=Go.AM.Fn.of (p:=bAu) (lv:=bAv) (by kernel_rfl) hc (by rw[t14];exact h)
theorem aJf(b:On OP):(∃e:Int,e≠0/\iI b=(Rc,e))\/∃s,bB s=OB/\iI b=(s,0):=by
 unfold iI;split
 ·rename_i e he;exact .inl ⟨e,λh=>CNE.img b (by rw[he,h]),rfl⟩
 ·split
  ·split
   ·exact .inl ⟨4,by decide,rfl⟩
   ·split
    ·rename_i hr;exact .inr ⟨_,hr,rfl⟩
    ·exact .inl ⟨4,by decide,rfl⟩
  ·exact .inl ⟨5,by decide,rfl⟩
theorem aL7{b:On OP}(h:(iI b).2=0):bB (iI b).1=true:=by
 rcases aJf b with ⟨e,h1,h2⟩ | ⟨s,h1,h2⟩
 ·rw[h2] at h;exact absurd h h1
 ·rw[h2];exact h1
theorem aL8{b:On OP}(h:(iI b).2≠0):(iI b).1=Rc:=by
 rcases aJf b with ⟨e,h1,h2⟩ | ⟨s,h1,h2⟩
 ·rw[h2]
 ·rw[h2] at h;exact absurd rfl h
theorem aPz(b:On OP):SmlS (iI b).1:=by
 by_cases h:(iI b).2=0
 ·obtain⟨q1,q2,q3,q4,q5,q6,_⟩:=rG (aL7 h);exact⟨by omega,by omega,by omega,λp hp=>by have:=q6 p hp;omega,by omega,by omega⟩
 ·rw[aL8 h];exact⟨by decide,by decide,by decide,(λp hp=>by cases hp),by decide,by decide⟩
theorem Got.cut{X:St}{v:V}{s:Qg}(h:Got X v s){y ver:Nat}{ae:On (On V)}(hy:X.heap.get y=Ot (.row ver 1 ae)){h':Tr Blk}(hk:∀z,z≠y->h'.get z=X.heap.get z):Got ⟨X.next,h'⟩ v s:=by
 obtain⟨tv,sv,pv,bv,cv,us,h1,h2,h3,h4,h5,h6,h7⟩:=h.is;have m:∀{w:Nat} {x:V} {es:On (On V)},1≠w->Own E0 X w x es->Own E0 ⟨X.next,h'⟩ w x es:=λhw o=>o.same (Ov _) λz hz=>hk z λe=>UD o hy hw (e▸hz);exact⟨tv,sv,pv,bv,cv,us,h1,m (by decide) h2,m (by decide) h3,m (by decide) h4,h5.move λ_ _ _ _ _ o=>m (by decide) o,h6,m (by decide) h7⟩
theorem bXr:lS 21=Ot (.val (dD [])):=by kernel_rfl
theorem w22{X:St}{u:V}{s:Qg}(got:Got X u s)(hs:SmlS s)(K:KW):C 22 [u,.agg [.imm (s.table.map Qk),.imm (s.ser.map PZ),.imm (s.posted.map Pg),.imm (s.book.map PC),.imm (s.sess.map Qe),O J s.next]] X K=K (.bool OB) X:=by
 have:=(WC (λS K=>g22 s s hs S K)).frz bXl (by simpa only[Tl,QQ] using(show Tl [_,_]=OB by simp only[Tl,State.clo' s,QG])) (args:=[u,.agg [.imm (s.table.map Qk),.imm (s.ser.map PZ),.imm (s.posted.map Pg),.imm (s.book.map PC),.imm (s.sess.map Qe),O J s.next]]) (S:=X) (bXk got.frz (mV _ (State.clo' s))) (bQ7 got.ptr (xF _ (State.clo' s))) (.inl rfl) K
 rw[(aUv s s).2 rfl] at this;exact this
set_option maxHeartbeats 2000000 in
theorem bAw{X:St}(w:WF X){y ver k:Nat}{ae:On (On V)}(hy:X.heap.get y=Ot (.row ver 1 ae))(hk:k<=ae.length){b:On OP}(hb:b.length<1000000000)(he:ae.take k=b.map fX){K:KW}(H:∀S,K (.bool OB) S):aA1 C K (.sl y ver 1 0 k) X:=by
 have ff:∀{Z:St},Z.heap.get y=Ot (.row ver 1 ae)->aK Z (.sl y ver 1 0 k)=.ok (b.map fX):=λhz=>by
  rw[<-he];exact aC8 hz hk
 simp only[aA1];refine g20 hb w (ff hy) λX1 u x1 got=>?_;obtain⟨s,hs⟩:∃s,s=(iI b).1:=⟨_,rfl⟩;have Ca:=aPz b;rw[<-hs] at got Ca;obtain⟨tv,sv,pv,bv,cv,us,hu,h2,h3,h4,h5,h6,h7⟩:=got.is;have b1:bv.one=true:=by rcases h6 with rfl | ⟨rfl,_⟩<;>rfl
 have b2:=h2.one;have b3:=h3.one;have b4:=h4.one;have b5:=h7.one;obtain⟨X2,qq⟩:∃X2:St,X2=X1.var 6 [.nils,.nils,.nils,.nils,.nils,O J 0] [tv,sv,pv,bv,cv,O J s.next]:=⟨_,rfl⟩;have w1:=x1.wf w;have x2:Ext X1 X2:=by rw[qq];exact Ext.var w1 6 _ _
 have w2:=x2.wf w1;have BW:=got.ext x2;have Cz:=x2.old _ _ (x1.old _ _ hy);have r2:X2.heap.get X1.next=Ot (.row 0 6 [[tv,sv,pv,bv,cv,O J s.next]]):=by rw[qq];exact Ox _ _ _ trivial
 have f1:cP kP (kV (iS X2 3) X2) (.sl y ver 1 0 k)=.ok (.imm (b.map fX)):=by
  simp only[cP,kV,ff Cz,(fK (S:=X2) (n:=2) (aU (enc:=fX) (λ_=>rfl) b)).1]
 have f2:slsVs (jS (iA X2 3) X2) [.sl y ver 1 0 k]=[y]:=by
  simp only[slsVs,fF,jS,ff Cz,(fK (S:=X2) (n:=2) (aU (enc:=fX) (λ_=>rfl) b)).2];rfl
 obtain⟨h',dl,MA⟩:=(g21 b hb).cutE bXr (by simp only[Tl,nK,aU (enc:=fX) (λ_=>rfl),QG]) (args:=[.sl y ver 1 0 k]) (S:=X2) (by simp only[Sm,f1]) rfl;have dl:∀z,z≠y->h'.get z=X2.heap.get z:=λz hz=>dl z (by rw[f2];simpa using hz);have Kl:=BW.cut Cz dl;simp only[aCd,<-hs] at MA;have hyX:X1.next≠y:=by have:=w1 _ _ (x1.old _ _ hy);omega
 have w3:WF ⟨X2.next,h'⟩:=λz d hz=>by
  by_cases e:z=y
  ·rw[e];exact w2 _ _ Cz
  ·exact w2 z d (by rw[<-dl z e];exact hz)
 obtain⟨X4,vi⟩:∃X4:St,X4=(⟨X2.next,h'⟩:St).var 6 [.nils,.nils,.nils,.nils,.nils,O J 0] [.imm (s.table.map Qk),.imm (s.ser.map PZ),.imm (s.posted.map Pg),.imm (s.book.map PC),.imm (s.sess.map Qe),O J s.next]:=⟨_,rfl⟩;have x4:Ext ⟨X2.next,h'⟩ X4:=by rw[vi];exact Ext.var w3 6 _ _
 have Km:=Kl.ext x4;have r4:=aF (x4.old X1.next _ ((dl _ hyX).trans r2));have r5:aC X4 X2.next 0=.ok (6,[[.imm (s.table.map Qk),.imm (s.ser.map PZ),.imm (s.posted.map Pg),.imm (s.book.map PC),.imm (s.sess.map Qe),O J s.next]]):=by rw[vi];exact aA _ _ _ _ _ _
 have MB:=λK=>w22 Km Ca K;rw[hu] at MB;rw[hu];simp only[St.var] at qq vi;simp only[↓cw,↓Oo,Om,Pi,kk,b1,b2,b3,b4,b5,<-qq,MA,<-vi,r4,r5,MB,g25];exact H _
theorem Own.there1{S0 X:St}{n:Nat}{v:V}{es:On (On V)}(o:Own S0 X n v es)(h:es≠[]):∃y ver tl,v=.sl y ver n 0 es.length/\X.heap.get y=Ot (.row ver n (es++tl)):=by
 rcases o.is with ⟨_,e⟩ | ⟨a,ver,tl,e1,_,_,e2⟩
 ·exact absurd e h
 ·exact⟨a,ver,tl,e1,e2⟩
theorem aSy{S0 X:St}(w:WF X){v:V}{b:On OP}(o:Own S0 X 1 v (b.map fX))(ah:b≠[])(hb:b.length<1000000000){K:KW}(H:∀S,K (.bool OB) S):aA1 C K v X:=by
 obtain⟨y,ver,tl,e1,e2⟩:=Own.there1 o (by simpa using ah);rw[e1];exact bAw w e2 (by simp) hb (by simp) H
set_option maxHeartbeats 2000000 in
theorem g14(l:On Call)(at_:Int)(to:OP)(Gg:Int)(S:St)(K:KW):C 14 [.imm (l.map Call.enc),O J at_,.int ω (to.toNat:Int),O J Gg] S K=K (.bool OB) S:=by
 refine(u14 (by simp only[Tl,nK,aU (enc:=Call.enc) (λ_=>rfl),QG]) ?_).eq S K;obtain⟨K',Ko⟩:∃K':KW,K'=λv0 S0=>eX S0 v0=.ok (V.bool OB):=⟨_,rfl⟩;have H:∀S0,K' (.bool OB) S0:=λS0=>by rw[Ko];rfl
 rw[<-Ko];clear Ko;have MC:=λS K=>g30 l 40 (by decide) S K;simp only[show((40:Nat):Int)=40 from rfl] at MC;obtain⟨s,hs⟩:∃s,s=(playM Sg (wC l 40)).1:=⟨_,rfl⟩;have A:After s:=by rw[hs];exact After.new.play _
 have MD:=λS K=>a35 l 40 (by decide) S K;simp only[<-hs] at MD;obtain⟨q1,q2,q3,q4,q5,q6,_⟩:=rG A.beh.right;have Kp:=bCw A.beh.right A.beh.ints A.rep;simp only[m14];simp only[↓cw,↓Oo,Om,kk,eY,gm,g31,MC,MD];refine g29 s A.beh.ints (aPw A.beh.right) (by omega) (λq hq=>by have:=q6 q hq;omega) (λ_=>A.img) ?_ λv X x o=>?_
 ·exact gO (n:=1) (gO (n:=0) mB (by decide) (by decide)) (by decide) (by decide)
 obtain⟨b,hb⟩:∃b,b=sB s:=⟨_,rfl⟩;rw[<-hb] at o Kp;have ah:b≠[]:=λe=>by rw[e] at Kp;simp at Kp
 have gg:b.length<1000000:=by omega
 have hlen:lenW v=.ok (O J (b.length:Int)):=by rw[o.sl.lenI]
 have w1:wr J ((b.length:Int) - 1)=(b.length:Int) - 1:=fB (by omega) (by omega);have w:=x.wf (gO (n:=1) (gO (n:=0) mB (by decide) (by decide)) (by decide) (by decide));have ME:=λS K=>g45 at_ 0 ((b.length:Int) - 1) (by omega) (by omega) (by omega) S K;have MF:=λS K=>g45 Gg 0 2 (by omega) (by omega) (by omega) S K;obtain⟨r1,r2⟩:=aBc at_ (lo:=0) (hi:=(b.length:Int) - 1) (by omega);obtain⟨r3,r4⟩:=aBc Gg (lo:=0) (hi:=2) (by omega);generalize uK at_ 0 ((b.length:Int) - 1)=k at ME r1 r2;generalize uK Gg 0 2=c at MF r3 r4;obtain⟨k,rfl⟩:=Qx r1;have hk:k<b.length:=by omega
 obtain⟨y,ver,tl,e1,e2⟩:=Own.there1 o (by simpa using ah);rw[ON] at e1;have o':Own E0 X 1 v (b.map fX):=o.weaken (PS _);have mw:(b.map fX)[k]?=Ot (fX b[k]):=by rw[Pc,OF hk];rfl
 simp only[↓cw,↓Oo,Om,kk,hlen,show((b.length:Int)=0)=False by simp;omega,Ou,w1,ME,MF];by_cases c0:c=0
 ·simp only[c0,Oy];obtain⟨a,vr,s1,_,_,s4,_,s6⟩:=o'.setK (rV w) mB mw J;obtain⟨X',t1,_,t3,t4,_,t6⟩:=s6 0 1 (.int ω (to.toNat:Int)) rfl rfl (by decide);have e5:(b.map fX).set k (splice (fX b[k]) 0 (V.int ω (to.toNat:Int)).cells)=(b.set k to).map fX:=by rw[RM];rfl
  rw[e5] at t4;simp only[↓cw,↓Oo,Om,kk,s4,t1];exact aSy (t6 w) t4 (by intro h;have:=Qo TN h;simp at this;exact ah this) (by rw[Qm];omega) H
 by_cases c1:c=1
 ·simp only[c0,c1,Oy,Ou];have IH:eR b.length OG (Ot (O J (k:Int)))=.ok (0,k):=by
   have h1:decide ((0:Int)<=(k:Int))=true:=by simp
   have h2:decide ((k:Int)<=(b.length:Int))=true:=by simp;omega
   simp only[eR,h1,h2,QG,cond_true,Pn]
  rw[e1];simp only[↓cw,↓Oo,Om,kk,show((1:Int)=0)=False by simp,Ou,IH,Nat.sub_zero];exact bAw (b:=b.take k) w e2 (by simp;omega) (by simp;omega) (by rw[Rj (by simp;omega),Se]) H
 ·have c2:c=2:=by omega
  subst c2;obtain⟨v',X',q1,q2,q3,_,_,_⟩:=(o'.ext (Rg w (.row 0 1 [[.int ω (to.toNat:Int)]]))).pushG (b:=1) (rV ((Rg w _).wf w)) mB (u:=.sl X.next 0 1 0 1) (cs:=[fX to]) (by simp only[aK,aA];rfl) (λd hd=>by rcases PR.1 hd with rfl;exact u81 to) (by simp) (by simp;omega) (by simp[eG];omega);simp only[↓cw,↓Oo,Om,kk,show((2:Int)=0)=False by simp,show((2:Int)=1)=False by simp,Oy,Ou,aUb,q1];have e5:b.map fX++[fX to]=(b++[to]).map fX:=by simp
  rw[e5] at q3;exact aSy (q2.wf mB) q3 (by simp) (by simp;omega) H
end Go.Proofs.YtoaibmbldmckaaaGreat
end
