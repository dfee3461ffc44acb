import Derived.Test.YtoaibmbldmckaaaGreatX3
set_option linter.unusedSimpArgs false
set_option linter.unusedVariables false
set_option linter.unusedSectionVars false
set_option maxRecDepth 100000
open Go.AM.V renaming int→O
open Nat renaming reduceLT→Om,le_refl→Ov,reduceAdd→Pi,mul_le_mul_right→Po,beq→Pw,zero_add→Px,zero_le→PS,le_succ→PX,lt_succ_self→Qb,sub_self→Qt,le_trans→QC,ble_eq_true_of_le→RK,reduceSub→Tp,mod_eq_of_lt→VV,reduceMul→WK,reducePow→WL,lt_succ_iff_lt_or_eq→WM,min_eq_left→WR,lt_irrefl→YF
open _root_ renaming List→On,reduceIte→Oo,if_false→Ou,Option→Ow,if_true→Oy,if_neg→Oz,if_pos→OE,not_true_eq_false→OK,not_false_eq_true→OL,UInt8→OP,Bool→Ps,decide_eq_true_eq→PB,cond_true→PW,congrArg→Qo,cond_false→QF,decide_eq_false_iff_not→QY,decide_true→Rk,of_decide_eq_true→RH,ne_eq→SI,Except→Vg,decide_eq_true→WD
open List renaming getElem?_eq_some_iff→Oq,length_append→OC,getElem?_eq_getElem→OF,mem_of_getElem?→OM,length_map→ON,length_cons→OQ,append_nil→OS,mem_cons_of_mem→OY,getElem?_map→Pc,append_assoc→Pd,getElem?_append_right→Pe,length_nil→Pf,mem_cons_self→Ph,getD_eq_getElem?_getD→Pl,nil_append→Pp,getElem?_append_left→Pr,mem_cons→Pu,mem_map→Pv,mem_iff_getElem?→PA,cons_append→PJ,map_append→PK,mem_or_eq_of_mem_set→PN,getElem?_drop→PP,length_drop→PQ,mem_singleton→PR,replicate→PT,length_take→PY,map_cons→Qd,mem_append→Qf,getElem?_set→Qi,length_set→Qm,getElem?_take→Qp,mem_append_right→QB,mem_of_mem_take→QP,getElem?_of_mem→QR,take_of_length_le→QW,getElem?_eq_none→Re,drop_zero→Rh,pairwise_cons→Ri,take_append_of_le_length→Rj,ext_getElem?→RN,take_append_drop→Sd,map_take→Se,takeWhile_cons→Sy,getElem?_replicate→Sz,sum_cons→SH,pairwise_iff_getElem→Ta,take_left'→Tk,takeWhile_append_dropWhile→TA,not_mem_nil→TJ,flatMap_cons→TK,length→TN,dropWhile_cons→TW,map_map→Ua,take_zero→Uk,pairwise_map→Us,any_eq_false→UC,filter_cons→UQ,take_succ_cons→Vi,take_length→VL,foldl_cons→Wv,filter_eq_nil_iff→WS,drop_of_length_le→WU,filter_append→XA,drop_left'→XV,take_take→Yl,drop_nil→Yv,take_nil→Yw
open Option renaming some→Ot,none→OG,map_some→Rv
open Go.AM renaming Tr.get_put_sameB→Ox,Tr.get_put_neB→OJ,Own.nil→Rf,frzVs→Sm,cloVs→Tl,ptrsVs→TC,slsVs→TM,Fn.back→WC
open Bool renaming false→OA,true→OB,false_eq_true→OO,and_eq_true→OU,true_eq_false→Pq,and_self→QG,not_true→QL,or_eq_true→Ra,true_and→Rn,not_false→Rs,or_eq_false_iff→RI,false_and→RJ,eq_iff_iff→So,or_false→Ul
open Go.Proofs.YtoaibmbldmckaaaGreat renaming Posted→OT,Posted.enc→Pg,Bal.enc→PC,Part.enc→PI,Ser.enc→PZ,Sess.enc→Qe,State→Qg,Rate.enc→Qk,Ref.zero→Qr,State.new→Sg,State.enc→SB,Rep.zero→SQ,Line.enc→Tg,Rate→Tn,Part→TX,Sess→Uj,State.cells→Uo,Total→Up,Rep.enc→U',Date→Vo,Date.before→VS,Posted.cells→WA,Posted.zero→WT
open BitVec renaming ofInt→OX,toNat_ofInt→Rx,allOnes_xor→Xh,toNat_not→Xz,allOnes→XN
open Int renaming lt_irrefl→OZ,toNat_natCast→Pn,tdiv_eq_ediv_of_nonneg→QD,tmod_eq_emod_of_nonneg→RX,mul_nonneg→Tw,add_zero→Tx,le_refl→TT,mul_le_mul_of_nonneg_right→VU,natCast_zero→Wz,add_assoc→WJ,emod_lt_of_pos→XI,ediv_le_self→XW,ediv_nonneg→Yj,ediv_mul_le→Yk,emod_nonneg→Ym,mul_le_mul→Yu,mul_assoc→YG
open Go.IntKind renaming u64→PH,signed→Sq,wrap_i64→Sv,i64→J,u64→ξ
open Decidable renaming not_not→PM
open Go renaming IntKind→Qa
open Option.some renaming inj→Qz
open UInt8 renaming ofNat→QK
open Except.ok renaming inj→SL
open Prod.mk renaming inj→TI,injEq→Wf
open Except renaming ok→TO
open Prod renaming ext→Vn,snd→Xi
open Sum.inl renaming injEq→XO
section
namespace Go.AM
theorem Own.frzN{S0 S:St}{n:Nat}{v:V}{es:On (On V)}(h:Own S0 S n v es)(hc:es.all Tl=OB)(k:Nat):cP kP (kV (iS S (k+1)) S) v=.ok (.imm es):=by
 rcases h.is with ⟨rfl,rfl⟩ | ⟨a,ver,tl,rfl,_,_,q⟩
 ·rfl
 ·have he:aK S (.sl a ver n 0 es.length)=.ok es:=h.sl.elems;simp only[cP,kV,he,(fK (S:=S) (n:=k) hc).1]
theorem Own.blks{S0 S:St}{n:Nat}{v:V}{es:On (On V)}(h:Own S0 S n v es)(hc:es.all Tl=OB)(k:Nat){y:Nat}(hy:y∈fF (jS (iA S (k+1)) S) v):blkOf v=Ot y:=by
 rcases h.is with ⟨rfl,rfl⟩ | ⟨a,ver,tl,rfl,_,_,q⟩
 ·cases hy
 ·have he:aK S (.sl a ver n 0 es.length)=.ok es:=h.sl.elems;simp only[fF,jS,he,(fK (S:=S) (n:=k) hc).2,PR] at hy;rw[hy];rfl
theorem aS3{α β:Type}{φ:α->R β}:∀{l:On α} {out:On β},l.length=out.length->(∀(j:Nat) (x:α),l[j]?=Ot x->∃y,out[j]?=Ot y/\φ x=.ok y)->kU φ l=.ok out
 | [],[],_,_=>rfl
 | [],_::_,h,_=>by simp at h
 | _::_,[],h,_=>by simp at h
 | x::l,y::out,h,hx=>by
  obtain⟨y',h1,h2⟩:=hx 0 x rfl;cases h1;simp only[kU,h2,aS3 (l:=l) (out:=out) (by simpa using h) λj z hz=>hx (j+1) z hz]
theorem aMr{φ:On V->On Nat}{a:Nat}:∀{l:On (On V)},a∈lK φ l->∃x∈l,a∈φ x
 | [],h=>by cases h
 | x::l,h=>by
  rcases Qf.1 h with h | h
  ·exact⟨x,Ph ..,h⟩
  ·obtain⟨z,h1,h2⟩:=aMr h;exact⟨z,OY _ h1,h2⟩
theorem bCi{l:On Nat}{a:Nat}(h:a ∉ l):(l.any λb=>iT b [a])=false:=by
 rw[UC];intro b hb e;simp only[iT,Ul] at e;exact h (by rw[<-Nat.eq_of_beq_eq_true e];exact hb)
theorem bIi{α:Type}{enc:α->On V}{n b:Nat}(hl:∀x,(enc x).length=n/\aH (enc x)=OB)(l:On α){S:St}(w:WF S){k m:Nat}(hk:k<m)(hm:S.next<=m)(h1:l.length*b<=35184372088832)(h2:l.length<eG):
  ∃v S',eC n b .nils (.imm (l.map enc)) (Ot k) ⟨m,S.heap⟩=.ok (v,S')/\WF S'/\S'.next=m/\Own E0 S' n v (l.map enc)/\(∀y,blkOf v=Ot y->y=k)/\∀y,y≠k->S'.heap.get y=S.heap.get y:=by
 have hc:∀cs,cs∈l.map enc->cs.length=n/\aH cs=true:=λcs hc=>by obtain⟨x,_,rfl⟩:=Pv.1 hc;exact hl x
 obtain⟨a1,a2⟩:=cU hc;have w1:WF ⟨m,S.heap⟩:=λa b h=>by have:=w a b h;show a<m;omega
 cases l with
 | nil=>exact⟨.nils,⟨m,S.heap⟩,rfl,w1,rfl,Rf _ _ _,λy h=>(by cases h),λ_ _=>rfl⟩
 | cons x l=>
  refine⟨.sl k 0 n 0 (l.length+1),⟨m,S.heap.put k (.row 0 n ((x::l).map enc))⟩,?_,gO w1 hk (Ov _),rfl,⟨.inr ⟨k,0,[],by simp,PS _,hk,?_⟩,hc⟩,λy h=>(by cases h;rfl),λy hy=>OJ _ _ _ _ trivial hy⟩
  ·simp only[eC,aK];rw[OE ⟨a1,a2⟩];simp only[Qd,OQ,ON,xB] at h1 h2|-
   rw[OE ⟨h1,h2⟩]
  ·rw[OS];exact Ox _ _ _ trivial
theorem bCj{S2 S:St}{v1 v2 v3 v4:V}{l1 l2 l3 l4 es dz:On (On V)}{k:Qa}{x:Int}{a n m:Nat}(h1:cP kP (kV (iS S2 3) S2) v1=.ok (.imm l1))(h2:cP kP (kV (iS S2 3) S2) v2=.ok (.imm l2))(h3:cP kP (kV (iS S2 3) S2) v3=.ok (.imm l3))(h4:cP kP (kV (iS S2 3) S2) v4=.ok (.imm l4))
  (hg:S2.heap.get a=Ot (.row 0 n es)) (hm:kU (iS S2 3) es=.ok dz) (b1:a ∉ fF (jS (iA S2 3) S2) v1) (b2:a ∉ fF (jS (iA S2 3) S2) v2) (b3:a ∉ fF (jS (iA S2 3) S2) v3) (b4:a ∉ fF (jS (iA S2 3) S2) v4) (b5:a ∉ lK (iA S2 3) es):
  vT [2] (.agg [v1,v2,.sl a 0 n 0 m,v3,v4,.int k x]) S2 S=.ok (.agg [.imm l1,.imm l2,.sl S.next 0 n 0 m,.imm l3,.imm l4,.int k x],⟨S.next+1,S.heap.put S.next (.row 0 n dz)⟩):=by
 have hb:a ∉ fF (jS (iA S2 3) S2) v1++(fF (jS (iA S2 3) S2) v2++([]++(fF (jS (iA S2 3) S2) v3++(fF (jS (iA S2 3) S2) v4++([]++[])))))++(lK (iA S2 3) es++[]):=by
  simp only[Qf,OS,Pp];rintro((h | h | h | h) | h)
  ·exact b1 h
  ·exact b2 h
  ·exact b3 h
  ·exact b4 h
  ·exact b5 h
 have hi:aDf S2 [2] 0 S.next [v1,v2,.sl a 0 n 0 m,v3,v4,.int k x]=.ok ([.imm l1,.imm l2,.sl S.next 0 n 0 m,.imm l3,.imm l4,.int k x],[a]):=by
  simp only[aDf,iT,show Pw 0 2=OA from rfl,show Pw (0+1) 2=OA from rfl,show Pw (0+1+1) 2=OB from rfl,show Pw (0+1+1+1) 2=OA from rfl,show Pw (0+1+1+1+1) 2=OA from rfl,show Pw (0+1+1+1+1+1) 2=OA from rfl,Ul,QF,PW,h1,h2,h3,h4,cP]
 have hr:gP S2 [a]=.ok [(0,n,dz)]:=by simp only[gP,hg,hm]
 have hB:yP S2 [2] 0 [v1,v2,.sl a 0 n 0 m,v3,v4,.int k x]=fF (jS (iA S2 3) S2) v1++(fF (jS (iA S2 3) S2) v2++([]++(fF (jS (iA S2 3) S2) v3++(fF (jS (iA S2 3) S2) v4++([]++[]))))):=rfl;have hR:cZ S2 [a]=lK (iA S2 3) es++[]:=by simp only[cZ,hg]
 simp only[vT,V.cells,hi,hr,tM,hB,hR,bCi hb];rfl
theorem aZ3{S2 S:St}{v1 v2 v3 v4:V}{l1 l2 l3 l4:On (On V)}{k:Qa}{x:Int}(h1:cP kP (kV (iS S2 3) S2) v1=.ok (.imm l1))(h2:cP kP (kV (iS S2 3) S2) v2=.ok (.imm l2))(h3:cP kP (kV (iS S2 3) S2) v3=.ok (.imm l3))(h4:cP kP (kV (iS S2 3) S2) v4=.ok (.imm l4)):
  vT [2] (.agg [v1,v2,.nils,v3,v4,.int k x]) S2 S=.ok (.agg [.imm l1,.imm l2,.nils,.imm l3,.imm l4,.int k x],⟨S.next+0,S.heap⟩):=by
 have hi:aDf S2 [2] 0 S.next [v1,v2,.nils,v3,v4,.int k x]=.ok ([.imm l1,.imm l2,.nils,.imm l3,.imm l4,.int k x],[]):=by
  simp only[aDf,iT,show Pw 0 2=OA from rfl,show Pw (0+1) 2=OA from rfl,show Pw (0+1+1) 2=OB from rfl,show Pw (0+1+1+1) 2=OA from rfl,show Pw (0+1+1+1+1) 2=OA from rfl,show Pw (0+1+1+1+1+1) 2=OA from rfl,Ul,QF,PW,h1,h2,h3,h4,cP]
 have hn:∀l:On Nat,(l.any λb=>iT b [])=false:=λl=>by rw[UC];intro b _ e;cases e
 simp only[vT,V.cells,hi,gP,tM,hn];rfl
structure Cp (S:St) (cells z:On V):Prop where
 wf:WF S
 two:2<=S.next
 r0:aC S 0 0=.ok (6,[cells])
 r1:aC S 1 0=.ok (6,[z])
theorem Cp.put{S:St}{cells z:On V}(c:Cp S cells z)(vd:On V):Cp ⟨S.next,S.heap.put 0 (.row 0 6 [vd])⟩ vd z:=
 ⟨gO (n:=S.next) c.wf (by have:=c.two;omega) (Ov _),c.two,aA _ _ _ _ _ _,aI (n:=S.next) (by decide) c.r1⟩
theorem Cp.copy{α:Type}{enc:α->On V}{n b:Nat}(hl:∀x,(enc x).length=n/\aH (enc x)=OB)(l:On α){S:St}{cells z:On V}(c:Cp S cells z)(h1:l.length*b<=35184372088832)(h2:l.length<eG):
  ∃v S',eC n b .nils (.imm (l.map enc)) OG S=.ok (v,S')/\Cp S' cells z/\Own E0 S' n v (l.map enc)/\(∀y,blkOf v=Ot y->S.next<=y/\y<S'.next)/\Ext S S':=by
 obtain⟨v,S',q1,x,own⟩:=aS0 (b:=b) hl l c.wf h1 h2;exact⟨v,S',q1,⟨x.wf c.wf,QC c.two x.next,x.row c.r0,x.row c.r1⟩,own.weaken (PS _),λy hy=>cE own hy,x⟩
theorem Own.on{S S':St}{n:Nat}{v:V}{es:On (On V)}(o:Own E0 S n v es)(hb:∀y,blkOf v=Ot y->2<=y)(x:Ext S S')(b:Blk):Own E0 ⟨S'.next,S'.heap.put 0 b⟩ n v es:=
 (o.ext x).same (Ov _) λa ha=>OJ _ _ _ _ trivial (by have:=hb a ha;omega)
theorem Own.on0{S:St}{n:Nat}{v:V}{es:On (On V)}(o:Own E0 S n v es)(hb:∀y,blkOf v=Ot y->2<=y)(b:Blk):Own E0 ⟨S.next,S.heap.put 0 b⟩ n v es:=o.on hb (Ext.refl S) b
end Go.AM
namespace Go.Proofs.YtoaibmbldmckaaaGreat
open Go.AM Tryz
end Go.Proofs.YtoaibmbldmckaaaGreat
end
section
namespace Go.Proofs.YtoaibmbldmckaaaGreat
open Go.AM Tryz
def zst:On V:=[.nils,.nils,.nils,.nils,.nils,O J 0]
theorem bOz{S:St}(w:WF S)(s:Qg)(b:Bnd s){K:KW}(k:∀v S',Ext S S'->Own S S' 12 v (s.posted.map Pg)->K (.agg [.imm (s.table.map Qk),.imm (s.ser.map PZ),v,.imm (s.book.map PC),.imm (s.sess.map Qe),O J s.next]) S'):
  C 102 [.agg [.imm (s.table.map Qk),.imm (s.ser.map PZ),.imm (s.posted.map Pg),.imm (s.book.map PC),.imm (s.sess.map Qe),O J s.next]] S K:=by
 have hbt:=b.bt;have Ac:=b.bs;have hbp:=b.bp;have so:=b.bb;have KA:=b.be;refine bQx rfl ?_;obtain⟨A0,Cx⟩:∃A0:St,A0=⟨1+1,(Tr.nil.put 0 (.row 0 6 [s.enc])).put 1 (.row 0 6 [zst])⟩:=⟨_,rfl⟩;have c0:Cp A0 s.enc zst:=by rw[Cx];exact⟨gO (n:=1) (gO mB (by decide) (by decide)) (by decide) (by decide),Ov _,rfl,rfl⟩
 obtain⟨v1,A1,q1,c1,o1,b1,x1⟩:=c0.copy (b:=48) aS1 s.table (by omega) (by unfold eG;omega);have d1:=c1.put [v1,.imm (s.ser.map PZ),.imm (s.posted.map Pg),.imm (s.book.map PC),.imm (s.sess.map Qe),O J s.next];obtain⟨v2,A2,q2,c2,o2,b2,x2⟩:=d1.copy (b:=40) ser4 s.ser (by omega) (by unfold eG;omega);have d2:=c2.put [v1,v2,.imm (s.posted.map Pg),.imm (s.book.map PC),.imm (s.sess.map Qe),O J s.next];obtain⟨v3,A3,q3,c3,o3,b3,x3⟩:=d2.copy (b:=24) aH7 s.book (by omega) (by unfold eG;omega);have d3:=c3.put [v1,v2,.imm (s.posted.map Pg),v3,.imm (s.sess.map Qe),O J s.next];obtain⟨v4,A4,q4,c4,o4,b4,x4⟩:=d3.copy (b:=40) sess5 s.sess (by omega) (by unfold eG;omega);have d4:=c4.put [v1,v2,.imm (s.posted.map Pg),v3,v4,O J s.next];have t0:=c0.two;have t1:=c1.two;have t2:=c2.two;have t3:=c3.two;have t4:=c4.two;have m1:=x1.next;have m2:A1.next<=A2.next:=x2.next;have m3:A2.next<=A3.next:=x3.next;have m4:A3.next<=A4.next:=x4.next;have b2:∀y,AM.blkOf v2=Ot y->A1.next<=y/\y<A2.next:=b2;have b3:∀y,AM.blkOf v3=Ot y->A2.next<=y/\y<A3.next:=b3;have b4:∀y,AM.blkOf v4=Ot y->A3.next<=y/\y<A4.next:=b4;have g1:∀y,AM.blkOf v1=Ot y->2<=y:=λy hy=>by have:=b1 y hy;omega
 have g2:∀y,AM.blkOf v2=Ot y->2<=y:=λy hy=>by have:=b2 y hy;omega
 have g3:∀y,AM.blkOf v3=Ot y->2<=y:=λy hy=>by have:=b3 y hy;omega
 have g4:∀y,AM.blkOf v4=Ot y->2<=y:=λy hy=>by have:=b4 y hy;omega
 have p1:=((((o1.on0 g1 _).on g1 x2 _).on g1 x3 _).on g1 x4 (.row 0 6 [[v1,v2,.imm (s.posted.map Pg),v3,v4,O J s.next]]));have p2:=(((o2.on0 g2 _).on g2 x3 _).on g2 x4 (.row 0 6 [[v1,v2,.imm (s.posted.map Pg),v3,v4,O J s.next]]));have p3:=((o3.on0 g3 _).on g3 x4 (.row 0 6 [[v1,v2,.imm (s.posted.map Pg),v3,v4,O J s.next]]));have p4:=(o4.on0 g4 (.row 0 6 [[v1,v2,.imm (s.posted.map Pg),v3,v4,O J s.next]]));have e1:=o1.one;have e2:=o2.one;have e3:=o3.one;have e4:=o4.one;have f1:=o1.cells;have f2:=o2.cells;have f3:=o3.cells;have f4:=o4.cells;have r0:=c0.r0;have r1:=c1.r0;have r2:=c2.r0;have r3:=c3.r0;have r4:=c4.r0;simp only[SB] at r0 r1 Cx;simp only[zst] at Cx;delta Tryz.f102;simp only[↓cw,↓Oo,Om,kk,eY,<-Cx,r0,q1,e1,f1,r1,q2,e2,f2,r2,q3,e3,f3,r3,q4,e4,f4,r4];have w4:=d4.wf;cases hp:s.posted with
 | nil=>
  have q5:eC 12 128 .nils (.imm (([]:On OT).map Pg)) OG ⟨A4.next,A4.heap.put 0 (.row 0 6 [[v1,v2,.imm (([]:On OT).map Pg),v3,v4,O J s.next]])⟩=.ok (.nils,⟨A4.next,A4.heap.put 0 (.row 0 6 [[v1,v2,.imm (([]:On OT).map Pg),v3,v4,O J s.next]])⟩):=rfl;rw[hp] at k p1 p2 p3 p4 d4;have d5:=d4.put [v1,v2,.nils,v3,v4,O J s.next];have d6:=d5.r1;simp only[zst] at d6;simp only[↓cw,↓Oo,Om,q5,kk];refine⟨1,?_⟩;have u1:=(((p1.on0 g1 (.row 0 6 [[v1,v2,.nils,v3,v4,O J s.next]])).put (k:=1) (m:=A4.next) (b:=.row 0 6 [[v1,v2,.nils,v3,v4,O J s.next]]) (Ov _) λa ver m hv=>by have:=g1 a (by rw[hv];rfl);omega).out λ_=>rfl);have u2:=(((p2.on0 g2 (.row 0 6 [[v1,v2,.nils,v3,v4,O J s.next]])).put (k:=1) (m:=A4.next) (b:=.row 0 6 [[v1,v2,.nils,v3,v4,O J s.next]]) (Ov _) λa ver m hv=>by have:=g2 a (by rw[hv];rfl);omega).out λ_=>rfl);have u3:=(((p3.on0 g3 (.row 0 6 [[v1,v2,.nils,v3,v4,O J s.next]])).put (k:=1) (m:=A4.next) (b:=.row 0 6 [[v1,v2,.nils,v3,v4,O J s.next]]) (Ov _) λa ver m hv=>by have:=g3 a (by rw[hv];rfl);omega).out λ_=>rfl);have u4:=(((p4.on0 g4 (.row 0 6 [[v1,v2,.nils,v3,v4,O J s.next]])).put (k:=1) (m:=A4.next) (b:=.row 0 6 [[v1,v2,.nils,v3,v4,O J s.next]]) (Ov _) λa ver m hv=>by have:=g4 a (by rw[hv];rfl);omega).out λ_=>rfl);simp only[↓cw,↓Oo,Om,aCl,kk,OZ,Ou,e1,e2,e3,e4,f1,f2,f3,f4,d6,show((0:Nat):Int)=0 from rfl];rw[aZ3 u1 u2 u3 u4];exact k .nils _ ⟨λa b h=>h,Ov _,λw=>w⟩ (Rf _ _ _)
 | cons pp l=>
  obtain⟨P,hP⟩:∃P,P=pp::l:=⟨_,rfl⟩;have hPl:P.length=l.length+1:=by rw[hP];rfl
  have Lv:s.posted=P:=by rw[hp,hP]
  have Lw:P.length<=100000:=by rw[<-Lv];exact hbp
  have hbq:∀p∈P,p.total.parts.length<=100000:=λp h=>b.bq p (by rw[Lv];exact h);obtain⟨a,ha⟩:∃a,a=A4.next:=⟨_,rfl⟩;rw[hp,<-hP] at k p1 p2 p3 p4 d4 w4;rw[<-hP];have q5:eC 12 128 .nils (.imm (P.map Pg)) OG ⟨A4.next,A4.heap.put 0 (.row 0 6 [[v1,v2,.imm (P.map Pg),v3,v4,O J s.next]])⟩=.ok (.sl a 0 12 0 P.length,⟨a+1,(A4.heap.put 0 (.row 0 6 [[v1,v2,.imm (P.map Pg),v3,v4,O J s.next]])).put a (.row 0 12 (P.map Pg))⟩):=by
   have a1:kG 12 (P.map Pg)=OB/\(P.map Pg).all aH=true:=cU (λc hc=>by obtain⟨y,_,rfl⟩:=Pv.1 hc;exact aKr y);rw[hP] at a1|-
   simp only[eC,aK];rw[OE a1];have wl:l.length+1<=100000:=by omega
   simp only[Qd,OQ,ON,dX,<-ha];rw[OE (by unfold eG;omega)]
  simp only[↓cw,↓Oo,Om,q5,kk,eY,show((0:Nat)=a)=False by simp;omega];obtain⟨FJ,yo⟩:∃FJ,FJ=[v1,v2,.sl a 0 12 0 P.length,v3,v4,O J s.next]:=⟨_,rfl⟩;obtain⟨T,hT⟩:∃T:St,T=⟨a+1,((A4.heap.put 0 (.row 0 6 [[v1,v2,.imm (P.map Pg),v3,v4,O J s.next]])).put a (.row 0 12 (P.map Pg))).put 0 (.row 0 6 [[v1,v2,.sl a 0 12 0 P.length,v3,v4,O J s.next]])⟩:=⟨_,rfl⟩;have cT:Cp T FJ zst:=by
   rw[hT,yo];exact Cp.put (S:=⟨a+1,(A4.heap.put 0 (.row 0 6 [[v1,v2,.imm (P.map Pg),v3,v4,O J s.next]])).put a (.row 0 12 (P.map Pg))⟩) ⟨gO (n:=A4.next) w4 (by omega) (by omega),by show 2<=a+1;omega,aI (n:=A4.next) (by omega) (aA _ _ _ _ _ _),aI (n:=A4.next) (by omega) d4.r1⟩ _
  have oT:∀{n:Nat} {v:V} {es:On (On V)},Own E0 ⟨A4.next,A4.heap.put 0 (.row 0 6 [[v1,v2,.imm (P.map Pg),v3,v4,O J s.next]])⟩ n v es->(∀y,AM.blkOf v=Ot y->2<=y)->Own E0 T n v es:=λo g=>by
   rw[hT];refine o.same (by show A4.next<=a+1;omega) λy hy=>?_;have h1:=g y hy;have h2:y<A4.next:=(cE o hy).2;show(((A4.heap.put 0 _).put a _).put 0 _).get y=(A4.heap.put 0 _).get y;rw[OJ _ _ _ _ trivial (by omega),OJ _ _ _ _ trivial (by omega)]
  have gT:T.heap.get a=Ot (.row 0 12 (P.map Pg)):=by
   rw[hT];show(((A4.heap.put 0 _).put a _).put 0 _).get a=_;rw[OJ _ _ _ _ trivial (by omega)];exact Ox _ _ _ trivial
  have nT:T.next=a+1:=by rw[hT]
  rw[<-hT];have l1:∀y,AM.blkOf v1=Ot y->2<=y/\y<a:=λy hy=>⟨g1 y hy,by have:=b1 y hy;omega⟩;have l2:∀y,AM.blkOf v2=Ot y->2<=y/\y<a:=λy hy=>⟨g2 y hy,by have:=b2 y hy;omega⟩;have l3:∀y,AM.blkOf v3=Ot y->2<=y/\y<a:=λy hy=>⟨g3 y hy,by have:=b3 y hy;omega⟩;have l4:∀y,AM.blkOf v4=Ot y->2<=y/\y<a:=λy hy=>⟨g4 y hy,by have:=b4 y hy;omega⟩;refine aG P (step:=λ(_:Unit) (_:OT)=>(.inr ():Unit⊕Unit)) (fin:=id) (λi _ vs S'=>vs=[O J (i:Int)]/\Cp S' FJ zst/\a<S'.next/\Own E0 S' 5 v1 (s.table.map Qk)/\Own E0 S' 4 v2 (s.ser.map PZ)/\Own E0 S' 2 v3 (s.book.map PC)/\Own E0 S' 5 v4 (s.sess.map Qe) /\
   ∃es,S'.heap.get a=Ot (.row 0 12 es)/\es.length=P.length/\∀(j:Nat) (p:OT),P[j]?=Ot p->∃u,es[j]?=Ot (p.cells u)/\((i<=j/\u=.imm (p.total.parts.map PI))\/(j<i/\Own E0 S' 4 u (p.total.parts.map PI)/\∀y,AM.blkOf u=Ot y->a<y))) (λ_=>True) ?_ ?_ (s:=()) ⟨rfl,cT,by omega,oT p1 g1,oT p2 g2,oT p3 g3,oT p4 g4,_,gT,ON ..,λj p hj=>⟨_,by rw[Pc,hj];rfl,.inl ⟨PS _,rfl⟩⟩⟩ trivial
  ·rintro i p _ vs S' hi ⟨rfl,c,ag,u1,u2,u3,u4,es,hg,ff,ch⟩ aE H;have ai:=(Oq.1 hi).1;have bc:=hbq p (OM hi);have tw:=c.two;obtain⟨u0,hu,oq⟩:=ch i p hi;have oq:u0=.imm (p.total.parts.map PI):=by
    rcases oq with h | h
    ·exact h.2
    ·exact absurd h.1 (YF _)
   subst oq;have fk:∀y,S'.next<=y->S'.heap.get y=none:=λy hy=>fresh c.wf hy;obtain⟨u,S2,q2,w2,n2,ou,bu,am⟩:=bIi (b:=40) aIf p.total.parts c.wf (k:=S'.next+10) (m:=S'.next+15) (by omega) (by omega) (by omega) (by unfold eG;omega);have yh:S2.heap.get a=Ot (.row 0 12 es):=by rw[am a (by omega)];exact hg
   have da:∀m,fZ OG (.ptr a 0 i 8) ⟨m,S'.heap⟩=.ok (.imm (p.total.parts.map PI)):=λm=>by
    have:aC ⟨m,S'.heap⟩ a 0=.ok (12,es):=aF hg
    simp only[↓cw,↓Oo,Om,ldP,this,hu,WA,kk]
   have hix:fV 12 (.sl a 0 12 0 P.length) (O J (i:Int))=.ok (.ptr a 0 i 0):=by
    simp only[fV,gA ai,Oy,Px]
   have fq:eL 1 (.ptr a 0 i 8) u S2=.ok ⟨S2.next,S2.heap.put a (.row 0 12 (es.set i (p.cells u)))⟩:=by
    have ke:aC S2 a 0=.ok (12,es):=aF yh;simp only[stP,ke,hu];rw[OE ⟨by rw[ou.cells];rfl,by rw[ou.cells];simp[aH,ou.one],by rw[ou.cells];show 8+1<=12;decide⟩,ou.cells];rfl
   have r0:=aX c.r0 (am 0 (by omega));have r1:=aX c.r1 (am 1 (by omega));have rc:=c.r0;simp only[yo] at r0 rc;simp only[↓cw,↓Oo,Om,kk,bG hi,gm,rc,hix,show(0+5+3:Nat)=8 from rfl,show(5+3:Nat)=8 from rfl,da,q2,r0,fq,gM (show i<1000000000 by omega)];have ok:∀{n:Nat} {v:V} {el:On (On V)},Own E0 S' n v el->(∀y,AM.blkOf v=Ot y->y≠a)->Own E0 ⟨S2.next,S2.heap.put a (.row 0 12 (es.set i (p.cells u)))⟩ n v el:=λo g=>o.same (by show S'.next<=S2.next;omega) λy hy=>by
    have:=(cE o hy).2
    show(S2.heap.put a _).get y=_;rw[OJ _ _ _ _ trivial (g y hy),am y (by omega)]
   refine H _ _ ⟨rfl,⟨gO (n:=S2.next) w2 (by omega) (Ov _),by show 2<=S2.next;omega,aI (n:=S2.next) (by omega) (by rw[yo];exact r0),aI (n:=S2.next) (by omega) r1⟩,by show a<S2.next;omega,ok u1 (λy hy=>by have:=l1 y hy;omega),ok u2 (λy hy=>by have:=l2 y hy;omega),ok u3 (λy hy=>by have:=l3 y hy;omega),ok u4 (λy hy=>by have:=l4 y hy;omega),_,Ox _ _ _ trivial,by rw[Qm];exact ff,λj q hj=>?_⟩;by_cases e:j=i
   ·subst e;rw[hi] at hj;cases hj;refine⟨u,List.getElem?_set_self (by omega),.inr ⟨Qb _,ou.same (Ov _) λy hy=>?_,λy hy=>by have:=bu y hy;omega⟩⟩
    have:=bu y hy
    exact OJ _ _ _ _ trivial (by omega)
   ·obtain⟨x,ve,xa⟩:=ch j q hj;refine⟨x,by rw[List.getElem?_set_ne (Ne.symm e)];exact ve,?_⟩;rcases xa with h | ⟨h1,h2,h3⟩
    ·exact .inl ⟨by omega,h.2⟩
    ·exact .inr ⟨by omega,ok h2 (λy hy=>by have:=h3 y hy;omega),h3⟩
  ·rintro _ vs S' ⟨rfl,c,ag,u1,u2,u3,u4,es,hg,ff,ch⟩ aE H;have tw:=c.two;have rc:=c.r0;have rd:=c.r1;simp only[yo] at rc;simp only[zst] at rd;simp only[↓cw,↓Oo,Om,kk,OZ,Ou,gm,rc,rd,e1,e2,e3,e4,f1,f2,f3,f4];obtain⟨S3,mi⟩:∃S3:St,S3=⟨S'.next,S'.heap.put 1 (.row 0 6 [[v1,v2,.sl a 0 12 0 P.length,v3,v4,O J s.next]])⟩:=⟨_,rfl⟩;have Em:∀{n:Nat} {v:V} {el:On (On V)},Own E0 S' n v el->(∀y,AM.blkOf v=Ot y->2<=y)->Own E0 S3 n v el:=λo g=>by
    rw[mi];exact o.same (Ov _) λy hy=>OJ _ _ _ _ trivial (by have:=g y hy;omega)
   have En:S3.heap.get a=Ot (.row 0 12 es):=by rw[mi];show(S'.heap.put 1 _).get a=_;rw[OJ _ _ _ _ trivial (by omega)];exact hg
   rw[<-mi];have Eo:=Em u1 g1;have Ep:=Em u2 g2;have Er:=Em u3 g3;have Es:=Em u4 g4;have el:∀(j:Nat) (p:OT),P[j]?=Ot p->∃u,es[j]?=Ot (p.cells u)/\Own E0 S3 4 u (p.total.parts.map PI)/\AM.blkOf u≠Ot a:=λj p hj=>by
    obtain⟨u,h1,h2⟩:=ch j p hj;have ed:=(Oq.1 hj).1;rcases h2 with h | ⟨_,h2,h3⟩
    ·omega
    ·exact⟨u,h1,Em h2 (λy hy=>by have:=h3 y hy;omega),λe=>by have:=h3 a e;omega⟩
   have hm:kU (iS S3 3) es=.ok (P.map Pg):=aS3 (by rw[ON];exact ff) λj x hx=>by
    have ed:j<P.length:=by rw[<-ff];exact(Oq.1 hx).1
    have hj:P[j]?=Ot P[j]:=OF ed;obtain⟨u,h1,h2,_⟩:=el j _ hj;rw[hx] at h1;cases h1;refine⟨P[j].enc,by rw[Pc,hj];rfl,?_⟩;have hf:=h2.frzN (aU (λ_=>rfl) _) 1;simp only[iS,WA,Sm,cP] at hf|-
    rw[hf];rfl
   have BH:∀{n:Nat} {v:V} {el:On (On V)},Own E0 S3 n v el->el.all Tl=OB->(∀y,AM.blkOf v=Ot y->y≠a)->a ∉ fF (jS (iA S3 3) S3) v:=λo hc g h=>g a (o.blks hc 2 h) rfl;have yp:a ∉ lK (iA S3 3) es:=λh=>by
    obtain⟨x,h1,h2⟩:=aMr h;obtain⟨j,hj,rfl⟩:=List.getElem_of_mem h1;have ed:j<P.length:=by omega
    obtain⟨u,q1,q2,q3⟩:=el j _ (OF ed);rw[OF hj] at q1;rw[Qz q1] at h2;simp only[iA,WA,TM,fF,Pp,OS] at h2;exact q3 (q2.blks (aU (λ_=>rfl) _) 1 h2)
   rw[bCj (Eo.out λ_=>rfl) (Ep.out λ_=>rfl) (Er.out λ_=>rfl) (Es.out λ_=>rfl) En hm (BH Eo (aU (λ_=>rfl) _) λy hy=>by have:=l1 y hy;omega) (BH Ep (aU (λ_=>rfl) _) λy hy=>by have:=l2 y hy;omega) (BH Er (aU (λ_=>rfl) _) λy hy=>by have:=l3 y hy;omega) (BH Es (aU (λ_=>rfl) _) λy hy=>by have:=l4 y hy;omega) yp];refine k _ _ (Ext.new w _) ⟨.inr ⟨S.next,0,[],by rw[ON],Ov _,Qb _,?_⟩,λc hc=>by obtain⟨y,_,rfl⟩:=Pv.1 hc;exact aKr y⟩;rw[OS];exact Ox _ _ _ trivial
def srV(r:Qg×Rep):V:=.tup [.agg [.imm (r.1.table.map Qk),.imm (r.1.ser.map PZ),.imm (r.1.posted.map Pg),.imm (r.1.book.map PC),.imm (r.1.sess.map Qe),O J r.1.next],.agg [O J r.2.why,O J r.2.number,O J r.2.gross]]
theorem bVf(s:Qg)(S:St)(K:KW):C 104 [.agg [.imm (s.table.map Qk),.imm (s.ser.map PZ),.imm (s.posted.map Pg),.imm (s.book.map PC),.imm (s.sess.map Qe),O J s.next]] S K=K (srV (hJ s)) S:=by
 refine(bQz rfl ?_).eq S K;delta Tryz.f104;simp only[↓cw,↓Oo,Om,kk,eY,gm,oQ,bOb,hJ,srV];by_cases c1:8<=s.sess.length
 ·simp only[↓cw,↓Oo,Om,c1,show(8:Int)<=(s.sess.length:Int) by omega,kk,eY,gm,oQ,oo,why,true_or,Oy]
 by_cases c2:1099511627776<=s.next
 ·simp only[↓cw,↓Oo,Om,c1,c2,show¬(8:Int)<=(s.sess.length:Int) by omega,kk,eY,gm,oQ,oo,why,or_true,Oy,Ou]
 simp only[↓cw,↓Oo,Om,c1,c2,show¬(8:Int)<=(s.sess.length:Int) by omega,kk,eY,gm,oQ,bOb,or_self,Ou];by_cases c3:(oI s.sess s.next).2=0
 ·simp only[↓cw,↓Oo,Om,c3,kk,eY,gm,oo,why,OK,Ou]
 ·simp only[↓cw,↓Oo,Om,c3,kk,eY,gm,oQ,oo,why,OL,Oy]
theorem g31(S:St)(K:KW):C 31 [] S K=K (.agg [.imm ([]:On (On V)),.imm [],.imm [],.imm [],.imm [],O J 1]) S:=by
 refine(v31 rfl ?_).eq S K;delta Tryz.f31;simp only[↓cw,↓Oo,Om,kk,oo]
end Go.Proofs.YtoaibmbldmckaaaGreat
end
section
namespace Go.AM
theorem Own.in3{S0 S:St}{n:Nat}{v:V}{α:Type}{enc:α->On V}{l:On α}(h:Own S0 S n v (l.map enc))(hc:∀x,Tl (enc x)=OB){x y:V}{bs:On V}(hx:nK x=OB)(hy:nK y=OB)(hb:Tl bs=OB):
  Sm kP (kV (iS S 3) S) [.agg (x::y::v::bs)]=.ok [.agg (x::y::.imm (l.map enc)::bs)]/\TC [.agg (x::y::v::bs)]=[]:=by
 constructor
 ·simp only[Sm,cP,mV x hx,mV y hy,h.out hc,clo_frzs bs hb]
 ·simp only[TC,pJ,xF x hx,xF y hy,h.ptrs,clo_ptrs bs hb,OS]
theorem aS4:∀(l:On Nat) (h:Tr Blk) {y:Nat},y ∉ l->(rQ l h).get y=h.get y
 | [],_,_,_=>rfl
 | a::l,h,y,hy=>by
  simp only[Pu,not_or] at hy;simp only[rQ];rw[aS4 l _ hy.2,Tr.get_cut,Oz hy.1]
theorem Fn.cutE{P:Program}{pl:kA}{f:FuncId}{bs:On V}{v:V}(h:Fn P pl f bs v){p:Nat->Ow (On bY)}(bc:pl f=Ot (.val p))(hc:Tl bs=OB){args:On V}{S:St}(hb:Sm kP (kV (iS S 3) S) args=.ok bs)(hp:TC args=[]):
  ∃h':Tr Blk,(∀y,y ∉ TM (jS (iA S 3) S) args->h'.get y=S.heap.get y)/\∀K,W P pl f args S K=K v ⟨S.next,h'⟩:=by
 obtain⟨N,h⟩:=h ⟨0,.nil⟩;obtain⟨h',Et⟩:∃h',h'=(bif jG v&&pK [] then S.heap else rQ (TM (jS (iA S 3) S) args++[]) S.heap):=⟨_,rfl⟩;refine⟨h',λy hy=>?_,λK=>aF9 ⟨N+1,λk dl=>?_⟩ K⟩
 ·rw[Et];cases jG v&&pK []
  ·exact aS4 _ _ (by rw[OS];exact hy)
  ·rfl
 obtain⟨k,rfl⟩:∃m,k=m+1:=⟨k - 1,by omega⟩
 have:=h (k+1) (by omega)
 simp only[fG,bc] at this|-
 unfold vG at this;have e1:jH (TC bs)=[]:=by rw[clo_ptrs bs hc];rfl
 have e2:TM (jS (iA (⟨0,.nil⟩:St) 3) ⟨0,.nil⟩) bs=[]:=clo_sls bs hc;rw[e1,e2] at this;simp only[clo_frzs bs hc,gP,cZ,OS,List.any_nil,QF,Pf,vF,qH,vS] at this;split at this
 ·cases this
 ·rename_i v0 S0 az;split at this
  ·cases this
  ·rename_i v' ft;have hv:v'=v:=(TI (SL this)).1;subst hv;have h1:jH (TC args)=[]:=by rw[hp];rfl
   have hi:(λa=>uS a 0 ([]:On Nat))=kP:=rfl;have hh:∀l:On Nat,(l.any λa=>iT a [])=false:=by intro l;rw[UC];intro a _;simp[iT]
   unfold vG;rw[h1];simp only[hi,hb,gP,cZ,hh,QF,Pf,vF,az,ft,qH,vS,OS,nR,Et]
end Go.AM
namespace Go.Proofs.YtoaibmbldmckaaaGreat
open Go.AM Tryz
theorem a24{S0 S:St}{s:Qg}{v:V}(h:Own S0 S 12 v (s.posted.map Pg))(K:KW):C 24 [.agg [.imm (s.table.map Qk),.imm (s.ser.map PZ),v,.imm (s.book.map PC),.imm (s.sess.map Qe),O J s.next]] S K=K (.bool (bB s)) S:=by
 obtain⟨h1,h2⟩:=h.in3 (λ_=>rfl) (x:=.imm (s.table.map Qk)) (y:=.imm (s.ser.map PZ)) (bs:=[.imm (s.book.map PC),.imm (s.sess.map Qe),O J s.next]) rfl rfl rfl;exact(WC λS K=>g24 s S K).frz bJn rfl h1 h2 (.inl rfl) K
theorem aZ4(x y z u:On V)(n m k j:Nat):∃S1:St,S1=⟨3+1,(((Tr.nil.put 0 (.row 0 n [x])).put 1 (.row 0 m [y])).put 2 (.row 0 k [z])).put 3 (.row 0 j [u])⟩/\WF S1/\S1.next=4/\aC S1 0 0=.ok (n,[x])/\aC S1 1 0=.ok (m,[y])/\aC S1 2 0=.ok (k,[z])/\aC S1 3 0=.ok (j,[u]):=
 ⟨_,rfl,gO (n:=3) (gO (n:=2) (gO (n:=1) (gO mB (by decide) (by decide)) (by decide) (by decide)) (by decide) (by decide)) (by decide) (by decide),rfl,rfl,rfl,rfl,rfl⟩
theorem g33(s:Qg)(c:Call)(b:Bnd s)(hl:c.cmd.lines.length<1000000)(S:St)(K:KW):C 33 [.agg [.imm (s.table.map Qk),.imm (s.ser.map PZ),.imm (s.posted.map Pg),.imm (s.book.map PC),.imm (s.sess.map Qe),O J s.next],
  .agg [O J c.session,O J c.seq,O J c.cmd.kind,.str c.cmd.series,O J c.cmd.limit,.str c.cmd.row.cat,O J c.cmd.row.day.y,O J c.cmd.row.day.m,O J c.cmd.row.day.d,O J c.cmd.row.bp,O J c.cmd.day.y,O J c.cmd.day.m,O J c.cmd.day.d,.imm (c.cmd.lines.map Tg),.str c.cmd.of.ser,O J c.cmd.of.num,O J c.cmd.session]] S K=K (srV (gL s c)) S:=by
 refine(v33 rfl ?_).eq S K;obtain⟨A,hA,wA,nA,r0,r1,r2,r3⟩:=aZ4 s.enc [O J c.session,O J c.seq,O J c.cmd.kind,.str c.cmd.series,O J c.cmd.limit,.str c.cmd.row.cat,O J c.cmd.row.day.y,O J c.cmd.row.day.m,O J c.cmd.row.day.d,O J c.cmd.row.bp,O J c.cmd.day.y,O J c.cmd.day.m,O J c.cmd.day.d,.imm (c.cmd.lines.map Tg),.str c.cmd.of.ser,O J c.cmd.of.num,O J c.cmd.session] zst [O J 0,O J 0,O J 0] 6 17 6 3;simp only[SB] at r0 hA;simp only[zst] at hA r2;simp only[m33,kk,<-hA,eY,r0];refine bOz wA s b λv S6 x6 dy=>?_;have n6:4<=S6.next:=by have:=x6.next;omega
 have w6:=x6.wf wA;have bv:∀y,AM.blkOf v=Ot y->4<=y/\y<S6.next:=λy hy=>by have:=cE dy hy;omega
 have a0:=x6.row r0;have a1:=x6.row r1;have a2:=x6.row r2;have a3:=x6.row r3;have dy:=dy.weaken (A:=E0) (PS _);have o1:=dy.one;have o2:=dy.cells;obtain⟨S7,BJ⟩:∃S7:St,S7=⟨S6.next,S6.heap.put 0 (.row 0 6 [s.cells v])⟩:=⟨_,rfl⟩;have st:StAt S7 0 s v:=by
  rw[BJ];exact⟨aA _ _ _ _ _ _,dy.same (Ov _) λy hy=>OJ _ _ _ _ trivial (by have:=bv y hy;omega),gO (n:=S6.next) w6 (by omega) (Ov _),λe=>by have:=bv _ e;omega⟩
 have b1:aC S7 1 0=aC A 1 0:=by rw[BJ,r1];exact aI (n:=S6.next) (by decide) a1
 have b2:aC S7 2 0=aC A 2 0:=by rw[BJ,r2];exact aI (n:=S6.next) (by decide) a2
 have b3:aC S7 3 0=aC A 3 0:=by rw[BJ,r3];exact aI (n:=S6.next) (by decide) a3
 rw[r1] at b1;rw[r2] at b2;rw[r3] at b3;have n7:S7.next=S6.next:=by rw[BJ]
 simp only[Uo] at BJ;have ra:=st.row;simp only[Uo] at ra;have lf:=a24 st.own;have qy:∀(S8:St) (v8:V) (r:Qg×Rep),Own E0 S8 12 v8 (r.1.posted.map Pg)->eX S8 (.tup [.agg [.imm (r.1.table.map Qk),.imm (r.1.ser.map PZ),v8,.imm (r.1.book.map PC),.imm (r.1.sess.map Qe),O J r.1.next],.agg [O J r.2.why,O J r.2.number,O J r.2.gross]])=.ok (srV r):=by
  intro S8 v8 r o
  have:=o.out λ_=>rfl
  simp only[oo,this,srV]
 have cn:∀(S8:St) (v8:V) (s8:Qg) (x y:Blk),Own E0 S8 12 v8 (s8.posted.map Pg)->(∀z,AM.blkOf v8=Ot z->4<=z)->Own E0 ⟨S8.next,(S8.heap.put 2 x).put 3 y⟩ 12 v8 (s8.posted.map Pg):=λS8 v8 s8 x y o g=>o.same (Ov _) λz hz=>by
  have:=g z hz
  show((S8.heap.put 2 x).put 3 y).get z=_;rw[OJ _ _ _ _ trivial (by omega),OJ _ _ _ _ trivial (by omega)]
 simp only[kk,a0,o1,o2,<-BJ,ra,lf,gm,oQ];cases c1:bB s
 ·simp only[c1,kk,Oy,oQ,gm,ra,b2,b3,o1,o2,eY]
  have:=qy ⟨S7.next+4,(S7.heap.put 2 (.row 0 6 [s.cells v])).put 3 (.row 0 3 [[O J 1,O J 0,O J 0]])⟩ v (s,why 1) ((cn S7 v s _ _ st.own λz hz=>(bv z hz).1).bump 4)
  simp only[gL,c1,Oy];exact this
 simp only[c1,kk,Pq,Ou,b1];have Eu:c.cmd.kind<1\/8<c.cmd.kind->aFe C (λv0 S0=>eX S0 v0=TO (srV (gL s c))) (V.ptr 0 0 0 0) (V.ptr 1 0 0 0) (V.ptr (1+1) 0 0 0) (V.ptr (1+1+1) 0 0 0) (V.bool OB) S7:=by
  intro h
  have:=qy ⟨S7.next+4,(S7.heap.put 2 (.row 0 6 [s.cells v])).put 3 (.row 0 3 [[O J 17,O J 0,O J 0]])⟩ v (s,why 17) ((cn S7 v s _ _ st.own λz hz=>(bv z hz).1).bump 4)
  simp only[aFe,kk,Oy,oQ,gm,ra,b2,b3,o1,o2,eY,gL,c1,Pq,Ou,h];exact this
 by_cases c2:c.cmd.kind<1
 ·simp only[c2,Oy];exact Eu (.inl c2)
 by_cases c3:8<c.cmd.kind
 ·simp only[c2,c3,Ou,Rk];exact Eu (.inr c3)
 have hap:gL s c=if c.cmd.kind=6 then hJ s else if(cS s.sess c.session c.seq).2.2≠0 then(s,why (cS s.sess c.session c.seq).2.2) else if(cS s.sess c.session c.seq).2.1=OB then(s,(cS s.sess c.session c.seq).1) else jY (vB s c.cmd) c:=by
  simp only[gL,c1,c2,c3,Pq,Ou,or_self]
 rw[hap];simp only[c2,c3,Ou,decide_false,aFe,kk,OO,b1,ra];by_cases c6:c.cmd.kind=6
 ·obtain⟨h1,h2⟩:=st.own.in3 (λ_=>rfl) (x:=.imm (s.table.map Qk)) (y:=.imm (s.ser.map PZ)) (bs:=[.imm (s.book.map PC),.imm (s.sess.map Qe),O J s.next]) rfl rfl rfl;obtain⟨h',dl,hC⟩:=(WC λS K=>bVf s S K).cutE bJo rfl h1 h2;have qc:∀y,y<4->h'.get y=S7.heap.get y:=λy hy=>dl y λhm=>by
   simp only[TM,fF,Pp,OS] at hm
   have:=st.own.blks (aU (λ_=>rfl) _) 2 hm
   have:=bv _ this
   omega
  have d2:aC ⟨S7.next,h'⟩ 2 0=.ok (6,[[.nils,.nils,.nils,.nils,.nils,O J 0]]):=aX b2 (qc 2 (by decide));have d3:aC ⟨S7.next,h'⟩ 3 0=.ok (3,[[O J 0,O J 0,O J 0]]):=aX b3 (qc 3 (by decide));simp only[c6,Oy,hC,srV,kk,d2,d3,eY,gm];simp only[oo]
 simp only[c6,Ou,kk,bOa];obtain⟨B,hB⟩:∃B:St,B=⟨S7.next+1,(S7.heap.put S7.next (.row 0 3 [[O J 0,O J 0,O J 0]])).put S7.next (.row 0 3 [[O J (cS s.sess c.session c.seq).1.why,O J (cS s.sess c.session c.seq).1.number,O J (cS s.sess c.session c.seq).1.gross]])⟩:=⟨_,rfl⟩;have nB:B.next=S7.next+1:=by rw[hB]
 have Lx:=st.new (k:=S7.next) (Ov _);have stB:StAt B 0 s v:=by rw[hB];exact(st.put (k:=S7.next) (m:=S7.next+1) (by omega) Lx (by omega) (PX _)).put (by omega) Lx (by omega) (Ov _)
 have kB:∀{y n:Nat} {el:On (On V)},y<4->aC S7 y 0=.ok (n,el)->aC B y 0=.ok (n,el):=λhy hr=>by rw[hB];exact aI (n:=S7.next+1) (by omega) (aI (n:=S7.next) (by omega) hr)
 have rB:aC B S7.next 0=.ok (3,[[O J (cS s.sess c.session c.seq).1.why,O J (cS s.sess c.session c.seq).1.number,O J (cS s.sess c.session c.seq).1.gross]]):=by rw[hB];exact aA _ _ _ _ _ _
 have e0:=kB (by decide) ra;have e1:=kB (by decide) b1;have e2:=kB (by decide) b2;have e3:=kB (by decide) b3;have hhB:(S7.heap.put S7.next (.row 0 3 [[O J 0,O J 0,O J 0]])).put S7.next (.row 0 3 [[O J (cS s.sess c.session c.seq).1.why,O J (cS s.sess c.session c.seq).1.number,O J (cS s.sess c.session c.seq).1.gross]])=B.heap:=by rw[hB]
 have oB:∀x y,Own E0 ⟨B.next,(B.heap.put 2 x).put 3 y⟩ 12 v (s.posted.map Pg):=λx y=>cn B v s x y stB.own λz hz=>(bv z hz).1;have z3:(S7.next=2)=False:=by simp;omega
 have z4:(S7.next=3)=False:=by simp;omega
 simp only[hhB,<-nB,gm,e0,e1,rB,oQ];by_cases c7:(cS s.sess c.session c.seq).2.2=0;rotate_left
 ·have:=qy ⟨B.next+5,(B.heap.put 2 (.row 0 6 [s.cells v])).put 3 (.row 0 3 [[O J (cS s.sess c.session c.seq).2.2,O J 0,O J 0]])⟩ v (s,why (cS s.sess c.session c.seq).2.2) ((oB _ _).bump 5)
  simp only[c7,kk,e0,e2,e3,gm,oQ,o1,o2,eY,OL,Oy,SI];exact this
 cases c8:(cS s.sess c.session c.seq).2.1;rotate_left
 ·have:=qy ⟨B.next+4,(B.heap.put 2 (.row 0 6 [s.cells v])).put 3 (.row 0 3 [[O J (cS s.sess c.session c.seq).1.why,O J (cS s.sess c.session c.seq).1.number,O J (cS s.sess c.session c.seq).1.gross]])⟩ v (s,(cS s.sess c.session c.seq).1) ((oB _ _).bump 4)
  simp only[c7,c8,kk,e0,e2,e3,rB,gm,oQ,o1,o2,eY,z3,z4,OK,Oy,Ou,SI];exact this
 simp only[c7,c8,kk,e0,e1,gm,OK,Ou,OO,SI];obtain⟨hq40,Ig⟩:=zN (aH6 c1);refine bVe stB c.cmd hl (by have:=b.bs;omega) (by omega) (λp hp=>vX (Ig p hp).2) (by have:=b.bb;omega) λS4 v4 st4 qk=>?_;have n4:=qk.next;obtain⟨s',gp⟩:∃s',s'=(vB s c.cmd).1:=⟨_,rfl⟩;obtain⟨r,hr⟩:∃r,r=(vB s c.cmd).2:=⟨_,rfl⟩;have hdo:vB s c.cmd=(s',r):=by rw[gp,hr]
 rw[hdo] at st4|-
 have Ly:∀y,AM.blkOf v4=Ot y->4<=y/\y<S4.next:=λy hy=>by
  have h2:=(cE st4.own hy).2;rcases qk.fresh y hy with h | h
  ·have:=bv y h;omega
  ·omega
 have kv:∀y,y<4->AM.blkOf v≠Ot y:=λy hy e=>by have:=bv y e;omega
 have f1:=aX e1 (qk.keep 1 (by omega) (by decide) (kv 1 (by decide)));have f2:=aX e2 (qk.keep 2 (by omega) (by decide) (kv 2 (by decide)));have f3:=aX e3 (qk.keep 3 (by omega) (by decide) (kv 3 (by decide)));have Lz:AM.blkOf v4≠Ot S4.next:=λe=>by have:=Ly _ e;omega
 obtain⟨D,hD⟩:∃D:St,D=⟨S4.next+1,(S4.heap.put S4.next (.row 0 3 [[O J 0,O J 0,O J 0]])).put S4.next (.row 0 3 [[O J r.why,O J r.number,O J r.gross]])⟩:=⟨_,rfl⟩;have nD:D.next=S4.next+1:=by rw[hD]
 have stD:StAt D 0 s' v4:=by rw[hD];exact(st4.put (k:=S4.next) (m:=S4.next+1) (by omega) Lz (by omega) (PX _)).put (by omega) Lz (by omega) (Ov _)
 have kD:∀{y n:Nat} {el:On (On V)},y<4->aC S4 y 0=.ok (n,el)->aC D y 0=.ok (n,el):=λhy hr=>by rw[hD];exact aI (n:=S4.next+1) (by omega) (aI (n:=S4.next) (by omega) hr)
 have rD:aC D S4.next 0=.ok (3,[[O J r.why,O J r.number,O J r.gross]]):=by rw[hD];exact aA _ _ _ _ _ _
 have h1:=kD (by decide) f1;have h2:=kD (by decide) f2;have h3:=kD (by decide) f3;have h0:=stD.row;simp only[Uo] at h0;have p1:=stD.own.one;have p2:=stD.own.cells;have y2:(S4.next=2)=False:=by simp;omega
 have y3:(S4.next=3)=False:=by simp;omega
 have y0:(S4.next=0)=False:=by simp;omega
 simp only[kk,<-hD,h0,h1,rD,bUh s'.sess c.session c.seq r];have bj:∀(E:St) (s9:Qg),E.next=D.next->Own E0 E 12 v4 (s9.posted.map Pg)->aC E 0 0=.ok (6,[[.imm (s9.table.map Qk),.imm (s9.ser.map PZ),v4,.imm (s9.book.map PC),.imm (s9.sess.map Qe),O J s9.next]])->aC E 2 0=.ok (6,[[.nils,.nils,.nils,.nils,.nils,O J 0]])->aC E 3 0=.ok (3,[[O J 0,O J 0,O J 0]])->aC E S4.next 0=.ok (3,[[O J r.why,O J r.number,O J r.gross]])->jY (s',r) c=(s9,r)->
   aK9 C (λv0 S0=>eX S0 v0=TO (srV (jY (s',r) c))) (V.ptr 0 0 0 0) (V.ptr (1+1) 0 0 0) (V.ptr (1+1+1) 0 0 0) (V.ptr S4.next 0 0 0) E:=by
  intro E s9 hn o i0 i2 i3 ir hk
  have:=qy ⟨E.next+4,(E.heap.put 2 (.row 0 6 [s9.cells v4])).put 3 (.row 0 3 [[O J r.why,O J r.number,O J r.gross]])⟩ v4 (s9,r) ((cn E v4 s9 _ _ o λz hz=>(Ly z hz).1).bump 4)
  simp only[aK9,kk,gm,i0,i2,i3,ir,eY,y2,y3,p1,p2,hk];exact this
 by_cases c9:(mD s'.sess c.session c.seq r).2=0
 ·have hk:jY (s',r) c=({ s' with sess:=(mD s'.sess c.session c.seq r).1 },r):=by simp only[jY,c9,Oy]
  simp only[c9,kk,Oy];have stE:=stD.set (s':={ s' with sess:=(mD s'.sess c.session c.seq r).1 }) rfl;exact bj ⟨D.next,D.heap.put 0 (.row 0 6 [({ s' with sess:=(mD s'.sess c.session c.seq r).1 }:Qg).cells v4])⟩ _ rfl stE.own stE.row (aI (n:=D.next) (by decide) h2) (aI (n:=D.next) (by decide) h3) (aI (n:=D.next) (by omega) rD) hk
 ·have hk:jY (s',r) c=(s',r):=by simp only[jY,c9,Ou]
  simp only[c9,kk,Ou];exact bj D s' rfl stD.own h0 h2 h3 rD hk
end Go.Proofs.YtoaibmbldmckaaaGreat
end
section
namespace Go.AM
theorem bIj(z:On V)(parts:On (Nat×V))(fr:Ow Nat)(S:St):type_of% (bsl 17 z parts fr S (by decide)):=bsl 17 z parts fr S (by decide)
theorem bP0(z:On V)(parts:On (Nat×V))(fr:Ow Nat)(S:St):type_of% (bsl 3 z parts fr S (by decide)):=bsl 3 z parts fr S (by decide)
end Go.AM
namespace Go.Proofs.YtoaibmbldmckaaaGreat
open Go.AM Tryz
def Call.enc(c:Call):On V:=[O J c.session,O J c.seq,O J c.cmd.kind,.str c.cmd.series,O J c.cmd.limit,.str c.cmd.row.cat,O J c.cmd.row.day.y,O J c.cmd.row.day.m,O J c.cmd.row.day.d,O J c.cmd.row.bp,O J c.cmd.day.y,O J c.cmd.day.m,O J c.cmd.day.d,.imm (c.cmd.lines.map Tg),.str c.cmd.of.ser,O J c.cmd.of.num,O J c.cmd.session]
theorem bIk(x:Call):x.enc.length=17/\aH x.enc=true:=⟨rfl,rfl⟩
theorem bP1(x:Line):x.enc.length=4/\aH x.enc=true:=⟨rfl,rfl⟩
theorem bVg(x:Rep):x.enc.length=3/\aH x.enc=true:=⟨rfl,rfl⟩
theorem aZ5{l:On Call}{i:Nat}{a:Call}(hi:l[i]?=Ot a)(k:Qa):fV 17 (.imm (l.map Call.enc)) (.int k (i:Int))=.ok (.iptr a.enc 0):=ixI (enc:=Call.enc) hi rfl k
theorem bP2(l:On Line)(hi:15<=l.length):iZ prog 55 (.imm (l.map Tg)) OG (Ot (O J 15))=.ok (.imm ((l.take 15).map Tg)):=by
 have hb:eR (l.map Tg).length OG (Ot (O J 15))=.ok (0,15):=by
  have:(decide ((0:Int)<=15)&&decide ((15:Int)<=((l.map Tg).length:Int)))=true:=by simp;omega
  simp only[eR,this,PW];rfl
 rw[bN0 _ (cU (n:=4) (λc hc=>by obtain⟨x,_,rfl⟩:=Pv.1 hc;exact bP1 x)).1,hb];simp only[Rh,Nat.sub_zero,Se]
def aS5{α β:Type}(f:α->β)(s:On β)(a:α):On β⊕On β:=.inr (s++[f a])
theorem aIg{α β:Type}(f:α->β):∀(l:On α) (s:On β),aD (aS5 f) id l s=s++l.map f
 | [],s=>by simp[aD]
 | a::l,s=>by simp only[aD,aS5];rw[aIg f l];simp
theorem g30(l:On Call)(n:Nat)(hn:n<=1000)(S:St)(K:KW):C 30 [.imm (l.map Call.enc),O J (n:Int)] S K=K (.imm ((wC l n).map Call.enc)) S:=by
 refine(v30 rfl ?_).eq S K;simp only[m30];have jj:(l.take n).length<=n:=by rw[PY];omega
 have htl2:(l.take n).length<=l.length:=by rw[PY];omega
 refine aG (l.take n) (step:=aS5 uC) (fin:=id) (λi s vs S=>∃v,vs=[v,O J (i:Int)]/\Own E0 S 17 v (s.map Call.enc)/\WF S/\s.length=i) (λr=>r=wC l n) ?_ ?_ (s:=[]) ⟨_,rfl,Rf _ _ _,mB,rfl⟩ (by rw[aIg];rfl)
 ·rintro i c s vs S hi ⟨v,rfl,own,w,cd⟩ aE H;have ai:=(Oq.1 hi).1;have df:l[i]?=Ot c:=by rw[Qp,OE (by omega)] at hi;exact hi
  have ag:((i:Int)<(n:Int))=True:=by simp;omega
  simp only[aS5] at H;obtain⟨S1,av⟩:∃S1:St,S1=⟨S.next+1,(S.heap.put S.next (.row 0 17 [[O J 0,O J 0,O J 0,.str [],O J 0,.str [],O J 0,O J 0,O J 0,O J 0,O J 0,O J 0,O J 0,.nils,.str [],O J 0,O J 0]])).put S.next (.row 0 17 [c.enc])⟩:=⟨_,rfl⟩;have x1:Ext S S1:=by rw[av];exact Ext.var w 17 _ _
  have n1:S1.next=S.next+1:=by rw[av]
  have r1:aC S1 S.next 0=.ok (17,[c.enc]):=by rw[av];exact aA _ _ _ _ _ _
  simp only[Call.enc] at r1 av;have hj:∀X:St,Own E0 X 17 v (s.map Call.enc)->WF X->aC X S.next 0=.ok (17,[(uC c).enc])->aK7 C (λv0 S0=>eX S0 v0=TO (V.imm (List.map Call.enc (wC l n)))) aE (.imm (l.map Call.enc)) (O J (n:Int)) v (O J (i:Int)) (.ptr S.next 0 0 0) X:=by
   intro X o wX hr;obtain⟨v',S',q1,q2,q3,_⟩:=aS2 (b:=176) o wX (cs:=[(uC c).enc]) (λd hd=>by rcases PR.1 hd with rfl;exact bIk _) (by simp) (by simp;omega) (by simp[eG];omega);simp only[Call.enc] at hr q1;simp only[aK7,kk,hr,bIj,gM (show i<1000000000 by omega)];simp only[kk] at q1;simp only[q1,kk];exact H _ _ ⟨v',rfl,by rw[PK];exact q2,q3,by simp;omega⟩
  have om:=own.ext x1;have w1:=x1.wf w;simp only[aK8,kk,bG df,ag,Oy,aZ5 df,Call.enc,<-av,r1];by_cases h15:15<c.cmd.lines.length
  ·have z:∀(m:Nat) (b:Blk),Own E0 ⟨m,S1.heap.put S.next b⟩ 17 v (s.map Call.enc)->True:=λ_ _ _=>trivial;simp only[show(15:Int)<(c.cmd.lines.length:Int) by omega,kk,Oy,bP2 c.cmd.lines (by omega),r1];refine hj ⟨S1.next,S1.heap.put S.next (.row 0 17 [(uC c).enc])⟩ (om.same (Ov _) λy hy=>OJ _ _ _ _ trivial λe=>?_) (gO (n:=S1.next) w1 (by omega) (Ov _)) (aA _ _ _ _ _ _)
   have:=(cE own hy).2
   omega
  ·have Ev:(uC c).enc=c.enc:=by
    have:c.cmd.lines.take 15=c.cmd.lines:=QW (by omega)
    simp only[uC,Call.enc,this]
   simp only[show¬(15:Int)<(c.cmd.lines.length:Int) by omega,kk,Ou];exact hj S1 om w1 (by rw[Ev];exact r1)
 ·rintro s vs S ⟨v,rfl,own,w,cd⟩ aE H;have H:s=wC l n:=H;have ho:=own.out λ_=>rfl;rw[H] at ho;by_cases c1:l.length<=n
  ·have he:(l.take n).length=l.length:=by rw[PY];omega
   simp only[aK8,kk,he,OZ,Ou,oo,ho]
  ·have he:(l.take n).length=n:=by rw[PY];omega
   have ag:(n:Int)<(l.length:Int):=by omega
   simp only[aK8,kk,he,ag,Oy,OZ,Ou,oo,ho]
end Go.Proofs.YtoaibmbldmckaaaGreat
end
section
namespace Go.Proofs.YtoaibmbldmckaaaGreat
open Go.AM Tryz
theorem a33{S:St}{s:Qg}{pv:V}(h:pv=.imm (s.posted.map Pg)\/Own E0 S 12 pv (s.posted.map Pg))(c:Call)(b:Bnd s)(hl:c.cmd.lines.length<1000000):∃h':Tr Blk,(∀y,AM.blkOf pv≠Ot y->h'.get y=S.heap.get y)/\∀K,C 33 [.agg [.imm (s.table.map Qk),.imm (s.ser.map PZ),pv,.imm (s.book.map PC),.imm (s.sess.map Qe),O J s.next],
  .agg [O J c.session,O J c.seq,O J c.cmd.kind,.str c.cmd.series,O J c.cmd.limit,.str c.cmd.row.cat,O J c.cmd.row.day.y,O J c.cmd.row.day.m,O J c.cmd.row.day.d,O J c.cmd.row.bp,O J c.cmd.day.y,O J c.cmd.day.m,O J c.cmd.day.d,.imm (c.cmd.lines.map Tg),.str c.cmd.of.ser,O J c.cmd.of.num,O J c.cmd.session]] S K=K (srV (gL s c)) ⟨S.next,h'⟩:=by
 rcases h with rfl | h
 ·exact⟨S.heap,λ_ _=>rfl,λK=>g33 s c b hl S K⟩
 ·obtain⟨h1,h2⟩:=h.in3 (λ_=>rfl) (x:=.imm (s.table.map Qk)) (y:=.imm (s.ser.map PZ)) (bs:=[.imm (s.book.map PC),.imm (s.sess.map Qe),O J s.next]) rfl rfl rfl;have hf:=h.out λ_=>rfl;obtain⟨h',hk,hC⟩:=(WC λS K=>g33 s c b hl S K).cutE (S:=S) (args:=[.agg [.imm (s.table.map Qk),.imm (s.ser.map PZ),pv,.imm (s.book.map PC),.imm (s.sess.map Qe),O J s.next],.agg c.enc]) bTb rfl (by simp only[Sm,cP,hf,Call.enc]) (by simp only[TC,pJ,h.ptrs,Call.enc];rfl);refine⟨h',λy hy=>hk y λhm=>?_,hC⟩;simp only[TM,fF,Call.enc,Pp,OS] at hm;exact hy (h.blks (aU (λ_=>rfl) _) 2 hm)
theorem g35(s:Qg)(l:On Call)(sm:Sml s)(Li:l.length<100000)(hl:∀c∈l,c.cmd.lines.length<1000000)(S:St)(K:KW):C 35 [.agg [.imm (s.table.map Qk),.imm (s.ser.map PZ),.imm (s.posted.map Pg),.imm (s.book.map PC),.imm (s.sess.map Qe),O J s.next],.imm (l.map Call.enc)] S K=
  K (.tup [.agg [.imm ((playM s l).1.table.map Qk),.imm ((playM s l).1.ser.map PZ),.imm ((playM s l).1.posted.map Pg),.imm ((playM s l).1.book.map PC),.imm ((playM s l).1.sess.map Qe),O J (playM s l).1.next],.imm ((playM s l).2.map U')]) S:=by
 refine(v35 rfl ?_).eq S K;obtain⟨A,hA⟩:∃A:St,A=⟨1+1,(Tr.nil.put 0 (.row 0 6 [s.enc])).put 1 (.row 0 6 [zst])⟩:=⟨_,rfl⟩;have wA:WF A:=by rw[hA];exact gO (n:=1) (gO mB (by decide) (by decide)) (by decide) (by decide)
 have nA:A.next=2:=by rw[hA]
 have r0:aC A 0 0=.ok (6,[s.enc]):=by rw[hA];rfl
 have r1:aC A 1 0=.ok (6,[zst]):=by rw[hA];rfl
 simp only[SB] at r0 hA;simp only[zst] at hA;delta Tryz.f35;simp only[↓cw,↓Oo,Om,kk,<-hA,r0];refine bOz wA s sm.bnd λv S6 x6 dy=>?_;have n6:2<=S6.next:=by have:=x6.next;omega
 have w6:=x6.wf wA;have bv:∀y,AM.blkOf v=Ot y->2<=y/\y<S6.next:=λy hy=>by have:=cE dy hy;omega
 have a0:=x6.row r0;have a1:=x6.row r1;have dy:=dy.weaken (A:=E0) (PS _);have o1:=dy.one;have o2:=dy.cells;simp only[↓cw,↓Oo,Om,kk,a0,o1,o2];refine aG l (step:=aRx) (fin:=id) (λi st vs S'=>∃u pv,vs=[u,O J (i:Int)]/\WF S'/\2<=S'.next/\Own E0 S' 3 u (st.2.map U')/\st.2.length=i/\Sml st.1/\aC S' 0 0=.ok (6,[st.1.cells pv])/\aC S' 1 0=.ok (6,[zst])/\(pv=.imm (st.1.posted.map Pg)\/Own E0 S' 12 pv (st.1.posted.map Pg))/\pv.one=OB/\pv.cells=[pv]/\(∀y,AM.blkOf pv=Ot y->2<=y/\AM.blkOf u≠Ot y)/\(∀y,AM.blkOf u=Ot y->2<=y))
  (λr=>r=playM s l) ?_ ?_ (s:=(s,[])) ⟨.nils,v,rfl,gO (n:=S6.next) w6 (by omega) (Ov _),n6,Rf _ _ _,rfl,sm,aA _ _ _ _ _ _,aI (n:=S6.next) (by decide) a1,.inr (dy.same (Ov _) λy hy=>OJ _ _ _ _ trivial (by have:=bv y hy;omega)),o1,o2,λy hy=>⟨(bv y hy).1,λh=>by cases h⟩,λy hy=>by cases hy⟩ (by rw[aId];rfl)
 ·rintro i c ⟨s1,rs⟩ vs S1 hi ⟨u,pv,rfl,w,h2,ou,yc,Ih,i0,i1,ec,p1,p2,hb,sr⟩ aE H;have ai:=(Oq.1 hi).1;have yc:rs.length=i:=yc;simp only[aRx,sN] at H;obtain⟨B,hB⟩:∃B:St,B=⟨S1.next+1+1,((S1.heap.put S1.next (.row 0 17 [bNr])).put S1.next (.row 0 17 [c.enc])).put (S1.next+1) (.row 0 3 [[O J 0,O J 0,O J 0]])⟩:=⟨_,rfl⟩;have nB:B.next=S1.next+2:=by rw[hB]
  have wB:WF B:=by rw[hB];exact gO (n:=S1.next+1) (gO (n:=S1.next+1) (gO (n:=S1.next) w (by omega) (by omega)) (by omega) (Ov _)) (by omega) (by omega)
  have kB:∀y,y<S1.next->B.heap.get y=S1.heap.get y:=λy hy=>by
   rw[hB];show(((S1.heap.put S1.next _).put S1.next _).put (S1.next+1) _).get y=_;rw[OJ _ _ _ _ trivial (by omega),OJ _ _ _ _ trivial (by omega),OJ _ _ _ _ trivial (by omega)]
  have j0:=aX i0 (kB 0 (by omega));have j1:=aX i1 (kB 1 (by omega));have jc:aC B S1.next 0=.ok (17,[c.enc]):=by rw[hB];exact aI (n:=S1.next+1) (by omega) (aA _ _ _ _ _ _)
  have jr:aC B (S1.next+1) 0=.ok (3,[[O J 0,O J 0,O J 0]]):=by rw[hB];exact aA _ _ _ _ _ _
  have ouB:Own E0 B 3 u (rs.map U'):=ou.same (by omega) λy hy=>kB y (cE ou hy).2;have hpB:pv=.imm (s1.posted.map Pg)\/Own E0 B 12 pv (s1.posted.map Pg):=by
   rcases ec with h | h
   ·exact .inl h
   ·exact .inr (h.same (by omega) λy hy=>kB y (cE h hy).2)
  have bc:∀y,AM.blkOf pv=Ot y->y<S1.next:=λy hy=>by
   rcases ec with h | h
   ·rw[h] at hy;cases hy
   ·exact(cE h hy).2
  obtain⟨h',hk,hC⟩:=a33 hpB c Ih.bnd (hl c (OM hi));have wD:WF ⟨B.next,h'⟩:=λy b hy=>by
   by_cases e:AM.blkOf pv=Ot y
   ·have:=bc y e;show y<B.next;omega
   ·exact wB y b (by rw[<-hk y e];exact hy)
  have d0:aC ⟨B.next,h'⟩ 0 0=.ok (6,[s1.cells pv]):=aX j0 (hk 0 λe=>by have:=hb _ e;omega);have d1:aC ⟨B.next,h'⟩ 1 0=.ok (6,[zst]):=aX j1 (hk 1 λe=>by have:=hb _ e;omega);have dr:aC ⟨B.next,h'⟩ (S1.next+1) 0=.ok (3,[[O J 0,O J 0,O J 0]]):=aX jr (hk _ λe=>by have:=bc _ e;omega);have oD:Own E0 ⟨B.next,h'⟩ 3 u (rs.map U'):=ouB.same (Ov _) λy hy=>hk y λe=>(hb y e).2 hy;simp only[bNr,Call.enc] at hB;simp only[Call.enc] at jc;simp only[Uo] at j0 d0;simp only[↓cw,↓Oo,Om,kk,bG hi,aZ5 hi,Call.enc,<-hB,j0,jc,p1,p2,hC,srV,d0,dr,eY,bP0,gM (show i<1000000000 by omega),show(S1.next+1=0)=False by simp];obtain⟨s2,yb⟩:∃s2,s2=(gL s1 c).1:=⟨_,rfl⟩;obtain⟨r,hr⟩:∃r,r=(gL s1 c).2:=⟨_,rfl⟩;have sm2:Sml s2:=by rw[yb];exact aPg Ih c
  simp only[<-yb,<-hr] at H|-
  obtain⟨E,hE⟩:∃E:St,E=⟨B.next,(h'.put 0 (.row 0 6 [s2.enc])).put (S1.next+1) (.row 0 3 [r.enc])⟩:=⟨_,rfl⟩;have wE:WF E:=by rw[hE];exact gO (n:=B.next) (gO (n:=B.next) wD (by omega) (Ov _)) (by omega) (Ov _)
  have nE:E.next=B.next:=by rw[hE]
  have Fe:∀y,AM.blkOf u=Ot y->y<S1.next:=λy hy=>(cE ou hy).2;have oE:Own E0 E 3 u (rs.map U'):=by
   rw[hE];exact oD.same (Ov _) λy hy=>by
    have h1:=Fe y hy;have h2:=sr y hy;show((h'.put 0 _).put (S1.next+1) _).get y=_;rw[OJ _ _ _ _ trivial (by omega),OJ _ _ _ _ trivial (by omega)]
  have k0:aC E 0 0=.ok (6,[s2.enc]):=by rw[hE];exact aI (n:=B.next) (by omega) (aA _ _ _ _ _ _)
  have k1:aC E 1 0=.ok (6,[zst]):=by rw[hE];exact aI (n:=B.next) (by omega) (aI (n:=B.next) (by decide) d1)
  obtain⟨u',F,q1,q2,q3,q4⟩:=aS2 (b:=24) oE wE (cs:=[r.enc]) (λd hd=>by rcases PR.1 hd with rfl;exact bVg _) (by simp) (by simp;omega) (by simp[eG];omega);have FM:∀y,AM.blkOf u'=Ot y->2<=y:=λy hy=>by
   have LA:∀z,z<2->F.heap.get z=E.heap.get z:=λz hz=>q4 z (by omega) λa ver m hv e=>by have:=sr a (by rw[hv];rfl);omega
   rcases q2.is with ⟨rfl,_⟩ | ⟨a',bd,tl,rfl,_,ag,hg⟩
   ·cases hy
   ·cases hy;rcases Nat.lt_or_ge y 2 with h | h
    ·rw[LA y h] at hg
     have:y=0\/y=1:=by omega
     rcases this with rfl | rfl
     ·rw[aB9 k0] at hg;cases hg
     ·rw[aB9 k1] at hg;cases hg
    ·exact h
  have l0:aC F 0 0=.ok (6,[s2.enc]):=aX k0 (q4 0 (by omega) λa ver m hv e=>by have:=sr a (by rw[hv];rfl);omega);have l1:aC F 1 0=.ok (6,[zst]):=aX k1 (q4 1 (by omega) λa ver m hv e=>by have:=sr a (by rw[hv];rfl);omega);have Ds:2<=F.next:=by have:=q3 0 _ (aB9 l0);have:=q3 1 _ (aB9 l1);omega
  subst hE;simp only[↓cw,↓Oo,Om,SB,U',kk] at q1;simp only[↓cw,↓Oo,Om,q1,kk];exact H _ _ ⟨u',.imm (s2.posted.map Pg),rfl,q3,Ds,by rw[PK];exact q2,by simp;omega,sm2,l0,l1,.inl rfl,rfl,rfl,(λy hy=>(by cases hy)),FM⟩
 ·rintro⟨s1,rs⟩ vs S1 ⟨u,pv,rfl,w,h2,ou,yc,Ih,i0,i1,ec,p1,p2,hb,sr⟩ aE H;have H':playM s l=(s1,rs):=H.symm;simp only[Uo] at i0;simp only[zst] at i1;simp only[↓cw,↓Oo,Om,kk,OZ,Ou,i0,i1,eY,p1,p2,H'];have LC:cP kP (kV (iS ⟨S1.next,S1.heap.put 1 (.row 0 6 [s1.cells pv])⟩ 3) ⟨S1.next,S1.heap.put 1 (.row 0 6 [s1.cells pv])⟩) u=.ok (.imm (rs.map U')):=(ou.same (S':=⟨S1.next,S1.heap.put 1 (.row 0 6 [s1.cells pv])⟩) (Ov _) λy hy=>OJ _ _ _ _ trivial (by have:=sr y hy;omega)).out λ_=>rfl;have oq:cP kP (kV (iS ⟨S1.next,S1.heap.put 1 (.row 0 6 [s1.cells pv])⟩ 3) ⟨S1.next,S1.heap.put 1 (.row 0 6 [s1.cells pv])⟩) pv=.ok (.imm (s1.posted.map Pg)):=by
   rcases ec with rfl | h
   ·rfl
   ·exact(h.same (S':=⟨S1.next,S1.heap.put 1 (.row 0 6 [s1.cells pv])⟩) (Ov _) λy hy=>OJ _ _ _ _ trivial (by have:=hb y hy;omega)).out λ_=>rfl
  simp only[Uo] at LC oq;simp only[oo,LC,oq]
abbrev I64(n:Int):Prop:=-9223372036854775808<=n/\n<=9223372036854775807
theorem eZ{n:Int}(h:I64 n):wr J n=n:=fB h.1 h.2
theorem rW(n:Int):I64 (wr J n):=by
 unfold wr lo hi;simp only;split
 ·omega
 ·rw[Sv];omega
theorem eM{n:Int}(h1:0<=n)(h2:n<18446744073709551616):wr ξ n=n:=by
 unfold wr lo hi;simp only;rw[OE (by omega)]
theorem aE7(n:Int):wr ξ n=n % 18446744073709551616:=by
 unfold wr lo hi;simp only;split
 ·omega
 ·rfl
theorem pD{a b:Int}(ha:I64 a)(hb:I64 b):dH a b=if I64 (a+b) then(a+b,0) else(0,7):=by
 unfold dH at *
 have e1:0<b->wr J (9223372036854775807 - b)=9223372036854775807 - b:=λh=>fB (by omega) (by omega);have e2:b<0->wr J (-9223372036854775808 - b)=-9223372036854775808 - b:=λh=>fB (by omega) (by omega);by_cases h:-9223372036854775808<=a+b/\a+b<=9223372036854775807
 ·rw[OE h,fB h.1 h.2,Oz];rintro(⟨h1,h2⟩ | ⟨h1,h2⟩)
  ·rw[e1 h1] at h2;omega
  ·rw[e2 h1] at h2;omega
 ·rw[Oz h,OE];by_cases h0:0<b
  ·exact .inl ⟨h0,by rw[e1 h0];omega⟩
  ·exact .inr ⟨by omega,by rw[e2 (by omega)];omega⟩
theorem aC3{b:Int}(hb:I64 b):cM 0 b=if b=-9223372036854775808 then(0,7) else(-b,0):=by
 unfold cM at *
 have e1:b<0->wr J (9223372036854775807+b)=9223372036854775807+b:=λh=>fB (by omega) (by omega);have e2:0<b->wr J (-9223372036854775808+b)=-9223372036854775808+b:=λh=>fB (by omega) (by omega);by_cases h:b=-9223372036854775808
 ·rw[OE h,OE];exact .inl ⟨by omega,by rw[e1 (by omega)];omega⟩
 ·rw[Oz h,Oz,Int.zero_sub,fB (by omega) (by omega)];rintro(⟨h1,h2⟩ | ⟨h1,h2⟩)
  ·rw[e1 h1] at h2;omega
  ·rw[e2 h1] at h2;omega
theorem aZ6(a b:Int):I64 (dH a b).1:=by
 unfold dH;split
 ·show I64 0;omega
 ·exact rW _
theorem uD(n bp:Int):I64 (bC n bp).1:=by
 unfold bC;have h0:I64 0:=by omega
 split
 ·exact h0
 ·simp only;split
  ·exact h0
  ·split
   ·exact h0
   ·split
    ·exact rW _
    ·exact rW _
theorem aZ7:∀(l:On Int) (h w s:Int),(∀n∈l,I64 n)->0<=h->h<18446744073709551616->0<=w->w<18446744073709551616->(h*18446744073709551616+w - s) % 340282366920938463463374607431768211456=0->
  ∃h' w',aD xH vW l (h,w)=vW (h',w')/\0<=h'/\h'<18446744073709551616/\0<=w'/\w'<18446744073709551616/\(h'*18446744073709551616+w' - (s+l.sum)) % 340282366920938463463374607431768211456=0
 | [],h,w,s,_,a,b,c,d,e=>⟨h,w,rfl,a,b,c,d,by simpa using e⟩
 | n::l,h,w,s,hl,a,b,c,d,e=>by
  have hn:=hl n (Ph ..);have fp:∃h2 w2,xH (h,w) n=.inr (h2,w2)/\0<=h2/\h2<18446744073709551616/\0<=w2/\w2<18446744073709551616/\(h2*18446744073709551616+w2 - (s+n)) % 340282366920938463463374607431768211456=0:=by
   refine⟨_,_,rfl,?_,?_,?_,?_,?_⟩
   ·simp only;omega
   ·simp only;omega
   ·simp only;omega
   ·simp only;omega
   ·simp only[aE7];split<;>omega
  obtain⟨h2,w2,e1,a2,b2,c2,d2,e2⟩:=fp;obtain⟨h',w',r1,r2⟩:=aZ7 l h2 w2 (s+n) (λm hm=>hl m (OY _ hm)) a2 b2 c2 d2 e2;refine⟨h',w',?_,?_⟩
  ·simp only[aD,e1];exact r1
  ·rw[SH,<-WJ];exact r2
theorem aIh:∀(l:On Int),(∀n∈l,I64 n)->-9223372036854775808*(l.length:Int)<=l.sum/\l.sum<=9223372036854775808*(l.length:Int)
 | [],_=>by simp
 | n::l,h=>by
  have h1:=h n (Ph ..);have h2:=aIh l λm hm=>h m (OY _ hm);simp only[SH,OQ];omega
theorem eN{l:On Int}(h:∀n∈l,I64 n)(hl:l.length<=1000000):(cI l).1=wr J l.sum/\((cI l).2=OB↔I64 l.sum):=by
 obtain⟨h',w',e,a,b,c,d,m⟩:=aZ7 l 0 0 0 h (by decide) (by decide) (by decide) (by decide) (by decide);have hs:=aIh l h;unfold cI;rw[e];have ea:-9223372036854775808000000<=l.sum:=by omega
 have wl:l.sum<=9223372036854775808000000:=by omega
 have key:w'=l.sum % 18446744073709551616/\h'=(l.sum / 18446744073709551616) % 18446744073709551616:=by
  rw[Int.zero_add] at m;omega
 constructor
 ·show wr J w'=wr J l.sum;unfold wr lo hi;simp only[Sv];split<;>split<;>omega
 ·show(if w'.fdiv (2 ^ 63)=0 then decide (h'=0) else decide (h'=18446744073709551615))=OB↔_;have hf:w'.fdiv (2 ^ 63)=w' / 9223372036854775808:=by
   rw[Int.fdiv_eq_ediv_of_nonneg _ (by decide)];rfl
  rw[hf];split
  ·simp only[PB];omega
  ·simp only[PB];omega
theorem aC4{l:On Int}(h:∀n∈l,I64 n)(hl:l.length<=1000000)(hs:I64 l.sum):cI l=(l.sum,OB):=by
 obtain⟨h1,h2⟩:=eN h hl;exact Vn (by rw[h1,eZ hs]) (h2.2 hs)
theorem zP:∀a,iL a a=OA
 | []=>rfl
 | x::a=>by
  simp only[iL,cond_eq_ite];rw[Oz (by simp[Nat.blt]),OE (by simp)];exact zP a
theorem aFp(x y:OP)(a b:On OP):iL (x::a) (y::b)=OB↔x.toNat<y.toNat\/x.toNat=y.toNat/\iL a b=true:=by
 simp only[iL,cond_eq_ite,Nat.blt_eq,Nat.beq_eq];split
 ·rename_i h;simp[h]
 ·rename_i h;split
  ·rename_i h2;simp[h2]
  ·rename_i h2;simp[h,h2]
theorem lH:∀{a b c:On OP},iL a b=OB->iL b c=OB->iL a c=OB
 | [],[],c,h,_=>by cases h
 | x::a,[],c,h,_=>by cases h
 | a,y::b,[],_,h=>by cases h
 | [],y::b,z::c,_,_=>rfl
 | x::a,y::b,z::c,h1,h2=>by
  rw[aFp] at *
  rcases h1 with h1 | ⟨h1,h3⟩<;>rcases h2 with h2 | ⟨h2,h4⟩
  ·exact .inl (by omega)
  ·exact .inl (by omega)
  ·exact .inl (by omega)
  ·exact .inr ⟨by omega,lH h3 h4⟩
theorem aE8:∀a b:On OP,iL a b=OB\/a=b\/iL b a=OB
 | [],[]=>.inr (.inl rfl)
 | [],y::b=>.inl rfl
 | x::a,[]=>.inr (.inr rfl)
 | x::a,y::b=>by
  rw[aFp,aFp];rcases Nat.lt_trichotomy x.toNat y.toNat with h | h | h
  ·exact .inl (.inl h)
  ·have wh:x=y:=UInt8.toNat_inj.1 h;rcases aE8 a b with h2 | h2 | h2
   ·exact .inl (.inr ⟨h,h2⟩)
   ·exact .inr (.inl (by rw[wh,h2]))
   ·exact .inr (.inr (.inr ⟨h.symm,h2⟩))
  ·exact .inr (.inr (.inl h))
theorem bIl{a b:On OP}(h:iL a b=OB):a≠b:=λe=>by subst e;rw[zP] at h;cases h
theorem aCw{σ ρ α:Type}{step:σ->α->ρ⊕σ}{fin:σ->ρ}:∀(a b:On α) (s:σ),aD step fin (a++b) s=aD step (λs=>aD step fin b s) a s
 | [],b,s=>rfl
 | x::a,b,s=>by
  simp only[PJ,aD];split
  ·rfl
  ·exact aCw a b _
theorem aCx{α:Type}{step:Ow α->α->Ps⊕Ow α}{good:α->Prop}{R:α->α->Prop}
  (h2:∀a p,¬good a->step p a=.inl OA) (h3:∀p a,good a->R p a->step (Ot p) a=.inr (Ot a)) (h4:∀p a,good a->¬R p a->step (Ot p) a=.inl OA)
  (tr:∀a b c,R a b->R b c->R a c):∀(l:On α) (p:α),aD step (λ_=>OB) l (Ot p)=OB↔(∀a∈l,good a)/\(∀a∈l,R p a)/\l.Pairwise R
 | [],p=>by simp[aD]
 | a::l,p=>by
  by_cases g:good a
  ·by_cases r:R p a
   ·simp only[aD,h3 p a g r];rw[aCx h2 h3 h4 tr l a];simp only[Pu,Ri];constructor
    ·rintro⟨q1,q2,q3⟩;exact⟨λb hb=>hb.elim (λe=>e▸g) (q1 b),λb hb=>hb.elim (λe=>e▸r) (λhb=>tr _ _ _ r (q2 b hb)),q2,q3⟩
    ·rintro⟨q1,q2,q3,q4⟩;exact⟨λb hb=>q1 b (.inr hb),q3,q4⟩
   ·simp only[aD,h4 p a g r];constructor
    ·intro h;cases h
    ·rintro⟨_,q2,_⟩;exact absurd (q2 a (Ph ..)) r
  ·simp only[aD,h2 a (Ot p) g];constructor
   ·intro h;cases h
   ·rintro⟨q1,_,_⟩;exact absurd (q1 a (Ph ..)) g
theorem zQ{α:Type}{step:Ow α->α->Ps⊕Ow α}{good:α->Prop}{R:α->α->Prop}(h1:∀a,good a->step OG a=.inr (Ot a))
  (h2:∀a p,¬good a->step p a=.inl OA) (h3:∀p a,good a->R p a->step (Ot p) a=.inr (Ot a)) (h4:∀p a,good a->¬R p a->step (Ot p) a=.inl OA)
  (tr:∀a b c,R a b->R b c->R a c):∀(l:On α),aD step (λ_=>OB) l OG=OB↔(∀a∈l,good a)/\l.Pairwise R
 | []=>by simp[aD]
 | a::l=>by
  by_cases g:good a
  ·simp only[aD,h1 a g];rw[aCx h2 h3 h4 tr l a];simp only[Pu,Ri];constructor
   ·rintro⟨q1,q2,q3⟩;exact⟨λb hb=>hb.elim (λe=>e▸g) (q1 b),q2,q3⟩
   ·rintro⟨q1,q3,q4⟩;exact⟨λb hb=>q1 b (.inr hb),q3,q4⟩
  ·simp only[aD,h2 a OG g];constructor
   ·intro h;cases h
   ·rintro⟨q1,_⟩;exact absurd (q1 a (Ph ..)) g
theorem aKs{a b c:Vo}(h1:a.before b=OB)(h2:b.before c=OB):a.before c=true:=by
 unfold VS at *
 simp only[OU,PB] at *
 exact⟨h1.1,h2.2.1,by omega⟩
theorem zR(a b:Tn):fW a b=OB↔iL a.cat b.cat=OB\/a.cat=b.cat/\a.day.before b.day=true:=by
 unfold fW;split
 ·rename_i h;simp[h]
 ·rename_i h;split
  ·rename_i h2;simp only[beq_iff_eq] at h2;exact⟨λq=>.inr ⟨h2,q⟩,λq=>q.elim (λq=>absurd q h) (·.2)⟩
  ·rename_i h2;simp only[beq_iff_eq] at h2;simp[h,h2]
theorem uE{a b c:Tn}(h1:fW a b=OB)(h2:fW b c=OB):fW a c=true:=by
 rw[zR] at *
 rcases h1 with h1 | ⟨e1,h1⟩<;>rcases h2 with h2 | ⟨e2,h2⟩
 ·exact .inl (lH h1 h2)
 ·exact .inl (e2▸h1)
 ·exact .inl (e1▸h2)
 ·exact .inr ⟨e1.trans e2,aKs h1 h2⟩
theorem pW(l:On Tn):fL l=OB↔l.length<=24/\(∀r∈l,uX r=0)/\l.Pairwise (λa b=>fW a b=OB):=by
 unfold fL;split
 ·rename_i h;simp;omega
 ·rename_i h;rw[zQ (good:=λr=>uX r=0) (R:=λa b=>fW a b=OB)]
  ·constructor
   ·intro q;exact⟨by omega,q⟩
   ·intro q;exact q.2
  ·intro a g;simp only[iD,g,SI,OK,Ou]
  ·intro a p g;simp only[iD,SI,g,OL,Oy]
  ·intro p a g r;simp only[iD,g,SI,OK,Ou,r,Oy]
  ·intro p a g r;simp only[iD,g,SI,OK,Ou,r];rfl
  ·intro a b c;exact uE
theorem fN(l:On Ser):mM l=OB↔l.length<=8/\(∀s∈l,dV s.name=OB/\mL s=OA)/\l.Pairwise (λa b=>iL a.name b.name=OB):=by
 unfold mM;split
 ·rename_i h;simp;omega
 ·rename_i h;rw[zQ (good:=λs:Ser=>dV s.name=OB/\mL s=OA) (R:=λa b=>iL a.name b.name=OB)]
  ·constructor
   ·intro q;exact⟨by omega,q⟩
   ·intro q;exact q.2
  ·intro a g;simp[lU,nL,g.1,g.2]
  ·intro a p g;unfold lU;split
   ·rfl
   ·split
    ·rfl
    ·split
     ·rfl
     ·rename_i h1 h2 h3;exact absurd ⟨by simpa using h1,by simpa using h3⟩ g
  ·intro p a g r;simp[lU,nL,g.1,g.2,r]
  ·intro p a g r;simp[lU,nL,g.1,g.2,r]
  ·intro a b c;exact lH
theorem bH4:∀(l:On Uj) (last:Int),aD gC (λ_=>OB) l last=OB↔(∀s∈l,last<s.id/\0<=s.last/\s.last<=1099511627776/\(s.last=0->s.reply=SQ))/\l.Pairwise (λa b=>a.id<b.id)
 | [],last=>by simp[aD]
 | s::l,last=>by
  by_cases g:last<s.id/\0<=s.last/\s.last<=1099511627776/\(s.last=0->s.reply=SQ)
  ·have e:gC last s=.inr s.id:=by
    unfold gC;rw[Oz (by omega),Oz (by omega),Oz (by omega),Oz (λh=>h.2 (g.2.2.2 h.1))]
   simp only[aD,e];rw[bH4 l s.id];simp only[Pu,Ri];constructor
   ·rintro⟨q1,q2⟩;exact⟨λb hb=>hb.elim (λe=>e▸g) (λhb=>⟨by have:=(q1 b hb).1;omega,(q1 b hb).2⟩),λb hb=>(q1 b hb).1,q2⟩
   ·rintro⟨q1,q2,q3⟩;exact⟨λb hb=>⟨q2 b hb,(q1 b (.inr hb)).2⟩,q3⟩
  ·have e:gC last s=.inl false:=by
    unfold gC
    repeat' split
    all_goals first | rfl | skip
    rename_i h1 h2 h3 h4;refine absurd ⟨by omega,by omega,by omega,λh=>?_⟩ g;by_cases c:s.reply=SQ
    ·exact c
    ·exact absurd ⟨h,c⟩ h4
   simp only[aD,e];constructor
   ·intro h;cases h
   ·rintro⟨q1,_⟩;exact absurd (q1 s (Ph ..)) g
theorem xO(l:On Uj):gD l=OB↔l.length<=8/\(∀s∈l,0<s.id/\0<=s.last/\s.last<=1099511627776/\(s.last=0->s.reply=SQ))/\l.Pairwise (λa b=>a.id<b.id):=by
 unfold gD;split
 ·rename_i h;simp;omega
 ·rename_i h;rw[bH4];exact⟨λq=>⟨by omega,q⟩,λq=>q.2⟩
theorem xP{α:Type}(p:α->Ps):∀(l:On α) (n:Nat),aD (gE p) id l n=n+(l.takeWhile p).length
 | [],n=>rfl
 | a::l,n=>by
  by_cases c:p a=OB
  ·simp only[aD,gE,c,Oy,Sy];rw[xP p l (n+1),OQ];omega
  ·simp only[aD,gE,c,Ou,Sy];rfl
theorem xQ{α:Type}(p:α->Ps)(l:On α)(a:α):fU l (pR p l) a=l.takeWhile p++a::l.dropWhile p:=by
 unfold fU pR;rw[xP,Px];have h1:l.take (l.takeWhile p).length=l.takeWhile p:=by
  have:=Qo (List.take (l.takeWhile p).length) (TA (p:=p) (l:=l)).symm
  rw[Tk] at this
  ·exact this
  ·rfl
 have h2:l.drop (l.takeWhile p).length=l.dropWhile p:=by
  have:=Qo (List.drop (l.takeWhile p).length) (TA (p:=p) (l:=l)).symm
  rw[XV] at this
  ·exact this
  ·rfl
 rw[h1,h2]
theorem rY{α:Type}{p:α->Ps}:∀{l:On α} {a:α},a∈l.takeWhile p->p a=OB/\a∈l
 | [],a,h=>by cases h
 | x::l,a,h=>by
  rw[Sy] at h;split at h
  ·rename_i c;rcases Pu.1 h with rfl | h
   ·exact⟨c,Ph ..⟩
   ·exact⟨(rY h).1,OY _ (rY h).2⟩
  ·cases h
theorem uF{α:Type}{R:α->α->Prop}{p:α->Ps}{l:On α}{a:α}(hl:l.Pairwise R)(tr:∀a b c,R a b->R b c->R a c)(h1:∀x∈l,p x=OB->R x a)(h2:∀x∈l,p x=OA->R a x):
  (l.takeWhile p++a::l.dropWhile p).Pairwise R:=by
 induction l with
 | nil=>simp
 | cons x l ih=>
  rw[Ri] at hl;by_cases c:p x=OB
  ·simp only[Sy,TW,c,Oy,PJ,Ri];refine⟨λb hb=>?_,ih hl.2 (λy hy=>h1 y (OY _ hy)) (λy hy=>h2 y (OY _ hy))⟩;rcases Qf.1 hb with hb | hb
   ·exact hl.1 b (rY hb).2
   ·rcases Pu.1 hb with rfl | hb
    ·exact h1 x (Ph ..) c
    ·exact hl.1 b (List.dropWhile_suffix p |>.mem hb)
  ·have c:p x=false:=by simpa using c
   simp only[Sy,TW,c,OO,Ou,Pp,Ri];refine⟨λb hb=>?_,hl⟩;have hx:=h2 x (Ph ..) (by simpa using c);rcases Pu.1 hb with rfl | hb
   ·exact hx
   ·exact tr _ _ _ hx (hl.1 b hb)
theorem jZ{α:Type}(l:On α)(i:Nat)(a x:α):x∈fU l i a↔x=a\/x∈l:=by
 unfold fU;rw[Qf,Pu];constructor
 ·rintro(h | h | h)
  ·exact .inr (QP h)
  ·exact .inl h
  ·exact .inr (List.mem_of_mem_drop h)
 ·rintro(h | h)
  ·exact .inr (.inl h)
  ·rw[<-Sd i l,Qf] at h;exact h.elim .inl (λh=>.inr (.inr h))
theorem aUe{n:Int}(h:I64 n):sI n=if n<0 then -n else n:=by
 unfold sI;split
 ·rename_i c;have h1:wr ξ n=18446744073709551616+n:=by rw[aE7];omega
  rw[h1];have h2:aH3 (18446744073709551616+n)=-n - 1:=by
   unfold aH3;simp only[Sq,OO,Ou];have hm:(PH.max:Int)=18446744073709551615:=by decide
   rw[hm];have hb:PH.bits=64:=rfl;rw[hb]
   have:(OX 64 18446744073709551615 ^^^ OX 64 (18446744073709551616+n)) = ~~~ (OX 64 (18446744073709551616+n)):=by
    rw[show(OX 64 18446744073709551615)=XN 64 from by decide,Xh]
   rw[this,Xz];have hv:(OX 64 (18446744073709551616+n)).toNat=(18446744073709551616+n).toNat:=by
    rw[Rx];omega
   rw[hv,eM (by omega) (by omega)];omega
  rw[h2,eM (by omega) (by omega)];omega
 ·exact eM (by omega) (by omega)
def zS(u bp:Int):Ow Int:=
 if 0<bp/\9223372036854775807 / bp<u / 10000 then OG else
  if 9223372036854775807<u / 10000*bp+(2*(u % 10000)*bp+10000) / 20000 then OG else Ot (u / 10000*bp+(2*(u % 10000)*bp+10000) / 20000)
theorem aKt{u bp t:Int}(hu:0<=u)(hb:0<=bp)(h:zS u bp=Ot t):0<=t/\t<=9223372036854775807:=by
 unfold zS at h;split at h
 ·cases h
 ·split at h
  ·cases h
  ·rename_i h2;cases h;have h3:0<=u / 10000*bp:=Tw (by omega) hb;have h4:0<=2*(u % 10000)*bp:=Tw (by omega) hb;exact⟨by omega,by omega⟩
theorem aC5{n bp:Int}(h:I64 n)(h1:0<=bp)(h2:bp<=100000):bC n bp=match zS (if n<0 then -n else n) bp with
  | none=>(0,7)
  | some t=>(if n<0 then -t else t,0):=by
 unfold bC;rw[Oz (by omega)];simp only[aUe h];have hp:wr ξ bp=bp:=eM h1 (by omega);rw[hp];obtain⟨u,hu⟩:∃u,u=(if n<0 then -n else n):=⟨_,rfl⟩;rw[<-hu];have yk:0<=u/\u<=9223372036854775808:=by subst hu;split<;>omega
 have hq:u.tdiv 10000=u / 10000:=QD yk.1;have hr:u.tmod 10000=u % 10000:=RX yk.1;have th:(9223372036854775807:Int).tdiv bp=9223372036854775807 / bp:=QD (by decide);rw[hq,hr,th,eM (n:=u / 10000) (by omega) (by omega)];have hdiv:0<bp->0<=9223372036854775807 / bp/\9223372036854775807 / bp<18446744073709551616:=by
  intro hb;constructor
  ·exact Yj (by decide) (by omega)
  ·have:=XW bp (a:=9223372036854775807) (by decide);omega
 unfold zS;by_cases c:0<bp/\9223372036854775807 / bp<u / 10000
 ·rw[OE c,OE ⟨c.1,by rw[eM (hdiv c.1).1 (hdiv c.1).2];exact c.2⟩]
 ·rw[Oz c,Oz (λq=>c ⟨q.1,by have:=q.2;rwa [eM (hdiv q.1).1 (hdiv q.1).2] at this⟩)];have DY:0<=u / 10000*bp:=Tw (by omega) h1;have Dn:u / 10000*bp<=9223372036854775807:=by
   by_cases hb:0<bp
   ·have hle:u / 10000<=9223372036854775807 / bp:=by
     by_cases q:u / 10000<=9223372036854775807 / bp
     ·exact q
     ·exact absurd ⟨hb,by omega⟩ c
    calc u / 10000*bp<=9223372036854775807 / bp*bp:=VU hle h1
     _<=9223372036854775807:=Yk _ (by omega)
   ·have:bp=0:=by omega
    subst this;simp
  have pc:0<=2*(u % 10000)*bp:=Tw (by omega) h1;have hr2:2*(u % 10000)*bp<=2*10000*100000:=Yu (by omega) h2 h1 (by decide);rw[eM DY (by omega),eM (n:=2*(u % 10000)) (by omega) (by omega),eM pc (by omega),eM (n:=2*(u % 10000)*bp+10000) (by omega) (by omega),aFg];have ht:(2*(u % 10000)*bp+10000).tdiv 20000=(2*(u % 10000)*bp+10000) / 20000:=QD (by omega);rw[ht,eM (n:=(2*(u % 10000)*bp+10000) / 20000) (by omega) (by omega),eM (n:=u / 10000*bp+(2*(u % 10000)*bp+10000) / 20000) (by omega) (by omega)];obtain⟨t,Ii⟩:∃t,t=u / 10000*bp+(2*(u % 10000)*bp+10000) / 20000:=⟨_,rfl⟩;have Ce:0<=t:=by omega
  rw[<-Ii];split
  ·rfl
  ·rename_i hle;rw[fB (n:=t) (by omega) (by omega)];split
   ·rw[fB (by omega) (by omega)];simp
   ·rfl
theorem aPj{n bp t:Int}(h:I64 n)(h1:0<=bp)(h2:bp<=100000)(hn:n≠-9223372036854775808)(hs:bC n bp=(t,0)):bC (-n) bp=(-t,0)/\t≠-9223372036854775808:=by
 rw[aC5 h h1 h2] at hs;rw[aC5 (by omega) h1 h2];have hu:(if -n<0 then - -n else -n)=if n<0 then -n else n:=by split<;>split<;>omega
 rw[hu];cases hx:zS (if n<0 then -n else n) bp with
 | none=>rw[hx] at hs;cases hs
 | some x=>
  rw[hx] at hs;obtain⟨a,b⟩:=aKt (by split<;>omega) h1 hx;simp only[Wf,and_true] at hs|-
  by_cases c0:n=0
  ·subst c0
   have:x=0:=by
    simp only[OZ,Ou] at hx;unfold zS at hx;simp only[Int.zero_ediv,Int.zero_emod,Int.zero_mul,Int.mul_zero] at hx;split at hx
    ·cases hx
    ·split at hx
     ·cases hx
     ·cases hx;decide
   subst this;simp at hs|-
   omega
  ·constructor
   ·rw[<-hs];split<;>split<;>omega
   ·rw[<-hs];split<;>omega
theorem aMt{σ α:Type}{step:σ->α->Ps⊕σ}(hs:∀s a r,step s a=.inl r->r=OA)(c:Ps):∀(l:On α) (s:σ),aD step (λ_=>c) l s=(aD step (λ_=>OB) l s&&c)
 | [],s=>by simp[aD]
 | a::l,s=>by
  simp only[aD];split
  ·rename_i r he;rw[hs _ _ _ he,RJ]
  ·exact aMt hs c l _
structure PG (p:TX):Prop where
 name:dV p.cat=OB
 lo:0<=p.bp
 hi:p.bp<=100000
 tax:bC p.net p.bp=(p.tax,0)
theorem aKu(p:TX):PG p↔dV p.cat=OB/\xJ p=OA/\xK p=false:=by
 unfold xJ xK;simp only[RI,QY,Bool.not_eq_false',PB];constructor
 ·rintro⟨a,b,c,d⟩;exact⟨a,⟨by omega,by omega⟩,by rw[d],by rw[d]⟩
 ·rintro⟨a,⟨b,c⟩,d,e⟩;exact⟨a,by omega,by omega,Vn e d⟩
theorem aFq:∀s a r,cY s a=.inl r->r=false:=by
 intro s a r h;unfold cY at h
 repeat' split at h
 all_goals first | (cases h;done) | (cases h;rfl)
theorem iO(t:Up):cN t=OB↔1<=t.parts.length/\t.parts.length<=12/\(∀p∈t.parts,PG p)/\t.parts.Pairwise (λa b=>iL a.cat b.cat=OB)/\kF t=true:=by
 unfold cN;split
 ·rename_i h;simp;omega
 ·rename_i h;split
  ·rename_i h2;simp;omega
  ·rename_i h2;rw[aMt aFq,OU,zQ (good:=PG) (R:=λa b=>iL a.cat b.cat=OB)]
   ·constructor
    ·rintro⟨⟨a,b⟩,c⟩;exact⟨by omega,by omega,a,b,c⟩
    ·rintro⟨_,_,a,b,c⟩;exact⟨⟨a,b⟩,c⟩
   ·intro a g;obtain⟨g1,g2,g3⟩:=(aKu a).1 g;simp[cY,iY,g1,g2,g3]
   ·intro a p g;rw[aKu] at g;unfold cY;split
    ·rfl
    ·split
     ·rfl
     ·split
      ·rfl
      ·split
       ·rfl
       ·rename_i h1 _ h3 h4;exact absurd ⟨by simpa using h1,by simpa using h3,by simpa using h4⟩ g
   ·intro p a g r;obtain⟨g1,g2,g3⟩:=(aKu a).1 g;simp[cY,iY,g1,g2,g3,r]
   ·intro p a g r;obtain⟨g1,g2,g3⟩:=(aKu a).1 g;simp[cY,iY,g1,g2,g3,r]
   ·intro a b c;exact lH
theorem sO{t:Up}(hn:∀p∈t.parts,I64 p.net)(ht:∀p∈t.parts,I64 p.tax)(hl:t.parts.length<=1000000):
  kF t=OB↔I64 t.net/\I64 t.tax/\I64 t.gross/\t.net=(t.parts.map (·.net)).sum/\t.tax=(t.parts.map (·.tax)).sum/\t.gross=t.net+t.tax:=by
 have h1:∀n∈t.parts.map (·.net),I64 n:=λn h=>by obtain⟨p,hp,rfl⟩:=Pv.1 h;exact hn p hp
 have h2:∀n∈t.parts.map (·.tax),I64 n:=λn h=>by obtain⟨p,hp,rfl⟩:=Pv.1 h;exact ht p hp
 obtain⟨a1,a2⟩:=eN h1 (by rw[ON];exact hl);obtain⟨b1,b2⟩:=eN h2 (by rw[ON];exact hl);unfold kF;constructor
 ·intro h
  repeat' split at h
  all_goals first | cases h;done | skip
  rename_i c1 c2 c3 c4 c5;have d:=RH h;have i1:=a2.1 c1;have i2:=b2.1 c2;rw[a1,eZ i1] at c4;rw[b1,eZ i2] at c5;have j:∀n∈[t.net,t.tax],I64 n:=by
   intro n hn;simp only[Pu,TJ,or_false] at hn;rcases hn with rfl | rfl
   ·rw[<-c4];exact i1
   ·rw[<-c5];exact i2
  obtain⟨e1,e2⟩:=eN j (by simp);have i3:=e2.1 c3;rw[e1,eZ i3] at d;have hs:[t.net,t.tax].sum=t.net+t.tax:=by simp
  rw[hs] at d i3;exact⟨by rw[<-c4];exact i1,by rw[<-c5];exact i2,by rw[<-d];exact i3,c4.symm,c5.symm,d.symm⟩
 ·rintro⟨i1,i2,i3,e1,e2,e3⟩;have j:∀n∈[t.net,t.tax],I64 n:=by
   intro n hn;simp only[Pu,TJ,or_false] at hn;rcases hn with rfl | rfl
   ·exact i1
   ·exact i2
  have hs:[t.net,t.tax].sum=t.net+t.tax:=by simp
  have k3:=aC4 j (by simp) (by rw[hs,<-e3];exact i3);have k1:=aC4 h1 (by rw[ON];exact hl) (by rw[<-e1];exact i1);have k2:=aC4 h2 (by rw[ON];exact hl) (by rw[<-e2];exact i2);rw[k1,k2,k3];simp only[Oy,<-e1,<-e2,hs,<-e3,Rk]
theorem bCk{α:Type}(p:α->Ps)(l:On α):l[pR p l]?=(l.dropWhile p)[0]?:=by
 unfold pR;rw[xP,Px];have h:l[(l.takeWhile p).length]?=(l.takeWhile p++l.dropWhile p)[(l.takeWhile p).length]?:=by rw[TA]
 rw[h,Pe (Ov _),Qt]
theorem aIi{α:Type}{p:α->Ps}:∀{l:On α} {a:α},(l.dropWhile p)[0]?=Ot a->p a=OA
 | [],a,h=>by cases h
 | x::l,a,h=>by
  rw[TW] at h;split at h
  ·exact aIi h
  ·rename_i c;cases h;simpa using c
theorem aCy{α:Type}{p:α->Ps}{R:α->α->Prop}:∀{l:On α},l.Pairwise R->(∀a b,R a b->p a=OA->p b=OA)->∀{x:α},x∈l->p x=OA->x∈l.dropWhile p
 | a::l,hl,hp,x,hx,h=>by
  rw[TW];rw[Ri] at hl;split
  ·rename_i c;rcases Pu.1 hx with rfl | hx
   ·rw[h] at c;cases c
   ·exact aCy hl.2 hp hx h
  ·exact hx
theorem aZ8{α:Type}{key:α->On OP}{l:On α}(hs:l.Pairwise (λa b=>iL (key a) (key b)=OB))(k:On OP)(h:∀b,l[pR (λx=>iL (key x) k) l]?=Ot b->key b≠k):
  ∀x∈l,iL (key x) k=OA->iL k (key x)=true:=by
 intro x hx hk;have hd:=aCy (p:=λx=>iL (key x) k) hs (λa b r ha=>by
  cases c:iL (key b) k with
  | false=>rfl
  | true=>rw[lH r c] at ha;cases ha) hx hk
 rw[bCk] at h;have LD:(l.dropWhile λx=>iL (key x) k).Pairwise (λa b=>iL (key a) (key b)=OB):=hs.sublist (List.dropWhile_sublist _);cases hc:l.dropWhile (λx=>iL (key x) k) with
 | nil=>rw[hc] at hd;cases hd
 | cons q r=>
  rw[hc] at hd LD;have hq:iL (key q) k=false:=aIi (p:=λx=>iL (key x) k) (l:=l) (by rw[hc];rfl);have ah:=h q (by rw[hc];rfl);have LE:iL k (key q)=true:=by
   rcases aE8 (key q) k with h1 | h1 | h1
   ·rw[hq] at h1;cases h1
   ·exact absurd h1 ah
   ·exact h1
  rcases Pu.1 hd with rfl | hd
  ·exact LE
  ·exact lH LE ((Ri.1 LD).1 x hd)
theorem zU{α:Type}{key:α->On OP}{l:On α}(hs:l.Pairwise (λa b=>iL (key a) (key b)=OB)){i:Nat}{a b:α}(hi:l[i]?=Ot a)(he:key b=key a):(l.set i b).Pairwise (λa b=>iL (key a) (key b)=OB):=by
 have hm:∀l:On α,l.Pairwise (λa b=>iL (key a) (key b)=OB)↔(l.map key).Pairwise (λa b=>iL a b=OB):=λl=>(Us (f:=key) (R:=λa b=>iL a b=OB)).symm;rw[hm] at hs|-
 have:(l.set i b).map key=l.map key:=by
  rw[List.map_set,he];apply RN;intro j;rw[Qi];split
  ·rename_i hj;subst hj;rw[Pc,hi,ON];rw[OE (Oq.1 hi).1];rfl
  ·rfl
 rw[this];exact hs
structure PInv (l:On TX):Prop where
 name:∀p∈l,dV p.cat=OB
 bp:∀p∈l,0<=p.bp/\p.bp<=100000
 net:∀p∈l,I64 p.net
 srt:l.Pairwise (λa b=>iL a.cat b.cat=OB)
theorem PInv.nil:PInv []:=⟨λ_ h=>(by cases h),λ_ h=>(by cases h),λ_ h=>(by cases h),.nil⟩
theorem PInv.room{l:On TX}(h:PInv l){cat:On OP}{bp:Int}(hc:dV cat=OB)(h1:0<=bp)(h2:bp<=100000):PInv (eD l cat bp):=by
 unfold eD;split
 ·rename_i hm;have cg:∀p,p∈fU l (cA l cat) ⟨cat,bp,0,0⟩->p=⟨cat,bp,0,0⟩\/p∈l:=λp hp=>(jZ _ _ _ _).1 hp;refine⟨λp hp=>?_,λp hp=>?_,λp hp=>?_,?_⟩
  ·rcases cg p hp with rfl | hp
   ·exact hc
   ·exact h.name p hp
  ·rcases cg p hp with rfl | hp
   ·exact⟨h1,h2⟩
   ·exact h.bp p hp
  ·rcases cg p hp with rfl | hp
   ·show I64 0;omega
   ·exact h.net p hp
  ·unfold cA;rw[xQ];refine uF h.srt (λa b c=>lH) (λx hx hp=>hp) (λx hx hp=>?_);refine aZ8 (key:=λp:TX=>p.cat) h.srt cat (λb hb=>?_) x hx hp;unfold lW cA at hm;rw[hb] at hm;simpa using hm
 ·exact h
theorem PInv.put{l:On TX}(h:PInv l){cat:On OP}{bp n:Int}(hc:dV cat=OB)(h1:0<=bp)(h2:bp<=100000):PInv (uY l cat bp n).1/\(uY l cat bp n).1≠[]:=by
 obtain⟨b,hb⟩:=tY l cat bp;have hr:=h.room hc h1 h2;unfold uY;rw[hb];have xm:=OM hb;constructor
 ·refine⟨λp hp=>?_,λp hp=>?_,λp hp=>?_,zU (key:=λp:TX=>p.cat) hr.srt hb rfl⟩
  ·rcases PN hp with hp | rfl
   ·exact hr.name p hp
   ·exact hr.name b xm
  ·rcases PN hp with hp | rfl
   ·exact hr.bp p hp
   ·exact hr.bp b xm
  ·rcases PN hp with hp | rfl
   ·exact hr.net p hp
   ·exact aZ6 _ _
 ·intro e
  have:=Qo TN e
  rw[Qm,Pf] at this
  have:=(Oq.1 hb).1
  omega
theorem xR{r:Tn}(h:uX r=0):dV r.cat=OB/\r.day.right=OB/\0<=r.bp/\r.bp<=100000:=by
 unfold uX at h;split at h
 ·omega
 ·rename_i h1;split at h
  ·omega
  ·rename_i h2;split at h
   ·omega
   ·split at h
    ·omega
    ·exact⟨by simpa using h1,by simpa using h2,by omega,by omega⟩
theorem bH5{cat:On OP}{d:Vo}:∀(l:On Tn) (st:Int×Ps),(st.2=OB->0<=st.1/\st.1<=100000)->(∀r∈l,0<=r.bp/\r.bp<=100000)->(aD (lV cat d) id l st).2=OB->0<=(aD (lV cat d) id l st).1/\(aD (lV cat d) id l st).1<=100000
 | [],st,h,_,h2=>h h2
 | r::l,st,h,hl,h2=>by
  simp only[aD,lV] at h2|-
  refine bH5 l _ ?_ (λx hx=>hl x (OY _ hx)) h2;split
  ·intro _;exact hl r (Ph ..)
  ·exact h
theorem aMu{l:On Tn}{cat:On OP}{d:Vo}(h:(kL l cat d).2=OB):0<=(kL l cat d).1/\(kL l cat d).1<=100000:=by
 unfold kL at h|-
 split at h
 ·cases h
 ·rename_i h1;split at h
  ·cases h
  ·rename_i h2;rw[Oz h1,Oz h2];have ht:=(pW l).1 (by simpa using h1);exact bH5 l _ (λh=>by cases h) (λr hr=>(xR (ht.2.1 r hr)).2.2) h
theorem aZ9{tab:On Tn}{d:Vo}{l:Line}(h:(iE tab d l).2.2=0):dV l.cat=OB/\0<=(iE tab d l).1/\(iE tab d l).1<=100000:=by
 unfold iE at h|-
 split at h
 ·simp at h
 ·rename_i h1;split at h
  ·simp at h
  ·rename_i h2;split at h
   ·simp at h
   ·rename_i h3;split at h
    ·simp at h
    ·rename_i h4;rw[Oz h1,Oz h2,Oz h3,Oz h4];exact⟨by simpa using h2,aMu (by simpa using h4)⟩
theorem bP3{tab:On Tn}{d:Vo}:∀(lines:On Line) (parts:On TX) (r:Up×Int),PInv parts->aD (kR tab d) gK lines parts=r->r.2=0->∃ps,PInv ps/\gK ps=r/\(parts≠[]\/lines≠[]->ps≠[])
 | [],parts,r,hp,h,_=>⟨parts,hp,h,λh=>h.elim id (λh=>absurd rfl h)⟩
 | l::lines,parts,r,hp,h,h0=>by
  simp only[aD] at h;split at h
  ·rename_i r' he;subst h;unfold kR at he;split at he
   ·rename_i hc;cases he;exact absurd h0 hc
   ·split at he
    ·rename_i hc;cases he;exact absurd h0 hc
    ·cases he
  ·rename_i s' he;unfold kR at he;split at he
   ·cases he
   ·rename_i hl;split at he
    ·cases he
    ·cases he;obtain⟨a,b,c⟩:=aZ9 (PM.1 hl);obtain⟨q1,q2⟩:=hp.put (n:=(iE tab d l).2.1) a b c;obtain⟨ps,i1,i2,i3⟩:=bP3 lines _ r q1 h h0;exact⟨ps,i1,i2,λ_=>i3 (.inl q2)⟩
def rH(p:TX):Part:={ p with tax:=(bC p.net p.bp).1 }
theorem aZa:∀(l:On TX) (n x:Int) (ps:On TX) (r:Up×Int),I64 n->I64 x->(∀p∈l,I64 p.net)->aD iX nM l (n,x,ps)=r->r.2=0->
  r.1.parts=ps++l.map rH/\(∀p∈l,(bC p.net p.bp).2=0)/\r.1.net=n+(l.map (·.net)).sum/\r.1.tax=x+(l.map λp=>(bC p.net p.bp).1).sum/\r.1.gross=r.1.net+r.1.tax/\I64 r.1.net/\I64 r.1.tax/\I64 r.1.gross
 | [],n,x,ps,r,hn,hx,_,h,h0=>by
  simp only[aD,nM] at h;split at h
  ·rename_i hc;subst h;exact absurd h0 hc
  ·rename_i hc;have hc:=PM.1 hc;subst h;simp only at hc|-
   rw[pD hn hx] at hc|-
   split at hc
   ·rename_i hi;rw[OE hi];refine⟨by simp,by simp,by simp,by simp,rfl,hn,hx,hi⟩
   ·simp at hc
 | p::l,n,x,ps,r,hn,hx,hl,h,h0=>by
  simp only[aD] at h;split at h
  ·rename_i r' he;subst h;unfold iX at he;split at he
   ·cases he;simp at h0
   ·cases he
  ·rename_i s' he;unfold iX at he;split at he
   ·cases he
   ·rename_i hc;cases he;have hp:=hl p (Ph ..);have c1:(bC p.net p.bp).2=0:=by by_cases q:(bC p.net p.bp).2=0;exact q;exact absurd (.inl q) hc
    have c2:(dH n p.net).2=0:=by by_cases q:(dH n p.net).2=0;exact q;exact absurd (.inr (.inl q)) hc
    have c3:(dH x (bC p.net p.bp).1).2=0:=by by_cases q:(dH x (bC p.net p.bp).1).2=0;exact q;exact absurd (.inr (.inr q)) hc
    have e2:(dH n p.net).1=n+p.net/\I64 (n+p.net):=by
     rw[pD hn hp] at c2|-
     split at c2
     ·rename_i hi;rw[OE hi];exact⟨rfl,hi⟩
     ·simp at c2
    have e3:(dH x (bC p.net p.bp).1).1=x+(bC p.net p.bp).1/\I64 (x+(bC p.net p.bp).1):=by
     rw[pD hx (uD _ _)] at c3|-
     split at c3
     ·rename_i hi;rw[OE hi];exact⟨rfl,hi⟩
     ·simp at c3
    simp only[e2.1,e3.1] at h;obtain⟨a1,a2,a3,a4,a5⟩:=aZa l _ _ _ r e2.2 e3.2 (λq hq=>hl q (OY _ hq)) h h0;refine⟨by rw[a1,Qd,Pd];rfl,λq hq=>?_,?_,?_,a5⟩
    ·rcases Pu.1 hq with rfl | hq
     ·exact c1
     ·exact a2 q hq
    ·rw[a3,Qd,SH];omega
    ·rw[a4,Qd,SH];omega
theorem aZb{ps:On TX}(h:PInv ps)(h0:ps≠[]){t:Up}(hl:t.parts.length<=12)(hw:gK ps=(t,0)):cN t=OB/\(∀p∈t.parts,I64 p.net/\I64 p.tax):=by
 obtain⟨a1,a2,a3,a4,a5,a6,a7,a8⟩:=aZa ps 0 0 [] (t,0) (by omega) (by omega) h.net hw rfl;simp only[Pp,Int.zero_add] at a1 a2 a3 a4 a5 a6 a7 a8;have hm:∀p∈t.parts,∃q∈ps,p=rH q:=λp hp=>by rw[a1] at hp;obtain⟨q,hq,rfl⟩:=Pv.1 hp;exact⟨q,hq,rfl⟩
 have hi:∀p∈t.parts,I64 p.net/\I64 p.tax:=λp hp=>by
  obtain⟨q,hq,rfl⟩:=hm p hp;exact⟨h.net q hq,uD _ _⟩
 refine⟨(iO t).2 ⟨?_,hl,λp hp=>?_,?_,?_⟩,hi⟩
 ·rw[a1,ON];cases ps with
  | nil=>exact absurd rfl h0
  | cons a l=>simp
 ·obtain⟨q,hq,rfl⟩:=hm p hp;exact⟨h.name q hq,(h.bp q hq).1,(h.bp q hq).2,Vn rfl (a2 q hq)⟩
 ·rw[a1,Us];exact h.srt
 ·rw[sO (λp hp=>(hi p hp).1) (λp hp=>(hi p hp).2) (by omega)];refine⟨a6,a7,a8,?_,?_,a5⟩
  ·rw[a3,a1,Ua];rfl
  ·rw[a4,a1,Ua];rfl
theorem aKv{tab:On Tn}{d:Vo}{lines:On Line}(h:(dZ tab d lines).2=0):d.right=OB/\cN (dZ tab d lines).1=OB/\∀p∈(dZ tab d lines).1.parts,I64 p.net/\I64 p.tax:=by
 have hf:=(zO h).1;unfold dZ at h hf|-
 split at h
 ·simp at h
 ·rename_i h1;split at h
  ·simp at h
  ·rename_i h2;split at h
   ·simp at h
   ·rename_i h3;split at h
    ·simp at h
    ·rename_i h4;rw[Oz h1,Oz h2,Oz h3,Oz h4] at hf|-
     obtain⟨ps,i1,i2,i3⟩:=bP3 lines [] _ PInv.nil rfl h;have ah:ps≠[]:=i3 (.inr (λe=>h3 (by rw[e];rfl)));exact⟨by simpa using h2,aZb i1 ah hf (by rw[i2];exact Vn rfl h)⟩
def aKw(p:TX):Part:={ p with net:=-p.net,tax:=-p.tax }
def aH9:Int:=-9223372036854775808
theorem aIj:∀(l d:On Int) (r:On Int×Int),(∀n∈l,I64 n)->aD rE (λl=>(l,0)) l d=r->r.2=0->r.1=d++l.map (λn=>-n)/\∀n∈l,n≠aH9
 | [],d,r,_,h,_=>by subst h;simp[aD]
 | n::l,d,r,hl,h,h0=>by
  simp only[aD,rE,aC3 (hl n (Ph ..))] at h;by_cases c:n=-9223372036854775808
  ·simp only[c,Oy] at h;subst h;simp at h0
  ·simp only[c,Ou] at h;obtain⟨a,b⟩:=aIj l _ r (λm hm=>hl m (OY _ hm)) h h0;refine⟨by rw[a,Qd,Pd];rfl,λm hm=>?_⟩;rcases Pu.1 hm with rfl | hm
   ·exact c
   ·exact b m hm
theorem aIk{l:On Int}(hl:∀n∈l,I64 n)(h:(iF l).2=0):(iF l).1=l.map (λn=>-n)/\∀n∈l,n≠aH9:=by
 have:=aIj l [] (iF l) hl rfl h
 exact this
theorem aFr:∀(l a:On TX) (r:On TX×Int),(∀p∈l,I64 p.net/\I64 p.tax)->aD dW (λl=>(l,0)) l a=r->r.2=0->r.1=a++l.map aKw/\∀p∈l,p.net≠aH9/\p.tax≠aH9
 | [],a,r,_,h,_=>by subst h;simp[aD]
 | p::l,a,r,hl,h,h0=>by
  simp only[aD,dW] at h;split at h
  ·rename_i r' he;split at he
   ·rename_i hc;cases he;subst h;exact absurd h0 hc
   ·cases he
  ·rename_i s' he;split at he
   ·cases he
   ·rename_i hc;cases he;have hp:=hl p (Ph ..);obtain⟨e1,e2⟩:=aIk (l:=[p.net,p.tax]) (λn hn=>by
     simp only[Pu,TJ,or_false] at hn;rcases hn with rfl | rfl
     ·exact hp.1
     ·exact hp.2) (PM.1 hc)
    rw[e1] at h;obtain⟨q1,q2⟩:=aFr l _ r (λm hm=>hl m (OY _ hm)) h h0;refine⟨by rw[q1,Qd,Pd];rfl,λm hm=>?_⟩;rcases Pu.1 hm with rfl | hm
    ·exact⟨e2 _ (Ph ..),e2 _ (OY _ (Ph ..))⟩
    ·exact q2 m hm
theorem aPk{t:Up}(ht:∀p∈t.parts,I64 p.net/\I64 p.tax)(h1:I64 t.net)(h2:I64 t.tax)(h3:I64 t.gross)(h:(bI t).2=0):
  (bI t).1=⟨-t.net,-t.tax,-t.gross,t.parts.map aKw⟩/\t.net≠aH9/\t.tax≠aH9/\t.gross≠aH9/\∀p∈t.parts,p.net≠aH9/\p.tax≠aH9:=by
 unfold bI at h|-
 split at h
 ·rename_i hc;exact absurd h hc
 ·rename_i hc;split at h
  ·rename_i nh;exact absurd h nh
  ·rename_i nh;rw[Oz hc,Oz nh];obtain⟨e1,e2⟩:=aIk (l:=[t.net,t.tax,t.gross]) (λn hn=>by
    simp only[Pu,TJ,or_false] at hn;rcases hn with rfl | rfl | rfl
    ·exact h1
    ·exact h2
    ·exact h3) (PM.1 hc)
   obtain⟨q1,q2⟩:=aFr t.parts [] _ ht rfl (PM.1 nh);rw[e1,q1];exact⟨rfl,e2 _ (by simp),e2 _ (by simp),e2 _ (by simp),q2⟩
theorem aS6:∀l:On Int,(l.map λn=>-n).sum=-l.sum
 | []=>rfl
 | n::l=>by rw[Qd,SH,SH,aS6 l];omega
theorem aFs{t:Up}(ht:∀p∈t.parts,I64 p.net/\I64 p.tax)(ho:cN t=OB)(h:(bI t).2=0):cN (bI t).1=OB/\(∀p∈(bI t).1.parts,I64 p.net/\I64 p.tax)/\(bI t).1=⟨-t.net,-t.tax,-t.gross,t.parts.map aKw⟩:=by
 obtain⟨o1,o2,o3,o4,o5⟩:=(iO t).1 ho;obtain⟨s1,s2,s3,s4,s5,s6⟩:=(sO (λp hp=>(ht p hp).1) (λp hp=>(ht p hp).2) (by omega)).1 o5;obtain⟨b1,b2,b3,b4,b5⟩:=aPk ht s1 s2 s3 h;unfold aH9 at b2 b3 b4 b5;have hm:∀p∈t.parts.map aKw,∃q∈t.parts,p=aKw q:=λp hp=>by obtain⟨q,hq,rfl⟩:=Pv.1 hp;exact⟨q,hq,rfl⟩
 have hi:∀p∈t.parts.map aKw,I64 p.net/\I64 p.tax:=λp hp=>by
  obtain⟨q,hq,rfl⟩:=hm p hp
  have:=ht q hq
  have:=b5 q hq
  show I64 (-q.net)/\I64 (-q.tax);omega
 refine⟨?_,by rw[b1];exact hi,b1⟩;rw[b1,iO];refine⟨by simpa using o1,by simpa using o2,λp hp=>?_,?_,?_⟩
 ·obtain⟨q,hq,rfl⟩:=hm p hp;have g:=o3 q hq;exact⟨g.name,g.lo,g.hi,(aPj (ht q hq).1 g.lo g.hi (b5 q hq).1 g.tax).1⟩
 ·show(t.parts.map aKw).Pairwise _;rw[Us];exact o4
 ·rw[sO (λp hp=>(hi p hp).1) (λp hp=>(hi p hp).2) (by simp;omega)];have e1:(t.parts.map aKw).map (·.net)=(t.parts.map (·.net)).map λn=>-n:=by rw[Ua,Ua];rfl
  have e2:(t.parts.map aKw).map (·.tax)=(t.parts.map (·.tax)).map λn=>-n:=by rw[Ua,Ua];rfl
  simp only[e1,e2,aS6];refine⟨?_,?_,?_,?_,?_,?_⟩
  ·show I64 (-t.net);omega
  ·show I64 (-t.tax);omega
  ·show I64 (-t.gross);omega
  ·show -t.net=_;omega
  ·show -t.tax=_;omega
  ·show -t.gross=-t.net+-t.tax;omega
theorem aZc{y:Int}(h1:1<=y)(h2:y<=9999):Go.Proofs.YtoaibmbldmckaaaGreat.ahead y=365*(y - 1)+(y - 1) / 4 - (y - 1) / 100+(y - 1) / 400:=by
 unfold Go.Proofs.YtoaibmbldmckaaaGreat.ahead;have a1:wr J (y - 1)=y - 1:=eZ (by omega);rw[a1];have a2:(y - 1).tdiv 4=(y - 1) / 4:=QD (by omega);have a3:(y - 1).tdiv 100=(y - 1) / 100:=QD (by omega);have a4:(y - 1).tdiv 400=(y - 1) / 400:=QD (by omega);rw[a2,a3,a4];rw[eZ (n:=365*(y - 1)) (by omega),eZ (n:=(y - 1) / 4) (by omega),eZ (n:=(y - 1) / 100) (by omega),eZ (n:=(y - 1) / 400) (by omega)];rw[eZ (n:=365*(y - 1)+(y - 1) / 4) (by omega),eZ (n:=365*(y - 1)+(y - 1) / 4 - (y - 1) / 100) (by omega),eZ (by omega)]
theorem jP(y m:Int):28<=gB y m/\gB y m<=31:=by
 unfold gB
 repeat' split
 all_goals omega
def iH(y:Int):Nat->Int
 | 0=>0
 | n+1=>iH y n+gB y ((n:Int)+1)
theorem oR(y:Int):∀n:Nat,28*(n:Int)<=iH y n/\iH y n<=31*(n:Int)
 | 0=>by simp[iH]
 | n+1=>by
  have:=oR y n
  have:=jP y ((n:Int)+1)
  simp only[iH];omega
theorem aS7(y:Int):∀(n k:Nat) (a:Int),-1000000000<=a->a<=1000000000->k+n<=1000->aD (jT y) id (List.range' k n) (a+iH y k)=a+iH y (k+n)
 | 0,k,a,_,_,_=>rfl
 | n+1,k,a,h1,h2,h3=>by
  have m1:=oR y k;have m2:=jP y ((k:Int)+1);rw[List.range'_succ];simp only[aD,jT];rw[eZ (by omega),WJ]
  have:=aS7 y n (k+1) a h1 h2 (by omega)
  rw[show k+(n+1)=k+1+n from by omega];exact this
theorem xU(d:Vo):d.right=OB↔1<=d.y/\d.y<=9999/\1<=d.m/\d.m<=12/\1<=d.d/\d.d<=gB d.y d.m:=by
 unfold Date.right;simp only[OU,PB]
theorem aS8{d:Vo}(h:d.right=OB):d.days=365*(d.y - 1)+(d.y - 1) / 4 - (d.y - 1) / 100+(d.y - 1) / 400+iH d.y (d.m - 1).toNat+d.d - 1:=by
 obtain⟨h1,h2,h3,h4,h5,h6⟩:=(xU d).1 h;unfold Date.days;rw[OE h];have e:=aZc h1 h2;have hr:=jP d.y d.m;have hm:=oR d.y (d.m - 1).toNat
 have hl:=aS7 d.y (d.m - 1).toNat 0 (Go.Proofs.YtoaibmbldmckaaaGreat.ahead d.y) (by rw[e];omega) (by rw[e];omega) (by omega);simp only[iH,Tx,Px] at hl;rw[List.range_eq_range',hl,e,eZ (n:=365*(d.y - 1)+(d.y - 1) / 4 - (d.y - 1) / 100+(d.y - 1) / 400+iH d.y (d.m - 1).toNat+d.d) (by omega),eZ (by omega)]
theorem aZd(y:Int):iH y 12=365+(if aKm y=OB then 1 else 0):=by
 simp only[iH,gB];by_cases c:aKm y=OB<;>simp[c]
theorem bCl{y:Int}(h:0<=y):aKm y=decide (y % 4=0/\(y % 100≠0\/y % 400=0)):=by
 unfold aKm;have a:y.tmod 4=y % 4:=RX h;have b:y.tmod 100=y % 100:=RX h;have c:y.tmod 400=y % 400:=RX h;rw[a,b,c];split
 ·rename_i h1;split
  ·rename_i h2;simp[h1,h2]
  ·rename_i h2;simp[h1,h2]
 ·rename_i h1;simp[h1]
theorem aCz(y:Int):∀(n k:Nat),iH y n+28*(k:Int)<=iH y (n+k)
 | n,0=>by simp
 | n,k+1=>by
  have:=aCz y n k
  have:=jP y (((n+k:Nat):Int)+1)
  show _<=iH y (n+k)+gB y (((n+k:Nat):Int)+1);omega
theorem aIl(y:Int){n k:Nat}(h:n<k):iH y n+gB y ((n:Int)+1)<=iH y k:=by
 have:=aCz y (n+1) (k - (n+1))
 rw[show n+1+(k - (n+1))=k from by omega] at this;simp only[iH] at this;omega
theorem aS9{a b:Vo}(ha:a.right=OB)(hb:b.right=OB)(h:a.y<b.y\/a.y=b.y/\(a.m<b.m\/a.m=b.m/\a.d<b.d)):a.days<b.days:=by
 rw[aS8 ha,aS8 hb];obtain⟨a1,a2,a3,a4,a5,a6⟩:=(xU a).1 ha;obtain⟨b1,b2,b3,b4,b5,b6⟩:=(xU b).1 hb;have LF:∀{d:Vo},1<=d.m->(((d.m - 1).toNat:Nat):Int)+1=d.m:=λh=>by omega
 rcases h with h | ⟨hy,h | ⟨h2,h⟩⟩
 ·have h12:iH a.y (a.m - 1).toNat+a.d<=iH a.y 12:=by
   have:=aIl a.y (n:=(a.m - 1).toNat) (k:=12) (by omega)
   rw[LF a3] at this;omega
  rw[aZd,bCl (by omega)] at h12;have h0:=(oR b.y (b.m - 1).toNat).1;by_cases c:a.y % 4=0/\(a.y % 100≠0\/a.y % 400=0)
  ·rw[OE (by simpa using c)] at h12;omega
  ·rw[Oz (by simpa using c)] at h12;omega
 ·have:=aIl a.y (n:=(a.m - 1).toNat) (k:=(b.m - 1).toNat) (by omega)
  rw[LF a3] at this;rw[hy] at this|-
  rw[hy] at a6;omega
 ·rw[hy,h2];omega
theorem aZe{a b:Vo}(ha:a.right=OB)(hb:b.right=OB)(h:a.days=b.days):a=b:=by
 have h1:¬(a.y<b.y\/a.y=b.y/\(a.m<b.m\/a.m=b.m/\a.d<b.d)):=λq=>by have:=aS9 ha hb q;omega
 have h2:¬(b.y<a.y\/b.y=a.y/\(b.m<a.m\/b.m=a.m/\b.d<a.d)):=λq=>by have:=aS9 hb ha q;omega
 have e1:a.y=b.y:=by omega
 have e2:a.m=b.m:=by omega
 have e3:a.d=b.d:=by omega
 cases a;cases b;simp only at e1 e2 e3;rw[e1,e2,e3]
theorem aSa{α:Type}(p:α->Ps):∀(l:On α) (n:Nat),aD (dB p) (λ_=>-1) l n=-1->∀a∈l,p a=OA
 | [],n,_,a,h=>by cases h
 | x::l,n,h,a,ha=>by
  by_cases c:p x=OB
  ·simp only[aD,dB,c,Oy] at h;omega
  ·simp only[aD,dB,c,Ou] at h;rcases Pu.1 ha with rfl | ha
   ·simpa using c
   ·exact aSa p l (n+1) h a ha
theorem aSb{α:Type}{p:α->Ps}{l:On α}(h:ixM p l<0):∀a∈l,p a=false:=by
 rcases jU p l with e | ⟨i,a,e,_⟩
 ·exact aSa p l 0 e
 ·rw[e] at h;omega
theorem aIm{α:Type}(p:α->Ps):∀(l:On α) (n i:Nat) (a:α),l[i]?=Ot a->p a=OB->(∀j b,j<i->l[j]?=Ot b->p b=OA)->aD (dB p) (λ_=>-1) l n=((n+i:Nat):Int)
 | x::l,n,0,a,h,hp,_=>by
  cases h;simp only[aD,dB,hp,Oy];rfl
 | x::l,n,i+1,a,h,hp,hj=>by
  have c:p x=false:=hj 0 x (by omega) rfl;simp only[aD,dB,c,OO,Ou];rw[aIm p l (n+1) i a h hp (λj b GQ hb=>hj (j+1) b (by omega) hb)];omega
theorem aIn{α:Type}{p:α->Ps}{l:On α}{i:Nat}{a:α}(h:l[i]?=Ot a)(hp:p a=OB)(hj:∀j b,j<i->l[j]?=Ot b->p b=OA):ixM p l=(i:Int):=by
 have:=aIm p l 0 i a h hp hj
 rw[Px] at this;exact this
theorem sP{l:On Ser}(hs:l.Pairwise (λa b=>iL a.name b.name=OB)){i:Nat}{s:Ser}(h:l[i]?=Ot s):cD l s.name=(i:Int):=by
 refine aIn h (by simp) (λj b hj hb=>?_);have h1:=Ta.1 hs j i (Oq.1 hb).1 (Oq.1 h).1 hj;rw[(Oq.1 hb).2,(Oq.1 h).2] at h1
 have:=bIl h1
 simpa using this
theorem zV{l:On Ser}{name:On OP}(h:cD l name<0):∀s∈l,s.name≠name:=λs hs=>by
 have:=aSb h s hs
 simpa using this
def cnt(l:On OT)(name:On OP):Int:=((l.filter λp=>p.ref.ser == name).length:Int)
theorem jQ(a b:On OT)(name:On OP):cnt (a++b) name=cnt a name+cnt b name:=by
 unfold cnt;rw[XA,OC];omega
theorem uG(p:OT)(name:On OP):cnt [p] name=if p.ref.ser=name then 1 else 0:=by
 unfold cnt;by_cases c:p.ref.ser=name
 ·simp[c]
 ·simp[c]
theorem pX(l:On OT)(name:On OP):0<=cnt l name:=by unfold cnt;omega
structure Nums (ser:On Ser) (l:On OT):Prop where
 num:∀i p,l[i]?=Ot p->(∃s∈ser,s.name=p.ref.ser)/\p.ref.num=cnt (l.take i) p.ref.ser+1
 next:∀s∈ser,s.next=cnt l s.name+1
def oK(ser:On Ser)(l:On OT):On Int:=ser.map (λs=>cnt l s.name)++PT (8 - ser.length) 0
theorem mQ{ser:On Ser}{l:On OT}{i:Nat}{s:Ser}(h:ser[i]?=Ot s):(oK ser l)[i]?=Ot (cnt l s.name):=by
 unfold oK;rw[Pr (by rw[ON];exact(Oq.1 h).1),Pc,h];rfl
theorem aPl{ser:On Ser}(hs:ser.Pairwise (λa b=>iL a.name b.name=OB)){l:On OT}{p:OT}{i:Nat}{s:Ser}(h:ser[i]?=Ot s)(hn:s.name=p.ref.ser):bump (oK ser l) i=oK ser (l++[p]):=by
 unfold bump;rw[Pl,mQ h];apply RN;intro j;rw[Qi];have hlen:ser.length<=(oK ser l).length:=by unfold oK;rw[OC,ON];omega
 have hi:=(Oq.1 h).1;split
 ·rename_i e;subst e;rw[OE (by omega),mQ h,jQ,uG,OE hn.symm];rfl
 ·rename_i e;by_cases hj:j<ser.length
  ·have AS:ser[j]?=Ot ser[j]:=OF hj;rw[mQ AS,mQ AS,jQ,uG,Oz,Tx];intro hc;have e1:=sP hs AS;have e2:=sP hs h;rw[hn,hc] at e2;rw[e2] at e1;exact e (by omega)
  ·unfold oK;rw[Pe (by rw[ON];omega),Pe (by rw[ON];omega),ON,ON]
theorem bP4{ser:On Ser}(hs:ser.Pairwise (λa b=>iL a.name b.name=OB))(h8:ser.length<=8){fin:On Int->Ps}:∀(l done:On OT),aD (mY ser) fin l (oK ser done)=OB ↔
  (∀i p,l[i]?=Ot p->(∃s∈ser,s.name=p.ref.ser)/\p.ref.num=cnt (done++l.take i) p.ref.ser+1)/\fin (oK ser (done++l))=OB
 | [],done=>by simp[aD]
 | p::l,done=>by
  by_cases c:cD ser p.ref.ser<0
  ·have e:mY ser (oK ser done) p=.inl false:=by unfold mY;rw[OE c]
   simp only[aD,e];constructor
   ·intro h;cases h
   ·rintro⟨h,_⟩;obtain⟨⟨s,h1,h2⟩,_⟩:=h 0 p rfl;exact absurd h2 (zV c s h1)
  ·rcases jO ser p.ref.ser with e | ⟨i,s,e,hi,hn⟩
   ·exact absurd (by rw[e];decide) c
   ·have hb:=aPl hs (l:=done) hi hn;have hg:(oK ser (done++[p])).getD i 0=cnt done p.ref.ser+1:=by
     rw[Pl,mQ hi,jQ,uG,OE hn.symm,hn];rfl
    by_cases q:p.ref.num=cnt done p.ref.ser+1
    ·have es:mY ser (oK ser done) p=.inr (oK ser (done++[p])):=by
      unfold mY;rw[Oz c,e];simp only[Pn];rw[hb,hg,OE q]
     simp only[aD,es];rw[bP4 hs h8 l (done++[p])];constructor
     ·rintro⟨h1,h2⟩;refine⟨λj x hj=>?_,by rw[Pd] at h2;exact h2⟩;cases j with
      | zero=>cases hj;exact⟨⟨s,OM hi,hn⟩,by simpa using q⟩
      | succ j=>have:=h1 j x hj;rw[Pd] at this;exact this
     ·rintro⟨h1,h2⟩;refine⟨λj x hj=>?_,by rw[Pd];exact h2⟩
      have:=h1 (j+1) x hj
      rw[Pd];exact this
    ·have es:mY ser (oK ser done) p=.inl false:=by
      unfold mY;rw[Oz c,e];simp only[Pn];rw[hb,hg,Oz q]
     simp only[aD,es];constructor
     ·intro h;cases h
     ·rintro⟨h,_⟩
      have:=(h 0 p rfl).2
      simp only[Uk,OS] at this;exact absurd this q
theorem bP5:∀(ser:On Ser) (is:On Int),aD lY (λ_=>OB) ser is=OB↔∀i s,ser[i]?=Ot s->s.next=is.getD i 0+1
 | [],is=>by simp[aD]
 | s::l,is=>by
  have hh:is.headD 0=is.getD 0 0:=by cases is<;>rfl
  have ht:∀j,is.tail.getD j 0=is.getD (j+1) 0:=λj=>by cases is<;>simp
  by_cases c:s.next=is.getD 0 0+1
  ·have e:lY is s=.inr is.tail:=by unfold lY;rw[hh,OE c]
   simp only[aD,e];rw[bP5 l is.tail];constructor
   ·intro h i x hx;cases i with
    | zero=>cases hx;exact c
    | succ i=>have:=h i x hx;rwa [ht] at this
   ·intro h i x hx
    have:=h (i+1) x hx
    rwa [ht]
  ·have e:lY is s=.inl false:=by unfold lY;rw[hh,Oz c]
   simp only[aD,e];constructor
   ·intro h;cases h
   ·intro h;exact absurd (h 0 s rfl) c
theorem aBa{ser:On Ser}(hs:ser.Pairwise (λa b=>iL a.name b.name=OB))(h8:ser.length<=8)(l:On OT):pU ser l=OB↔Nums ser l:=by
 unfold pU;have h0:PT 8 (0:Int)=oK ser []:=by
  unfold oK;apply RN;intro j;by_cases hj:j<ser.length
  ·rw[Pr (by rw[ON];exact hj),Pc,OF hj,Sz,OE (by omega)];rfl
  ·rw[Pe (by rw[ON];omega),ON,Sz,Sz];by_cases LG:j<8
   ·rw[OE LG,OE (by omega)]
   ·rw[Oz LG,Oz (by omega)]
 rw[h0,bP4 hs h8 l [],bP5];simp only[Pp];constructor
 ·rintro⟨h1,h2⟩;refine⟨h1,λs hm=>?_⟩;obtain⟨i,hi⟩:=PA.1 hm
  have:=h2 i s hi
  rwa [Pl,mQ hi] at this
 ·rintro⟨h1,h2⟩;refine⟨h1,λi s hi=>?_⟩;rw[Pl,mQ hi];exact h2 s (OM hi)
def aMv:Posted:=⟨Qr,⟨0,0,0⟩,Total.zero,Qr,OA⟩
def gQ(p:OT):Posted:={ p with back:=OA }
def qJ(done:On OT)(p:OT):Prop:=p.day.right=OB/\cN p.total=OB/\(p.of=Qr\/0<=aY done p.of/\lX p (done.getD (aY done p.of).toNat aMv)=OB)
def fT(done:On OT)(is:On Int)(p:OT):On Int:=if p.of=Qr then is else bump is (aY done p.of).toNat
def dF:On OT->On OT->On Int->On Int
 | _,[],is=>is
 | done,p::l,is=>dF (done++[p]) l (fT done is p)
def eA(l:On OT):On Int:=dF [] l (PT 40 0)
theorem aMw{done:On OT}{is:On Int}{p:OT}(h:qJ done p):iV (done,is) p=.inr (done++[p],fT done is p):=by
 obtain⟨h1,h2,h3⟩:=h;unfold iV fT;rw[Oz (by rw[h1];simp),Oz (by rw[h2];simp)];by_cases c:p.of=Qr
 ·rw[OE c,OE c]
 ·rw[Oz c,Oz c];rcases h3 with h3 | ⟨h3,h4⟩
  ·exact absurd h3 c
  ·simp only;rw[Oz (by omega)];unfold aMv at h4;rw[h4];simp
theorem aMx{done:On OT}{is:On Int}{p:OT}(h:¬qJ done p):iV (done,is) p=.inl false:=by
 unfold iV;split
 ·rfl
 ·rename_i h1;split
  ·rfl
  ·rename_i h2;have h1:p.day.right=true:=by simpa using h1
   have h2:cN p.total=true:=by simpa using h2
   split
   ·rename_i h3;exact absurd ⟨h1,h2,.inl h3⟩ h
   ·split
    ·rfl
    ·rename_i h4;split
     ·rfl
     ·rename_i h5;exact absurd ⟨h1,h2,.inr ⟨by simp only at h4;omega,(Bool.not_eq_false _).mp h5⟩⟩ h
theorem bH6{fin:On OT×On Int->Ps}:∀(l done:On OT) (is:On Int),aD iV fin l (done,is)=OB↔(∀i p,l[i]?=Ot p->qJ (done++l.take i) p)/\fin (done++l,dF done l is)=OB
 | [],done,is=>by simp[aD,dF]
 | p::l,done,is=>by
  by_cases c:qJ done p
  ·simp only[aD,aMw c];rw[bH6 l (done++[p]) _];simp only[dF];constructor
   ·rintro⟨h1,h2⟩;refine⟨λj x hj=>?_,by rw[Pd] at h2;exact h2⟩;cases j with
    | zero=>cases hj;simpa using c
    | succ j=>have:=h1 j x hj;rw[Pd] at this;exact this
   ·rintro⟨h1,h2⟩;refine⟨λj x hj=>?_,by rw[Pd];exact h2⟩
    have:=h1 (j+1) x hj
    rw[Pd];exact this
  ·simp only[aD,aMx c];constructor
   ·intro h;cases h
   ·rintro⟨h,_⟩
    have:=h 0 p rfl
    simp only[Uk,OS] at this;exact absurd this c
theorem bP6:∀(l:On OT) (is:On Int),aD jW (λ_=>OB) l is=OB↔∀i p,l[i]?=Ot p->is.getD i 0<=1/\p.back=decide (is.getD i 0=1)
 | [],is=>by simp[aD]
 | s::l,is=>by
  have hh:is.headD 0=is.getD 0 0:=by cases is<;>rfl
  have ht:∀j,is.tail.getD j 0=is.getD (j+1) 0:=λj=>by cases is<;>simp
  by_cases c:is.getD 0 0<=1/\s.back=decide (is.getD 0 0=1)
  ·have e:jW is s=.inr is.tail:=by unfold jW;rw[hh,Oz (by omega),OE c.2]
   simp only[aD,e];rw[bP6 l is.tail];constructor
   ·intro h i x hx;cases i with
    | zero=>cases hx;exact c
    | succ i=>have:=h i x hx;rwa [ht] at this
   ·intro h i x hx
    have:=h (i+1) x hx
    rwa [ht]
  ·have e:jW is s=.inl false:=by
    unfold jW;rw[hh];split
    ·rfl
    ·split
     ·rename_i h1 h2;exact absurd ⟨by omega,h2⟩ c
     ·rfl
   simp only[aD,e];constructor
   ·intro h;cases h
   ·intro h;exact absurd (h 0 s rfl) c
theorem eO(l:On OT):kT l=OB↔l.length<=40/\(∀i p,l[i]?=Ot p->qJ (l.take i) p)/\∀i p,l[i]?=Ot p->(eA l).getD i 0<=1/\p.back=decide ((eA l).getD i 0=1):=by
 unfold kT;split
 ·rename_i h;simp;omega
 ·rename_i h;rw[bH6 l [] _,bP6];simp only[Pp];exact⟨λ⟨a,b⟩=>⟨by omega,a,b⟩,λ⟨_,a,b⟩=>⟨a,b⟩⟩
theorem rI:∀(l done:On OT) (is:On Int) (p:OT),dF done (l++[p]) is=fT (done++l) (dF done l is) p
 | [],done,is,p=>by simp[dF]
 | x::l,done,is,p=>by
  simp only[PJ,dF];rw[rI l];rw[Pd];rfl
theorem rZ(l:On OT)(p:OT):eA (l++[p])=fT l (eA l) p:=by
 unfold eA;rw[rI,Pp]
theorem sQ:∀(l done:On OT) (is:On Int),(∀i,0<=is.getD i 0)->(∀i,done.length<=i->is.getD i 0=0)->(∀i p,l[i]?=Ot p->qJ (done++l.take i) p)->
  (∀i,0<=(dF done l is).getD i 0)/\(∀i,(done++l).length<=i->(dF done l is).getD i 0=0)/\(dF done l is).length=is.length
 | [],done,is,h1,h2,_=>⟨h1,by rw[OS];exact h2,rfl⟩
 | p::l,done,is,h1,h2,h3=>by
  simp only[dF];have hp:=h3 0 p rfl;simp only[Uk,OS] at hp;have hb:∀i,(fT done is p).getD i 0=is.getD i 0\/i<done.length/\(fT done is p).getD i 0=is.getD i 0+1:=by
   intro i;unfold fT;split
   ·exact .inl rfl
   ·rename_i hc;obtain⟨KF,_⟩:=hp.2.2.resolve_left hc;rcases iQ done p.of with e | ⟨k,x,e,hk,_⟩
    ·omega
    ·have dw:=(Oq.1 hk).1;rw[e,Pn];unfold bump;simp only[Pl,Qi];by_cases q:k=i
     ·rw[OE q];subst q;split
      ·exact .inr ⟨dw,rfl⟩
      ·rename_i hn;left;rw[Re (by omega)]
     ·rw[Oz q];exact .inl rfl
  have hl:(fT done is p).length=is.length:=by
   unfold fT;split
   ·rfl
   ·exact aB4 _ _
  obtain⟨a,b,c⟩:=sQ l (done++[p]) (fT done is p) (λi=>by have:=h1 i;rcases hb i with h | ⟨_,h⟩<;>omega)
   (λi hi=>by
    rw[OC] at hi;simp only[OQ,Pf] at hi
    have:=h2 i (by omega)
    rcases hb i with h | ⟨h0,h⟩<;>omega)
   (λi x hx=>by have:=h3 (i+1) x hx;rw[Pd];exact this)
  refine⟨a,λi hi=>b i (by rw[Pd];exact hi),c.trans hl⟩
theorem uH{l:On OT}(h:∀i p,l[i]?=Ot p->qJ (l.take i) p):(∀i,0<=(eA l).getD i 0)/\(∀i,l.length<=i->(eA l).getD i 0=0)/\(eA l).length=40:=by
 have hz:∀i,(PT 40 (0:Int)).getD i 0=0:=λi=>by
  rw[Pl,Sz];split<;>rfl
 have:=sQ l [] (PT 40 0) (λi=>by rw[hz];omega) (λi _=>hz i) (by simpa using h)
 simp only[Pp,List.length_replicate] at this;exact this
theorem sR(l:On OT)(r:Ref):aY (l.map gQ) r=aY l r:=by
 unfold aY;rw[<-aRw];rfl
theorem aUf(p q:OT):lX (gQ p) (gQ q)=lX p q:=rfl
theorem bCm(l:On OT)(k:Nat):(l.map gQ).getD k aMv=gQ (l.getD k aMv):=by
 rw[Pl,Pl,Pc];cases l[k]?<;>rfl
theorem aSc(done:On OT)(p:OT):qJ (done.map gQ) (gQ p)↔qJ done p:=by
 unfold qJ;rw[bCm,aUf];show _/\_/\(p.of=Qr\/0<=aY (done.map gQ) p.of/\_)↔_;have e:aY (done.map gQ) (gQ p).of=aY done p.of:=sR done p.of;rw[e,sR];exact Iff.rfl
theorem yJ:∀(l done:On OT) (is:On Int),dF (done.map gQ) (l.map gQ) is=dF done l is
 | [],_,_=>rfl
 | p::l,done,is=>by
  simp only[Qd,dF];have e:fT (done.map gQ) is (gQ p)=fT done is p:=by
   unfold fT;show(if p.of=Qr then is else bump is (aY (done.map gQ) p.of).toNat)=_;rw[sR]
  rw[e]
  have:=yJ l (done++[p]) (fT done is p)
  rw[PK] at this;exact this
theorem aIo(l:On OT):eA (l.map gQ)=eA l:=yJ l [] _
theorem uJ(l:On OT)(k:Nat):(cW l k).map gQ=l.map gQ:=by
 unfold cW;split
 ·rfl
 ·rename_i p hp;apply RN;intro j;rw[Pc,Pc,Qi];split
  ·rename_i e;subst e;rw[OE (Oq.1 hp).1,hp];rfl
  ·rfl
theorem aZf{l m:On OT}(e:l.map gQ=m.map gQ)(h:∀i p,l[i]?=Ot p->qJ (l.take i) p):∀i p,m[i]?=Ot p->qJ (m.take i) p:=by
 intro i p hp;have h1:(l.map gQ)[i]?=Ot (gQ p):=by rw[e,Pc,hp];rfl
 rw[Pc] at h1;cases hq:l[i]? with
 | none=>rw[hq] at h1;cases h1
 | some q=>
  rw[hq] at h1;have Ij:gQ q=gQ p:=Qz h1
  have:=h i q hq
  rw[<-aSc,Se,Ij,e,<-Se,aSc] at this;exact this
theorem aD0{fin:On Bal->On Bal×Int}:∀(l:On OT) (a b:On Bal),aD aP (λb=>(b,0)) l a=(b,0)->aD aP fin l a=fin b
 | [],a,b,h=>by cases h;rfl
 | p::l,a,b,h=>by
  simp only[aD] at h|-
  split at h
  ·rename_i r he;unfold aP at he;split at he
   ·rename_i hc;cases he;exact absurd (Qo Xi h) hc
   ·split at he
    ·rename_i hc;cases he;exact absurd (Qo Xi h) hc
    ·cases he
  ·exact aD0 l _ b h
theorem aKx{l:On OT}{b:On Bal}(h:cL l=(b,0)){p:OT}(h1:(bQ p.total).2=0)(h2:(aV b (bQ p.total).1).2=0):cL (l++[p])=((aV b (bQ p.total).1).1,0):=by
 unfold cL at h|-
 rw[aCw,aD0 l [] b h];simp only[aD,aP,h1,h2,SI,OK,Ou]
theorem lB{fin:On Bal->On Bal×Int}:∀(l:On OT) (a:On Bal),aD aP fin (l.map gQ) a=aD aP fin l a
 | [],_=>rfl
 | p::l,a=>by
  simp only[Qd,aD];have e:aP a (gQ p)=aP a p:=rfl;rw[e];split
  ·rfl
  ·exact lB l _
theorem aPm{l m:On OT}(e:l.map gQ=m.map gQ):cL l=cL m:=by
 unfold cL;rw[<-lB l,e,lB]
theorem aKy(l:On OT)(name:On OP):cnt (l.map gQ) name=cnt l name:=by
 unfold cnt;rw[List.filter_map,ON];rfl
theorem bCn{ser:On Ser}{l m:On OT}(e:l.map gQ=m.map gQ)(h:Nums ser l):Nums ser m:=by
 refine⟨λi p hp=>?_,λs hs=>by rw[h.next s hs,<-aKy l,e,aKy]⟩;have h1:(l.map gQ)[i]?=Ot (gQ p):=by rw[e,Pc,hp];rfl
 rw[Pc] at h1;cases hq:l[i]? with
 | none=>rw[hq] at h1;cases h1
 | some q=>
  rw[hq] at h1;have Ij:gQ q=gQ p:=Qz h1;have hr:(gQ q).ref=(gQ p).ref:=Qo Posted.ref Ij;have hr:q.ref=p.ref:=hr;obtain⟨a,b⟩:=h.num i q hq;rw[hr] at a b;refine⟨a,?_⟩;rw[b,<-aKy,Se,e,<-Se,aKy]
theorem aMy{l:On Uj}(hs:l.Pairwise (λa b=>a.id<b.id))(n:Int):tZ l n=OB↔∀s∈l,s.id<n:=by
 unfold tZ;cases h:l[l.length - 1]? with
 | none=>
  have:l=[]:=by
   rw[List.getElem?_eq_none_iff] at h;cases l with
   | nil=>rfl
   | cons a l=>simp only[OQ] at h;omega
  subst this;simp
 | some s=>
  simp only[PB];constructor
  ·intro hn x hx;obtain⟨i,hi⟩:=PA.1 hx;have ai:=(Oq.1 hi).1;by_cases c:i=l.length - 1
   ·subst c;rw[h] at hi;cases hi;exact hn
   ·have h1:=Ta.1 hs i (l.length - 1) ai (by omega) (by omega);rw[(Oq.1 h).2,(Oq.1 hi).2] at h1;omega
  ·intro q;exact q s (OM h)
def sA(l:On Uj)(n:Int):Prop:=l.length<=8/\(∀s∈l,0<s.id/\0<=s.last/\s.last<=1099511627776/\(s.last=0->s.reply=SQ))/\l.Pairwise (λa b=>a.id<b.id)/\1<=n/\n<=1099511627776/\∀s∈l,s.id<n
theorem yK(s:Qg):jX s=OB↔sA s.sess s.next:=by
 unfold jX sA;constructor
 ·intro h
  repeat' split at h
  all_goals first | (cases h;done) | skip
  rename_i h1 h2 h3;obtain⟨a,b,c⟩:=(xO _).1 h1;exact⟨a,b,c,h2,h3,(aMy c _).1 h⟩
 ·rintro⟨a,b,c,d,e,f⟩;rw[OE ((xO _).2 ⟨a,b,c⟩),OE d,OE e];exact(aMy c _).2 f
theorem cJ(s:Qg):bB s=OB↔fL s.table=OB/\mM s.ser=OB/\sA s.sess s.next/\kT s.posted=OB/\Nums s.ser s.posted/\cL s.posted=(s.book,0):=by
 rw[<-yK];unfold bB;constructor
 ·intro h
  repeat' split at h
  all_goals first | (cases h;done) | skip
  rename_i h1 h2 h3 h4 h5 h6;have FN:mM s.ser=true:=by simpa using h2
  obtain⟨a,b,c⟩:=(fN _).1 FN;exact⟨by simpa using h1,FN,by simpa using h3,by simpa using h4,(aBa c a _).1 (by simpa using h5),Vn (RH h) h6⟩
 ·rintro⟨h1,h2,h3,h4,h5,h6⟩;obtain⟨a,b,c⟩:=(fN _).1 h2;rw[Oz (by rw[h1];simp),Oz (by rw[h2];simp),Oz (by rw[h3];simp),Oz (by rw[h4];simp),Oz (by rw[(aBa c a _).2 h5];simp),OE (by rw[h6])];rw[h6];simp
theorem aFt{l:On Ser}{name:On OP}{limit:Int}(h:(gX l name limit).2=0):mM (gX l name limit).1=OB/\(∀s,s∈(gX l name limit).1↔s=⟨name,1,limit,OA⟩\/s∈l)/\(∀s∈l,s.name≠name)/\l.length<8:=by
 unfold gX at h|-
 split at h
 ·simp at h
 ·rename_i h1;split at h
  ·simp at h
  ·rename_i h2;split at h
   ·simp at h
   ·rename_i h3;split at h
    ·simp at h
    ·rename_i h4;split at h
     ·simp at h
     ·rename_i h5;rw[Oz h1,Oz h2,Oz h3,Oz h4,Oz h5];obtain⟨a,b,c⟩:=(fN l).1 (by simpa using h1);have hn:=zV (l:=l) (name:=name) (by omega);refine⟨?_,λs=>jZ _ _ _ _,hn,by omega⟩;simp only;rw[fN];refine⟨by have:=sM l (pR (λs=>iL s.name name) l) ⟨name,1,limit,OA⟩;omega,λs hs=>?_,?_⟩
      ·rcases(jZ _ _ _ _).1 hs with rfl | hs
       ·refine⟨by simpa using h2,?_⟩;unfold mL;rw[eZ (by simp only;omega)];simp;omega
       ·exact b s hs
      ·rw[xQ];refine uF c (λa b c=>lH) (λx hx hp=>hp) (λx hx hp=>?_);rcases aE8 x.name name with q | q | q
       ·rw[hp] at q;cases q
       ·exact absurd q (hn x hx)
       ·exact q
theorem aZg{l:On Ser}{name:On OP}(h:(sK l name).2=0):mM (sK l name).1=OB/\∃(i:Nat) (s:Ser),l[i]?=Ot s/\s.name=name/\(sK l name).1=l.set i { s with shut:=OB }:=by
 unfold sK at h|-
 split at h
 ·rename_i hc;exact absurd h hc
 ·rename_i hc;rw[Oz hc];obtain⟨h1,i,s,e1,e2,h3,h4,h5⟩:=aB2 (PM.1 hc);rw[e1];simp only[Pn,h3];refine⟨?_,i,s,h3,h4,rfl⟩;obtain⟨a,b,c⟩:=(fN l).1 h1;rw[fN];refine⟨by rw[Qm];exact a,λx hx=>?_,zU (key:=λs:Ser=>s.name) c h3 rfl⟩;rcases PN hx with hx | rfl
  ·exact b x hx
  ·exact b s (OM h3)
theorem aZh{l:On Ser}{name:On OP}(h:(dI l name).2.2=0):mM (dI l name).1=OB/\∃(i:Nat) (s:Ser),l[i]?=Ot s/\s.name=name/\s.shut=OA/\s.next<=s.limit/\(dI l name)=(l.set i { s with next:=s.next+1 },s.next,0):=by
 unfold dI at h|-
 split at h
 ·rename_i hc;exact absurd h hc
 ·rename_i hc;rw[Oz hc];obtain⟨h1,i,s,e1,e2,h3,h4,h5⟩:=aB2 (PM.1 hc);rw[e1] at h|-
  simp only[Pn,h3] at h|-
  split at h
  ·simp at h
  ·rename_i h6;rw[Oz h6];obtain⟨a,b,c⟩:=(fN l).1 h1;have hb:=(b s (OM h3)).2;unfold mL at hb;simp only[RI,QY] at hb;obtain⟨b1,b2,b3,b4⟩:=hb;rw[eZ (by omega)] at b4;rw[eZ (n:=s.next+1) (by omega)];refine⟨?_,i,s,h3,h4,h5,by omega,rfl⟩;rw[fN];refine⟨by rw[Qm];exact a,λx hx=>?_,zU (key:=λs:Ser=>s.name) c h3 rfl⟩;rcases PN hx with hx | rfl
   ·exact b x hx
   ·refine⟨(b s (OM h3)).1,?_⟩;unfold mL;rw[eZ (by simp only;omega)];simp only[RI,QY];omega
theorem aUg{l:On Ser}{post:On OT}{name:On OP}{limit:Int}(h:(gX l name limit).2=0)(hn:Nums l post):Nums (gX l name limit).1 post:=by
 obtain⟨_,hm,ah,_⟩:=aFt h;refine⟨λi p hp=>?_,λs hs=>?_⟩
 ·obtain⟨⟨s,h1,h2⟩,h3⟩:=hn.num i p hp;exact⟨⟨s,(hm s).2 (.inr h1),h2⟩,h3⟩
 ·rcases(hm s).1 hs with rfl | hs
  ·have:cnt post name=0:=by
    unfold cnt;rw[WS.2]
    ·rfl
    ·intro p hp hc;obtain⟨i,hi⟩:=PA.1 hp;obtain⟨⟨s,h1,h2⟩,_⟩:=hn.num i p hi;exact ah s h1 (by rw[h2];simpa using hc)
   show(1:Int)=cnt post name+1;omega
  ·exact hn.next s hs
theorem aZi{l:On Ser}{post:On OT}{i:Nat}{s:Ser}(hi:l[i]?=Ot s)(hn:Nums l post):Nums (l.set i { s with shut:=OB }) post:=by
 have cg:{ s with shut:=OB }∈l.set i { s with shut:=OB }:=OM (i:=i) (by rw[Qi,OE rfl,OE (Oq.1 hi).1]);refine⟨λj p hp=>?_,λx hx=>?_⟩
 ·obtain⟨⟨y,h1,h2⟩,h3⟩:=hn.num j p hp;obtain⟨k,hk⟩:=PA.1 h1;refine⟨?_,h3⟩;by_cases c:i=k
  ·subst c;rw[hi] at hk;cases hk;exact⟨_,cg,h2⟩
  ·exact⟨y,OM (i:=k) (by rw[Qi,Oz c];exact hk),h2⟩
 ·rcases PN hx with hx | rfl
  ·exact hn.next x hx
  ·exact hn.next s (OM hi)
theorem aUh{l:On Ser}(hs:l.Pairwise (λa b=>iL a.name b.name=OB)){post:On OT}{i:Nat}{s:Ser}(hi:l[i]?=Ot s)(hn:Nums l post){p:OT}(hp:p.ref=⟨s.name,s.next⟩):Nums (l.set i { s with next:=s.next+1 }) (post++[p]):=by
 have cg:{ s with next:=s.next+1 }∈l.set i { s with next:=s.next+1 }:=OM (i:=i) (by rw[Qi,OE rfl,OE (Oq.1 hi).1]);have Ab:p.ref.ser=s.name:=by rw[hp]
 have hrn:p.ref.num=s.next:=by rw[hp]
 refine⟨λj q hq=>?_,λx hx=>?_⟩
 ·by_cases hj:j<post.length
  ·rw[Pr hj] at hq;rw[Rj (by omega)];obtain⟨⟨y,h1,h2⟩,h3⟩:=hn.num j q hq;obtain⟨k,hk⟩:=PA.1 h1;refine⟨?_,h3⟩;by_cases c:i=k
   ·subst c;rw[hi] at hk;cases hk;exact⟨_,cg,h2⟩
   ·exact⟨y,OM (i:=k) (by rw[Qi,Oz c];exact hk),h2⟩
  ·have ed:j=post.length:=by
    have:=(Oq.1 hq).1
    simp only[OC,OQ,Pf] at this;omega
   subst ed;rw[Pe (Ov _),Qt] at hq;cases hq;rw[Rj (Ov _),VL,Ab,hrn];exact⟨⟨_,cg,rfl⟩,hn.next s (OM hi)⟩
 ·rw[jQ,uG,Ab];obtain⟨k,hk⟩:=PA.1 hx;rw[Qi] at hk;by_cases c:i=k
  ·rw[OE c,OE (Oq.1 hi).1] at hk;cases hk
   have:=hn.next s (OM hi)
   simp only[Oy];omega
  ·rw[Oz c] at hk;have e1:=sP hs hk;have e2:=sP hs hi;have ah:¬s.name=x.name:=λe=>by rw[e,e1] at e2;exact c (by omega)
   rw[Oz ah,Tx];exact hn.next x (OM hk)
theorem bP7{r:Tn}:∀(l:On Tn) (k n:Nat),aD (mX r) Ot l k=Ot n->(∀x∈l,¬(x.cat=r.cat/\x.day=r.day))/\n=k+(l.filter λx=>fW x r).length
 | [],k,n,h=>by cases h;simp
 | x::l,k,n,h=>by
  simp only[aD] at h;split at h
  ·rename_i r' he;unfold mX at he;split at he
   ·cases he;cases h
   ·cases he
  ·rename_i s' he;unfold mX at he;split at he
   ·cases he
   ·rename_i hc;cases he;obtain⟨a,b⟩:=bP7 l _ n h;refine⟨λy hy=>?_,?_⟩
    ·rcases Pu.1 hy with rfl | hy
     ·simpa using hc
     ·exact a y hy
    ·rw[b,UQ];split
     ·rw[OQ];omega
     ·rfl
theorem yL{α:Type}{p:α->Ps}{R:α->α->Prop}:∀{l:On α},l.Pairwise R->(∀a b,R a b->p b=OB->p a=OB)->l.filter p=l.takeWhile p
 | [],_,_=>rfl
 | x::l,hl,hp=>by
  rw[Ri] at hl;rw[UQ,Sy];split
  ·rw[yL hl.2 hp]
  ·rename_i c;rw[WS];intro y hy hc;exact c (hp x y (hl.1 y hy) hc)
theorem aPn{l:On Tn}{r:Tn}(h:(jV l r).2=0):fL (jV l r).1=OB/\(jV l r).1=fU l (pR (λx=>fW x r) l) r/\(∀x∈l,¬(x.cat=r.cat/\x.day=r.day)):=by
 unfold jV at h|-
 split at h
 ·simp at h
 ·rename_i h1;split at h
  ·rename_i h2;exact absurd h h2
  ·rename_i h2;rw[Oz h1,Oz h2];cases hr:aD (mX r) Ot l 0 with
   | none=>rw[hr] at h;simp at h
   | some k=>
    rw[hr] at h;simp only at h|-
    split at h
    ·simp at h
    ·rename_i h3;rw[Oz h3];obtain⟨a,b,c⟩:=(pW l).1 (by simpa using h1);obtain⟨ah,hk⟩:=bP7 l 0 k hr;have rf:=yL (p:=λx=>fW x r) c (λa b=>uE);have dl:k=pR (λx=>fW x r) l:=by
      unfold pR;rw[xP,hk,rf]
     rw[dl];refine⟨?_,rfl,ah⟩;rw[pW];have al:uX r=0:=PM.1 h2;refine⟨by have:=sM l (pR (λx=>fW x r) l) r;simp only;omega,λx hx=>?_,?_⟩
     ·rcases(jZ _ _ _ _).1 hx with rfl | hx
      ·exact al
      ·exact b x hx
     ·rw[xQ];refine uF c (λa b c=>uE) (λx hx hp=>hp) (λx hx hp=>?_);rw[zR];have gk:¬(iL x.cat r.cat=OB\/x.cat=r.cat/\x.day.before r.day=OB):=λq=>by rw[(zR x r).2 q] at hp;cases hp
      rcases aE8 x.cat r.cat with q | q | q
      ·exact absurd (.inl q) gk
      ·refine .inr ⟨q.symm,?_⟩;have ve:=(xR (b x hx)).2.1;have pc:=(xR al).2.1;unfold VS at gk|-
       simp only[ve,pc,Rn,PB] at gk|-
       have hd:x.day.days≠r.day.days:=λe=>ah x hx ⟨q,aZe ve pc e⟩
       have:¬x.day.days<r.day.days:=λe=>gk (.inr ⟨q,e⟩)
       omega
      ·exact .inl q
theorem sS{s:Qg}{name:On OP}{p:OT}(h:(bE s name p).2.why=0):
  (dI s.ser name).2.2=0/\s.posted.length<40/\(bQ p.total).2=0/\(aV s.book (bQ p.total).1).2=0 /\
   bE s name p=({ s with ser:=(dI s.ser name).1,book:=(aV s.book (bQ p.total).1).1,posted:=s.posted++[{ p with ref:=⟨name,(dI s.ser name).2.1⟩ }] },⟨0,(dI s.ser name).2.1,p.total.gross⟩):=by
 unfold bE at h|-
 split at h
 ·rename_i hc;exact absurd h hc
 ·rename_i h1;split at h
  ·simp[why] at h
  ·rename_i h2;split at h
   ·rename_i hc;exact absurd h hc
   ·rename_i h3;split at h
    ·rename_i hc;exact absurd h hc
    ·rename_i h4;rw[Oz h1,Oz h2,Oz h3,Oz h4];exact⟨PM.1 h1,by omega,PM.1 h3,PM.1 h4,rfl⟩
theorem aIp{s:Qg}{name:On OP}{p:OT}(h:(bE s name p).2.why≠0):(bE s name p).1=s/\(bE s name p).2=why (bE s name p).2.why:=by
 unfold bE at h|-
 split at h
 ·rename_i h1;rw[OE h1];exact⟨rfl,rfl⟩
 ·rename_i h1;rw[Oz h1];split at h
  ·rename_i h2;rw[OE h2];exact⟨rfl,rfl⟩
  ·rename_i h2;rw[Oz h2];split at h
   ·rename_i h3;rw[OE h3];exact⟨rfl,rfl⟩
   ·rename_i h3;rw[Oz h3];split at h
    ·rename_i h4;rw[OE h4];exact⟨rfl,rfl⟩
    ·exact absurd rfl h
theorem aD1{s:Qg}{name:On OP}{p:OT}(hr:bB s=OB)(h:(bE s name p).2.why=0){X:On OT}(hX:X.map gQ=(s.posted++[{ p with ref:=⟨name,(dI s.ser name).2.1⟩ }]).map gQ)
  (bh:qJ s.posted p) (vf:∀i q,X[i]?=Ot q->(eA X).getD i 0<=1/\q.back=decide ((eA X).getD i 0=1)):
  bB { (bE s name p).1 with posted:=X }=true:=by
 obtain⟨h1,h2,h3,h4,h5⟩:=sS h;obtain⟨r1,r2,r3,r4,r5,r6⟩:=(cJ s).1 hr;obtain⟨t1,i,ser,t2,t3,t4,t5,t6⟩:=aZh h1;rw[h5,cJ];obtain⟨c1,c2,c3⟩:=(fN s.ser).1 r2;refine⟨r1,t1,r3,?_,?_,?_⟩
 ·show kT X=OB;rw[eO] at r4|-
  refine⟨?_,aZf hX.symm (λj q hq=>?_),vf⟩
  ·have:=Qo TN hX
   simp only[ON,OC,OQ,Pf] at this;omega
  ·by_cases hj:j<s.posted.length
   ·rw[Pr hj] at hq;rw[Rj (by omega)];exact r4.2.1 j q hq
   ·have ed:j=s.posted.length:=by
     have:=(Oq.1 hq).1
     simp only[OC,OQ,Pf] at this;omega
    subst ed;rw[Pe (Ov _),Qt] at hq;cases hq;rw[Rj (Ov _),VL];exact bh
 ·show Nums (dI s.ser name).1 X;refine bCn hX.symm ?_;rw[t6];exact aUh c3 t2 r5 (p:={ p with ref:=⟨name,ser.next⟩ }) (by rw[<-t3])
 ·show cL X=_;rw[aPm hX];exact aKx r6 h3 h4
def oS(s:Qg):Prop:=∀p∈s.posted,∀q∈p.total.parts,I64 q.net/\I64 q.tax
theorem aUi{l:On OT}(hl:∀i p,l[i]?=Ot p->qJ (l.take i) p){p:OT}(hp:qJ l p)(hb:p.back=OA)(pd:p.of=Qr)(h:∀i q,l[i]?=Ot q->(eA l).getD i 0<=1/\q.back=decide ((eA l).getD i 0=1))(r:Ref):
  ∀i q,(l++[{ p with ref:=r }])[i]?=Ot q->(eA (l++[{ p with ref:=r }])).getD i 0<=1/\q.back=decide ((eA (l++[{ p with ref:=r }])).getD i 0=1):=by
 intro i q hq;have e:eA (l++[{ p with ref:=r }])=eA l:=by rw[rZ];unfold fT;rw[OE pd]
 rw[e];by_cases hi:i<l.length
 ·rw[Pr hi] at hq;exact h i q hq
 ·have ai:i=l.length:=by
   have:=(Oq.1 hq).1
   simp only[OC,OQ,Pf] at this;omega
  subst ai;rw[Pe (Ov _),Qt] at hq;cases hq;rw[(uH hl).2.1 _ (Ov _)];exact⟨by omega,hb⟩
theorem aFu{s:Qg}(hr:bB s=OB)(hi:oS s)(c:Cmd):bB (nN s c).1=OB/\oS (nN s c).1:=by
 unfold nN;split
 ·exact⟨hr,hi⟩
 ·rename_i h1;obtain⟨a1,a2,a3⟩:=aKv (PM.1 h1);by_cases hw:(bE s c.series ⟨Qr,c.day,(dZ s.table c.day c.lines).1,Qr,OA⟩).2.why=0
  ·obtain⟨_,_,_,_,h5⟩:=sS hw;obtain⟨r1,r2,r3,r4,r5,r6⟩:=(cJ s).1 hr;obtain⟨p1,p2,p3⟩:=(eO _).1 r4;have bh:qJ s.posted ⟨Qr,c.day,(dZ s.table c.day c.lines).1,Qr,OA⟩:=⟨a1,a2,.inl rfl⟩
   have:=aD1 (X:=(bE s c.series ⟨Qr,c.day,(dZ s.table c.day c.lines).1,Qr,OA⟩).1.posted) hr hw (by rw[h5]) bh (by rw[h5];exact aUi p2 bh rfl rfl p3 _)
   refine⟨this,λp hp=>?_⟩;rw[h5] at hp;rcases Qf.1 hp with hp | hp
   ·exact hi p hp
   ·rw[PR.1 hp];exact a3
  ·rw[(aIp hw).1];exact⟨hr,hi⟩
theorem aFv{ser:On Ser}{l:On OT}(h:Nums ser l){i j:Nat}{p q:OT}(hi:l[i]?=Ot p)(hj:l[j]?=Ot q)(e:p.ref=q.ref):i=j:=by
 have key:∀{i j:Nat} {p q:OT},l[i]?=Ot p->l[j]?=Ot q->p.ref=q.ref->¬i<j:=by
  intro i j p q hi hj e ag;have h1:=(h.num i p hi).2;have h2:=(h.num j q hj).2;have ed:=(Oq.1 hj).1;have rf:l.take j=l.take i++(l.take j).drop i:=by
   conv=>lhs;rw[<-Sd i (l.take j)]
   rw[Yl,WR (by omega)]
  have cg:((l.take j).drop i)[0]?=Ot p:=by
   rw[PP,Qp,OE (by omega)];exact hi
  have hc:1<=cnt ((l.take j).drop i) q.ref.ser:=by
   cases hd:(l.take j).drop i with
   | nil=>rw[hd] at cg;cases cg
   | cons a r=>
    rw[hd] at cg;cases cg
    have:=jQ [p] r q.ref.ser
    rw[uG,OE (by rw[e])] at this
    have:=pX r q.ref.ser
    show 1<=cnt ([p]++r) q.ref.ser;omega
  rw[rf,jQ] at h2;rw[e] at h1;omega
 have h1:=key hi hj e;have h2:=key hj hi e.symm;omega
theorem aSd{ser:On Ser}{l:On OT}(h:Nums ser l){p:OT}(hp:p∈l):1<=p.ref.num:=by
 obtain⟨i,hi⟩:=PA.1 hp
 have:=(h.num i p hi).2
 have:=pX (l.take i) p.ref.ser
 omega
theorem aBb{s:Qg}(hr:bB s=OB)(hi:oS s)(c:Cmd):bB (fS s c).1=OB/\oS (fS s c).1:=by
 obtain⟨r1,r2,r3,r4,r5,r6⟩:=(cJ s).1 hr;obtain⟨p1,p2,p3⟩:=(eO _).1 r4;unfold fS;split
 ·exact⟨hr,hi⟩
 ·rename_i h0;rcases iQ s.posted c.of with e | ⟨k,x,e,hk,hx⟩
  ·exact absurd (by rw[e];decide) h0
  ·have hg:s.posted.getD (aY s.posted c.of).toNat WT=x:=by rw[e,Pn,Pl,hk];rfl
   rw[hg];have Ik:=OM hk;unfold iG;split
   ·exact⟨hr,hi⟩
   ·rename_i h1;split
    ·rename_i h2;split
     ·exact⟨hr,hi⟩
     ·rename_i h3;split
      ·exact⟨hr,hi⟩
      ·rename_i h4;split
       ·exact⟨hr,hi⟩
       ·rename_i h5;have h5:=PM.1 h5;have hxr:=p2 k x hk;obtain⟨b1,b2,b3⟩:=aFs (hi x Ik) hxr.2.1 h5;split
        ·rename_i h6;obtain⟨_,_,_,_,h7⟩:=sS h6;have Il:c.of≠Qr:=by
          intro q
          have:=aSd r5 Ik
          rw[hx,q] at this;exact absurd this (by decide)
         have Dh:lX ⟨Qr,c.day,(bI x.total).1,c.of,OA⟩ x=true:=by
          unfold lX;rw[OE h2,OE (by simpa using h4),OE h5];simp
         have bh:qJ s.posted ⟨Qr,c.day,(bI x.total).1,c.of,OA⟩:=by
          refine⟨by simpa using h3,b1,.inr ⟨by show 0<=aY s.posted c.of;omega,?_⟩⟩;show lX _ (s.posted.getD (aY s.posted c.of).toNat aMv)=OB;rw[e,Pn,Pl,hk];exact Dh
         have km:(bE s c.series ⟨Qr,c.day,(bI x.total).1,c.of,OA⟩).1.posted=s.posted++[⟨⟨c.series,(dI s.ser c.series).2.1⟩,c.day,(bI x.total).1,c.of,OA⟩]:=by rw[h7]
         have dw:=(Oq.1 hk).1;have ce:cW (bE s c.series ⟨Qr,c.day,(bI x.total).1,c.of,OA⟩).1.posted (aY s.posted c.of).toNat=s.posted.set k { x with back:=OB }++[⟨⟨c.series,(dI s.ser c.series).2.1⟩,c.day,(bI x.total).1,c.of,OA⟩]:=by
          rw[km,e,Pn];unfold cW;rw[Pr dw,hk];simp only;rw[List.set_append_left _ _ dw]
         have BH:=uJ (bE s c.series ⟨Qr,c.day,(bI x.total).1,c.of,OA⟩).1.posted (aY s.posted c.of).toNat
         have xz:eA (cW (bE s c.series ⟨Qr,c.day,(bI x.total).1,c.of,OA⟩).1.posted (aY s.posted c.of).toNat)=bump (eA s.posted) k:=by
          rw[<-aIo,BH,aIo,km,rZ];unfold fT;rw[Oz Il];show bump (eA s.posted) (aY s.posted c.of).toNat=_;rw[e,Pn]
         obtain⟨g1,g2,g3⟩:=uH p2;have BB:∀i,(bump (eA s.posted) k).getD i 0=(eA s.posted).getD i 0+(if i=k then 1 else 0):=by
          intro i;unfold bump;simp only[Pl,Qi];by_cases q:k=i
          ·subst q;rw[OE rfl,OE (by omega),OE rfl];rfl
          ·rw[Oz q,Oz (λq2=>q q2.symm),Tx]
         have h0k:(eA s.posted).getD k 0=0:=by
          obtain⟨q1,q2⟩:=p3 k x hk;have yq:x.back=false:=by simpa using h1
          rw[yq] at q2;have q3:=of_decide_eq_false q2.symm
          have:=g1 k
          omega
         have:=aD1 (X:=cW (bE s c.series ⟨Qr,c.day,(bI x.total).1,c.of,OA⟩).1.posted (aY s.posted c.of).toNat) hr h6 (by rw[BH,km]) bh (by
          rw[xz,ce];intro i q hq;rw[BB];by_cases ai:i<s.posted.length
          ·rw[Pr (by rw[Qm];exact ai),Qi] at hq;by_cases ck:k=i
           ·subst ck;rw[OE rfl,OE ai] at hq;cases hq;rw[h0k,OE rfl];exact⟨by decide,rfl⟩
           ·rw[Oz ck] at hq;rw[Oz (λq2=>ck q2.symm),Tx];exact p3 i q hq
          ·have Im:i=s.posted.length:=by
            have:=(Oq.1 hq).1
            simp only[OC,OQ,Pf,Qm] at this;omega
           subst Im;rw[Pe (by rw[Qm];exact Ov _),Qm,Qt] at hq;cases hq;rw[g2 _ (Ov _),Oz (by omega)];exact⟨by decide,rfl⟩)
         refine⟨this,λp hp=>?_⟩;have hp:p∈cW (bE s c.series ⟨Qr,c.day,(bI x.total).1,c.of,OA⟩).1.posted (aY s.posted c.of).toNat:=hp;rw[ce] at hp;rcases Qf.1 hp with hp | hp
         ·rcases PN hp with hp | rfl
          ·exact hi p hp
          ·exact hi x Ik
         ·rw[PR.1 hp];exact b2
        ·rename_i h6;rw[(aIp h6).1];exact⟨hr,hi⟩
    ·exact⟨hr,hi⟩
theorem aIq{s:Qg}(hr:bB s=OB){l:On Ser}(h1:mM l=OB)(h2:Nums l s.posted):bB { s with ser:=l }=true:=by
 obtain⟨r1,r2,r3,r4,r5,r6⟩:=(cJ s).1 hr;exact(cJ _).2 ⟨r1,h1,r3,r4,h2,r6⟩
theorem zW{s:Qg}(hr:bB s=OB){l:On Uj}{n:Int}(h1:sA l n):bB { s with sess:=l,next:=n }=true:=by
 obtain⟨r1,r2,r3,r4,r5,r6⟩:=(cJ s).1 hr;exact(cJ _).2 ⟨r1,r2,h1,r4,r5,r6⟩
theorem aPo{s:Qg}(hr:bB s=OB):bB (hJ s).1=OB/\((hJ s).1.posted=s.posted):=by
 obtain⟨r1,r2,r3,r4,r5,r6⟩:=(cJ s).1 hr;obtain⟨a,b,c,d,e,f⟩:=r3;unfold hJ;split
 ·exact⟨hr,rfl⟩
 ·rename_i h1;split
  ·exact⟨hr,rfl⟩
  ·rename_i h2;have h2:=PM.1 h2;refine⟨?_,rfl⟩;show bB { s with sess:=(oI s.sess s.next).1,next:=wr J (s.next+1) }=OB;rw[eZ (by omega)];refine zW hr ?_;unfold oI at h2|-
   split at h2
   ·simp at h2
   ·rename_i j1;split at h2
    ·simp at h2
    ·rename_i j2;split at h2
     ·simp at h2
     ·rename_i j3;rw[Oz j1,Oz j2,Oz j3];refine⟨by have:=sM s.sess (pR (λx=>decide (x.id<s.next)) s.sess) ⟨s.next,0,SQ⟩;simp only;omega,λx hx=>?_,?_,by omega,by omega,λx hx=>?_⟩
      ·rcases(jZ _ _ _ _).1 hx with rfl | hx
       ·exact⟨by show 0<s.next;omega,by simp,by simp,λ_=>rfl⟩
       ·exact b x hx
      ·simp only;rw[xQ];refine uF c (λa b c h1 h2=>by omega) (λx hx hp=>by simpa using hp) (λx hx hp=>?_)
       have:=f x hx
       simp at hp;show s.next<x.id;omega
      ·rcases(jZ _ _ _ _).1 hx with rfl | hx
       ·show s.next<s.next+1;omega
       ·have:=f x hx;omega
theorem aZj{l:On Uj}{n id:Int}(h:sA l n):(jA l id).2=0->sA (jA l id).1 n:=by
 intro h0;obtain⟨a,b,c,d,e,f⟩:=h;unfold jA at h0|-
 split at h0
 ·simp at h0
 ·rename_i h1;split at h0
  ·simp at h0
  ·rename_i h2;rw[Oz h1,Oz h2];have gi:(zJ l (jN l id).toNat).Sublist l:=by
    unfold zJ
    conv=>rhs;rw[<-Sd (jN l id).toNat l]
    refine List.Sublist.append (List.Sublist.refl _) ?_;rw[<-List.drop_drop];exact List.drop_sublist _ _
   exact⟨by have:=gi.length_le;simp only;omega,λx hx=>b x (gi.subset hx),c.sublist gi,d,e,λx hx=>f x (gi.subset hx)⟩
theorem bCo{l:On Uj}{n id seq:Int}{r:Rep}(h:sA l n):(mD l id seq r).2=0->sA (mD l id seq r).1 n:=by
 intro h0;obtain⟨a,b,c,d,e,f⟩:=h;unfold mD at h0|-
 split at h0
 ·rename_i hc;exact absurd h0 hc
 ·rename_i h1;have yq:=PM.1 h1;split at h0
  ·simp at h0
  ·rename_i h2;rw[Oz h1,Oz h2];obtain⟨hs,i,s,e1,e2⟩:=aFh yq;rw[e1,Pn,e2];have hseq:1<=seq/\seq<=1099511627776:=by
    unfold cS at yq;rw[Oz (by rw[hs];simp),Oz (by omega)] at yq;split at yq
    ·simp at yq
    ·omega
   have Ca:=OM e2;refine⟨by simp only[Qm];exact a,λx hx=>?_,?_,d,e,λx hx=>?_⟩
   ·rcases PN hx with hx | rfl
    ·exact b x hx
    ·exact⟨(b s Ca).1,by simp only;omega,by simp only;omega,λq=>by simp only at q;omega⟩
   ·simp only;have hm:∀l:On Uj,l.Pairwise (λa b=>a.id<b.id)↔(l.map (·.id)).Pairwise (λa b=>a<b):=λl=>(Us (f:=λs:Uj=>s.id) (R:=λa b=>a<b)).symm;rw[hm] at c|-
    have:(l.set i ⟨s.id,seq,r⟩).map (·.id)=l.map (·.id):=by
     apply RN;intro j;rw[Pc,Pc,Qi];split
     ·rename_i e;subst e;rw[OE (Oq.1 e2).1,e2];rfl
     ·rfl
    rw[this];exact c
   ·rcases PN hx with hx | rfl
    ·exact f x hx
    ·exact f s Ca
theorem aZk{s:Qg}(hr:bB s=OB)(hi:oS s)(c:Cmd):bB (vB s c).1=OB/\oS (vB s c).1:=by
 obtain⟨r1,r2,r3,r4,r5,r6⟩:=(cJ s).1 hr;unfold vB;split
 ·unfold jC;split
  ·rename_i h;exact⟨aIq hr (aFt h).1 (aUg h r5),hi⟩
  ·exact⟨hr,hi⟩
 ·split
  ·unfold jC;split
   ·rename_i h;obtain⟨a,i,x,b1,b2,b3⟩:=aZg h;exact⟨aIq hr a (by rw[b3];exact aZi b1 r5),hi⟩
   ·exact⟨hr,hi⟩
  ·split
   ·unfold mZ;split
    ·rename_i h;exact⟨(cJ _).2 ⟨(aPn h).1,r2,r3,r4,r5,r6⟩,hi⟩
    ·exact⟨hr,hi⟩
   ·split
    ·exact aFu hr hi c
    ·split
     ·exact aBb hr hi c
     ·split
      ·unfold kM;split
       ·rename_i h;exact⟨zW (n:=s.next) hr (aZj r3 h),hi⟩
       ·exact⟨hr,hi⟩
      ·exact⟨hr,hi⟩
theorem aD2{s:Qg}(hr:bB s=OB)(hi:oS s)(c:Call):bB (gL s c).1=OB/\oS (gL s c).1:=by
 unfold gL;rw[Oz (by rw[hr];simp)];split
 ·exact⟨hr,hi⟩
 ·split
  ·obtain⟨a,b⟩:=aPo hr;exact⟨a,λp hp=>hi p (by rw[b] at hp;exact hp)⟩
  ·split
   ·exact⟨hr,hi⟩
   ·split
    ·exact⟨hr,hi⟩
    ·obtain⟨a,b⟩:=aZk hr hi c.cmd;unfold jY;split
     ·rename_i h;exact⟨zW (n:=(vB s c.cmd).1.next) a (bCo ((cJ _).1 a).2.2.1 h),b⟩
     ·exact⟨a,b⟩
theorem aIr:bB Sg=OB/\oS Sg:=⟨by decide,λp hp=>by cases hp⟩
def aSe(x:Uj)(seq:Int):Rep×Ps×Int:=if seq<1\/1099511627776<seq then(SQ,OA,1) else if seq=x.last then(x.reply,OB,0) else if seq<x.last then(SQ,OA,16) else(SQ,OA,0)
theorem aC6{l:On Uj}(hs:l.Pairwise (λa b=>a.id<b.id)){i:Nat}{s:Uj}(h:l[i]?=Ot s):jN l s.id=(i:Int):=by
 refine aIn h (by simp) (λj b hj hb=>?_);have h1:=Ta.1 hs j i (Oq.1 hb).1 (Oq.1 h).1 hj;rw[(Oq.1 hb).2,(Oq.1 h).2] at h1;simp only[QY];omega
theorem aMz{l:On Uj}(h:gD l=OB){i:Nat}{x:Uj}(hx:l[i]?=Ot x)(seq:Int):cS l x.id seq=aSe x seq:=by
 have e:=aC6 ((xO l).1 h).2.2 hx;unfold cS aSe;rw[Oz (by rw[h];simp),e,Oz (by omega),Pn,hx]
theorem aZl{l:On Uj}{id seq:Int}(h:(cS l id seq).2.2=0)(h2:(cS l id seq).2.1=OA):gD l=OB/\∃(i:Nat) (x:Uj),l[i]?=Ot x/\x.id=id/\1<=seq/\seq<=1099511627776/\x.last<seq:=by
 obtain⟨hs,i,x,e,hi⟩:=aFh h;have Ew:x.id=id:=by
  rcases lT l id with e1 | ⟨j,y,e1,e2,e3⟩
  ·rw[e1] at e;omega
  ·rw[e1] at e
   have:j=i:=by omega
   subst this;rw[hi] at e2;cases e2;exact e3
 subst Ew;rw[aMz hs hi] at h h2;unfold aSe at h h2;split at h
 ·simp at h
 ·rename_i h3;rw[Oz h3] at h2;split at h
  ·rename_i h4;rw[OE h4] at h2;simp at h2
  ·rename_i h4;split at h
   ·simp at h
   ·rename_i h5;exact⟨hs,i,x,hi,rfl,by omega,by omega,by omega⟩
theorem aZm{l:On Uj}(h:gD l=OB){i:Nat}{x:Uj}(hx:l[i]?=Ot x){seq:Int}(h1:1<=seq)(h2:seq<=1099511627776)(h3:x.last<seq)(r:Rep):mD l x.id seq r=(l.set i ⟨x.id,seq,r⟩,0):=by
 have e:=aC6 ((xO l).1 h).2.2 hx;have el:cS l x.id seq=(SQ,OA,0):=by
  rw[aMz h hx];unfold aSe;rw[Oz (by omega),Oz (by omega),Oz (by omega)]
 unfold mD;rw[el,Oz (by simp),Oz (by simp),e,Pn,hx]
theorem aD3(l:On Ser)(name:On OP)(limit:Int):0<=(gX l name limit).2/\(gX l name limit).2<=14:=by
 unfold gX;repeat' split
 all_goals (constructor<;>first | decide | simp)
theorem aIs(l:On Ser)(name:On OP):0<=(kK l name).2/\(kK l name).2<=14:=by
 unfold kK;repeat' split
 all_goals (constructor<;>first | decide | simp)
theorem aIt(l:On Ser)(name:On OP):0<=(sK l name).2/\(sK l name).2<=14:=by
 unfold sK;split
 ·exact aIs l name
 ·split<;>(constructor<;>first | decide | simp)
theorem aIu(l:On Ser)(name:On OP):0<=(dI l name).2.2/\(dI l name).2.2<=14:=by
 unfold dI;split
 ·exact aIs l name
 ·repeat' split
  all_goals (constructor<;>first | decide | simp)
theorem aZn(r:Tn):0<=uX r/\uX r<=14:=by
 unfold uX;repeat' split
 all_goals (constructor<;>first | decide | simp)
theorem aD4(l:On Tn)(r:Tn):0<=(jV l r).2/\(jV l r).2<=14:=by
 unfold jV;split
 ·constructor<;>first | decide | simp
 ·split
  ·exact aZn r
  ·repeat' split
   all_goals (constructor<;>first | decide | simp)
theorem aFw(a b:Int):0<=(dH a b).2/\(dH a b).2<=14:=by
 unfold dH;split<;>(constructor<;>first | decide | simp)
theorem aZo(a b:Int):0<=(cM a b).2/\(cM a b).2<=14:=by
 unfold cM;split<;>(constructor<;>first | decide | simp)
theorem aZp(a b:Int):0<=(aPd a b).2/\(aPd a b).2<=14:=by
 unfold aPd;simp only
 repeat' split
 all_goals (constructor<;>first | decide | simp)
theorem aUj(tab:On Tn)(d:Vo)(l:Line):0<=(iE tab d l).2.2/\(iE tab d l).2.2<=14:=by
 unfold iE
 repeat' split
 all_goals first | exact aZp _ _ | (constructor<;>first | decide | simp)
theorem pZ{σ ρ α:Type}{step:σ->α->ρ⊕σ}{fin:σ->ρ}(Q:ρ->Prop)(hs:∀s a r,step s a=.inl r->Q r)(hf:∀s,Q (fin s)):∀(l:On α) (s:σ),Q (aD step fin l s)
 | [],s=>hf s
 | a::l,s=>by
  simp only[aD];split
  ·rename_i r he;exact hs _ _ _ he
  ·exact pZ Q hs hf l _
theorem aPp(l:On TX):0<=(gK l).2/\(gK l).2<=14:=by
 refine pZ (λr:Up×Int=>0<=r.2/\r.2<=14) (λs a r h=>?_) (λs=>?_) l _
 ·unfold iX at h;split at h
  ·cases h;constructor<;>first | decide | simp
  ·cases h
 ·unfold nM;split
  ·exact aFw _ _
  ·constructor<;>first | decide | simp
theorem aZq(l:On TX)(cat:On OP)(bp n:Int):0<=(uY l cat bp n).2/\(uY l cat bp n).2<=14:=by
 unfold uY;split
 ·constructor<;>first | decide | simp
 ·exact aFw _ _
theorem zX(tab:On Tn)(d:Vo)(lines:On Line):0<=(dZ tab d lines).2/\(dZ tab d lines).2<=14:=by
 unfold dZ;split
 ·constructor<;>first | decide | simp
 ·split
  ·constructor<;>first | decide | simp
  ·split
   ·constructor<;>first | decide | simp
   ·split
    ·constructor<;>first | decide | simp
    ·refine pZ (λr:Up×Int=>0<=r.2/\r.2<=14) (λs a r h=>?_) (λs=>aPp _) lines _;unfold kR at h;split at h
     ·cases h;exact aUj _ _ _
     ·split at h
      ·cases h;exact aZq _ _ _ _
      ·cases h
theorem aN0(t:Up):0<=(bQ t).2/\(bQ t).2<=14:=by
 refine pZ (λr:On Bal×Int=>0<=r.2/\r.2<=14) (λs a r h=>?_) (λs=>by constructor<;>first | decide | simp) _ _;unfold kQ at h;split at h
 ·cases h;constructor<;>first | decide | simp
 ·split at h
  ·cases h;constructor<;>first | decide | simp
  ·cases h
theorem aFx(b l:On Bal):0<=(aV b l).2/\(aV b l).2<=14:=by
 unfold aV;split
 ·constructor<;>first | decide | simp
 ·refine pZ (λr:On Bal×Int=>0<=r.2/\r.2<=14) (λs a r h=>?_) (λs=>by constructor<;>first | decide | simp) _ _;unfold bN at h;split at h
  ·cases h;constructor<;>first | decide | simp
  ·split at h
   ·cases h;exact aFw _ _
   ·cases h
theorem aN1(l:On Int):0<=(iF l).2/\(iF l).2<=14:=by
 refine pZ (λr:On Int×Int=>0<=r.2/\r.2<=14) (λs a r h=>?_) (λs=>by constructor<;>first | decide | simp) _ _;unfold rE at h;split at h
 ·cases h;exact aZo _ _
 ·cases h
theorem aC7(t:Up):0<=(bI t).2/\(bI t).2<=14:=by
 unfold bI;split
 ·exact aN1 _
 ·split
  ·refine pZ (λr:On TX×Int=>0<=r.2/\r.2<=14) (λs a r h=>?_) (λs=>by constructor<;>first | decide | simp) _ _;unfold dW at h;split at h
   ·cases h;exact aN1 _
   ·cases h
  ·constructor<;>first | decide | simp
theorem aFy(l:On Uj)(id:Int):0<=(jA l id).2/\(jA l id).2<=14:=by
 unfold jA;repeat' split
 all_goals (constructor<;>first | decide | simp)
def Plain(s:Qg)(r:Qg×Rep):Prop:=0<=r.2.why/\r.2.why<=14/\(r.2.why≠0->r.1=s/\r.2=why r.2.why)
theorem Plain.why{s:Qg}{e:Int}(h1:0<=e)(h2:e<=14):Plain s (s,Go.Proofs.YtoaibmbldmckaaaGreat.why e):=⟨h1,h2,λ_=>⟨rfl,rfl⟩⟩
theorem wK(s:Qg)(name:On OP)(p:OT):Plain s (bE s name p):=by
 unfold bE;split
 ·exact Plain.why (aIu _ _).1 (aIu _ _).2
 ·split
  ·exact Plain.why (by decide) (by decide)
  ·split
   ·exact Plain.why (aN0 _).1 (aN0 _).2
   ·split
    ·exact Plain.why (aFx _ _).1 (aFx _ _).2
    ·exact⟨TT 0,by show(0:Int)<=14;decide,λh=>absurd rfl h⟩
theorem aZr(s:Qg)(c:Cmd):Plain s (vB s c):=by
 have kw:∀(e:Int) (t:Qg),(0<=e/\e<=14)->Plain s (if e=0 then(t,why e) else(s,why e)):=by
  intro e t h;split
  ·rename_i h0;subst h0;exact⟨TT 0,by show(0:Int)<=14;decide,λh=>absurd rfl h⟩
  ·exact Plain.why h.1 h.2
 unfold vB;split
 ·exact kw _ _ (aD3 _ _ _)
 ·split
  ·exact kw _ _ (aIt _ _)
  ·split
   ·exact kw _ _ (aD4 _ _)
   ·split
    ·unfold nN;split
     ·exact Plain.why (zX _ _ _).1 (zX _ _ _).2
     ·exact wK _ _ _
    ·split
     ·unfold fS;split
      ·exact Plain.why (by decide) (by decide)
      ·unfold iG;split
       ·exact Plain.why (by decide) (by decide)
       ·split
        ·split
         ·exact Plain.why (by decide) (by decide)
         ·split
          ·exact Plain.why (by decide) (by decide)
          ·split
           ·exact Plain.why (aC7 _).1 (aC7 _).2
           ·split
            ·rename_i h;exact⟨by rw[h];decide,by rw[h];decide,λq=>absurd h q⟩
            ·exact wK _ _ _
        ·exact Plain.why (by decide) (by decide)
     ·split
      ·exact kw _ _ (aFy _ _)
      ·unfold aH5;split
       ·exact Plain.why (e:=11) (by decide) (by decide)
       ·exact⟨TT 0,by show(0:Int)<=14;decide,λh=>absurd rfl h⟩
theorem aSf(s:Qg)(c:Cmd):(vB s c).1.sess=s.sess\/(c.kind=7/\(jA s.sess c.session).2=0/\(vB s c).1.sess=(jA s.sess c.session).1):=by
 have hi:∀name p,(bE s name p).1.sess=s.sess:=by
  intro name p;unfold bE
  repeat' split
  all_goals rfl
 unfold vB;split
 ·unfold jC;split<;>exact .inl rfl
 ·split
  ·unfold jC;split<;>exact .inl rfl
  ·split
   ·unfold mZ;split<;>exact .inl rfl
   ·split
    ·unfold nN;split
     ·exact .inl rfl
     ·exact .inl (hi _ _)
    ·split
     ·unfold fS iG
      repeat' split
      all_goals first | exact .inl rfl | exact .inl (hi _ _)
     ·split
      ·rename_i h7;unfold kM;split
       ·rename_i h;exact .inr ⟨h7,h,rfl⟩
       ·exact .inl rfl
      ·exact .inl rfl
theorem aIv{l:On Uj}{id:Int}(h:(jA l id).2=0){n:Int}(hs:sA l n):∀x,x∈(jA l id).1↔x∈l/\x.id≠id:=by
 unfold jA at h|-
 split at h
 ·simp at h
 ·rename_i h1;split at h
  ·simp at h
  ·rename_i h2;rw[Oz h1,Oz h2];rcases lT l id with e | ⟨i,y,e,hi,hy⟩
   ·rw[e] at h2;exact absurd (by decide) h2
   ·simp only[e,Pn];intro x;unfold zJ;rw[Qf];have hp:=hs.2.2.1;have ai:=(Oq.1 hi).1;have key:∀j z,l[j]?=Ot z->(z.id=id↔j=i):=by
     intro j z hz;constructor
     ·intro In;have e1:=aC6 hp hz;rw[In,e] at e1;omega
     ·rintro rfl;rw[hi] at hz;cases hz;exact hy
    constructor
    ·rintro(hx | hx)
     ·obtain⟨j,hj⟩:=PA.1 hx;rw[Qp] at hj;split at hj
      ·rename_i GQ;exact⟨OM hj,λq=>by have:=(key j x hj).1 q;omega⟩
      ·cases hj
     ·obtain⟨j,hj⟩:=PA.1 hx;rw[PP] at hj;exact⟨OM hj,λq=>by have:=(key _ x hj).1 q;omega⟩
    ·rintro⟨hx,ah⟩;obtain⟨j,hj⟩:=PA.1 hx;have GQ:j≠i:=λq=>ah ((key j x hj).2 q);by_cases c:j<i
     ·left;exact OM (i:=j) (by rw[Qp,OE c];exact hj)
     ·right;exact OM (i:=j - (i+1)) (by rw[PP,show i+1+(j - (i+1))=j from by omega];exact hj)
def wL(s:Qg):Prop:=∀x∈s.sess,x.reply.why≠0->x.reply=why x.reply.why
theorem aUk{s:Qg}(hr:bB s=OB)(hq:wL s):wL (hJ s).1/\((hJ s).2.why≠0->(hJ s).1=s/\(hJ s).2=why (hJ s).2.why):=by
 unfold hJ;split
 ·exact⟨hq,λ_=>⟨rfl,rfl⟩⟩
 ·split
  ·exact⟨hq,λ_=>⟨rfl,rfl⟩⟩
  ·refine⟨λx hx=>?_,λh=>absurd rfl h⟩;rename_i h1 h2;have h2:=PM.1 h2;have hx:x∈(oI s.sess s.next).1:=hx;unfold oI at h2 hx;split at h2
   ·simp at h2
   ·rename_i j1;split at h2
    ·simp at h2
    ·rename_i j2;split at h2
     ·simp at h2
     ·rename_i j3;rw[Oz j1,Oz j2,Oz j3] at hx;rcases(jZ _ _ _ _).1 hx with rfl | hx
      ·intro h;exact absurd rfl h
      ·exact hq x hx
theorem bCp{s:Qg}(hr:bB s=OB)(hq:wL s)(c:Cmd):wL (vB s c).1:=by
 intro x hx;rcases aSf s c with e | ⟨_,e1,e2⟩
 ·rw[e] at hx;exact hq x hx
 ·rw[e2] at hx;exact hq x ((aIv e1 ((cJ s).1 hr).2.2.1 x).1 hx).1
theorem aFz(r:Qg×Rep)(c:Call):jY r c=r\/∃(i:Nat) (x:Uj),r.1.sess[i]?=Ot x/\x.id=c.session/\x.last<c.seq/\jY r c=({ r.1 with sess:=r.1.sess.set i ⟨x.id,c.seq,r.2⟩ },r.2):=by
 unfold jY;split
 ·rename_i h
  right
  unfold mD at h;split at h
  ·rename_i h1;exact absurd h h1
  ·rename_i h1;have yq:=PM.1 h1;split at h
   ·simp at h
   ·rename_i h2;have FN:(cS r.1.sess c.session c.seq).2.1=false:=by simpa using h2
    obtain⟨hs,i,x,hx,Ew,q1,q2,q3⟩:=aZl yq FN;refine⟨i,x,hx,Ew,q3,?_⟩
    have:=aZm hs hx q1 q2 q3 r.2
    rw[Ew] at this;rw[this,Ew]
 ·exact .inl rfl
theorem aPq{s:Qg}(hr:bB s=OB)(hi:oS s)(hq:wL s)(c:Call):wL (gL s c).1:=by
 unfold gL;rw[Oz (by rw[hr];simp)];split
 ·exact hq
 ·split
  ·exact(aUk hr hq).1
  ·split
   ·exact hq
   ·split
    ·exact hq
    ·have hd:=bCp hr hq c.cmd;rcases aFz (vB s c.cmd) c with e | ⟨i,x,e1,_,_,e2⟩
     ·rw[e];exact hd
     ·rw[e2];intro y hy;rcases PN hy with hy | rfl
      ·exact hd y hy
      ·intro h;exact((aZr s c.cmd).2.2 h).2
theorem aZs:wL Sg:=λx hx=>by cases hx
structure Beh (s:Qg):Prop where
 right:bB s=OB
 ints:oS s
 reps:wL s
theorem Beh.new:Beh Sg:=⟨aIr.1,aIr.2,aZs⟩
theorem Beh.apply{s:Qg}(h:Beh s)(c:Call):Beh (gL s c).1:=⟨(aD2 h.right h.ints c).1,(aD2 h.right h.ints c).2,aPq h.right h.ints h.reps c⟩
theorem Beh.play:∀(l:On Call) (s:Qg) (r:On Rep),Beh s->Beh (l.foldl sN (s,r)).1
 | [],s,r,h=>h
 | c::l,s,r,h=>Beh.play l _ _ (h.apply c)
theorem Beh.playM{s:Qg}(h:Beh s)(l:On Call):Beh (Go.Proofs.YtoaibmbldmckaaaGreat.playM s l).1:=Beh.play l s [] h
def dN(l:On Bal):Int:=(l.map (·.amount)).sum
def BI(l:On Bal):Prop:=∀b∈l,I64 b.amount
theorem yM(a b:On Bal):dN (a++b)=dN a+dN b:=by simp[dN]
theorem aPr(l:On Bal)(i:Nat)(b:Bal):dN (fU l i b)=dN l+b.amount:=by
 unfold fU
 conv=>rhs;rw[<-Sd i l]
 simp only[yM];simp[dN];omega
theorem aG0:∀(l:On Bal) (i:Nat) (a b:Bal),l[i]?=Ot a->dN (l.set i b)=dN l - a.amount+b.amount
 | [],i,a,b,h=>by cases h
 | x::l,0,a,b,h=>by
  cases h;simp[dN];omega
 | x::l,i+1,a,b,h=>by
  have:=aG0 l i a b h
  simp only[dN,List.set_cons_succ,Qd,SH] at this|-
  omega
theorem aZt(l:On Bal)(acc:On OP):dN (bX l acc)=dN l:=by
 unfold bX;split
 ·rw[aPr];simp
 ·rfl
theorem aSg{l:On Bal}(h:BI l)(acc:On OP):BI (bX l acc):=by
 unfold bX;split
 ·intro b hb;rcases(jZ _ _ _ _).1 hb with rfl | hb
  ·show I64 0;omega
  ·exact h b hb
 ·exact h
theorem aUl{l l':On Bal}{x:Bal}(hl:BI l)(hx:I64 x.amount)(h:bN l x=.inr l'):dN l'=dN l+x.amount/\BI l':=by
 obtain⟨b,hb⟩:=rC l x.acc;unfold bN at h;rw[hb] at h;simp only at h;have Lm:=aSg hl x.acc b (OM hb);have hs:=pD Lm hx;split at h
 ·cases h
 ·rename_i h0;have h0:=PM.1 h0;cases h;rw[hs] at h0|-
  split at h0
  ·rename_i hi;rw[OE hi];refine⟨?_,λy hy=>?_⟩
   ·rw[aG0 _ _ _ _ hb,aZt];simp only;omega
   ·rcases PN hy with hy | rfl
    ·exact aSg hl x.acc y hy
    ·exact hi
  ·simp at h0
theorem aG1:∀(l a:On Bal) (r:On Bal×Int),BI a->BI l->aD bN (λl=>(l,0)) l a=r->r.2=0->dN r.1=dN a+dN l/\BI r.1
 | [],a,r,ha,hl,h,h0=>by subst h;simp[aD,dN];exact ha
 | x::l,a,r,ha,hl,h,h0=>by
  simp only[aD] at h;split at h
  ·rename_i r' he;subst h;obtain⟨b,hb⟩:=rC a x.acc;unfold bN at he;rw[hb] at he;simp only at he;split at he
   ·rename_i h1;cases he;exact absurd h0 h1
   ·cases he
  ·rename_i a' he;obtain⟨e1,e2⟩:=aUl ha (hl x (Ph ..)) he;obtain⟨e3,e4⟩:=aG1 l a' r e2 (λb hb=>hl b (OY _ hb)) h h0;refine⟨?_,e4⟩;rw[e3,e1];simp[dN];omega
theorem aPs{b l:On Bal}(hb:BI b)(hl:BI l)(h:(aV b l).2=0):dN (aV b l).1=dN b+dN l/\BI (aV b l).1:=by
 unfold aV at h|-
 split at h
 ·simp at h
 ·rename_i h1;rw[Oz h1];exact aG1 l b _ hb hl rfl h
theorem aN2:∀(l:On TX) (a:On Bal) (r:On Bal×Int),BI a->(∀p∈l,I64 p.net/\I64 p.tax)->aD kQ (λl=>(l,0)) l a=r->r.2=0->dN r.1=dN a - (l.map (·.net)).sum - (l.map (·.tax)).sum/\BI r.1
 | [],a,r,ha,hl,h,h0=>by subst h;simp[aD];exact ha
 | p::l,a,r,ha,hl,h,h0=>by
  simp only[aD] at h;split at h
  ·rename_i r' he;subst h;unfold kQ at he;split at he
   ·cases he;simp at h0
   ·split at he
    ·cases he;simp at h0
    ·cases he
  ·rename_i a' he;unfold kQ at he;obtain⟨p1,p2⟩:=hl p (Ph ..);have s1:=aC3 p1;have s2:=aC3 p2;split at he
   ·cases he
   ·rename_i c1;split at he
    ·cases he
    ·rename_i c2;cases he;have c1:=PM.1 c1;have c2:=PM.1 c2;rw[s1] at c1 h;rw[s2] at c2 h;by_cases m1:p.net=-9223372036854775808
     ·rw[OE m1] at c1;simp at c1
     ·by_cases m2:p.tax=-9223372036854775808
      ·rw[OE m2] at c2;simp at c2
      ·rw[Oz m1,Oz m2] at h;obtain⟨e3,e4⟩:=aN2 l _ r (λb hb=>by
        rcases Qf.1 hb with hb | hb
        ·exact ha b hb
        ·simp only[Pu,TJ,or_false] at hb;rcases hb with rfl | rfl
         ·show I64 (-p.net);omega
         ·show I64 (-p.tax);omega) (λq hq=>hl q (OY _ hq)) h h0
       refine⟨?_,e4⟩;rw[e3,yM];simp[dN];omega
theorem aZu{t:Up}(ht:∀p∈t.parts,I64 p.net/\I64 p.tax)(ho:cN t=OB)(h:(bQ t).2=0):dN (bQ t).1=0/\BI (bQ t).1:=by
 obtain⟨_,h2,_,_,h5⟩:=(iO t).1 ho;obtain⟨_,_,i3,e1,e2,e3⟩:=(sO (λp hp=>(ht p hp).1) (λp hp=>(ht p hp).2) (by omega)).1 h5;obtain⟨a,b⟩:=aN2 t.parts [⟨[111,119,101,100],t.gross⟩] _ (λb hb=>by rw[PR.1 hb];exact i3) ht rfl h;refine⟨?_,b⟩;show dN (aD kQ (λl=>(l,0)) t.parts [⟨[111,119,101,100],t.gross⟩]).1=0;rw[a];simp[dN];omega
theorem aD5:∀(l:On OT) (a b:On Bal),BI a->dN a=0->(∀p∈l,cN p.total=OB/\∀q∈p.total.parts,I64 q.net/\I64 q.tax)->aD aP (λb=>(b,0)) l a=(b,0)->dN b=0/\BI b
 | [],a,b,ha,hs,hl,h=>by
  simp only[aD] at h;cases h;exact⟨hs,ha⟩
 | p::l,a,b,ha,hs,hl,h=>by
  simp only[aD] at h;obtain⟨p1,p2⟩:=hl p (Ph ..);split at h
  ·rename_i r he;subst h;unfold aP at he;split at he
   ·rename_i c;simp only[XO,Wf] at he;exact absurd he.2 c
   ·split at he
    ·rename_i c;simp only[XO,Wf] at he;exact absurd he.2 c
    ·cases he
  ·rename_i a' he;unfold aP at he;split at he
   ·cases he
   ·rename_i c1;split at he
    ·cases he
    ·rename_i c2;cases he;obtain⟨e1,e2⟩:=aZu p2 p1 (PM.1 c1);obtain⟨e3,e4⟩:=aPs ha e2 (PM.1 c2);exact aD5 l _ b e4 (by rw[e3,hs,e1];rfl) (λq hq=>hl q (OY _ hq)) h
theorem aKz(l:On OT)(name:On OP):cnt l name<=l.length:=by
 unfold cnt
 have:=List.length_filter_le (λp:OT=>p.ref.ser == name) l
 omega
theorem aUm(l:On Call)(n:Nat):∀c∈wC l n,c.cmd.lines.length<1000000:=λc hc=>by
 obtain⟨d,_,rfl⟩:=Pv.1 hc;show(d.cmd.lines.take 15).length<1000000;rw[PY];omega
theorem a35(l:On Call)(n:Nat)(hn:n<=1000)(S:St)(K:KW):C 35 [.agg [.imm [],.imm [],.imm [],.imm [],.imm [],O J 1],.imm ((wC l n).map Call.enc)] S K=
  K (.tup [.agg [.imm ((playM Sg (wC l n)).1.table.map Qk),.imm ((playM Sg (wC l n)).1.ser.map PZ),.imm ((playM Sg (wC l n)).1.posted.map Pg),.imm ((playM Sg (wC l n)).1.book.map PC),.imm ((playM Sg (wC l n)).1.sess.map Qe),O J (playM Sg (wC l n)).1.next],.imm ((playM Sg (wC l n)).2.map U')]) S:=
 g35 Sg (wC l n) Sml.new (by have:=aYt l n;omega) (aUm l n) S K
def uK(n lo hi:Int):Int:=lo+n % (hi - lo+1)
theorem aBc(n:Int){lo hi:Int}(h:lo<=hi):lo<=uK n lo hi/\uK n lo hi<=hi:=by
 unfold uK;have h1:=Ym n (b:=hi - lo+1) (by omega);have h2:=XI n (b:=hi - lo+1) (by omega);omega
theorem g45(n lo hi:Int)(h1:-1000000000<=lo)(h2:lo<=hi)(h3:hi<=1000000000)(S:St)(K:KW):C 45 [O J n,O J lo,O J hi] S K=K (O J (uK n lo hi)) S:=by
 refine(v45 rfl ?_).eq S K;have w1:wr J (hi - lo)=hi - lo:=fB (by omega) (by omega);have w2:wr J (hi - lo+1)=hi - lo+1:=fB (by omega) (by omega);have si:hi - lo+1≠0:=by omega
 have hm:=XI n (b:=hi - lo+1) (by omega);have hm0:=Ym n si;have pc:n.tmod (hi - lo+1)<hi - lo+1/\-(hi - lo+1)<n.tmod (hi - lo+1)/\(n % (hi - lo+1)=n.tmod (hi - lo+1)\/n.tmod (hi - lo+1)<0/\n % (hi - lo+1)=n.tmod (hi - lo+1)+(hi - lo+1))/\(0<=n.tmod (hi - lo+1)->n % (hi - lo+1)=n.tmod (hi - lo+1)):=by
  rw[Int.tmod_eq_emod];split<;>omega
 have w3:=aQ9 prog 3 J n (hi - lo+1) si;delta Tryz.f45;simp only[↓cw,↓Oo,Om,kk,w1,w2,w3,uK,oo];generalize n.tmod (hi - lo+1)=r at *
 generalize n % (hi - lo+1)=q at *
 by_cases c:r<0
 ·have w4:wr J (r+hi)=r+hi:=fB (by omega) (by omega);have w5:wr J (r+hi - lo)=r+hi - lo:=fB (by omega) (by omega);have w6:wr J (r+hi - lo+1)=r+hi - lo+1:=fB (by omega) (by omega);have w7:wr J (lo+(r+hi - lo+1))=lo+q:=by rw[fB (by omega) (by omega)];omega
  simp only[c,Oy,w4,w5,w6,w7]
 ·have w7:wr J (lo+r)=lo+q:=by rw[fB (by omega) (by omega)];omega
  simp only[c,Ou,w7]
end Go.Proofs.YtoaibmbldmckaaaGreat
end
section
namespace Go.AM
theorem bP8{n b:Nat}{S:St}{v:V}{es:On (On V)}(h:Own E0 S n v es)(w:WF S){c:On V}(hc:c.length=n/\aH c=OB)(h1:(es.length+1)*b<=35184372088832)(h2:es.length+1<eG):
  ∃v' S',eC n b v (.sl S.next 0 n 0 1) OG ⟨S.next+1,S.heap.put S.next (.row 0 n [c])⟩=.ok (v',S')/\Own E0 S' n v' (es++[c])/\WF S'/\S.next+1<=S'.next/\(blkOf v'=blkOf v\/blkOf v'=Ot (S.next+1))/\∀y,y<S.next->blkOf v≠Ot y->S'.heap.get y=S.heap.get y:=by
 obtain⟨v',S',q1,q2,q3,q4⟩:=aS2 (b:=b) h w (cs:=[c]) (λd hd=>by rcases PR.1 hd with rfl;exact hc) (by simp) h1 h2;have hu:aK ⟨S.next+1,S.heap.put S.next (.row 0 n [c])⟩ (.sl S.next 0 n 0 1)=.ok [c]:=by
  simp only[aK,aA];rfl
 have hk:∀y,y<S.next->blkOf v≠Ot y->S'.heap.get y=S.heap.get y:=λy hy hb=>q4 y hy λa ver m hv e=>hb (by rw[hv,e];rfl);refine⟨v',S',q1,q2,q3,?_,?_,hk⟩
 ·have q1:eC n b v (.sl S.next 0 n 0 1) OG ⟨S.next+1,S.heap.put S.next (.row 0 n [c])⟩=.ok (v',S'):=q1;unfold eC at q1;simp only[hu] at q1
  repeat' split at q1
  all_goals first | (cases q1;done) | skip
  ·rename_i hn;rw[dX] at hn;cases hn;cases q1;exact PX _
  ·cases q1;exact Ov _
 ·have q1:eC n b v (.sl S.next 0 n 0 1) OG ⟨S.next+1,S.heap.put S.next (.row 0 n [c])⟩=.ok (v',S'):=q1;unfold eC at q1;simp only[hu] at q1
  repeat' split at q1
  all_goals first | (cases q1;done) | skip
  ·rename_i hn;rw[dX] at hn;cases hn;cases q1;exact .inr rfl
  ·cases q1;exact .inl rfl
end Go.AM
namespace Go.Proofs.YtoaibmbldmckaaaGreat
open Go.AM Tryz
end Go.Proofs.YtoaibmbldmckaaaGreat
end
section
namespace Go.AM
theorem aZv{α:Type}{enc:α->On V}{n b:Nat}(hl:∀x,(enc x).length=n/\aH (enc x)=OB)(l:On α){S:St}{a:Nat}(hg:aC S a 0=.ok (n,[]))(h1:l.length*b<=35184372088832)(h2:l.length<eG)(fr:Ow Nat):
  eC n b (.sl a 0 n 0 0) (.imm (l.map enc)) fr S=.ok (.sl a 1 n 0 l.length,⟨S.next,S.heap.put a (.row 1 n (l.map enc))⟩):=by
 have hc:∀cs,cs∈l.map enc->cs.length=n/\aH cs=true:=λcs hc=>by obtain⟨x,_,rfl⟩:=Pv.1 hc;exact hl x
 obtain⟨a1,a2⟩:=cU hc;simp only[eC,aK,a1,a2,and_self,Oy,hg,ON,Px,Pf,Ov,h1,h2,Yv,Yw,Pp]
end Go.AM
namespace Go.Proofs.YtoaibmbldmckaaaGreat
open Go.AM Tryz
end Go.Proofs.YtoaibmbldmckaaaGreat
end
section
namespace Go.Pack
def nb(u:Nat):On UInt8:=if h:u<128 then[QK u] else QK (u % 128+128)::nb (u / 128)
termination_by u
decreasing_by omega
theorem nb_low{u:Nat}(h:u<128):nb u=[QK u]:=by rw[nb,dif_pos h]
theorem nb_high{u:Nat}(h:¬u<128):nb u=QK (u % 128+128)::nb (u / 128):=by rw[nb,dif_neg h]
def rdL:Nat->Nat->On OP->Vg Int (Nat×On OP)
 | _,_,[]=>.error 3
 | i,acc,c::t=>if i=9/\1<c.toNat then .error 4 else if 128<=c.toNat then rdL (i+1) (acc+c.toNat % 128*2 ^ (7*i)) t else if c.toNat=0/\0<i then .error 4 else .ok (acc+c.toNat % 128*2 ^ (7*i),t)
theorem byte_lt{u:Nat}(h:u<256):(QK u).toNat=u:=by
 rw[UInt8.toNat_ofNat'];exact VV h
theorem pow_step{i:Nat}(h:i<=9):i=0\/i=1\/i=2\/i=3\/i=4\/i=5\/i=6\/i=7\/i=8\/i=9:=by omega
theorem bP9{u i:Nat}(h:u<2 ^ (64 - 7*i))(hi:i<=9)(h2:¬u<128):i<=8/\u / 128<2 ^ (64 - 7*(i+1)):=by
 rcases pow_step hi with rfl | rfl | rfl | rfl | rfl | rfl | rfl | rfl | rfl | rfl<;>simp only[WK,Tp,WL,Pi] at h|-<;>omega
theorem aZw{u i acc:Nat}(hi:i<=9):acc+u % 128*2 ^ (7*i)+u / 128*2 ^ (7*(i+1))=acc+u*2 ^ (7*i):=by
 have e:7*(i+1)=7*i+7:=by omega
 rw[e,Nat.pow_add,Nat.add_assoc,<-Nat.mul_assoc,Nat.mul_right_comm (u / 128),<-Nat.add_mul];have h:u % 128+u / 128*2 ^ 7=u:=by show u % 128+u / 128*128=u;omega
 rw[h]
theorem bH7:∀(n u i acc:Nat) (t:On OP),u<=n->u<2 ^ (64 - 7*i)->i<=9->(0<i->0<u)->rdL i acc (nb u++t)=.ok (acc+u*2 ^ (7*i),t)
 | n,u,i,acc,t,hn,hu,hi,hp=>by
  by_cases h:u<128
  ·rw[nb_low h];show rdL i acc (QK u::t)=_;unfold rdL;rw[byte_lt (by omega)];have h9:¬(i=9/\1<u):=by
    rintro⟨rfl,h1⟩
    have:u<2:=hu
    omega
   rw[Oz h9,Oz (by omega),Oz (by rintro⟨h1,h2⟩;have:=hp h2;omega),VV h]
  ·obtain⟨h8,hd⟩:=bP9 hu hi h;rw[nb_high h];show rdL i acc (QK (u % 128+128)::(nb (u / 128)++t))=_;unfold rdL;rw[byte_lt (by omega),Oz (by omega),OE (by omega)];cases n with
   | zero=>omega
   | succ n=>
    rw[bH7 n (u / 128) (i+1) _ t (by omega) hd (by omega) (λ_=>by omega)];have e:(u % 128+128) % 128=u % 128:=by omega
    rw[e,aZw hi]
theorem bH8(c:OP):QK c.toNat=c:=UInt8.ofNat_toNat
theorem rd_back:∀(b:On OP) (i acc v:Nat) (t:On OP),i<=9->rdL i acc b=.ok (v,t)->∃u,v=acc+u*2 ^ (7*i)/\b=nb u++t/\(0<i->0<u)/\u<2 ^ (64 - 7*i)
 | [],i,acc,v,t,hi,h=>by cases h
 | c::b,i,acc,v,t,hi,h=>by
  have hc:c.toNat<256:=c.toNat_lt;unfold rdL at h;split at h
  ·cases h
  ·rename_i h9;split at h
   ·rename_i pe;have h8:i<=8:=by omega
    obtain⟨u,e1,e2,e3,e4⟩:=rd_back b (i+1) _ v t (by omega) h;have hp:=e3 (by omega);refine⟨c.toNat - 128+u*128,?_,?_,λ_=>by omega,?_⟩
    ·have hs:=aZw (u:=c.toNat - 128+u*128) (acc:=acc) hi;have k1:(c.toNat - 128+u*128) % 128=c.toNat % 128:=by omega
     have k2:(c.toNat - 128+u*128) / 128=u:=by omega
     rw[k1,k2] at hs;rw[e1,hs]
    ·rw[nb_high (by omega)];have k1:(c.toNat - 128+u*128) % 128+128=c.toNat:=by omega
     have k2:(c.toNat - 128+u*128) / 128=u:=by omega
     rw[k1,k2,bH8,e2];rfl
    ·rcases pow_step (show i<=9 from hi) with rfl | rfl | rfl | rfl | rfl | rfl | rfl | rfl | rfl | rfl<;>simp only[WK,Tp,WL,Pi] at e4|-<;>omega
   ·rename_i pe;split at h
    ·cases h
    ·rename_i h0;cases h;refine⟨c.toNat,by rw[VV (by omega)],?_,λhp=>by omega,?_⟩
     ·rw[nb_low (by omega),bH8];rfl
     ·rcases pow_step hi with rfl | rfl | rfl | rfl | rfl | rfl | rfl | rfl | rfl | rfl<;>simp only[WK,Tp,WL,Pi]<;>omega
def zig(n:Int):Nat:=if 0<=n then(2*n).toNat else(-2*n - 1).toNat
def zag(u:Nat):Int:=if u % 2=1 then -((u / 2:Nat):Int) - 1 else((u / 2:Nat):Int)
theorem bCq(n:Int):zag (zig n)=n:=by unfold zag zig;split<;>split<;>omega
theorem bCr(u:Nat):zig (zag u)=u:=by unfold zag zig;split<;>split<;>omega
theorem zig_lt{n:Int}(h:-9223372036854775808<=n/\n<=9223372036854775807):zig n<2 ^ 64:=by unfold zig;split<;>omega
theorem aUn{u:Nat}(h:u<2 ^ 64):-9223372036854775808<=zag u/\zag u<=9223372036854775807:=by unfold zag;split<;>omega
def numP(n:Int):On UInt8:=nb (zig n)
def numR(b:On OP):Vg Int (Int×On OP):=match rdL 0 0 b with
 | .ok (u,t)=>.ok (zag u,t)
 | .error e=>.error e
theorem aIw{n:Int}(h:-9223372036854775808<=n/\n<=9223372036854775807)(t:On OP):numR (numP n++t)=.ok (n,t):=by
 unfold numR numP;rw[bH7 (zig n) (zig n) 0 0 t (Ov _) (zig_lt h) (by omega) (λq=>absurd q (by omega))];simp only[Px,Nat.mul_zero,Nat.pow_zero,Nat.mul_one,bCq]
theorem num_back{b:On OP}{n:Int}{t:On OP}(h:numR b=.ok (n,t)):b=numP n++t/\-9223372036854775808<=n/\n<=9223372036854775807:=by
 unfold numR at h;cases e:rdL 0 0 b with
 | error x=>rw[e] at h;cases h
 | ok r=>
  obtain⟨u,t'⟩:=r;rw[e] at h;cases h;obtain⟨u',e1,e2,_,e4⟩:=rd_back b 0 0 u t (by omega) e
  have:u=u':=by rw[e1];simp
  subst this;unfold numP;rw[bCr];exact⟨e2,aUn e4⟩
structure Cod (α:Type) where
 put:α->On OP
 get:On OP->Vg Int (α×On OP)
 ok:α->Prop
 pos:∀a,1<=(put a).length
 there:∀a t,ok a->get (put a++t)=.ok (a,t)
 back:∀b a t,get b=.ok (a,t)->b=put a++t/\ok a
theorem nb_pos:∀u,1<=(nb u).length:=λu=>by
 by_cases h:u<128
 ·rw[nb_low h];exact Ov _
 ·rw[nb_high h,OQ];omega
def bH9(n:Int):Prop:=-9223372036854775808<=n/\n<=9223372036854775807
def num:Cod Int:=⟨numP,numR,bH9,λa=>nb_pos _,λa t h=>aIw h t,λb a t h=>num_back h⟩
def Cod.only{α:Type}(c:Cod α)(p:α->Ps)(e:Int):Cod α where
 put:=c.put
 get:=λb=>match c.get b with
  | .ok (a,t)=>if p a=OB then .ok (a,t) else .error e
  | .error x=>.error x
 ok:=λa=>c.ok a/\p a=OB
 pos:=c.pos
 there:=λa t h=>by simp only[c.there a t h.1,h.2,Oy]
 back:=λb a t h=>by
  cases e:c.get b with
  | error x=>rw[e] at h;cases h
  | ok r=>
   obtain⟨a',t'⟩:=r;rw[e] at h;simp only at h;split at h
   ·rename_i hp;cases h;exact⟨(c.back b _ _ e).1,(c.back b _ _ e).2,hp⟩
   ·cases h
def Cod.both{α β:Type}(c:Cod α)(d:Cod β):Cod (α×β) where
 put:=λx=>c.put x.1++d.put x.2
 get:=λb=>match c.get b with
  | .ok (a,t)=>(match d.get t with
   | .ok (x,t')=>.ok ((a,x),t')
   | .error x=>.error x)
  | .error x=>.error x
 ok:=λx=>c.ok x.1/\d.ok x.2
 pos:=λx=>by rw[OC];have:=c.pos x.1;omega
 there:=λx t h=>by
  rw[Pd];simp only[c.there x.1 _ h.1,d.there x.2 t h.2]
 back:=λb x t h=>by
  cases e:c.get b with
  | error y=>rw[e] at h;cases h
  | ok r=>
   obtain⟨a,t1⟩:=r;rw[e] at h;simp only at h;cases e2:d.get t1 with
   | error y=>rw[e2] at h;cases h
   | ok r2=>
    obtain⟨x2,t2⟩:=r2;rw[e2] at h;cases h;obtain⟨b1,o1⟩:=c.back b _ _ e;obtain⟨b2,o2⟩:=d.back t1 _ _ e2;exact⟨by rw[b1,b2,Pd],o1,o2⟩
def Cod.map{α β:Type}(c:Cod α)(f:α->β)(g:β->α)(hf:∀a,g (f a)=a)(hg:∀b,f (g b)=b):Cod β where
 put:=λb=>c.put (g b)
 get:=λl=>match c.get l with
  | .ok (a,t)=>.ok (f a,t)
  | .error x=>.error x
 ok:=λb=>c.ok (g b)
 pos:=λb=>c.pos _
 there:=λb t h=>by simp only[c.there (g b) t h,hg]
 back:=λl b t h=>by
  cases e:c.get l with
  | error y=>rw[e] at h;cases h
  | ok r=>
   obtain⟨a,t1⟩:=r;rw[e] at h;cases h;rw[hf];exact c.back l _ _ e
def aG2(most:Nat)(n:Int):Bool:=decide (0<=n)&&decide (n<=most)
def upto(most:Nat):Cod Int:=num.only (aG2 most) 2
theorem aIx{most n:Nat}(h:n<=most):aG2 most (n:Int)=true:=by
 unfold aG2;rw[WD (by omega),WD (by omega)];rfl
def aD6(most:Nat)(b:On OP):Vg Int (On OP×On OP):=match (upto most).get b with
 | .ok (n,t)=>if n<=(t.length:Int) then .ok (t.take n.toNat,t.drop n.toNat) else .error 3
 | .error x=>.error x
def text(most:Nat)(hm:most<=1000000):Cod (On OP) where
 put:=λs=>numP s.length++s
 get:=aD6 most
 ok:=λs=>s.length<=most
 pos:=λs=>by rw[OC];have:=nb_pos (zig s.length);show 1<=(numP s.length).length+_;unfold numP;omega
 there:=λs t h=>by
  have e:(upto most).get (numP s.length++(s++t))=.ok ((s.length:Int),s++t):=(upto most).there (s.length:Int) (s++t) ⟨⟨by omega,by omega⟩,aIx h⟩;unfold aD6;rw[Pd,e];simp only[OC];rw[OE (by omega)];have k:((s.length:Int)).toNat=s.length:=by omega
  rw[k,Tk,XV]<;>rfl
 back:=λb s t h=>by
  unfold aD6 at h;cases e:(upto most).get b with
  | error y=>rw[e] at h;cases h
  | ok r=>
   obtain⟨n,t1⟩:=r;rw[e] at h;simp only at h;split at h
   ·rename_i hn;cases h;obtain⟨b1,⟨i1,i2⟩,hp⟩:=(upto most).back b _ _ e;unfold aG2 at hp;simp only[OU,PB] at hp;have hl:(t1.take n.toNat).length=n.toNat:=by rw[PY];omega
    refine⟨?_,by rw[hl];omega⟩;rw[b1,hl,Pd,Sd];have k:((n.toNat:Nat):Int)=n:=by omega
    rw[k];rfl
   ·cases h
def qC{α:Type}(c:Cod α):Nat->On OP->Vg Int (On α×On OP)
 | 0,b=>.ok ([],b)
 | n+1,b=>match c.get b with
  | .ok (a,t)=>(match qC c n t with
   | .ok (l,t')=>.ok (a::l,t')
   | .error x=>.error x)
  | .error x=>.error x
theorem aG3{α:Type}(c:Cod α):∀(l:On α) (t:On OP),(∀a∈l,c.ok a)->qC c l.length (l.flatMap c.put++t)=.ok (l,t)
 | [],t,_=>rfl
 | a::l,t,h=>by
  rw[TK,Pd,OQ];unfold qC;rw[c.there a _ (h a (Ph ..))];simp only[aG3 c l t λx hx=>h x (OY _ hx)]
theorem aIy{α:Type}(c:Cod α):∀(n:Nat) (b:On OP) (l:On α) (t:On OP),qC c n b=.ok (l,t)->b=l.flatMap c.put++t/\l.length=n/\∀a∈l,c.ok a
 | 0,b,l,t,h=>by cases h;exact⟨rfl,rfl,λa ha=>(by cases ha)⟩
 | n+1,b,l,t,h=>by
  unfold qC at h;cases e:c.get b with
  | error y=>rw[e] at h;cases h
  | ok r=>
   obtain⟨a,t1⟩:=r;rw[e] at h;simp only at h;cases e2:qC c n t1 with
   | error y=>rw[e2] at h;cases h
   | ok r2=>
    obtain⟨l2,t2⟩:=r2;rw[e2] at h;cases h;obtain⟨b1,o1⟩:=c.back b _ _ e;obtain⟨b2,o2,o3⟩:=aIy c n t1 _ _ e2;refine⟨by rw[b1,b2,TK,Pd],by rw[OQ,o2],λx hx=>?_⟩;rcases Pu.1 hx with rfl | hx
    ·exact o1
    ·exact o3 x hx
theorem aN3{α:Type}(c:Cod α):∀l:On α,l.length<=(l.flatMap c.put).length
 | []=>Ov _
 | a::l=>by
  have:=aN3 c l
  have:=c.pos a
  rw[TK,OC,OQ];omega
end Go.Pack
end
section
namespace Go.Pack
def aG4{α:Type}(c:Cod α)(most:Nat)(b:On OP):Vg Int (On α×On OP):=match (upto most).get b with
 | .ok (n,t)=>if n<=(t.length:Int) then qC c n.toNat t else .error 3
 | .error x=>.error x
def Cod.list{α:Type}(c:Cod α)(most:Nat)(hm:most<=1000000):Cod (On α) where
 put:=λl=>numP l.length++l.flatMap c.put
 get:=aG4 c most
 ok:=λl=>l.length<=most/\∀a∈l,c.ok a
 pos:=λl=>by rw[OC];have:=nb_pos (zig l.length);show 1<=(numP l.length).length+_;unfold numP;omega
 there:=λl t h=>by
  have e:(upto most).get (numP l.length++(l.flatMap c.put++t))=.ok ((l.length:Int),l.flatMap c.put++t):=(upto most).there (l.length:Int) _ ⟨⟨by have:=h.1;omega,by have:=h.1;omega⟩,aIx h.1⟩;unfold aG4;rw[Pd,e];simp only[OC]
  have:=aN3 c l
  rw[OE (by omega)];have k:((l.length:Int)).toNat=l.length:=by omega
  rw[k];exact aG3 c l t h.2
 back:=λb l t h=>by
  unfold aG4 at h;cases e:(upto most).get b with
  | error y=>rw[e] at h;cases h
  | ok r=>
   obtain⟨n,t1⟩:=r;rw[e] at h;simp only at h;split at h
   ·obtain⟨b1,⟨i1,i2⟩,hp⟩:=(upto most).back b _ _ e;unfold aG2 at hp;simp only[OU,PB] at hp;obtain⟨b2,o2,o3⟩:=aIy c n.toNat t1 _ _ h;refine⟨?_,by rw[o2];omega,o3⟩;have k:((l.length:Nat):Int)=n:=by rw[o2];omega
    rw[b1,b2,k,Pd];rfl
   ·cases h
def flagR(b:On OP):Vg Int (Ps×On OP):=match numR b with
 | .ok (n,t)=>if n=0 then .ok (OA,t) else if n=1 then .ok (OB,t) else .error 4
 | .error x=>.error x
def flag:Cod Ps where
 put:=λf=>numP (if f then 1 else 0)
 get:=flagR
 ok:=λ_=>True
 pos:=λf=>nb_pos _
 there:=λf t _=>by
  unfold flagR;rw[aIw (by split<;>decide)];cases f<;>rfl
 back:=λb f t h=>by
  unfold flagR at h;cases e:numR b with
  | error y=>rw[e] at h;cases h
  | ok r=>
   obtain⟨n,t1⟩:=r;rw[e] at h;simp only at h;obtain⟨b1,_⟩:=num_back e;split at h
   ·rename_i h0;cases h;exact⟨by rw[b1,h0];rfl,trivial⟩
   ·split at h
    ·rename_i h1;cases h;exact⟨by rw[b1,h1];rfl,trivial⟩
    ·cases h
end Go.Pack
namespace Go.Proofs.YtoaibmbldmckaaaGreat
open Go.AM Go.Pack Tryz
def txt:Cod (On OP):=Go.Pack.text 64 (by decide)
def mE:Cod Date:=(num.both (num.both num)).map (λx=>⟨x.1,x.2.1,x.2.2⟩) (λd=>(d.y,d.m,d.d)) (λ_=>rfl) (λ_=>rfl)
def aBd:Cod Rate:=(txt.both (mE.both num)).map (λx=>⟨x.1,x.2.1,x.2.2⟩) (λr=>(r.cat,r.day,r.bp)) (λ_=>rfl) (λ_=>rfl)
structure SerI where
 name:On OP
 limit:Int
 shut:Ps
def aL0:Cod SerI:=(txt.both (num.both flag)).map (λx=>⟨x.1,x.2.1,x.2.2⟩) (λr=>(r.name,r.limit,r.shut)) (λ_=>rfl) (λ_=>rfl)
structure PartI where
 cat:On OP
 bp:Int
 net:Int
def aD7:Cod PartI:=(txt.both (num.both num)).map (λx=>⟨x.1,x.2.1,x.2.2⟩) (λr=>(r.cat,r.bp,r.net)) (λ_=>rfl) (λ_=>rfl)
structure PostI where
 ser:On OP
 day:Vo
 ofSer:On OP
 ofNum:Int
 parts:On PartI
def aHa:Cod PostI:=(txt.both (mE.both (txt.both (num.both (aD7.list 12 (by decide)))))).map (λx=>⟨x.1,x.2.1,x.2.2.1,x.2.2.2.1,x.2.2.2.2⟩) (λr=>(r.ser,r.day,r.ofSer,r.ofNum,r.parts)) (λ_=>rfl) (λ_=>rfl)
structure SessI where
 id:Int
 last:Int
 why:Int
 number:Int
 gross:Int
def aBe:Cod SessI:=(num.both (num.both (num.both (num.both num)))).map (λx=>⟨x.1,x.2.1,x.2.2.1,x.2.2.2.1,x.2.2.2.2⟩) (λr=>(r.id,r.last,r.why,r.number,r.gross)) (λ_=>rfl) (λ_=>rfl)
structure ImgI where
 table:On Tn
 ser:On SerI
 posted:On PostI
 sess:On SessI
 next:Int
def aN4:Cod ImgI:=((aBd.list 24 (by decide)).both ((aL0.list 8 (by decide)).both ((aHa.list 40 (by decide)).both ((aBe.list 8 (by decide)).both num)))).map (λx=>⟨x.1,x.2.1,x.2.2.1,x.2.2.2.1,x.2.2.2.2⟩) (λr=>(r.table,r.ser,r.posted,r.sess,r.next)) (λ_=>rfl) (λ_=>rfl)
end Go.Proofs.YtoaibmbldmckaaaGreat
end
section
namespace Go.Pack
theorem aZx:∀(k u:Nat),u<128 ^ (k+1)->(nb u).length<=k+1
 | 0,u,h=>by rw[nb_low (by simpa using h)];exact Ov _
 | k+1,u,h=>by
  by_cases c:u<128
  ·rw[nb_low c];show 1<=_;omega
  ·rw[nb_high c,OQ]
   have:u / 128<128 ^ (k+1):=by
    rw[Nat.div_lt_iff_lt_mul (by decide)];rw[Nat.pow_succ] at h;exact h
   have:=aZx k (u / 128) this
   omega
theorem numP_len{n:Int}(h:bH9 n):(numP n).length<=10:=by
 have h1:=zig_lt h;exact aZx 9 (zig n) (Nat.lt_trans h1 (by decide))
def Cod.Len{α:Type}(c:Cod α)(p:α->Prop)(n:Nat):Prop:=∀a,p a->(c.put a).length<=n
theorem Len.flag:flag.Len (λ_=>True) 10:=λf _=>by
 show(numP (if f then 1 else 0)).length<=10;exact numP_len (by split<;>exact⟨by decide,by decide⟩)
end Go.Pack
end
section
namespace Go.Proofs.YtoaibmbldmckaaaGreat
open Go.AM Go.Pack Tryz
def aD8(p:TX):PartI:=⟨p.cat,p.bp,p.net⟩
def wM(p:OT):PostI:=⟨p.ref.ser,p.day,p.of.ser,p.of.num,p.total.parts.map aD8⟩
def aL1(s:Ser):SerI:=⟨s.name,s.limit,s.shut⟩
def aBf(s:Uj):SessI:=⟨s.id,s.last,s.reply.why,s.reply.number,s.reply.gross⟩
def aPt(s:Qg):ImgI:=⟨s.table,s.ser.map aL1,s.posted.map wM,s.sess.map aBf,s.next⟩
def sB(s:Qg):On UInt8:=if bB s=OA then[] else aN4.put (aPt s)
def bHa(p:PartI):Part:=⟨p.cat,p.bp,p.net,0⟩
def bHb(p:PostI):Posted:=⟨⟨p.ser,0⟩,p.day,⟨0,0,0,p.parts.map bHa⟩,⟨p.ofSer,p.ofNum⟩,OA⟩
def bPa(s:SerI):Ser:=⟨s.name,1,s.limit,s.shut⟩
def bHc(s:SessI):Sess:=⟨s.id,s.last,⟨s.why,s.number,s.gross⟩⟩
def aL2(x:ImgI):State:=⟨x.table,x.ser.map bPa,x.posted.map bHb,[],x.sess.map bHc,x.next⟩
def State.zero:State:=⟨[],[],[],[],[],0⟩
def kN(st:On TX)(p:TX):Ow (On TX)⊕On Part:=if(bC p.net p.bp).2=0 then .inr (st++[rH p]) else .inl OG
def oV(ps:On TX):Ow Total:=
 if(cI (ps.map (·.net))).2=OB then(if(cI (ps.map (·.tax))).2=OB then(if(cI [(cI (ps.map (·.net))).1,(cI (ps.map (·.tax))).1]).2=OB then
  Ot ⟨(cI (ps.map (·.net))).1,(cI (ps.map (·.tax))).1,(cI [(cI (ps.map (·.net))).1,(cI (ps.map (·.tax))).1]).1,ps⟩ else OG) else OG) else OG
def sT(t:Up):Ow Total:=match aD kN Ot t.parts [] with
 | none=>OG
 | some ps=>oV ps
def cH(st:On Ser×On OT)(p:OT):Ow (On Ser×On OT)⊕(On Ser×On OT):=
 if cD st.1 p.ref.ser<0 then .inl OG else match sT p.total with
 | none=>.inl OG
 | some t=>match st.1[(cD st.1 p.ref.ser).toNat]? with
  | none=>.inl OG
  | some x=>if p.of=Qr then .inr (st.1.set (cD st.1 p.ref.ser).toNat { x with next:=wr J (x.next+1) },st.2++[{ p with ref:=⟨p.ref.ser,x.next⟩,total:=t }]) else
   if aY st.2 p.of<0 then .inl OG else .inr (st.1.set (cD st.1 p.ref.ser).toNat { x with next:=wr J (x.next+1) },cW st.2 (aY st.2 p.of).toNat++[{ p with ref:=⟨p.ref.ser,x.next⟩,total:=t }])
def sU(s:Qg):Ow State:=match aD cH Ot s.posted (s.ser,[]) with
 | none=>OG
 | some r=>if(cL r.2).2=0 then Ot { s with ser:=r.1,posted:=r.2,book:=(cL r.2).1 } else OG
def iI(b:On OP):Qg×Int:=match aN4.get b with
 | .error e=>(State.zero,e)
 | .ok (x,t)=>if t=[] then(match sU (aL2 x) with
  | none=>(State.zero,4)
  | some s=>if bB s=OB then(s,0) else(State.zero,4)) else(State.zero,5)
theorem aZy:∀(b:On OP) (i acc:Nat),rdL i acc b≠.error 0
 | [],i,acc,h=>by cases h
 | c::t,i,acc,h=>by
  unfold rdL at h
  repeat' split at h
  ·cases h
  ·exact aZy t _ _ h
  ·cases h
  ·cases h
theorem numR_ne(b:On OP):numR b≠.error 0:=λh=>by
 unfold numR at h;split at h
 ·cases h
 ·rename_i e he;cases h;exact aZy _ _ _ he
def CNE{α:Type}(c:Cod α):Prop:=∀b,c.get b≠.error 0
theorem CNE.num:CNE num:=numR_ne
theorem CNE.only{α:Type}{c:Cod α}(h:CNE c)(p:α->Ps){e:Int}(he:e≠0):CNE (c.only p e):=λb hb=>by
 have hb:(match c.get b with
  | .ok (a,t)=>if p a=OB then .ok (a,t) else .error e
  | .error x=>.error x:Vg Int (α×On OP))=.error 0:=hb
 split at hb
 ·split at hb
  ·cases hb
  ·cases hb;exact he rfl
 ·rename_i x hx;cases hb;exact h _ hx
theorem CNE.both{α β:Type}{c:Cod α}{d:Cod β}(h:CNE c)(k:CNE d):CNE (c.both d):=λb hb=>by
 have hb:(match c.get b with
  | .ok (a,t)=>(match d.get t with
   | .ok (x,t')=>.ok ((a,x),t')
   | .error x=>.error x)
  | .error x=>.error x:Vg Int ((α×β)×On OP))=.error 0:=hb
 split at hb
 ·split at hb
  ·cases hb
  ·rename_i x hx;cases hb;exact k _ hx
 ·rename_i x hx;cases hb;exact h _ hx
theorem CNE.map{α β:Type}{c:Cod α}(h:CNE c){f:α->β}{g:β->α}{h1:∀a,g (f a)=a}{h2:∀b,f (g b)=b}:CNE (c.map f g h1 h2):=λb hb=>by
 have hb:(match c.get b with
  | .ok (a,t)=>.ok (f a,t)
  | .error x=>.error x:Vg Int (β×On OP))=.error 0:=hb
 split at hb
 ·cases hb
 ·rename_i x hx;cases hb;exact h _ hx
theorem CNE.upto(m:Nat):CNE (upto m):=CNE.num.only _ (by decide)
theorem CNE.text{m:Nat}(hm:m<=1000000):CNE (Go.Pack.text m hm):=λb hb=>by
 have hb:aD6 m b=.error 0:=hb;unfold aD6 at hb
 repeat' split at hb
 all_goals first | (cases hb;done) | skip
 rename_i x hx;cases hb;exact CNE.upto _ _ hx
theorem aSh{α:Type}{c:Cod α}(h:CNE c):∀(n:Nat) (b:On OP),qC c n b≠.error 0
 | 0,b,hb=>by cases hb
 | n+1,b,hb=>by
  unfold qC at hb;split at hb
  ·split at hb
   ·cases hb
   ·rename_i x hx;cases hb;exact aSh h _ _ hx
  ·rename_i x hx;cases hb;exact h _ hx
theorem CNE.list{α:Type}{c:Cod α}(h:CNE c){m:Nat}(hm:m<=1000000):CNE (c.list m hm):=λb hb=>by
 have hb:aG4 c m b=.error 0:=hb;unfold aG4 at hb;split at hb
 ·split at hb
  ·exact aSh h _ _ hb
  ·cases hb
 ·rename_i x hx;cases hb;exact CNE.upto _ _ hx
theorem CNE.flag:CNE flag:=λb hb=>by
 have hb:flagR b=.error 0:=hb;unfold flagR at hb
 repeat' split at hb
 all_goals first | (cases hb;done) | skip
 rename_i x hx;cases hb;exact numR_ne _ hx
theorem CNE.txt:CNE txt:=CNE.text _
theorem CNE.day:CNE mE:=(CNE.num.both (CNE.num.both CNE.num)).map
theorem CNE.img:CNE aN4:=((CNE.list ((CNE.txt.both (CNE.day.both CNE.num)).map) _).both ((CNE.list ((CNE.txt.both (CNE.num.both CNE.flag)).map) _).both ((CNE.list ((CNE.txt.both (CNE.day.both (CNE.txt.both (CNE.num.both (CNE.list ((CNE.txt.both (CNE.num.both CNE.num)).map) _))))).map) _).both ((CNE.list ((CNE.num.both (CNE.num.both (CNE.num.both (CNE.num.both CNE.num)))).map) _).both CNE.num)))).map
def IR(r:Rep):Prop:=I64 r.why/\I64 r.number/\I64 r.gross
def RepI(s:Qg):Prop:=∀x∈s.sess,IR x.reply
theorem I64.small{n:Int}(h:0<=n/\n<=1099511627777):I64 n:=⟨by omega,by omega⟩
theorem IR.why{e:Int}(h:0<=e/\e<=17):IR (Go.Proofs.YtoaibmbldmckaaaGreat.why e):=⟨I64.small ⟨h.1,by show e<=_;omega⟩,⟨by show(_:Int)<=0;decide,by show(0:Int)<=_;decide⟩,⟨by show(_:Int)<=0;decide,by show(0:Int)<=_;decide⟩⟩
theorem IR.zero:IR SQ:=IR.why (e:=0) (by decide)
theorem aIz{s:Qg}(hr:bB s=OB)(hi:oS s){q:OT}(hq:q∈s.posted):I64 q.ref.num/\I64 q.total.gross:=by
 obtain⟨_,_,_,h4,h5,_⟩:=(cJ s).1 hr;obtain⟨h40,hO,_⟩:=(eO _).1 h4;obtain⟨i,df⟩:=QR hq;have h1:=(h5.num i q df).2;have h2:=aKz (s.posted.take i) q.ref.ser;have h3:=pX (s.posted.take i) q.ref.ser;have hl:(s.posted.take i).length<=s.posted.length:=by rw[PY];omega
 refine⟨I64.small (by omega),?_⟩;obtain⟨_,b2,_,_,b5⟩:=(iO _).1 (hO i q df).2.1;exact((sO (λp hp=>(hi q hq p hp).1) (λp hp=>(hi q hq p hp).2) (by omega)).1 b5).2.2.1
theorem aG5{s t:Qg}{name:On OP}{p:OT}(hr:bB t=OB)(hi:oS t)(h:(bE s name p).2.why=0->∃q∈t.posted,q.ref.num=(bE s name p).2.number/\q.total.gross=(bE s name p).2.gross):IR (bE s name p).2:=by
 have hp:=wK s name p;by_cases c:(bE s name p).2.why=0
 ·obtain⟨q,hq,e1,e2⟩:=h c;obtain⟨i1,i2⟩:=aIz hr hi hq;exact⟨by rw[c];exact I64.small (by decide),e1▸i1,e2▸i2⟩
 ·rw[(hp.2.2 c).2];exact IR.why ⟨hp.1,by have:=hp.2.1;omega⟩
theorem aN5{l:On OT}{k:Nat}{q:OT}(h:q∈l):∃r∈cW l k,r.ref=q.ref/\r.total=q.total:=by
 have e:(cW l k).map gQ=l.map gQ:=uJ l k
 have:gQ q∈(cW l k).map gQ:=by rw[e];exact List.mem_map_of_mem h
 obtain⟨r,hr,he⟩:=Pv.1 this;exact⟨r,hr,show(gQ r).ref=(gQ q).ref by rw[he],show(gQ r).total=(gQ q).total by rw[he]⟩
theorem bCs{s:Qg}(hr:bB s=OB)(hi:oS s)(c:Cmd):IR (nN s c).2:=by
 obtain⟨r1,r2⟩:=aFu hr hi c;unfold nN at r1 r2|-
 split
 ·exact IR.why (by have:=zX s.table c.day c.lines;exact⟨this.1,by have:=this.2;omega⟩)
 ·rename_i h;rw[Oz h] at r1 r2;refine aG5 r1 r2 λh0=>?_;obtain⟨_,_,_,_,e⟩:=sS h0;rw[e];exact⟨_,QB _ (Ph ..),rfl,rfl⟩
theorem aUo{s:Qg}(hr:bB s=OB)(hi:oS s)(c:Cmd):IR (fS s c).2:=by
 obtain⟨r1,r2⟩:=aBb hr hi c;unfold fS at r1 r2|-
 split
 ·exact IR.why (by decide)
 ·rename_i h;rw[Oz h] at r1 r2;generalize (aY s.posted c.of).toNat=k at *
  unfold iG at r1 r2|-
  repeat' split
  ·exact IR.why (by decide)
  ·exact IR.why (by decide)
  ·exact IR.why (by decide)
  ·exact IR.why (by have:=aC7 (s.posted.getD k WT).total;exact⟨this.1,by have:=this.2;omega⟩)
  ·rename_i h1 h2 h3 h4 h5 h6;rw[Oz h1,OE h2,Oz h3,Oz h4,Oz h5,OE h6] at r1 r2;refine aG5 r1 r2 λh0=>?_;obtain⟨_,_,_,_,e⟩:=sS h0;rw[e];obtain⟨q,hq,e1,e2⟩:=aN5 (l:=s.posted++[{ (⟨Qr,c.day,(bI (s.posted.getD k WT).total).1,c.of,OA⟩:OT) with ref:=⟨c.series,(dI s.ser c.series).2.1⟩ }]) (k:=k) (QB _ (Ph ..));exact⟨q,hq,by rw[e1],by rw[e2]⟩
  ·rename_i h1 h2 h3 h4 h5 h6;rw[Oz h1,OE h2,Oz h3,Oz h4,Oz h5,Oz h6] at r1 r2;exact aG5 r1 r2 λh0=>absurd h0 h6
  ·exact IR.why (by decide)
theorem bPb:∀(l:On Bal) (g:Int),(∀b∈l,I64 b.amount)->I64 g->I64 (aD uA id l g)
 | [],g,_,h=>h
 | b::l,g,hl,h=>by
  simp only[aD,uA];refine bPb l _ (λx hx=>hl x (OY _ hx)) ?_;split
  ·exact hl b (Ph ..)
  ·exact h
theorem bCt{s:Qg}(hr:bB s=OB)(hi:oS s):BI s.book:=by
 obtain⟨_,_,_,h4,_,h6⟩:=(cJ s).1 hr;obtain⟨_,hO,_⟩:=(eO _).1 h4;refine(aD5 s.posted [] s.book (λ_ h=>(by cases h)) rfl (λp hp=>?_) h6).2;obtain⟨i,df⟩:=QR hp;exact⟨(hO i p df).2.1,hi p hp⟩
theorem bIm{s:Qg}(hr:bB s=OB)(hi:oS s)(name:On OP):IR (aH5 s name):=by
 unfold aH5;split
 ·exact IR.why (e:=11) (by decide)
 ·exact⟨I64.small (n:=0) (by decide),rW _,bPb _ _ (bCt hr hi) (I64.small (by decide))⟩
theorem bPc{s:Qg}(hr:bB s=OB)(hi:oS s)(c:Cmd):IR (vB s c).2:=by
 have kw:∀(e:Int) (t:Qg),(0<=e/\e<=14)->IR (if e=0 then(t,why e) else(s,why e)).2:=by
  intro e t h;split<;>exact IR.why ⟨h.1,by omega⟩
 unfold vB;split
 ·exact kw _ _ (aD3 _ _ _)
 ·split
  ·exact kw _ _ (aIt _ _)
  ·split
   ·exact kw _ _ (aD4 _ _)
   ·split
    ·exact bCs hr hi c
    ·split
     ·exact aUo hr hi c
     ·split
      ·exact kw _ _ (aFy _ _)
      ·exact bIm hr hi _
theorem bCu{s:Qg}(hr:bB s=OB)(hq:RepI s)(c:Cmd):RepI (vB s c).1:=by
 intro x hx;rcases aSf s c with e | ⟨_,e1,e2⟩
 ·rw[e] at hx;exact hq x hx
 ·rw[e2] at hx;exact hq x ((aIv e1 ((cJ s).1 hr).2.2.1 x).1 hx).1
theorem aUp{s:Qg}(hq:RepI s):RepI (hJ s).1:=by
 unfold hJ;split
 ·exact hq
 ·split
  ·exact hq
  ·rename_i h1 h2;have h2:=PM.1 h2;intro x hx;have hx:x∈(oI s.sess s.next).1:=hx;unfold oI at h2 hx;split at h2
   ·simp at h2
   ·rename_i j1;split at h2
    ·simp at h2
    ·rename_i j2;split at h2
     ·simp at h2
     ·rename_i j3;rw[Oz j1,Oz j2,Oz j3] at hx;rcases(jZ _ _ _ _).1 hx with rfl | hx
      ·exact IR.zero
      ·exact hq x hx
theorem aPu{s:Qg}(hr:bB s=OB)(hi:oS s)(hq:RepI s)(c:Call):RepI (gL s c).1:=by
 unfold gL;rw[Oz (by rw[hr];simp)];split
 ·exact hq
 ·split
  ·exact aUp hq
  ·split
   ·exact hq
   ·split
    ·exact hq
    ·have hd:=bCu hr hq c.cmd;rcases aFz (vB s c.cmd) c with e | ⟨i,x,e1,_,_,e2⟩
     ·rw[e];exact hd
     ·rw[e2];intro y hy;rcases PN hy with hy | rfl
      ·exact hd y hy
      ·exact bPc hr hi c.cmd
theorem RepI.play:∀(l:On Call) (s:Qg) (r:On Rep),Beh s->RepI s->RepI (l.foldl sN (s,r)).1
 | [],s,r,h,q=>q
 | c::l,s,r,h,q=>RepI.play l _ _ (h.apply c) (aPu h.right h.ints q c)
theorem RepI.playM{s:Qg}(h:Beh s)(q:RepI s)(l:On Call):RepI (Go.Proofs.YtoaibmbldmckaaaGreat.playM s l).1:=RepI.play l s [] h q
theorem RepI.new:RepI Sg:=λx hx=>by cases hx
theorem bCv(n:Int)(h1:-9000000000<=n)(h2:n<=9000000000000):I64 n:=⟨by omega,by omega⟩
theorem aZz{s:Qg}(hr:bB s=OB)(hi:oS s)(hq:RepI s):aN4.ok (aPt s):=by
 obtain⟨h1,h2,h3,h4,h5,_⟩:=(cJ s).1 hr;obtain⟨t1,t2,_⟩:=(pW _).1 h1;obtain⟨s1,s2,_⟩:=(fN _).1 h2;obtain⟨e1,e2,_,e3,e4,e5⟩:=h3;obtain⟨h40,hO,_⟩:=(eO _).1 h4;have day:∀d:Vo,d.right=OB->mE.ok d:=λd hd=>by
  obtain⟨a,b,c,d1,e,f⟩:=(xU d).1 hd
  have:=(jP d.y d.m).2
  exact⟨bCv d.y (by omega) (by omega),bCv d.m (by omega) (by omega),bCv d.d (by omega) (by omega)⟩
 have txt:∀n:On OP,dV n=OB->txt.ok n:=λn hn=>by have:=xM hn;show n.length<=64;omega
 refine⟨⟨t1,λr mr=>?_⟩,⟨?_,?_⟩,⟨?_,?_⟩,⟨?_,?_⟩,⟨by show _<=s.next;omega,by show s.next<=_;omega⟩⟩
 ·obtain⟨a,b,c,d⟩:=xR (t2 r mr);exact⟨txt _ a,day _ b,bCv r.bp (by omega) (by omega)⟩
 ·show(s.ser.map aL1).length<=8;rw[ON];exact s1
 ·intro x hx;obtain⟨y,hy,rfl⟩:=Pv.1 hx;obtain⟨a,b⟩:=s2 y hy;unfold mL at b;simp only[RI,QY] at b;exact⟨txt _ a,⟨by show _<=y.limit;omega,by show y.limit<=_;omega⟩,trivial⟩
 ·show(s.posted.map wM).length<=40;rw[ON];exact h40
 ·intro x hx;obtain⟨y,hy,rfl⟩:=Pv.1 hx;obtain⟨i,df⟩:=QR hy;have nm:∀q∈s.posted,dV q.ref.ser=true:=λq jo=>by
   obtain⟨j,hj⟩:=QR jo;obtain⟨⟨z,hz,ez⟩,_⟩:=h5.num j q hj;rw[<-ez];exact(s2 z hz).1
  obtain⟨o1,o2,o3⟩:=hO i y df;obtain⟨p1,p2,p3,_,_⟩:=(iO _).1 o2;have pd:Go.Proofs.YtoaibmbldmckaaaGreat.txt.ok y.of.ser/\num.ok y.of.num:=by
   rcases o3 with e | ⟨a,_⟩
   ·rw[e];exact⟨PS _,⟨by show(_:Int)<=0;decide,by show(0:Int)<=_;decide⟩⟩
   ·rcases jU (λp:OT=>decide (p.ref=y.of)) (s.posted.take i) with e | ⟨j,q,e,hj,hp⟩
    ·have:aY (s.posted.take i) y.of=-1:=e
     omega
    ·have hm:q∈s.posted:=QP (OM hj);have e':=RH hp;rw[<-e'];exact⟨txt _ (nm q hm),(aIz hr hi hm).1⟩
  refine⟨txt _ (nm y hy),day _ o1,pd.1,pd.2,?_,?_⟩
  ·show(y.total.parts.map aD8).length<=12;rw[ON];exact p2
  ·intro z hz;obtain⟨w,hw,rfl⟩:=Pv.1 hz;have g:=p3 w hw;exact⟨txt _ g.name,⟨by show _<=w.bp;have:=g.lo;omega,by show w.bp<=_;have:=g.hi;omega⟩,(hi y hy w hw).1⟩
 ·show(s.sess.map aBf).length<=8;rw[ON];exact e1
 ·intro x hx;obtain⟨y,hy,rfl⟩:=Pv.1 hx;obtain⟨a,b,c,_⟩:=e2 y hy;have d:=e5 y hy;obtain⟨q1,q2,q3⟩:=hq y hy;exact⟨⟨by show _<=y.id;omega,by show y.id<=_;omega⟩,⟨by show _<=y.last;omega,by show y.last<=_;omega⟩,q1,q2,q3⟩
theorem aJ0{n:Nat}(h:n<=63):(numP (n:Int)).length=1:=by
 unfold numP
 have:zig (n:Int)<128:=by unfold zig;split<;>omega
 rw[nb_low this];rfl
theorem aN6{s:On OP}(h:s.length<=24):(txt.put s).length<=25:=by
 show(numP (s.length:Int)++s).length<=25;rw[OC,aJ0 (by omega)];omega
theorem jD{n:Int}(h:num.ok n):(num.put n).length<=10:=numP_len h
theorem aSi{d:Vo}(h:mE.ok d):(mE.put d).length<=30:=by
 obtain⟨a,b,c⟩:=h;show(num.put d.y++(num.put d.m++num.put d.d)).length<=30;rw[OC,OC];have h1:(num.put d.y).length<=10:=jD a;have h2:(num.put d.m).length<=10:=jD b;have h3:(num.put d.d).length<=10:=jD c;omega
theorem aN7{α:Type}(c:Cod α){n:Nat}:∀l:On α,(∀a∈l,(c.put a).length<=n)->(l.flatMap c.put).length<=l.length*n
 | [],_=>PS _
 | a::l,h=>by
  have h1:=aN7 c l λx hx=>h x (OY _ hx);have h2:=h a (Ph ..);rw[TK,OC,OQ,Nat.succ_mul];omega
theorem wN{α:Type}(c:Cod α){m:Nat}(hm:m<=1000000){n k:Nat}{l:On α}(h:∀a∈l,(c.put a).length<=n)(hl:l.length<=k)(hk:k<=63):((c.list m hm).put l).length<=1+k*n:=by
 show(numP (l.length:Int)++l.flatMap c.put).length<=_;rw[OC,aJ0 (by omega)]
 have:=aN7 c l h
 have:=Po n hl
 omega
theorem bCw{s:Qg}(hr:bB s=OB)(hi:oS s)(hq:RepI s):(sB s).length<=32768/\4<(sB s).length:=by
 obtain⟨h1,h2,h3,h4,h5,_⟩:=(cJ s).1 hr;obtain⟨t1,t2,_⟩:=(pW _).1 h1;obtain⟨s1,s2,_⟩:=(fN _).1 h2;obtain⟨e1,_⟩:=h3;obtain⟨h40,hO,_⟩:=(eO _).1 h4;obtain⟨⟨_,ok1⟩,⟨_,ok2⟩,⟨_,ok3⟩,⟨_,ok4⟩,ok5⟩:=aZz hr hi hq;have nm:∀q∈s.posted,dV q.ref.ser=true:=λq jo=>by
  obtain⟨j,hj⟩:=QR jo;obtain⟨⟨z,hz,ez⟩,_⟩:=h5.num j q hj;rw[<-ez];exact(s2 z hz).1
 have nl:∀{n:On OP},dV n=OB->(txt.put n).length<=25:=λh=>aN6 (xM h);have a1:((aBd.list 24 (by decide)).put s.table).length<=1+24*65:=wN aBd _ (λr mr=>by
  obtain⟨_,b,c⟩:=ok1 r mr;show(txt.put r.cat++(mE.put r.day++num.put r.bp)).length<=65;rw[OC,OC];have h1:=nl (xR (t2 r mr)).1;have h2:(mE.put r.day).length<=30:=aSi b;have h3:(num.put r.bp).length<=10:=jD c;omega) t1 (by decide)
 have a2:((aL0.list 8 (by decide)).put (s.ser.map aL1)).length<=1+8*45:=wN aL0 _ (λx hx=>by
  obtain⟨y,hy,rfl⟩:=Pv.1 hx;obtain⟨_,b,_⟩:=ok2 _ hx;show(txt.put y.name++(num.put y.limit++flag.put y.shut)).length<=45;rw[OC,OC];have h1:=nl (s2 y hy).1;have h2:(num.put y.limit).length<=10:=jD b;have h3:(flag.put y.shut).length<=10:=Len.flag _ trivial;omega) (by rw[ON];exact s1) (by decide)
 have a3:((aHa.list 40 (by decide)).put (s.posted.map wM)).length<=1+40*631:=wN aHa _ (λx hx=>by
  obtain⟨y,hy,rfl⟩:=Pv.1 hx;obtain⟨i,df⟩:=QR hy;obtain⟨_,b,_,d,⟨_,e⟩⟩:=ok3 _ hx;obtain⟨o1,o2,o3⟩:=hO i y df;obtain⟨p1,p2,p3,_,_⟩:=(iO _).1 o2;have pd:(txt.put y.of.ser).length<=25:=by
   rcases o3 with e | ⟨a,_⟩
   ·rw[e];exact aN6 (PS _)
   ·rcases jU (λp:OT=>decide (p.ref=y.of)) (s.posted.take i) with e | ⟨j,q,e,hj,hp⟩
    ·have:aY (s.posted.take i) y.of=-1:=e
     omega
    ·have hm:q∈s.posted:=QP (OM hj);rw[<-RH hp];exact nl (nm q hm)
  have Cy:((aD7.list 12 (by decide)).put (y.total.parts.map aD8)).length<=1+12*45:=wN aD7 _ (λz hz=>by
   obtain⟨w,hw,rfl⟩:=Pv.1 hz;obtain⟨_,f,g⟩:=e _ hz;show(txt.put w.cat++(num.put w.bp++num.put w.net)).length<=45;rw[OC,OC];have h1:=nl (p3 w hw).name;have h2:(num.put w.bp).length<=10:=jD f;have h3:(num.put w.net).length<=10:=jD g;omega) (by rw[ON];exact p2) (by decide)
  show(txt.put y.ref.ser++(mE.put y.day++(txt.put y.of.ser++(num.put y.of.num++(aD7.list 12 (by decide)).put (y.total.parts.map aD8))))).length<=631;rw[OC,OC,OC,OC];have h1:=nl (nm y hy);have h2:(mE.put y.day).length<=30:=aSi b;have h3:(num.put y.of.num).length<=10:=jD d;omega) (by rw[ON];exact h40) (by decide)
 have a4:((aBe.list 8 (by decide)).put (s.sess.map aBf)).length<=1+8*50:=wN aBe _ (λx hx=>by
  obtain⟨y,hy,rfl⟩:=Pv.1 hx;obtain⟨a,b,c,d,e⟩:=ok4 _ hx;show(num.put y.id++(num.put y.last++(num.put y.reply.why++(num.put y.reply.number++num.put y.reply.gross)))).length<=50;rw[OC,OC,OC,OC];have h1:(num.put y.id).length<=10:=jD a;have h2:(num.put y.last).length<=10:=jD b;have h3:(num.put y.reply.why).length<=10:=jD c;have h4:(num.put y.reply.number).length<=10:=jD d;have h5:(num.put y.reply.gross).length<=10:=jD e;omega) (by rw[ON];exact e1) (by decide)
 have a5:(num.put s.next).length<=10:=jD ok5;have e:sB s=(aBd.list 24 (by decide)).put s.table++((aL0.list 8 (by decide)).put (s.ser.map aL1)++((aHa.list 40 (by decide)).put (s.posted.map wM)++((aBe.list 8 (by decide)).put (s.sess.map aBf)++num.put s.next))):=by
  unfold sB;rw[hr,Oz (by decide)];rfl
 have b1:=(aBd.list 24 (by decide)).pos s.table;have b2:=(aL0.list 8 (by decide)).pos (s.ser.map aL1);have b3:=(aHa.list 40 (by decide)).pos (s.posted.map wM);have b4:=(aBe.list 8 (by decide)).pos (s.sess.map aBf);have b5:=num.pos s.next;rw[e];simp only[OC];omega
end Go.Proofs.YtoaibmbldmckaaaGreat
end
section
namespace Go.Proofs.YtoaibmbldmckaaaGreat
open Go.AM Tryz
def aJ1(q p:OT):Bool:=if(bI q.total).2≠0 then OA else if q.of≠Qr then OA else if p.day.days<q.day.days then OA else
 decide ((bI q.total).1.net=p.total.net)&&(decide ((bI q.total).1.tax=p.total.tax)&&decide ((bI q.total).1.parts=p.total.parts))
def rJ(p:OT):On OT->Ps
 | []=>OA
 | q::l=>if q.ref=p.of then aJ1 q p else rJ p l
def lZ(l:On OT)(r:Ref):Nat:=(l.filter λq=>decide (q.of=r)).length
def sV(l:On OT)(i:Nat)(p:OT):Bool:=
 if 1<lZ (l.drop (i+1)) p.ref then OA else if p.back≠decide (lZ (l.drop (i+1)) p.ref=1) then OA else if p.of=Qr then OB else if p.back=OB then OA else rJ p (l.take i)
theorem wP(q:OT)(l:On OT)(r:Ref):lZ (q::l) r=(if q.of=r then 1 else 0)+lZ l r:=by
 unfold lZ;rw[UQ];by_cases c:q.of=r
 ·rw[OE (by simpa using c),OE c,OQ];omega
 ·rw[Oz (by simpa using c),Oz c];omega
theorem aD9{t:Up}(h:cN t=OB):t.gross=(cI [t.net,t.tax]).1:=by
 obtain⟨_,_,_,_,hs⟩:=(iO t).1 h;unfold kF at hs
 repeat' split at hs
 all_goals first | cases hs;done | skip
 exact(RH hs).symm
theorem bA0{q p:OT}(h1:cN q.total=OB)(h2:cN p.total=OB)(hi:∀x∈q.total.parts,I64 x.net/\I64 x.tax)(d1:q.day.right=OB)(d2:p.day.right=OB):aJ1 q p=lX p q:=by
 unfold aJ1 lX;have hb:p.day.before q.day=decide (p.day.days<q.day.days):=by unfold VS;rw[d1,d2];rfl
 rw[hb];by_cases c2:q.of=Qr
 ·by_cases c1:(bI q.total).2=0
  ·rw[Oz (by simp[c1]),Oz (by simp[c2]),OE c2];by_cases c3:p.day.days<q.day.days
   ·rw[OE c3,Oz (by simp[c3])]
   ·rw[Oz c3,OE (by simp[c3]),OE c1];obtain⟨b1,_,_⟩:=aFs hi h1 c1;have e1:=aD9 b1;have e2:=aD9 h2;rw[So];simp only[OU,PB];constructor
    ·rintro⟨a,b,c⟩;generalize (bI q.total).1=t at *
     generalize p.total=r at *
     obtain⟨tn,tx,tg,tp⟩:=t;obtain⟨rn,rx,rg,rp⟩:=r;simp only at a b c e1 e2;subst a b c;rw[e1,e2]
    ·intro e;rw[e];exact⟨rfl,rfl,rfl⟩
  ·rw[OE c1,OE c2,Oz c1];split<;>rfl
 ·rw[Oz c2];split<;>rfl
theorem aJ2{α:Type}(p:α->Ps):∀(l:On α) (n:Nat),aD (dB p) (λ_=>-1) l (n+1)=if aD (dB p) (λ_=>-1) l n<0 then -1 else aD (dB p) (λ_=>-1) l n+1
 | [],n=>by simp[aD]
 | a::l,n=>by
  cases c:p a with
  | true=>
   simp only[aD,dB,c,Oy];rw[Oz (by omega)];omega
  | false=>
   simp only[aD,dB,c,OO,Ou];exact aJ2 p l (n+1)
theorem bA1{α:Type}(p:α->Ps)(a:α)(l:On α):ixM p (a::l)=if p a=OB then 0 else if ixM p l<0 then -1 else ixM p l+1:=by
 unfold ixM;cases c:p a with
 | true=>simp only[aD,dB,c,Oy];rfl
 | false=>simp only[aD,dB,c,OO,Ou];exact aJ2 p l 0
theorem aJ3(p:OT):∀l:On OT,rJ p l=OB↔0<=aY l p.of/\aJ1 (l.getD (aY l p.of).toNat aMv) p=OB
 | []=>by
  simp only[rJ];exact⟨λh=>(by cases h),λh=>by have h1:(0:Int)<=-1:=h.1;omega⟩
 | q::l=>by
  have e:aY (q::l) p.of=if q.ref=p.of then 0 else if aY l p.of<0 then -1 else aY l p.of+1:=by
   have:=bA1 (λx:OT=>decide (x.ref=p.of)) q l
   simp only[PB] at this;exact this
  simp only[rJ];rw[e];by_cases c:q.ref=p.of
  ·rw[OE c,OE c];simp
  ·rw[Oz c,Oz c,aJ3 p l];by_cases c2:aY l p.of<0
   ·rw[OE c2];exact⟨λh=>absurd h.1 (by omega),λh=>by have:=h.1;omega⟩
   ·rw[Oz c2]
    have:(aY l p.of+1).toNat=(aY l p.of).toNat+1:=by omega
    rw[this,List.getD_cons_succ];exact⟨λh=>⟨by omega,h.2⟩,λh=>⟨by omega,h.2⟩⟩
theorem zY{l:On OT}{r:Ref}(h:0<=aY l r):∃(k:Nat) (q:OT),aY l r=(k:Int)/\l[k]?=Ot q/\q.ref=r:=by
 rcases jU (λp:OT=>decide (p.ref=r)) l with e | ⟨i,q,e,hi,hp⟩
 ·have:aY l r=-1:=e
  omega
 ·exact⟨i,q,e,hi,RH hp⟩
theorem aSj{ser:On Ser}{l:On OT}(hn:Nums ser l){p:OT}(hp:p∈l):p.ref≠Qr:=λe=>by
 have:=aSd hn hp
 rw[e] at this
 have:(1:Int)<=0:=this
 omega
theorem aG6(a b:On OT)(r:Ref):lZ (a++b) r=lZ a r+lZ b r:=by unfold lZ;rw[XA,OC]
theorem uL{ser:On Ser}{l:On OT}(hn:Nums ser l)(h40:l.length<=40)(hO:∀i q,l[i]?=Ot q->qJ (l.take i) q):∀n,n<=l.length->∀i p,i<n->l[i]?=Ot p->(eA (l.take n)).getD i 0=(lZ ((l.take n).drop (i+1)) p.ref:Int)
 | 0,_,i,p,h,_=>absurd h (Nat.not_lt_zero _)
 | n+1,hl,i,p,hi,hp=>by
  have hx:l[n]?=Ot l[n]:=OF (by omega);obtain⟨x,hxe⟩:∃x,x=l[n]:=⟨_,rfl⟩;rw[<-hxe] at hx;have ht:l.take (n+1)=l.take n++[x]:=by rw[List.take_add_one,hx];rfl
  have hOn:∀j q,(l.take n)[j]?=Ot q->qJ ((l.take n).take j) q:=λj q hq=>by
   have hj:=(Oq.1 hq).1;rw[PY] at hj;rw[Qp,OE (by omega)] at hq;rw[Yl,WR (by omega)];exact hO j q hq
  obtain⟨r1,r2,r3⟩:=uH hOn;have hlen:(l.take n).length=n:=by rw[PY];omega
  have du:=aSj hn (OM hp);have Aw:i<n->(l.take n++[x]).drop (i+1)=(l.take n).drop (i+1)++[x]:=λh=>by rw[List.drop_append_of_le_length (by omega)]
  rw[ht,rZ];unfold fT;by_cases c:x.of=Qr
  ·rw[OE c];rcases WM.1 hi with h | rfl
   ·rw[uL hn h40 hO n (by omega) i p h hp,Aw h,aG6,wP,Oz (by rw[c];exactλe=>du e.symm)];rfl
   ·rw[r2 i (by omega),WU (by rw[OC,hlen];exact Ov _)];rfl
  ·rw[Oz c];obtain⟨_,_,o⟩:=hO n x hx;rcases o with o | ⟨o,_⟩
   ·exact absurd o c
   ·obtain⟨k,q,e,hk,hq⟩:=zY o;have xg:=(Oq.1 hk).1;rw[hlen] at xg;have dl:l[k]?=Ot q:=by rw[Qp,OE xg] at hk;exact hk
    rw[e,Pn];unfold bump;simp only[Pl,Qi];rcases WM.1 hi with h | rfl
    ·have ih:=uL hn h40 hO n (by omega) i p h hp;simp only[Pl] at ih;rw[Aw h,aG6,wP];by_cases e2:k=i
     ·subst e2;rw[hp] at dl;cases dl;rw[OE rfl,OE (by omega),OE hq.symm,Option.getD_some,ih];show _+1=((_+(1+0):Nat):Int);omega
     ·have ah:¬x.of=p.ref:=λe3=>e2 (aFv hn dl hp (hq.trans e3));rw[Oz e2,Oz ah,ih];rfl
    ·rw[Oz (by omega),<-Pl,r2 i (by omega),WU (by rw[OC,hlen];exact Ov _)];rfl
theorem aN8{ser:On Ser}{l:On OT}(hn:Nums ser l)(h40:l.length<=40)(hd:∀p∈l,p.day.right=OB/\cN p.total=OB)(hi:∀p∈l,∀q∈p.total.parts,I64 q.net/\I64 q.tax):
  (∀i p,l[i]?=Ot p->sV l i p=OB)↔(∀i p,l[i]?=Ot p->qJ (l.take i) p)/\∀i p,l[i]?=Ot p->(eA l).getD i 0<=1/\p.back=decide ((eA l).getD i 0=1):=by
 have take_ok:∀i p,l[i]?=Ot p->p.of≠Qr->(rJ p (l.take i)=OB↔0<=aY (l.take i) p.of/\lX p ((l.take i).getD (aY (l.take i) p.of).toNat aMv)=OB):=by
  intro i p hp pd;rw[aJ3];by_cases c:0<=aY (l.take i) p.of
  ·obtain⟨k,q,e,hk,hq⟩:=zY c;have Io:q∈l:=QP (OM hk)
   have:(l.take i).getD (aY (l.take i) p.of).toNat aMv=q:=by rw[e,Pn,Pl,hk];rfl
   have rk:=OM hp;rw[this,bA0 (hd q Io).2 (hd p rk).2 (hi q Io) (hd q Io).1 (hd p rk).1]
  ·exact⟨λh=>absurd h.1 c,λh=>absurd h.1 c⟩
 have all:∀i p,l[i]?=Ot p->(∀i q,l[i]?=Ot q->qJ (l.take i) q)->(eA l).getD i 0=(lZ (l.drop (i+1)) p.ref:Int):=by
  intro i p hp hO;have ag:=(Oq.1 hp).1
  have:=uL hn h40 hO l.length (Ov _) i p ag hp
  rwa [VL] at this
 constructor
 ·intro h;have hO:∀i p,l[i]?=Ot p->qJ (l.take i) p:=by
   intro i p hp;have rk:=OM hp;refine⟨(hd p rk).1,(hd p rk).2,?_⟩;by_cases c:p.of=Qr
   ·exact .inl c
   ·have hc:=h i p hp;unfold sV at hc
    repeat' split at hc
    all_goals first | (cases hc;done) | skip
    all_goals first | exact absurd (by assumption) c | exact .inr ((take_ok i p hp c).1 hc)
  refine⟨hO,λi p hp=>?_⟩;have hc:=h i p hp;have e:=all i p hp hO;unfold sV at hc;split at hc
  ·cases hc
  ·rename_i h1;split at hc
   ·cases hc
   ·rename_i h2;have h2:=PM.1 h2;rw[e];refine⟨by omega,?_⟩;rw[h2,So];simp only[PB];omega
 ·rintro⟨hO,hc⟩ i p hp;have e:=all i p hp hO;obtain⟨c1,c2⟩:=hc i p hp;rw[e] at c1 c2;unfold sV;have uu:p.back=decide (lZ (l.drop (i+1)) p.ref=1):=by
   rw[c2,So];simp only[PB];omega
  rw[Oz (by omega),Oz (by rw[<-uu];simp)];split
  ·rfl
  ·rename_i pd;have vf:¬p.back=true:=by
    intro hb;rw[hb] at uu;have h1:=RH uu.symm;obtain⟨x,hx⟩:∃x,x∈(l.drop (i+1)).filter λq=>decide (q.of=p.ref):=by
     unfold lZ at h1;cases hf:(l.drop (i+1)).filter λq=>decide (q.of=p.ref) with
     | nil=>rw[hf] at h1;cases h1
     | cons a b=>exact⟨a,Ph ..⟩
    obtain⟨ve,xa⟩:=List.mem_filter.1 hx;have xa:=RH xa;obtain⟨j,hj⟩:=QR ve;rw[PP] at hj;obtain⟨_,_,o⟩:=hO _ x hj;rcases o with o | ⟨o1,o2⟩
    ·rw[xa] at o;exact aSj hn (OM hp) o
    ·obtain⟨k,q,e,hk,hq⟩:=zY o1;have dl:l[k]?=Ot q:=by
      have:=(Oq.1 hk).1
      rw[PY] at this;rw[Qp,OE (by omega)] at hk;exact hk
     have:k=i:=aFv hn dl hp (hq.trans xa)
     subst this;rw[hp] at dl;cases dl;rw[e,Pn,Pl,hk] at o2;unfold lX at o2;split at o2
     ·rename_i hz;exact pd hz
     ·cases o2
   rw[Oz vf];rcases(hO i p hp).2.2 with o | o
   ·exact absurd o pd
   ·exact(take_ok i p hp pd).2 o
structure RD where
 done:On OT
 taken:On Int
 book:On Bal
def uQ(s:Qg)(st:RD)(p:OT):Ps⊕RD:=
 if cD s.ser p.ref.ser<0 then .inl OA else if p.ref.num≠wr J (st.taken.getD (cD s.ser p.ref.ser).toNat 0+1) then .inl OA else
  if p.day.right=OA then .inl OA else if cN p.total=OA then .inl OA else if sV s.posted st.done.length p=OA then .inl OA else
   if(bQ p.total).2≠0 then .inl OA else if(aV st.book (bQ p.total).1).2≠0 then .inl OA else
    .inr ⟨st.done++[p],st.taken.set (cD s.ser p.ref.ser).toNat (wr J (st.taken.getD (cD s.ser p.ref.ser).toNat 0+1)),(aV st.book (bQ p.total).1).1⟩
def iJ(is:On Int)(x:Ser):Ps⊕On Int:=if is.headD 0=wr J (x.next - 1) then .inr is.tail else .inl OA
def aN9(s:Qg)(st:RD):Bool:=aD iJ (λ_=>OB) s.ser st.taken&&decide (st.book=s.book)
def aG7(s:Qg):Bool:=
 if fL s.table=OA then OA else if mM s.ser=OA then OA else if gD s.sess=OA then OA else if 40<s.posted.length then OA else
  if s.next<1 then OA else if 1099511627776<s.next then OA else if tZ s.sess s.next=OA then OA else
   aD (uQ s) (aN9 s) s.posted ⟨[],PT s.ser.length 0,[]⟩
def gF(ser:On Ser)(l:On OT):On Int:=ser.map (λx=>cnt l x.name)
theorem aNa{ser:On Ser}(hs:ser.Pairwise (λa b=>iL a.name b.name=OB)){l:On OT}{p:OT}{i:Nat}{x:Ser}(h:ser[i]?=Ot x)(hn:x.name=p.ref.ser):(gF ser l).set i (cnt l p.ref.ser+1)=gF ser (l++[p]):=by
 apply RN;intro j;unfold gF;rw[Qi];by_cases e:i=j
 ·subst e;rw[OE rfl,OE (by rw[ON];exact(Oq.1 h).1),Pc,h,Rv,jQ,uG,OE hn.symm,hn]
 ·rw[Oz e,Pc,Pc];cases hj:ser[j]? with
  | none=>rfl
  | some y=>
   have ah:¬p.ref.ser=y.name:=by
    rw[<-hn];intro e';have h1:=sP hs h;have h2:=sP hs hj;rw[e'] at h1;omega
   rw[Rv,Rv,jQ,uG,Oz ah,Tx]
theorem bA2:∀(ser:On Ser) (is:On Int),aD iJ (λ_=>OB) ser is=OB↔∀i x,ser[i]?=Ot x->is.getD i 0=wr J (x.next - 1)
 | [],is=>by simp[aD]
 | s::l,is=>by
  have hh:is.headD 0=is.getD 0 0:=by cases is<;>rfl
  have ht:∀j,is.tail.getD j 0=is.getD (j+1) 0:=λj=>by cases is<;>simp
  by_cases c:is.getD 0 0=wr J (s.next - 1)
  ·have e:iJ is s=.inr is.tail:=by unfold iJ;rw[hh,OE c]
   simp only[aD,e];rw[bA2 l is.tail];constructor
   ·intro h i x hx;cases i with
    | zero=>cases hx;exact c
    | succ i=>have:=h i x hx;rwa [ht] at this
   ·intro h i x hx
    have:=h (i+1) x hx
    rwa [ht]
  ·have e:iJ is s=.inl false:=by unfold iJ;rw[hh,Oz c]
   simp only[aD,e];constructor
   ·intro h;cases h
   ·intro h;exact absurd (h 0 s rfl) c
def bCx(s:Qg)(done:On OT)(i:Nat)(p:OT):Prop:=(∃x∈s.ser,x.name=p.ref.ser)/\p.ref.num=cnt done p.ref.ser+1/\p.day.right=OB/\cN p.total=OB/\sV s.posted i p=OB
theorem rL{s:Qg}(hs:s.ser.Pairwise (λa b=>iL a.name b.name=OB))(h40:s.posted.length<=40):∀(l done:On OT) (book:On Bal),s.posted=done++l->
  (aD (uQ s) (aN9 s) l ⟨done,gF s.ser done,book⟩=OB↔(∀i p,l[i]?=Ot p->bCx s (done++l.take i) (done.length+i) p)/\(∀x∈s.ser,cnt s.posted x.name=wr J (x.next - 1))/\aD aP (λb=>(b,0)) l book=(s.book,0))
 | [],done,book,e=>by
  rw[OS] at e;subst e;simp only[aD,aN9,OU,PB,bA2];constructor
  ·rintro⟨h1,h2⟩;refine⟨λi p h=>(by cases h),λx hx=>?_,by rw[h2]⟩;obtain⟨i,hi⟩:=QR hx
   have:=h1 i x hi
   unfold gF at this;rw[Pl,Pc,hi] at this;exact this
  ·rintro⟨_,h1,h2⟩;refine⟨λi x hi=>?_,Qo Prod.fst h2⟩;unfold gF;rw[Pl,Pc,hi];exact h1 x (OM hi)
 | p::l,done,book,e=>by
  have hlen:done.length<40:=by have:=Qo TN e;simp at this;omega
  have hc:=aKz done p.ref.ser;have h0:=pX done p.ref.ser;have e':s.posted=(done++[p])++l:=by rw[e,Pd];rfl
  by_cases k0:cD s.ser p.ref.ser<0
  ·have e1:uQ s ⟨done,gF s.ser done,book⟩ p=.inl false:=by unfold uQ;rw[OE k0]
   simp only[aD,e1];refine⟨λh=>(by cases h),λh=>?_⟩;obtain⟨⟨x,hx,hn⟩,_⟩:=h.1 0 p rfl;exact absurd hn (zV k0 x hx)
  ·rcases jU (λx:Ser=>x.name == p.ref.ser) s.ser with e1 | ⟨i,x,e1,hi,hx⟩
   ·exact absurd (show cD s.ser p.ref.ser<0 by unfold cD;rw[e1];decide) k0
   ·have e1:cD s.ser p.ref.ser=(i:Int):=e1;have hx:x.name=p.ref.ser:=by simpa using hx
    have bg:(gF s.ser done).getD i 0=cnt done p.ref.ser:=by
     unfold gF;rw[Pl,Pc,hi,Rv,hx];rfl
    have hw:wr J (cnt done p.ref.ser+1)=cnt done p.ref.ser+1:=eZ ⟨by omega,by omega⟩;have fp:uQ s ⟨done,gF s.ser done,book⟩ p=if p.ref.num≠cnt done p.ref.ser+1 then .inl OA else
      if p.day.right=OA then .inl OA else if cN p.total=OA then .inl OA else if sV s.posted done.length p=OA then .inl OA else
      if(bQ p.total).2≠0 then .inl OA else if(aV book (bQ p.total).1).2≠0 then .inl OA else .inr ⟨done++[p],gF s.ser (done++[p]),(aV book (bQ p.total).1).1⟩:=by
     unfold uQ;rw[Oz k0];simp only[e1,Pn,bg,hw,aNa hs hi hx]
    have bad:∀b:Ps⊕RD,b=.inl OA->uQ s ⟨done,gF s.ser done,book⟩ p=b->¬(bCx s done done.length p/\(bQ p.total).2=0/\(aV book (bQ p.total).1).2=0)->(aD (uQ s) (aN9 s) (p::l) ⟨done,gF s.ser done,book⟩=OB↔(∀i q,(p::l)[i]?=Ot q->bCx s (done++(p::l).take i) (done.length+i) q)/\(∀x∈s.ser,cnt s.posted x.name=wr J (x.next - 1))/\aD aP (λb=>(b,0)) (p::l) book=(s.book,0)):=by
     intro b hb h1 h2;subst hb;simp only[aD,h1];refine⟨λh=>(by cases h),λh=>?_⟩;exfalso;have g:=h.1 0 p rfl;rw[Uk,OS,Nat.add_zero] at g;refine h2 ⟨g,?_⟩;have hb:=h.2.2;simp only[aP] at hb;by_cases c:(bQ p.total).2=0
     ·refine⟨c,?_⟩;by_cases c2:(aV book (bQ p.total).1).2=0
      ·exact c2
      ·rw[Oz (by simp[c]),OE c2] at hb;exact absurd (Qo Xi hb) c2
     ·rw[OE c] at hb;exact absurd (Qo Xi hb) c
    by_cases c1:p.ref.num=cnt done p.ref.ser+1;rotate_left
    ·exact bad _ rfl (by rw[fp,OE c1]) λh=>c1 h.1.2.1
    by_cases c2:p.day.right=OB;rotate_left
    ·exact bad _ rfl (by rw[fp,Oz (by simp[c1]),OE (by simpa using c2)]) λh=>c2 h.1.2.2.1
    by_cases c3:cN p.total=OB;rotate_left
    ·exact bad _ rfl (by rw[fp,Oz (by simp[c1]),Oz (by simp[c2]),OE (by simpa using c3)]) λh=>c3 h.1.2.2.2.1
    by_cases c4:sV s.posted done.length p=OB;rotate_left
    ·exact bad _ rfl (by rw[fp,Oz (by simp[c1]),Oz (by simp[c2]),Oz (by simp[c3]),OE (by simpa using c4)]) λh=>c4 h.1.2.2.2.2
    by_cases c5:(bQ p.total).2=0;rotate_left
    ·exact bad _ rfl (by rw[fp,Oz (by simp[c1]),Oz (by simp[c2]),Oz (by simp[c3]),Oz (by simp[c4]),OE c5]) λh=>c5 h.2.1
    by_cases c6:(aV book (bQ p.total).1).2=0;rotate_left
    ·exact bad _ rfl (by rw[fp,Oz (by simp[c1]),Oz (by simp[c2]),Oz (by simp[c3]),Oz (by simp[c4]),Oz (by simp[c5]),OE c6]) λh=>c6 h.2.2
    have Ey:uQ s ⟨done,gF s.ser done,book⟩ p=.inr ⟨done++[p],gF s.ser (done++[p]),(aV book (bQ p.total).1).1⟩:=by
     rw[fp,Oz (by simp[c1]),Oz (by simp[c2]),Oz (by simp[c3]),Oz (by simp[c4]),Oz (by simp[c5]),Oz (by simp[c6])]
    have BB:aP book p=.inr (aV book (bQ p.total).1).1:=by unfold aP;rw[Oz (by simp[c5]),Oz (by simp[c6])]
    have one:bCx s done done.length p:=⟨⟨x,OM hi,hx⟩,c1,c2,c3,c4⟩;simp only[aD,Ey,BB];rw[rL hs h40 l (done++[p]) _ e'];constructor
    ·rintro⟨h1,h2⟩;refine⟨λi q hq=>?_,h2⟩;cases i with
     | zero=>cases hq;rw[Uk,OS];exact one
     | succ i=>
      have:=h1 i q hq
      rw[Pd,OC] at this;rw[Vi];have e2:done.length+(i+1)=done.length+[p].length+i:=by simp;omega
      rw[e2];exact this
    ·rintro⟨h1,h2⟩;refine⟨λi q hq=>?_,h2⟩
     have:=h1 (i+1) q hq
     rw[Vi] at this;rw[Pd,OC];have e2:done.length+(i+1)=done.length+[p].length+i:=by simp;omega
     rw[<-e2];exact this
theorem aJ4{s:Qg}(hi:oS s)(hn:∀x∈s.ser,I64 x.next):aG7 s=bB s:=by
 rw[So,cJ];unfold aG7;by_cases c1:fL s.table=OB;rotate_left
 ·rw[OE (by simpa using c1)];exact⟨λh=>(by cases h),λh=>absurd h.1 c1⟩
 rw[Oz (by simp[c1])];by_cases c2:mM s.ser=OB;rotate_left
 ·rw[OE (by simpa using c2)];exact⟨λh=>(by cases h),λh=>absurd h.2.1 c2⟩
 rw[Oz (by simp[c2])];have hs:=((fN _).1 c2).2.2;have cd:=((fN _).1 c2).1;have hsb:=((fN _).1 c2).2.1;have qg:jX s=OB↔sA s.sess s.next:=yK s;unfold jX at qg;by_cases c3:gD s.sess=OB;rotate_left
 ·rw[OE (by simpa using c3)];rw[Oz c3] at qg;exact⟨λh=>(by cases h),λh=>by have:=qg.2 h.2.2.1;cases this⟩
 rw[Oz (by simp[c3])];rw[OE c3] at qg;by_cases c4:s.posted.length<=40;rotate_left
 ·rw[OE (by omega)];exact⟨λh=>(by cases h),λh=>absurd ((eO _).1 h.2.2.2.1).1 c4⟩
 rw[Oz (by omega)];by_cases c5:1<=s.next;rotate_left
 ·rw[OE (by omega)];rw[Oz c5] at qg;exact⟨λh=>(by cases h),λh=>by have:=qg.2 h.2.2.1;cases this⟩
 rw[Oz (by omega)];rw[OE c5] at qg;by_cases c6:s.next<=1099511627776;rotate_left
 ·rw[OE (by omega)];rw[Oz c6] at qg;exact⟨λh=>(by cases h),λh=>by have:=qg.2 h.2.2.1;cases this⟩
 rw[Oz (by omega)];rw[OE c6] at qg;by_cases c7:tZ s.sess s.next=OB;rotate_left
 ·rw[OE (by simpa using c7)];exact⟨λh=>(by cases h),λh=>absurd (qg.2 h.2.2.1) c7⟩
 rw[Oz (by simp[c7])];have ht:PT s.ser.length (0:Int)=gF s.ser []:=by
  unfold gF;apply RN;intro j;rw[Sz,Pc];split
  ·rename_i h;rw[OF h];rfl
  ·rename_i h;rw[Re (by omega)];rfl
 rw[ht,rL hs c4 s.posted [] [] rfl];have kh:(∀x∈s.ser,cnt s.posted x.name=wr J (x.next - 1))↔∀x∈s.ser,x.next=cnt s.posted x.name+1:=by
  constructor
  ·intro h x hx
   have:=h x hx
   obtain⟨_,b⟩:=hsb x hx;unfold mL at b;simp only[RI,QY] at b
   have:=hn x hx
   rw[eZ ⟨by have:=this.1;omega,by have:=this.2;omega⟩] at *
   omega
  ·intro h x hx;have e:=h x hx;have h1:=aKz s.posted x.name;have h2:=pX s.posted x.name;rw[eZ ⟨by omega,by omega⟩];omega
 rw[kh];simp only[Pp,Pf,Px];constructor
 ·rintro⟨h1,h2,h3⟩;have Ez:Nums s.ser s.posted:=⟨λi p hp=>⟨(h1 i p hp).1,(h1 i p hp).2.1⟩,h2⟩;have hd:∀p∈s.posted,p.day.right=OB/\cN p.total=true:=λp hp=>by
   obtain⟨i,df⟩:=QR hp;exact⟨(h1 i p df).2.2.1,(h1 i p df).2.2.2.1⟩
  have hc:=(aN8 Ez c4 hd hi).1 λi p hp=>(h1 i p hp).2.2.2.2;exact⟨c1,c2,qg.1 c7,(eO _).2 ⟨c4,hc⟩,Ez,h3⟩
 ·rintro⟨_,_,_,h4,h5,h6⟩;obtain⟨_,hO,hb⟩:=(eO _).1 h4;have hd:∀p∈s.posted,p.day.right=OB/\cN p.total=true:=λp hp=>by
   obtain⟨i,df⟩:=QR hp;exact⟨(hO i p df).1,(hO i p df).2.1⟩
  have hc:=(aN8 h5 c4 hd hi).2 ⟨hO,hb⟩;refine⟨λi p hp=>⟨(h5.num i p hp).1,(h5.num i p hp).2,(hO i p hp).1,(hO i p hp).2.1,hc i p hp⟩,λx hx=>?_,h6⟩;exact h5.next x hx
def aE9(a b:Tn):Bool:=if a.cat=b.cat then decide (a.day.days<b.day.days) else iL a.cat b.cat
theorem aPv{a b:Tn}(ha:a.day.right=OB)(hb:b.day.right=OB):aE9 a b=fW a b:=by
 unfold aE9 fW VS;by_cases c:a.cat=b.cat
 ·rw[OE c,c,zP,Oz (by simp),OE (by simp),ha,hb];rfl
 ·rw[Oz c];cases iL a.cat b.cat<;>simp[c]
theorem bVh(a b:Tn)(S:St)(K:KW):C 194 [.agg [.str a.cat,O J a.day.y,O J a.day.m,O J a.day.d,O J a.bp],.agg [.str b.cat,O J b.day.y,O J b.day.m,O J b.day.d,O J b.bp]] S K=K (.bool (aE9 a b)) S:=by
 refine(bS6 rfl ?_).eq S K;delta Tryz.f194;simp only[↓cw,↓Oo,Om,kk,eY,gm,bNz,aE9];by_cases c:a.cat=b.cat
 ·simp only[↓cw,↓Oo,Om,c,BEq.rfl,kk,Oy,Ou,oo]
 ·have c':¬(a.cat == b.cat)=true:=by simpa using c
  simp only[↓cw,↓Oo,Om,c,c',kk,Oy,Ou,oo]
theorem bVi(l:On Tn)(S:St)(K:KW):C 114 [.imm (l.map Qk)] S K=K (.bool (fL l)) S:=by
 refine(bR3 rfl ?_).eq S K;delta Tryz.f114;simp only[↓cw,↓Oo,Om,kk,fL];by_cases h:24<l.length
 ·simp only[↓cw,↓Oo,Om,h,show(24:Int)<(l.length:Int) by omega,kk,Oy,oo]
 have h':¬(24:Int)<(l.length:Int):=by omega
 simp only[↓cw,↓Oo,Om,h,h',kk,Ou];refine aG l (step:=iD) (fin:=λ_=>OB) (λi s vs S=>s=cO l i/\vs=[.bool OA,O J (i:Int)]/\∀p,s=Ot p->p.day.right=OB) (λr=>r=aD iD (λ_=>OB) l OG) ?_ ?_ ⟨rfl,rfl,λp h=>(by cases h)⟩ rfl
 ·rintro i r s vs S hi ⟨rfl,rfl,hr⟩ aE H;have ai:=(Oq.1 hi).1;have hn:cO l (i+1)=Ot r:=by simpa[cO] using hi
  simp only[hn] at H;simp only[↓cw,↓Oo,Om,kk,bG hi,pV hi,Qk,bU9,gM (show i<1000000000 by omega),iD] at H|-
  by_cases c:uX r=0
  ·have EA:=(xR c).2.1;simp only[↓cw,↓Oo,Om,c,kk,SI,OK,Ou] at H|-
   cases i with
   | zero=>
    simp only[↓cw,↓Oo,Om,cO,Oy,Wz,OZ,kk,Ou] at H|-
    exact H _ _ ⟨rfl,λp h=>by cases h;exact EA⟩
   | succ j=>
    have hj:l[j]?=Ot l[j]:=OF (by omega);have hp:cO l (j+1)=Ot l[j]:=by simp[cO,hj]
    have hb:=aPv (hr _ hp) EA;simp only[↓cw,↓Oo,Om,hp,gt0,kk,wrm (show j+1<1000000000 by omega),pV hj,Qk,bVh,hb,Oy] at H|-
    cases ha:fW l[j] r<;>simp only[↓cw,↓Oo,Om,ha,kk,Rs,QL,Oy,Ou,OO,oo] at H|-
    ·rw[<-H]
    ·exact H _ _ ⟨rfl,λp h=>by cases h;exact EA⟩
  ·simp only[↓cw,↓Oo,Om,c,SI,OL,Oy,kk,oo] at H|-
   rw[<-H]
 ·rintro s vs S ⟨rfl,rfl,hr⟩ aE H;have H:OB=_:=H;simp only[↓cw,↓Oo,Om,kk,OZ,Ou,oo,<-H]
theorem bVj(l:On Ser)(S:St)(K:KW):C 115 [.imm (l.map PZ)] S K=K (.bool (mM l)) S:=by
 refine(bR4 rfl ?_).eq S K;delta Tryz.f115;simp only[↓cw,↓Oo,Om,kk,mM];by_cases h:8<l.length
 ·simp only[↓cw,↓Oo,Om,h,show(8:Int)<(l.length:Int) by omega,kk,Oy,oo]
 have h':¬(8:Int)<(l.length:Int):=by omega
 simp only[↓cw,↓Oo,Om,h,h',kk,Ou];refine aG l (step:=lU) (fin:=λ_=>OB) (λi s vs S=>s=cO l i/\vs=[.bool OA,O J (i:Int)]) (λr=>V.bool r=.bool (aD lU (λ_=>OB) l OG)) ?_ ?_ ⟨rfl,rfl⟩ rfl
 ·rintro i r s vs S hi ⟨rfl,rfl⟩ aE H;have ai:=(Oq.1 hi).1;have hn:cO l (i+1)=Ot r:=by simpa[cO] using hi
  simp only[hn,lU] at H;simp only[↓cw,↓Oo,Om,kk,bG hi,nO hi,PZ,bId,gm,gM (show i<1000000000 by omega),oo];cases uv:dV r.name
  ·simp[uv] at H|-;exact H
  ·simp only[↓cw,↓Oo,Om,uv,kk,Pq,Ou] at H|-
   cases i with
   | zero=>
    simp only[↓cw,↓Oo,Om,cO,nL,kk,OO,Ou,Oy,mL,Ra,PB] at H|-
    simp only[↓cw,↓Oo,Om,Wz,OZ,kk,Ou]
    grind
   | succ j=>
    have hj:l[j]?=Ot l[j]:=OF (by omega);have hp:cO l (j+1)=Ot l[j]:=by simp[cO,hj]
    simp only[↓cw,↓Oo,Om,hp,gt0,kk,wrm (show j+1<1000000000 by omega),nO hj,PZ,nL,mL,Ra,PB] at H|-
    grind
 ·rintro s vs S ⟨rfl,rfl⟩ aE H;simp only[↓cw,↓Oo,Om,kk,OZ];exact H
theorem bVk(l:On Uj)(S:St)(K:KW):C 116 [.imm (l.map Qe)] S K=K (.bool (gD l)) S:=by
 refine(bR5 rfl ?_).eq S K;delta Tryz.f116;simp only[↓cw,↓Oo,Om,kk,gD];by_cases h:8<l.length
 ·simp only[↓cw,↓Oo,Om,h,show(8:Int)<(l.length:Int) by omega,kk,Oy,oo]
 have h':¬(8:Int)<(l.length:Int):=by omega
 simp only[↓cw,↓Oo,Om,h,h',kk,Ou];refine aG l (step:=gC) (fin:=λ_=>OB) (λi s vs S=>vs=[.bool OA,O J (i:Int)]/\0<=s/\(i=0->s=0)/\∀p,0<i->l[i - 1]?=Ot p->s=p.id) (λr=>V.bool r=.bool (aD gC (λ_=>OB) l 0)) ?_ ?_ ⟨rfl,TT _,λ_=>rfl,λp h=>absurd h (YF _)⟩ rfl
 ·rintro i s last vs S hi ⟨rfl,h0,h1,h2⟩ aE H;have ai:=(Oq.1 hi).1;have hn:((s.reply=SQ):Prop)=((s.reply.why=0/\s.reply.number=0)/\s.reply.gross=0):=by
   obtain⟨_,_,⟨_,_,_⟩⟩:=s;simp[SQ,and_assoc]
  have uf:∀(S':St),last<s.id->([V.bool OA,V.int J ((i+1:Nat):Int)]=[V.bool OA,O J ((i+1:Nat):Int)]/\0<=s.id/\(i+1=0->s.id=0)/\∀p,0<i+1->l[i+1 - 1]?=Ot p->s.id=p.id):=λS' hl=>⟨rfl,by omega,λe=>(by omega),λp _ hp=>by rw[Nat.add_sub_cancel,hi] at hp;cases hp;rfl⟩;have fq:gC last s=if s.id<1 then .inl OA else if s.last<0 then .inl OA else if 1099511627776<s.last then .inl OA else if s.id<=last then .inl OA else if s.last=0/\¬((s.reply.why=0/\s.reply.number=0)/\s.reply.gross=0) then .inl OA else .inr s.id:=by
   unfold gC;simp only[SI,hn]
   grind
  rw[fq] at H;simp only[↓cw,↓Oo,Om,kk,bG hi,mO hi,Qe,gM (show i<1000000000 by omega),gm,Oy,oo];by_cases a1:s.id<1
  ·simp only[a1,Oy] at H|-;exact H
  by_cases a2:s.last<0
  ·simp only[a1,a2,Oy,Ou] at H|-;exact H
  by_cases a3:1099511627776<s.last
  ·simp only[a1,a2,a3,Oy,Ou] at H|-;exact H
  simp only[a1,a2,a3,Ou] at H|-
  have fin:∀(a4:¬s.id<=last),(if s.last=0 then(if(!((decide (s.reply.why=0)&&decide (s.reply.number=0))&&decide (s.reply.gross=0)))=OB then V.bool OA=V.bool (aD gC (λx=>OB) l 0) else aE [V.bool OA,V.int J ((i+1:Nat):Int)] ⟨S.next+57,S.heap⟩) else aE [V.bool OA,V.int J ((i+1:Nat):Int)] ⟨S.next+57,S.heap⟩):=by
   intro a4;have hn:=uf S (by omega);simp only[a4,Ou] at H;by_cases a5:s.last=0
   ·by_cases a6:(s.reply.why=0/\s.reply.number=0)/\s.reply.gross=0
    ·simp only[a5,a6,and_self,OK,and_false,Oy,Ou,Rk,QG,QL,OO] at H|-
     exact H _ _ hn
    ·have a6':(!((decide (s.reply.why=0)&&decide (s.reply.number=0))&&decide (s.reply.gross=0)))=true:=by simp only[Bool.not_eq_true',Bool.and_eq_false_iff,QY];omega
     simp only[a5,a6,a6',and_self,OL,Oy] at H|-
     exact H
   ·simp only[a5,false_and,Ou] at H|-
    exact H _ _ hn
  by_cases i0:i=0
  ·simp only[show¬(0:Int)<(i:Int) by omega,Ou]
   have:=fin (by have:=h1 i0;omega)
   simpa using this
  ·have hj:l[i - 1]?=Ot l[i - 1]:=OF (by omega);have e0:=h2 _ (by omega) hj;have w:wr J ((i:Int) - 1)=((i - 1:Nat):Int):=by rw[fB (by omega) (by omega)];omega
   simp only[↓cw,↓Oo,Om,show(0:Int)<(i:Int) by omega,Oy,w,mO hj,Qe,kk,<-e0];by_cases a4:s.id<=last
   ·simp only[a4,Oy] at H|-;exact H
   ·simp only[a4,Ou];simpa using fin a4
 ·rintro s vs S ⟨rfl,_⟩ aE H;simp only[↓cw,↓Oo,Om,kk,OZ];exact H
theorem bIn(l:On Ser)(name:On OP)(hb:l.length<1000000)(S:St)(K:KW):C 117 [.imm (l.map PZ),.str name] S K=K (O J (cD l name)) S:=by
 refine(bR6 rfl ?_).eq S K;delta Tryz.f117;simp only[↓cw,↓Oo,Om,kk];refine aG l (step:=dB λs:Ser=>s.name == name) (fin:=λ_=>-1) (λi k vs S=>k=i/\vs=[O J 0,O J (i:Int)]) (λr=>r=cD l name) ?_ ?_ ⟨rfl,rfl⟩ rfl
 ·rintro i s k vs S hi ⟨rfl,rfl⟩ aE H;have ai:=(Oq.1 hi).1;simp only[dB] at H;simp only[↓cw,↓Oo,Om,kk,bG hi,Oy,nO hi,PZ,gM (show k<1000000000 by omega)];cases c:s.name == name<;>simp only[↓cw,↓Oo,Om,c,kk,Oy,Ou,OO,oo] at H|-
  ·exact H _ _ rfl
  ·rw[<-H]
 ·rintro k vs S ⟨rfl,rfl⟩ aE H;have H:(-1:Int)=_:=H;simp only[↓cw,↓Oo,Om,kk,OZ,Ou,oo,<-H]
theorem bs0(n:Nat)(z:On V)(fr:Ow Nat)(S:St):cX n z 0 [] fr S=(match bR fr S (.row 0 n []) with
 | .error e=>.error e
 | .ok (a,S')=>.ok (.sl a 0 n 0 0,S')):=by unfold cX;rw[OE (by omega)];rfl
theorem bPd{α:Type}{enc:α->On V}{n:Nat}(hl:∀x,(enc x).length=n/\aH (enc x)=OB){l:On α}{S:St}{a ver:Nat}(hg:S.heap.get a=Ot (.row ver n (l.map enc)))(ha:a<S.next):Own E0 S n (.sl a ver n 0 l.length) (l.map enc):=
 ⟨.inr ⟨a,ver,[],by rw[ON],PS _,ha,by rw[OS];exact hg⟩,λc hc=>by obtain⟨x,_,rfl⟩:=Pv.1 hc;exact hl x⟩
theorem bIo{α:Type}{enc:α->On V}{n b:Nat}(hl:∀x,(enc x).length=n/\aH (enc x)=OB)(l:On α)(x:α){S:St}{a k ver:Nat}(hg:aC S a ver=.ok (n,l.map enc))(hx:aC S k 0=.ok (n,[enc x]))(h1:(l.length+1)*b<=35184372088832)(h2:l.length+1<eG)(fr:Ow Nat):
  eC n b (.sl a ver n 0 l.length) (.sl k 0 n 0 1) fr S=.ok (.sl a (ver+1) n 0 (l.length+1),⟨S.next,S.heap.put a (.row (ver+1) n ((l++[x]).map enc))⟩):=by
 have hu:aK S (.sl k 0 n 0 1)=.ok [enc x]:=by simp only[aK,hx];rfl
 have a1:kG n [enc x]=OB/\[enc x].all aH=true:=cU (λc hc=>by rcases PR.1 hc with rfl;exact hl x);simp only[eC,hu,a1,and_self,Oy,hg,ON,Px,Ov,OQ,Pf,h1,h2,Rh,PK,Qd,List.map_nil];rw[QW (by rw[ON];exact Ov _)]
theorem bVl(l:On Bal)(hb:l.length<1000000)(S:St)(K:KW):C 199 [.imm (l.map PC)] S K=K (.bool (yI l)) S:=by
 refine(bSb rfl ?_).eq S K;delta Tryz.f199;simp only[↓cw,↓Oo,Om];refine aG (l.drop 1) (step:=vV) (fin:=λ_=>OB) (λi s vs S=>s=l[i]?/\vs=[.bool OA,O J ((i+1:Nat):Int)]) (λr=>r=yI l) ?_ ?_ (s:=l[0]?) ⟨rfl,rfl⟩ rfl
 ·rintro i r s vs S hi ⟨rfl,rfl⟩ aE H;rw[PP,Nat.add_comm] at hi;have ai:=(Oq.1 hi).1;have hj:l[i]?=Ot l[i]:=OF (by omega);simp only[hj,vV,hi] at H;simp only[↓cw,↓Oo,Om,kk,bG hi,Oy,oJ hi,oJ hj,PC,wrm (show i+1<1000000000 by omega),gM (show i+1<1000000000 by omega),gm];cases c:iL l[i].acc r.acc<;>simp only[↓cw,↓Oo,Om,c,kk,Rs,QL,Oy,Ou,OO,oo] at H|-
  ·rw[<-H]
  ·exact H _ _ rfl
 ·rintro s vs S ⟨rfl,rfl⟩ aE H;have H:OB=yI l:=H;have hn:¬(((l.drop 1).length+1:Nat):Int)<(l.length:Int):=by rw[PQ];omega
  simp only[↓cw,↓Oo,Om,kk,hn,Ou,oo,<-H]
theorem aUq{l:On Ser}{name:On OP}(h:¬cD l name<0):∃(i:Nat) (s:Ser),cD l name=(i:Int)/\l[i]?=Ot s:=by
 rcases jU (λx:Ser=>x.name == name) l with e | ⟨i,a,e,hi,_⟩
 ·exact absurd (show cD l name<0 by unfold cD;rw[e];decide) h
 ·exact⟨i,a,e,hi⟩
def gR(w:Int×Int)(n:Int):Int×Int:=
 let lo:=wr ξ (w.2+wr ξ n)
 let hi:=if lo<w.2 then wr J (w.1+1) else w.1
 (if n<0 then wr J (hi - 1) else hi,lo)
theorem bPe(hi lo n:Int)(S:St)(K:KW):C 258 [.agg [O J hi,.int ξ lo],O J n] S K=K (.agg [O J (gR (hi,lo) n).1,.int ξ (gR (hi,lo) n).2]) S:=by
 refine(bT2 rfl ?_).eq S K;delta Tryz.f258;simp only[↓cw,↓Oo,Om,kk,eY,gm,gR];by_cases c1:wr ξ (lo+wr ξ n)<lo<;>by_cases c2:n<0<;>simp only[↓cw,↓Oo,Om,c1,c2,kk,Oy,Ou,oo]
theorem aG8{hi lo n:Int}(h0:0<=lo)(h1:lo<18446744073709551616)(hn:I64 n)(b1:-1237940039285380274899124224<=hi*18446744073709551616+lo)(b2:hi*18446744073709551616+lo<=1237940039285380274899124224):
  (gR (hi,lo) n).1*18446744073709551616+(gR (hi,lo) n).2=hi*18446744073709551616+lo+n/\0<=(gR (hi,lo) n).2/\(gR (hi,lo) n).2<18446744073709551616:=by
 obtain⟨n1,n2⟩:=hn;obtain⟨A,hA⟩:∃A,A=wr ξ n:=⟨_,rfl⟩;have e1:A=n % 18446744073709551616:=by rw[hA,aE7]
 obtain⟨B,hB⟩:∃B,B=wr ξ (lo+A):=⟨_,rfl⟩;have e2:B=(lo+A) % 18446744073709551616:=by rw[hB,aE7]
 have w1:wr J (hi+1)=hi+1:=eZ ⟨by omega,by omega⟩;have w2:wr J (hi - 1)=hi - 1:=eZ ⟨by omega,by omega⟩;have w3:wr J (hi+1 - 1)=hi:=by rw[eZ ⟨by omega,by omega⟩];omega
 unfold gR;simp only[<-hA,<-hB,w1];refine⟨?_,?_,?_⟩<;>repeat' split
 all_goals omega
theorem aUr(l:On Int):∀(hi lo:Int),(∀n∈l,I64 n)->0<=lo->lo<18446744073709551616->-1237940039285380274899124224+9223372036854775808*(l.length:Int)<=hi*18446744073709551616+lo->hi*18446744073709551616+lo<=1237940039285380274899124224 - 9223372036854775808*(l.length:Int)->
  (l.foldl gR (hi,lo)).1*18446744073709551616+(l.foldl gR (hi,lo)).2=hi*18446744073709551616+lo+l.sum/\0<=(l.foldl gR (hi,lo)).2/\(l.foldl gR (hi,lo)).2<18446744073709551616:=by
 induction l with
 | nil=>
  intro hi lo _ h0 h1 _ _;exact⟨(Tx _).symm,h0,h1⟩
 | cons n l ih=>
  intro hi lo hl h0 h1 b1 b2;have hn:=hl n (Ph ..);have hlen:(((n::l).length:Nat):Int)=(l.length:Int)+1:=by rw[OQ];omega
  rw[hlen] at b1 b2;obtain⟨s1,s2,s3⟩:=aG8 (hi:=hi) h0 h1 hn (by omega) (by omega);obtain⟨n1,n2⟩:=hn;have hp:gR (hi,lo) n=((gR (hi,lo) n).1,(gR (hi,lo) n).2):=rfl;rw[Wv,SH,hp];generalize (gR (hi,lo) n).1=p at *
  generalize (gR (hi,lo) n).2=q at *
  obtain⟨t1,t2⟩:=ih p q (λx hx=>hl x (OY _ hx)) s2 s3 (by omega) (by omega);exact⟨by rw[t1,s1,WJ],t2⟩
def aDm(l:On Int):Int×Bool:=(wr J (l.foldl gR (0,0)).2,decide ((l.foldl gR (0,0))=gR (0,0) (wr J (l.foldl gR (0,0)).2)))
theorem bIp(n:Int):wr J n=(n+9223372036854775808) % 18446744073709551616 - 9223372036854775808:=by
 unfold wr lo hi;simp only;split
 ·omega
 ·rw[Sv]
theorem aEa{l:On Int}(hl:∀n∈l,I64 n)(hb:l.length<=1000000):aDm l=cI l:=by
 obtain⟨s1,s2,s3⟩:=aUr l 0 0 hl (TT _) (by decide) (by omega) (by omega);obtain⟨e1,e2⟩:=eN hl hb;unfold aDm;generalize l.foldl gR (0,0)=w at *
 obtain⟨hi,lo⟩:=w;simp only at s1 s2 s3|-
 have hw:=rW lo;obtain⟨p1,p2,p3⟩:=aG8 (hi:=0) (lo:=0) (TT _) (by decide) hw (by decide) (by decide);have jy:wr J lo=wr J l.sum:=by
  have e:=bIp;rw[e,e];omega
 refine Vn (jy.trans e1.symm) ?_;rw[So,PB,e2];constructor
 ·intro h;have h':=h;rw[<-h'] at p1;simp only at p1
  have:l.sum=wr J lo:=by omega
  rw[this];exact hw
 ·intro h;have hs:wr J lo=l.sum:=by rw[jy];exact eZ h
  rw[hs] at p1 p2 p3|-
  generalize gR (0,0) l.sum=q at *
  obtain⟨qh,ql⟩:=q;simp only at p1 p2 p3
  have:hi=qh/\lo=ql:=by omega
  rw[this.1,this.2]
theorem bIq{l:On Int}{i:Nat}{a:Int}(hi:l[i]?=Ot a)(k:Qa):fV 1 (.imm (l.map dE)) (.int k (i:Int))=.ok (.iptr (dE a) 0):=ixI (enc:=dE) hi rfl k
theorem bVm(l:On Int)(hb:l.length<1000000)(S:St)(K:KW):C 223 [.imm (l.map dE)] S K=K (.tup [O J (aDm l).1,.bool (aDm l).2]) S:=by
 refine(bSk rfl ?_).eq S K;delta Tryz.f223;simp only[↓cw,↓Oo,Om,kk];refine aG l (step:=λw n=>(.inr (gR w n):(Int×Int)⊕(Int×Int))) (fin:=id) (λi w vs S=>vs=[O J (i:Int)]/\aC S 0 0=.ok (2,[[O J w.1,.int ξ w.2]])) (λw=>w=l.foldl gR (0,0)) ?_ ?_ (s:=(0,0)) ⟨rfl,aA _ _ _ _ _ _⟩ ?_
 ·rintro i n ⟨df,ry⟩ vs S hi ⟨rfl,hg⟩ aE H;have ai:=(Oq.1 hi).1;simp only[↓cw,↓Oo,Om,kk,bG hi,Oy,gm,hg,bIq hi,dE,bPe,gM (show i<1000000000 by omega)];exact H _ _ ⟨rfl,aA _ _ _ _ _ _⟩
 ·rintro⟨df,ry⟩ vs S ⟨rfl,hg⟩ aE H;have H:(df,ry)=l.foldl gR (0,0):=H;simp only[↓cw,↓Oo,Om,kk,OZ,Ou,gm,hg,bPe,oo,aDm,<-H]
  have:∀p:Int×Int,(decide (df=p.1)&&decide (ry=p.2))=decide ((df,ry)=p):=λp=>by
   obtain⟨a,b⟩:=p;rw[So];simp
  rw[this]
 ·have:∀(l:On Int) (w:Int×Int),aD (λw n=>(.inr (gR w n):(Int×Int)⊕(Int×Int))) id l w=l.foldl gR w:=by
   intro l
   induction l with
   | nil=>intro w;rfl
   | cons n l ih=>intro w;simp only[aD,Wv];exact ih _
  exact this _ _
theorem bPf{S:St}{v:V}{l:On Int}(o:Own E0 S 1 v (l.map dE))(hb:l.length<1000000)(K:KW):C 223 [v] S K=K (.tup [O J (aDm l).1,.bool (aDm l).2]) S:=by
 have h:=o.out λ_=>rfl;exact(WC λS K=>bVm l hb S K).frz bJv rfl (by simp only[Sm,h]) (by simp only[TC,o.ptrs];rfl) (.inl rfl) K
def eP(l:On TX):Int×Int×Bool:=((aDm (l.map (·.net))).1,(aDm (l.map (·.tax))).1,(aDm (l.map (·.net))).2&&(aDm (l.map (·.tax))).2)
theorem bPg(l:On TX)(hl:l.length<100000)(S:St)(K:KW):C 161 [.imm (l.map PI)] S K=K (.tup [O J (eP l).1,O J (eP l).2.1,.bool (eP l).2.2]) S:=by
 refine(bRm rfl ?_).eq S K;delta Tryz.f161;simp only[↓cw,↓Oo,Om,kk];refine aG l (step:=xI) (fin:=id) (λi s vs S=>∃u v,vs=[u,v,O J (i:Int)]/\Own E0 S 1 u (s.1.map dE)/\Own E0 S 1 v (s.2.map dE)/\s.1.length=i/\s.2.length=i/\WF S/\(∀y,AM.blkOf u=Ot y->AM.blkOf v≠Ot y)) (λr=>r=(l.map (·.net),l.map (·.tax))) ?_ ?_ (s:=([],[])) ⟨_,_,rfl,Rf _ _ _,Rf _ _ _,rfl,rfl,mB,λy h=>(by cases h)⟩ (by rw[bI5];rfl)
 ·rintro i p ⟨ns,ts⟩ vs S hi ⟨u,v,rfl,ou,ov,lu,lv,w,yj⟩ aE H;have ai:=(Oq.1 hi).1;have lu:ns.length=i:=lu;have lv:ts.length=i:=lv;simp only[xI] at H;have bu:∀y,AM.blkOf u=Ot y->y<S.next:=λy hy=>(cE ou hy).2;have bv:∀y,AM.blkOf v=Ot y->y<S.next:=λy hy=>(cE ov hy).2;obtain⟨u',S2,q1,w2,n2,HS,HT,am⟩:=aFo (b:=8) ou w (k1:=S.next+6) (k2:=S.next+7) (m:=S.next+18) (fresh w (by omega)) (fresh w (by omega)) (by omega) (by omega) (by omega) (by omega) (aH8 p.net) (by simp;omega) (by simp[eG];omega);have k2:∀y,y<S.next->AM.blkOf u≠Ot y->S2.heap.get y=S.heap.get y:=λy hy h=>am y (by omega) (by omega) h;have HU:Own E0 S2 1 v (ts.map dE):=ov.same (by omega) λa ha=>k2 a (by have:=bv a ha;omega) λh=>yj a h ha;have DZ:∀k,8<=k->S2.heap.get (S.next+k)=none:=λk hk=>by
   rw[am (S.next+k) (by omega) (by omega) λh=>by have:=bu _ h;omega];exact fresh w (by omega)
  obtain⟨v',S3,q2,w3,n3,HV,HW,bf⟩:=aFo (b:=8) HU w2 (k1:=S.next+14) (k2:=S.next+15) (m:=S2.next) (DZ 14 (by omega)) (DZ 15 (by omega)) (by omega) (by omega) (by omega) (Ov _) (aH8 p.tax) (by simp;omega) (by simp[eG];omega);have oq:∀y,AM.blkOf u'=Ot y->y=S.next+7\/AM.blkOf u=Ot y:=λy hy=>by
   rcases HT with h | h
   ·rw[h] at hy;cases hy;exact .inl rfl
   ·rw[h] at hy;exact .inr hy
  have Ct:∀y,AM.blkOf v'=Ot y->y=S.next+15\/AM.blkOf v=Ot y:=λy hy=>by
   rcases HW with h | h
   ·rw[h] at hy;cases hy;exact .inl rfl
   ·rw[h] at hy;exact .inr hy
  have D':∀a,AM.blkOf u'=Ot a->a≠S.next+14/\a≠S.next+15:=λa ha=>by
   rcases oq a ha with h | h
   ·omega
   ·have:=bu a h;omega
  have HX:Own E0 S3 1 u' ((ns++[p.net]).map dE):=by
   rw[PK];exact HS.same (by omega) λa ha=>bf a (D' a ha).1 (D' a ha).2 λhv=>by
    rcases oq a ha with h | h
    ·have:=bv a hv;omega
    ·exact yj a h hv
  simp only[dE] at q1 q2;simp only[↓cw,↓Oo,Om,kk,bG hi,Oy,kJ hi,PI,gM (show i<1000000000 by omega),gm,aUb,q1,q2];exact H _ _ ⟨u',v',rfl,HX,by rw[PK];exact HV,by simp;omega,by simp;omega,w3,λy hy FH=>by
   rcases oq y hy with h | h<;>rcases Ct y FH with h' | h'
   ·omega
   ·have:=bv y h';omega
   ·have:=bu y h;omega
   ·exact yj y h h'⟩
 ·rintro⟨ns,ts⟩ vs S ⟨u,v,rfl,ou,ov,lu,lv,w,yj⟩ aE H;have H:(ns,ts)=(l.map (·.net),l.map (·.tax)):=H;obtain⟨rfl,rfl⟩:=TI H;have c1:=λK=>bPf ou (by rw[ON];omega) K;have c2:=λK=>bPf ov (by rw[ON];omega) K;simp only[↓cw,↓Oo,Om,kk,OZ,Ou,c1,c2,eP];cases(aDm (l.map (·.net))).2<;>simp only[↓cw,↓Oo,Om,kk,Oy,Ou,OO,oo,Rn,RJ]
theorem bA3{t:Up}(hi:∀p∈t.parts,I64 p.net/\I64 p.tax)(hl:t.parts.length<=1000000):
  (if(eP t.parts).2.2=OB then(if(dH (eP t.parts).1 (eP t.parts).2.1).2=0 then(if(eP t.parts).1=t.net then(if(eP t.parts).2.1=t.tax then decide ((dH (eP t.parts).1 (eP t.parts).2.1).1=t.gross) else OA) else OA) else OA) else OA)=kF t:=by
 have h1:∀n∈t.parts.map (·.net),I64 n:=λn h=>by obtain⟨p,hp,rfl⟩:=Pv.1 h;exact(hi p hp).1
 have h2:∀n∈t.parts.map (·.tax),I64 n:=λn h=>by obtain⟨p,hp,rfl⟩:=Pv.1 h;exact(hi p hp).2
 unfold eP kF;simp only;rw[aEa h1 (by rw[ON];exact hl),aEa h2 (by rw[ON];exact hl)];by_cases c1:(cI (t.parts.map (·.net))).2=OB
 ·by_cases c2:(cI (t.parts.map (·.tax))).2=OB
  ·simp only[c1,c2,QG,Oy];have i1:I64 (cI (t.parts.map (·.net))).1:=by rw[(eN h1 (by rw[ON];exact hl)).1];exact rW _
   have i2:I64 (cI (t.parts.map (·.tax))).1:=by rw[(eN h2 (by rw[ON];exact hl)).1];exact rW _
   by_cases c3:(cI (t.parts.map (·.net))).1=t.net
   ·by_cases c4:(cI (t.parts.map (·.tax))).1=t.tax
    ·rw[c3] at i1;rw[c4] at i2;simp only[c3,c4,Oy];rw[pD i1 i2];have hx:=eN (l:=[t.net,t.tax]) (λn hn=>by simp at hn;rcases hn with rfl | rfl<;>assumption) (by simp);have hs:[t.net,t.tax].sum=t.net+t.tax:=by simp
     rw[hs] at hx;by_cases c5:I64 (t.net+t.tax)
     ·rw[OE c5,OE (hx.2.2 c5),hx.1,eZ c5];rfl
     ·rw[Oz c5,Oz (λh=>c5 (hx.2.1 h))];rfl
    ·simp only[c3,c4,Oy,Ou];split<;>split<;>rfl
   ·simp only[c3,Ou];split<;>split<;>rfl
  ·simp only[c1,c2,Bool.and_false,Oy,Ou,OO,Rn]
 ·simp only[c1,RJ,Ou,OO]
theorem aUs{n:Int}(h:I64 n):aFm n=if n<0 then -n else n:=by
 obtain⟨h1,h2⟩:=h;unfold aFm;split
 ·rw[eZ (n:=n+1) ⟨by omega,by omega⟩,eZ (n:=0 - (n+1)) ⟨by omega,by omega⟩,eM (n:=0 - (n+1)) (by omega) (by omega),eM (by omega) (by omega)];omega
 ·exact eM (by omega) (by omega)
theorem aSk{n bp:Int}(h:I64 n):aYw n bp=bC n bp:=by
 by_cases c0:bp<0\/100000<bp
 ·unfold aYw bC;rw[OE c0,OE c0]
 have h1:0<=bp:=by omega
 have h2:bp<=100000:=by omega
 rw[aC5 h h1 h2];unfold aYw;rw[Oz c0];simp only[aUs h];have hp:wr ξ bp=bp:=eM h1 (by omega);rw[hp];obtain⟨n1,n2⟩:=h;obtain⟨u,hu⟩:∃u,u=(if n<0 then -n else n):=⟨_,rfl⟩;rw[<-hu];have yk:0<=u/\u<=9223372036854775808:=by subst hu;split<;>omega
 have hq:u.tdiv 10000=u / 10000:=QD yk.1;have hr:u.tmod 10000=u % 10000:=RX yk.1;have th:(9223372036854775807:Int).tdiv bp=9223372036854775807 / bp:=QD (by decide);rw[hq,hr,th,eM (n:=u / 10000) (by omega) (by omega)];have hdiv:0<bp->0<=9223372036854775807 / bp/\9223372036854775807 / bp<18446744073709551616:=by
  intro hb;constructor
  ·exact Yj (by decide) (by omega)
  ·have:=XW bp (a:=9223372036854775807) (by decide);omega
 unfold zS;by_cases c:0<bp/\9223372036854775807 / bp<u / 10000
 ·rw[OE c,OE ⟨c.1,by rw[eM (hdiv c.1).1 (hdiv c.1).2];exact c.2⟩]
 ·rw[Oz c,Oz (λq=>c ⟨q.1,by have:=q.2;rwa [eM (hdiv q.1).1 (hdiv q.1).2] at this⟩)];have DY:0<=u / 10000*bp:=Tw (by omega) h1;have Dn:u / 10000*bp<=9223372036854775807:=by
   by_cases hb:0<bp
   ·have hle:u / 10000<=9223372036854775807 / bp:=by
     by_cases q:u / 10000<=9223372036854775807 / bp
     ·exact q
     ·exact absurd ⟨hb,by omega⟩ c
    calc u / 10000*bp<=9223372036854775807 / bp*bp:=VU hle h1
     _<=9223372036854775807:=Yk _ (by omega)
   ·have:bp=0:=by omega
    subst this;simp
  have pc:0<=u % 10000*bp:=Tw (by omega) h1;have hr2:u % 10000*bp<=10000*100000:=Yu (by omega) h2 h1 (by decide);rw[eM DY (by omega),eM pc (by omega),eM (n:=u % 10000*bp+5000) (by omega) (by omega)];have ht:(u % 10000*bp+5000).tdiv 10000=(2*(u % 10000)*bp+10000) / 20000:=by
   rw[QD (by omega),YG];omega
  have hr3:2*(u % 10000)*bp=2*(u % 10000*bp):=YG ..;rw[ht,eM (n:=(2*(u % 10000)*bp+10000) / 20000) (by omega) (by omega),eM (n:=u / 10000*bp+(2*(u % 10000)*bp+10000) / 20000) (by omega) (by omega)];obtain⟨t,Ii⟩:∃t,t=u / 10000*bp+(2*(u % 10000)*bp+10000) / 20000:=⟨_,rfl⟩;have Ce:0<=t:=by omega
  rw[<-Ii];split
  ·rfl
  ·rename_i hle;rw[fB (n:=t) (by omega) (by omega)];split
   ·rw[fB (by omega) (by omega)];simp
   ·rfl
theorem aSl{u:Int}(h1:0<=u)(h2:u<18446744073709551616):aH3 u=18446744073709551615 - u:=by
 unfold aH3;simp only[Sq,OO,Ou];have hm:(PH.max:Int)=18446744073709551615:=by decide
 rw[hm];have hb:PH.bits=64:=rfl;rw[hb]
 have:(OX 64 18446744073709551615 ^^^ OX 64 u) = ~~~(OX 64 u):=by
  rw[show(OX 64 18446744073709551615)=XN 64 from by decide,Xh]
 rw[this,Xz];have hv:(OX 64 u).toNat=u.toNat:=by
  rw[Rx];omega
 rw[hv,eM (by omega) (by omega)];omega
theorem bVn(t:Up)(hint:∀p∈t.parts,I64 p.net/\I64 p.tax)(S:St)(K:KW):C 119 [.agg [O J t.net,O J t.tax,O J t.gross,.imm (t.parts.map PI)]] S K=K (.bool (cN t)) S:=by
 refine(bTd rfl ?_).eq S K;simp only[bBs,kk,cN];by_cases c1:t.parts.length<1
 ·simp only[c1,show(t.parts.length:Int)=0 by omega,kk,oo,Oy]
 by_cases c2:12<t.parts.length
 ·simp only[c1,c2,show¬(t.parts.length:Int)=0 by omega,show(12:Int)<(t.parts.length:Int) by omega,kk,oo,Oy,Ou]
 simp only[c1,c2,show¬(t.parts.length:Int)=0 by omega,show¬(12:Int)<(t.parts.length:Int) by omega,kk,Ou];have Ip:=bA3 hint (by omega);refine aG t.parts (step:=cY) (fin:=λ_=>kF t) (λi s vs S=>vs=[.bool OA,O J (i:Int)]/\s=cO t.parts i/\aC S 0 0=.ok (4,[[O J t.net,O J t.tax,O J t.gross,.imm (t.parts.map PI)]])/\0<S.next) (λr=>r=aD cY (λ_=>kF t) t.parts OG) ?_ ?_ (s:=OG) ⟨rfl,rfl,aA _ _ _ _ _ _,Nat.zero_lt_one⟩ rfl
 ·rintro i p s vs S hi ⟨rfl,rfl,r0,h0⟩ aE H;have ai:=(Oq.1 hi).1;have hn:cO t.parts (i+1)=Ot p:=by simpa[cO] using hi
  obtain⟨S',ul⟩:∃S':St,S'=⟨S.next+1+30,(S.heap.put S.next (.row 0 4 [[.str [],O J 0,O J 0,O J 0]])).put S.next (.row 0 4 [[.str p.cat,O J p.bp,O J p.net,O J p.tax]])⟩:=⟨_,rfl⟩;have r2:aC S' 0 0=.ok (4,[[O J t.net,O J t.tax,O J t.gross,.imm (t.parts.map PI)]]):=by rw[ul];exact aI (n:=S.next) (by omega) (aI (n:=S.next) (by omega) r0)
  have r3:aC S' S.next 0=.ok (4,[[.str p.cat,O J p.bp,O J p.net,O J p.tax]]):=by rw[ul];exact aA _ _ _ _ _ _
  have h2:0<S'.next:=by rw[ul];exact Nat.succ_pos _
  have w1:wr J ((i:Int)+1)=((i+1:Nat):Int):=gM (by omega);have ht3:=aSk (bp:=p.bp) (hint p (OM hi)).1;have fq:cY (cO t.parts i) p=if dV p.cat=OA then .inl OA else if p.bp<0 then .inl OA else if 100000<p.bp then .inl OA else if iY (cO t.parts i) p=OB then .inl OA else if(bC p.net p.bp).2=0 then(if(bC p.net p.bp).1=p.tax then .inr (Ot p) else .inl OA) else .inl false:=by
   unfold cY xJ xK;simp only[Ra,PB]
   grind
  rw[fq] at H;have kz:∀X:St,X=S'->(if(bC p.net p.bp).2=0 then(if(bC p.net p.bp).1=p.tax then aE [.bool OA,O J ((i+1:Nat):Int)] S' else aD cY (λ_=>kF t) t.parts OG=OA) else aD cY (λ_=>kF t) t.parts OG=OA)->aDv C (λv0 S0=>eX S0 v0=TO (V.bool (aD cY (λ_=>kF t) t.parts OG))) aE (.ptr 0 0 0 0) (.bool OA) (O J (i:Int)) (.ptr S.next 0 0 0) X:=by
   rintro X rfl hyp;simp only[aDv,kk,r3,bNy,ht3,dU,w1];by_cases d1:(bC p.net p.bp).2=0
   ·by_cases d2:(bC p.net p.bp).1=p.tax
    ·simp only[d1,d2,Oy,OK,Ou] at hyp|-;exact hyp
    ·simp only[d1,d2,Oy,Ou,OK,OL,oo] at hyp|-
     rw[hyp]
   ·simp only[d1,Ou,OL,Oy,oo] at hyp|-
    rw[hyp]
  simp only[aKb,kk,r0,bG hi,Oy,kJ hi,PI,<-ul,r3,bId];cases uv:dV p.cat
  ·simp only[uv,kk,Oy,Rs,oo] at H|-
   rw[<-H]
  simp only[uv,kk,Pq,QL,OO,Ou,r3] at H|-
  by_cases e1:p.bp<0
  ·simp only[e1,Oy,oo] at H|-
   rw[<-H]
  by_cases e2:100000<p.bp
  ·simp only[e1,e2,Oy,Ou,oo] at H|-
   rw[<-H]
  simp only[e1,e2,Ou] at H|-
  have md:iY (cO t.parts i) p=OA->(if(bC p.net p.bp).2=0 then(if(bC p.net p.bp).1=p.tax then aE [.bool OA,O J ((i+1:Nat):Int)] S' else aD cY (λ_=>kF t) t.parts OG=OA) else aD cY (λ_=>kF t) t.parts OG=OA):=by
   intro e3;simp only[e3,OO,Ou] at H;by_cases d1:(bC p.net p.bp).2=0
   ·by_cases d2:(bC p.net p.bp).1=p.tax
    ·simp only[d1,d2,Oy] at H|-
     exact H _ _ ⟨rfl,by rw[hn],r2,h2⟩
    ·simp only[d1,d2,Oy,Ou] at H|-;exact H.symm
   ·simp only[d1,Ou] at H|-;exact H.symm
  by_cases i0:i=0
  ·have e3:iY (cO t.parts i) p=false:=by rw[i0];rfl
   simp only[show¬(0:Int)<(i:Int) by omega,Ou];exact kz S' rfl (md e3)
  ·have hj:t.parts[i - 1]?=Ot t.parts[i - 1]:=OF (by omega);have hp:cO t.parts i=Ot t.parts[i - 1]:=by unfold cO;rw[Oz i0];exact hj
   have w2:wr J ((i:Int) - 1)=((i - 1:Nat):Int):=by rw[fB (by omega) (by omega)];omega
   have e4:iY (cO t.parts i) p=!iL t.parts[i - 1].cat p.cat:=by rw[hp];rfl
   simp only[show(0:Int)<(i:Int) by omega,Oy,r2,w2,kJ hj,PI,kk,r3];cases d:iL t.parts[i - 1].cat p.cat
   ·rw[d] at e4;simp only[e4,Rs,Oy,oo] at H|-
    rw[<-H]
   ·rw[d] at e4;simp only[QL,OO,Ou];exact kz S' rfl (md e4)
 ·rintro s vs S ⟨rfl,rfl,r0,h0⟩ aE H;have H:kF t=aD cY (λ_=>kF t) t.parts none:=H;rw[<-H,<-Ip];simp only[aKb,kk,r0,OZ,Ou,bPg t.parts (by omega),bI9,dU];cases d1:(eP t.parts).2.2
  ·simp only[kk,OO,Ou,oo]
  simp only[kk,Oy];by_cases d2:(dH (eP t.parts).1 (eP t.parts).2.1).2=0
  ·simp only[d2,kk,Oy];by_cases d3:(eP t.parts).1=t.net
   ·by_cases d4:(eP t.parts).2.1=t.tax
    ·simp only[d3,d4,kk,Oy,oo]
    ·simp only[d3,d4,kk,Oy,Ou,oo]
   ·simp only[d3,kk,Ou,oo]
  ·simp only[d2,kk,Ou,oo]
end Go.Proofs.YtoaibmbldmckaaaGreat
end
section
namespace Go.AM
theorem aNb{n a ver i len:Nat}(h:i<len):fV n (.sl a ver n 0 len) (.int J (i:Int))=.ok (.ptr a ver i 0):=by
 simp only[fV,gA h,Oy,Px]
theorem bA4{X:St}{a ver n i:Nat}{es:On (On V)}{cs:On V}(hg:X.heap.get a=Ot (.row ver n es))(hi:es[i]?=Ot cs)(k:Ow Nat)(j:Nat):fZ k (.ptr a ver i j) X=jB k cs j:=by
 simp only[ldP,aF hg,hi]
theorem bHd{X:St}{a ver n i j:Nat}{es:On (On V)}{cs:On V}{v:V}(hg:X.heap.get a=Ot (.row ver n es))(hi:es[i]?=Ot cs)(hv:v.cells=[v])(ho:v.one=OB)(hj:j+1<=cs.length):
  eL 1 (.ptr a ver i j) v X=.ok ⟨X.next,X.heap.put a (.row ver n (es.set i (splice cs j [v])))⟩:=by
 simp only[stP,aF hg,hi,hv];rw[OE ⟨rfl,by simp[aH,ho],hj⟩]
theorem aC8{X:St}{a ver n i:Nat}{es:On (On V)}(hg:X.heap.get a=Ot (.row ver n es))(hi:i<=es.length):aK X (.sl a ver n 0 i)=.ok (es.take i):=by
 have hb:Nat.ble (0+i) es.length=true:=RK (by omega);simp only[aK,aF hg,hb,PW,Rh]
theorem bIr{X:St}{a ver n i:Nat}{es:On (On V)}(hg:X.heap.get a=Ot (.row ver n es))(hi:i<=es.length):aK X (.sl a ver n i (es.length - i))=.ok (es.drop i):=by
 have hb:Nat.ble (i+(es.length - i)) es.length=true:=RK (by omega);simp only[aK,aF hg,hb,PW];rw[QW (by rw[PQ];omega)]
end Go.AM
namespace Go.Proofs.YtoaibmbldmckaaaGreat
open Go.AM Tryz
theorem aJ5{α:Type}{enc:α->On V}{n b:Nat}(hl:∀x,(enc x).length=n/\aH (enc x)=OB)(l:On α){S:St}{a:Nat}{u:V}(hu:aK S u=.ok (l.map enc))(hg:aC S a 0=.ok (n,[]))(h1:l.length*b<=35184372088832)(h2:l.length<eG)(fr:Ow Nat):
  eC n b (.sl a 0 n 0 0) u fr S=.ok (.sl a 1 n 0 l.length,⟨S.next,S.heap.put a (.row 1 n (l.map enc))⟩):=by
 have hc:∀cs,cs∈l.map enc->cs.length=n/\aH cs=true:=λcs hc=>by obtain⟨x,_,rfl⟩:=Pv.1 hc;exact hl x
 obtain⟨a1,a2⟩:=cU hc;simp only[eC,hu,a1,a2,and_self,Oy,hg,ON,Px,Pf,Ov,h1,h2,Yv,Yw,Pp]
theorem bCy{α:Type}{enc:α->On V}{n b:Nat}(hl:∀x,(enc x).length=n/\aH (enc x)=OB)(l r:On α){S:St}{a:Nat}{ver:Nat}{u:V}(hu:aK S u=.ok (r.map enc))(hg:aC S a ver=.ok (n,l.map enc))(h1:(l.length+r.length)*b<=35184372088832)(h2:l.length+r.length<eG)(fr:Ow Nat):
  eC n b (.sl a ver n 0 l.length) u fr S=.ok (.sl a (ver+1) n 0 (l.length+r.length),⟨S.next,S.heap.put a (.row (ver+1) n ((l++r).map enc))⟩):=by
 have hc:∀cs,cs∈r.map enc->cs.length=n/\aH cs=true:=λcs hc=>by obtain⟨x,_,rfl⟩:=Pv.1 hc;exact hl x
 obtain⟨a1,a2⟩:=cU hc;simp only[eC,hu,a1,a2,and_self,Oy,hg,ON,Px,Ov,h1,h2,Rh,PK];rw[QW (by rw[ON];exact Ov _)]
theorem bPh{α:Type}{enc:α->On V}{n b:Nat}(hl:∀x,(enc x).length=n/\aH (enc x)=OB)(l:On α)(x:α){i:Nat}(hi:i<=l.length){S:St}{k1 k2 m s vs:Nat}(ah:k1≠k2)(Cj:s≠k1)(yb:s≠k2)(EB:S.heap.get s=Ot (.row vs n (l.map enc)))(qv:k1<S.next)(hm:S.next<=m)(hg:aC S k1 0=.ok (n,[]))(w:WF S)(di:k2<m)(h1:(l.length+1)*b<=35184372088832)(h2:l.length+1<eG)(f1 f2 f3:Ow Nat):
  ∃S1 S2 S3:St,eC n b (.sl k1 0 n 0 0) (.sl s vs n 0 i) f1 S=.ok (.sl k1 1 n 0 i,S1)/\S1.next=S.next/\eC n b (.sl k1 1 n 0 i) (.sl k2 0 n 0 1) f2 ⟨m,S1.heap.put k2 (.row 0 n [enc x])⟩=.ok (.sl k1 2 n 0 (i+1),S2) /\
   eC n b (.sl k1 2 n 0 (i+1)) (.sl s vs n i (l.length - i)) f3 S2=.ok (.sl k1 3 n 0 (l.length+1),S3)/\S3.next=m/\WF S3/\S3.heap.get k1=Ot (.row 3 n ((fU l i x).map enc))/\(∀y,y≠k1->S1.heap.get y=S.heap.get y)/\∀y,y≠k1->y≠k2->S3.heap.get y=S.heap.get y:=by
 have lt:(l.take i).length=i:=by rw[PY];omega
 have ld:(l.drop i).length=l.length - i:=PQ;have lm:(l.map enc).length=l.length:=ON _;have hb:∀j,j<=l.length+1->j*b<=35184372088832:=λj hj=>QC (Po b hj) h1;have u1:aK S (.sl s vs n 0 i)=.ok ((l.take i).map enc):=by rw[aC8 EB (by omega),Se]
 have q1:=aJ5 (b:=b) hl (l.take i) u1 hg (hb _ (by omega)) (by omega) f1;rw[lt] at q1;have g2:aC ⟨m,(S.heap.put k1 (.row 1 n ((l.take i).map enc))).put k2 (.row 0 n [enc x])⟩ k1 1=.ok (n,(l.take i).map enc):=aX (S:=⟨S.next,S.heap.put k1 (.row 1 n ((l.take i).map enc))⟩) (aA _ _ _ _ _ _) (OJ _ _ _ _ trivial ah);have g3:aC ⟨m,(S.heap.put k1 (.row 1 n ((l.take i).map enc))).put k2 (.row 0 n [enc x])⟩ k2 0=.ok (n,[enc x]):=aA _ _ _ _ _ _;have q2:=bIo (b:=b) hl (l.take i) x g2 g3 (hb _ (by omega)) (by omega) f2;rw[lt] at q2;obtain⟨Z,hZ⟩:∃Z:St,Z=⟨m,((S.heap.put k1 (.row 1 n ((l.take i).map enc))).put k2 (.row 0 n [enc x])).put k1 (.row 2 n ((l.take i++[x]).map enc))⟩:=⟨_,rfl⟩;have g4:aC Z k1 2=.ok (n,(l.take i++[x]).map enc):=by rw[hZ];exact aA _ _ _ _ _ _
 have gs:Z.heap.get s=Ot (.row vs n (l.map enc)):=by
  rw[hZ];show(((S.heap.put k1 _).put k2 _).put k1 _).get s=_;rw[OJ _ _ _ _ trivial Cj,OJ _ _ _ _ trivial yb,OJ _ _ _ _ trivial Cj];exact EB
 have u3:aK Z (.sl s vs n i (l.length - i))=.ok ((l.drop i).map enc):=by
  have:=bIr gs (i:=i) (by omega)
  rw[lm] at this;rw[this,List.map_drop]
 have l1:(l.take i++[x]).length=i+1:=by rw[OC,lt];rfl
 have q3:=bCy (b:=b) hl (l.take i++[x]) (l.drop i) u3 g4 (hb _ (by omega)) (by omega) f3;rw[l1,ld] at q3;have e:i+1+(l.length - i)=l.length+1:=by omega
 rw[e] at q3;have ei:l.take i++[x]++l.drop i=fU l i x:=by simp[fU]
 rw[ei] at q3;have zn:Z.next=m:=by rw[hZ]
 have wZ:WF Z:=by rw[hZ];exact gO (n:=m) (gO (n:=S.next) (gO (n:=S.next) w qv (Ov _)) di hm) (show k1<m by omega) (Ov _)
 refine⟨_,Z,_,q1,rfl,by rw[hZ];exact q2,q3,zn,gO (n:=Z.next) wZ (by omega) (Ov _),Ox _ _ _ trivial,λy hy=>OJ _ _ _ _ trivial hy,λy hy Cz=>?_⟩;show(Z.heap.put k1 _).get y=_;rw[OJ _ _ _ _ trivial hy,hZ];show(((S.heap.put k1 _).put k2 _).put k1 _).get y=_;rw[OJ _ _ _ _ trivial hy,OJ _ _ _ _ trivial Cz,OJ _ _ _ _ trivial hy]
end Go.Proofs.YtoaibmbldmckaaaGreat
end
