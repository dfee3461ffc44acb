import Derived.Test.YtoaibmbldmckaaaGreatX4
set_option linter.unusedSimpArgs false
set_option linter.unusedVariables false
set_option linter.unusedSectionVars false
set_option maxRecDepth 100000
section
namespace Go.Proofs.YtoaibmbldmckaaaGreat
open Go.AM Tryz
theorem bPv {v:V} (book l:List Bal) (hv:v=.imm (book.map Bal.enc)∨(v=.nils∧book=[])) (hbb:book.length+l.length<1000000) (S:St) (K:KW):C 122 [v,.imm (l.map Bal.enc)] S K=K (.tup [.imm ((bL book l).1.map Bal.enc),.int .i64 (bL book l).2]) S:=by
 rcases hv with rfl | ⟨rfl,rfl⟩
 ·exact bDb book l hbb S K
 ·exact (Fn.back (args:=[.imm [],.imm (l.map Bal.enc)]) fun S K=>bDb [] l hbb S K).frz bEh rfl rfl rfl (.inr rfl) K
def mG (n:Int):List V:=[.int .i64 n]
theorem bPw {n:Nat} (hn:n≤8) (S:St):eQ prog 96 (.int .i64 (n:Int)) (.int .i64 (n:Int)) none S=.ok (.sl S.next 0 1 0 n,⟨S.next+1,S.heap.put S.next (.row 0 1 ((List.replicate n (0:Int)).map mG))⟩):=by
 have h1:jR prog 96=some 3:=by kernel_rfl
 have h2:aO prog 3=some (.int .i64 0):=by kernel_rfl
 have h3:sz prog 3=1:=by kernel_rfl
 have h4:room prog 3 n=true:=match n,hn with
  | 0,_=>by kernel_rfl
  | 1,_=>by kernel_rfl
  | 2,_=>by kernel_rfl
  | 3,_=>by kernel_rfl
  | 4,_=>by kernel_rfl
  | 5,_=>by kernel_rfl
  | 6,_=>by kernel_rfl
  | 7,_=>by kernel_rfl
  | 8,_=>by kernel_rfl
  | k+9,h=>absurd h (by omega)
 have h5:(decide ((0:Int)≤(n:Int))&&decide ((n:Int)≤(n:Int))&&decide ((n:Int)<2147483648))=true:=by simp;omega
 simp only [eQ,h1,h2,h3,Int.toNat_natCast,h4,V.cells,List.length_cons,List.length_nil,Nat.zero_add,Nat.beq_refl,Bool.true_and,Bool.and_true,h5,cond_true,fI,List.map_replicate,mG]
theorem aVo (b:Bool):∀ (l:List Ser) (is:List Int),aE gE (fun _=>b) l is=(aE gE (fun _=>true) l is&&b)
 | [],is=>by simp [aE]
 | s::l,is=>by
  simp only [aE,gE]
  by_cases c:is.headD 0=wr .i64 (s.next - 1)
  ·rw [if_pos c];exact aVo b l _
  ·rw [if_neg c];rfl
set_option maxHeartbeats 4000000 in
theorem g38 (s:State) (hI:xG s) (hp:s.posted.length<1000000) (hq:∀ q∈s.posted,q.total.parts.length≤1000) (S:St) (K:KW):C 38 [.agg [.imm (s.table.map Rate.enc),.imm (s.ser.map Ser.enc),.imm (s.posted.map Posted.enc),.imm (s.book.map Bal.enc),.imm (s.sess.map Sess.enc),.int .i64 s.next]] S K=K (.bool (aE0 s)) S:=by
 refine (v38 rfl ?_).eq S K
 obtain ⟨R,hR⟩:∃ R,R=aE0 s:=⟨_,rfl⟩
 rw [←hR]
 unfold aE0 at hR
 simp only [m38,kk,gm,aY8,aY9,bPd]
 cases c1:dK s.table
 ·rw [if_pos c1] at hR;rw [hR];simp only [kk,if_true,oo]
 rw [if_neg (by rw [c1];decide)] at hR
 cases c2:jP s.ser
 ·rw [if_pos c2] at hR;rw [hR];simp only [kk,Bool.false_eq_true,if_false,if_true,oo]
 rw [if_neg (by rw [c2];decide)] at hR
 cases c3:eG s.sess
 ·rw [if_pos c3] at hR;rw [hR];simp only [kk,Bool.false_eq_true,if_false,if_true,oo]
 rw [if_neg (by rw [c3];decide)] at hR
 have hsl:=iG c2
 have hel:=gS c3
 simp only [kk,Bool.true_eq_false,Bool.false_eq_true,if_false]
 by_cases c4:40<s.posted.length
 ·rw [if_pos c4] at hR;rw [hR]
  simp only [show (40:Int)<(s.posted.length:Int) by omega,kk,if_true,oo]
 rw [if_neg c4] at hR
 simp only [show ¬ (40:Int)<(s.posted.length:Int) by omega,if_false]
 by_cases c5:s.next<1
 ·rw [if_pos c5] at hR;rw [hR];simp only [c5,if_true,oo]
 rw [if_neg c5] at hR
 simp only [c5,if_false]
 by_cases c6:1099511627776<s.next
 ·rw [if_pos c6] at hR;rw [hR];simp only [c6,if_true,oo]
 rw [if_neg c6] at hR
 simp only [c6,if_false]
 have hj0:∀ Y:St,aA Y 0 0=.ok (6,[s.enc])→1≤Y.next→R=aE (sN s) (aK1 s) s.posted ⟨[],List.replicate s.ser.length 0,[]⟩→aHa C (fun v0 S0=>dS S0 v0=.ok (.bool R)) (.ptr 0 0 0 0) Y:=by
  intro Y y0 yn hR
  have y0':=y0
  simp only [State.enc] at y0
  simp only [aHa,kk,gm,y0,bPw hsl]
  obtain ⟨tb,htb⟩:∃ tb,tb=Y.next:=⟨_,rfl⟩
  rw [←htb]
  refine aG s.posted (step:=sN s) (fin:=aK1 s) (fun i st vs X=>∃ v,vs=[.bool false,v,.int .i64 (i:Int)]∧(v=.imm (st.book.map Bal.enc)∨(v=.nils∧st.book=[]))∧aA X 0 0=.ok (6,[s.enc])∧X.heap.get tb=some (.row 0 1 (st.taken.map mG))∧tb<X.next∧st.taken.length=s.ser.length∧st.done.length=i∧st.book.length≤25*i) (fun r=>r=R) ?_ ?_ (s:=⟨[],List.replicate s.ser.length 0,[]⟩) ⟨.nils,rfl,.inr ⟨rfl,rfl⟩,aD (n:=Y.next) (by omega) y0',Tr.get_put_sameB _ _ _ trivial,Nat.lt_succ_self _,List.length_replicate,rfl,Nat.zero_le _⟩ hR.symm
  ·rintro i p ⟨done,taken,book⟩ vs X hi ⟨v,rfl,hv,x0,hg,htX,htl,hdl,hbl⟩ aF H
   simp only at hv hg htl hdl hbl
   have hil:=(List.getElem?_eq_some_iff.1 hi).1
   have hpm:=List.mem_of_getElem? hi
   simp only [State.enc] at x0
   simp only [sN,hdl] at H
   simp only [aLx,kk,gm,x0,bB hi,if_true,kJ hi,Posted.enc,aQv s.ser p.ref.ser (by omega),hJ (show i<1000000000 by omega)]
   obtain ⟨B,hB⟩:∃ B:St,B=⟨X.next+1,(X.heap.put X.next (.row 0 12 [aBo])).put X.next (.row 0 12 [p.enc])⟩:=⟨_,rfl⟩
   have kB:∀ y,y≠X.next→B.heap.get y=X.heap.get y:=fun y hy=>by
    rw [hB]
    show ((X.heap.put X.next _).put X.next _).get y=_
    rw [Tr.get_put_neB _ _ _ _ trivial hy,Tr.get_put_neB _ _ _ _ trivial hy]
   have h0X:0<X.next:=by omega
   have b0:∀ m,aA ⟨m,B.heap⟩ 0 0=.ok (6,[s.enc]):=fun m=>aI (S:=X) x0 (kB 0 (by omega))
   have bP:∀ m,aA ⟨m,B.heap⟩ X.next 0=.ok (12,[p.enc]):=fun m=>by rw [hB];exact aC _ _ _ _ _ _
   have bT:B.heap.get tb=some (.row 0 1 (taken.map mG)):=by rw [kB tb (by omega)];exact hg
   have bn:B.next=X.next+1:=by rw [hB]
   have b0':aA B 0 0=.ok (6,[s.enc]):=b0 B.next
   have bP':aA B X.next 0=.ok (12,[p.enc]):=bP B.next
   simp only [State.enc] at b0 b0'
   simp only [Posted.enc] at bP bP'
   simp only [aBo,Posted.enc] at hB
   simp only [←hB,b0',bP',kk,aQv s.ser p.ref.ser (show s.ser.length<1000000 by omega)]
   by_cases d0:dH s.ser p.ref.ser<0
   ·rw [if_pos d0] at H
    rw [if_pos d0,←H]
   rw [if_neg d0] at H
   rw [if_neg d0]
   obtain ⟨k,x,e,hk⟩:=vB d0
   have hkl:=(List.getElem?_eq_some_iff.1 hk).1
   have hkt:(taken.map mG)[k]?=some (mG (taken.getD k 0)):=by
    rw [List.getElem?_map,List.getD_eq_getElem?_getD,List.getElem?_eq_getElem (by omega)];rfl
   have hld:∀ m,jH none (.ptr tb 0 k 0) ⟨m,B.heap⟩=.ok (.int .i64 (taken.getD k 0)):=fun m=>by rw [aQy (X:=⟨m,B.heap⟩) bT hkt];rfl
   have hst:=fun m=>aVk (X:=⟨m,B.heap⟩) (v:=.int .i64 (wr .i64 (taken.getD k 0+1))) (j:=0) bT hkt rfl rfl (Nat.le_refl _)
   have hset:(taken.map mG).set k (splice (mG (taken.getD k 0)) 0 [.int .i64 (wr .i64 (taken.getD k 0+1))])=(taken.set k (wr .i64 (taken.getD k 0+1))).map mG:=by rw [List.map_set];rfl
   simp only [e,Int.toNat_natCast] at H
   simp only [e,aG6 hkl,hld,kk,bP]
   by_cases d1:p.ref.num=wr .i64 (taken.getD k 0+1)
   rotate_left
   ·rw [if_pos d1] at H
    rw [if_pos d1,←H]
   rw [if_neg (fun h=>h d1)] at H
   rw [if_neg (fun h=>h d1)]
   simp only [aM0,kk,bP]
   cases d2:p.day.right
   ·rw [if_pos d2] at H
    simp only [Bool.not_false,if_true,←H]
   rw [if_neg (by rw [d2];decide)] at H
   simp only [Bool.not_true,Bool.false_eq_true,if_false,bPn p.total (hI p hpm),kk,b0]
   cases d3:bY p.total
   ·rw [if_pos d3] at H
    simp only [Bool.not_false,if_true,←H]
   rw [if_neg (by rw [d3];decide)] at H
   simp only [Bool.not_true,Bool.false_eq_true,if_false,bPu s.posted hp hq hi,kk]
   cases d4:pY s.posted i p
   ·rw [if_pos d4] at H
    simp only [Bool.not_false,if_true,←H]
   rw [if_neg (by rw [d4];decide)] at H
   have hft:=oR d3
   obtain ⟨D,hD⟩:∃ D:St,D=⟨B.next+32,B.heap.put tb (.row 0 1 ((taken.set k (wr .i64 (taken.getD k 0+1))).map mG))⟩:=⟨_,rfl⟩
   have hst':fV 1 (.ptr tb 0 k 0) (.int .i64 (wr .i64 (taken.getD k 0+1))) ⟨B.next+32,B.heap⟩=.ok D:=by rw [hst,hset,hD]
   have dP:aA D X.next 0=.ok (12,[p.enc]):=by rw [hD];exact aD (n:=B.next) (by omega) (bP B.next)
   have d0r:aA D 0 0=.ok (6,[s.enc]):=by rw [hD];exact aD (n:=B.next) (by omega) (b0 B.next)
   have dn:D.next=B.next+32:=by rw [hD]
   simp only [Posted.enc] at dP
   simp only [Bool.not_true,Bool.false_eq_true,if_false,hld,hst',dP,bJn p.total hft,kk]
   by_cases d5:(cH p.total).2=0
   rotate_left
   ·rw [if_pos d5] at H
    rw [if_pos d5,←H]
   have hle:=(pR p.total).resolve_right (not_not_intro d5)
   have h12:=hft.1
   have hle2:=rS book (cH p.total).1
   rw [if_neg (fun h=>h d5)] at H
   rw [if_neg (fun h=>h d5),bPv book _ hv (show book.length+(cH p.total).1.length<1000000 by omega)]
   simp only [kk]
   by_cases d6:(bL book (cH p.total).1).2=0
   rotate_left
   ·rw [if_pos d6] at H
    rw [if_pos d6,←H]
   rw [if_neg (fun h=>h d6)] at H
   rw [if_neg (fun h=>h d6)]
   exact H _ _ ⟨_,rfl,.inl rfl,d0r,by rw [hD];exact Tr.get_put_sameB _ _ _ trivial,by omega,by rw [List.length_set];exact htl,by rw [List.length_append,hdl];rfl,by show (bL book (cH p.total).1).1.length≤_;omega⟩
  ·rintro ⟨done,taken,book⟩ vs X ⟨v,rfl,hv,x0,hg,htX,htl,hdl,hbl⟩ aF H
   simp only at hv hg htl hdl hbl
   have H:aK1 s ⟨done,taken,book⟩=R:=H
   unfold aK1 at H
   rw [←aVo] at H
   simp only [State.enc] at x0
   simp only [aLx,kk,gm,x0,Int.lt_irrefl,if_false]
   have lv:lenW v=.ok (.int .i64 (book.length:Int)):=by rcases hv with rfl | ⟨rfl,rfl⟩<;>simp [lenW]
   refine aG s.ser (step:=gE) (fin:=fun _=>decide (book=s.book)) (fun i is vs Z=>vs=[.bool false,.int .i64 (i:Int)]∧is=taken.drop i∧Z.heap=X.heap) (fun r=>r=R) ?_ ?_ (s:=taken) ⟨rfl,rfl,rfl⟩ H
   ·rintro i x is vs Z hi ⟨rfl,rfl,hZ⟩ again' H'
    have hil:=(List.getElem?_eq_some_iff.1 hi).1
    have hkt:(taken.map mG)[i]?=some (mG (taken.getD i 0)):=by
     rw [List.getElem?_map,List.getD_eq_getElem?_getD,List.getElem?_eq_getElem (by omega)];rfl
    have hhd:(taken.drop i).headD 0=taken.getD i 0:=by rw [List.drop_eq_getElem_cons (by omega),List.getD_eq_getElem?_getD,List.getElem?_eq_getElem (by omega)];rfl
    have htl':(taken.drop i).tail=taken.drop (i+1):=by rw [List.drop_eq_getElem_cons (by omega)];rfl
    have hld:∀ m,jH none (.ptr tb 0 i 0) ⟨m,Z.heap⟩=.ok (.int .i64 (taken.getD i 0)):=fun m=>by rw [aQy (X:=⟨m,Z.heap⟩) (by rw [←hZ] at hg;exact hg) hkt];rfl
    have z0:∀ m,aA ⟨m,Z.heap⟩ 0 0=.ok (6,[s.enc]):=fun m=>by rw [hZ];exact x0
    simp only [State.enc] at z0
    simp only [gE,hhd,htl'] at H'
    simp only [aLw,kk,gm,bB hi,if_true,aG6 hil,hld,z0,kT hi,Ser.enc,hJ (show i<1000000000 by omega)]
    by_cases c:taken.getD i 0=wr .i64 (x.next - 1)
    ·rw [if_pos c] at H'
     rw [if_neg (fun h=>h c)]
     exact H' _ _ ⟨rfl,rfl,hZ⟩
    ·rw [if_neg c] at H'
     have H':false=R:=H'
     rw [if_pos c,←H']
   ·rintro is vs Z ⟨rfl,rfl,hZ⟩ again' H'
    have H':decide (book=s.book)=R:=H'
    have z0:∀ m,aA ⟨m,Z.heap⟩ 0 0=.ok (6,[s.enc]):=fun m=>by rw [hZ];exact x0
    have z0':aA Z 0 0=.ok (6,[s.enc]):=z0 Z.next
    simp only [State.enc] at z0 z0'
    simp only [aLw,kk,gm,Int.lt_irrefl,if_false,lv,z0']
    by_cases c:book.length=s.book.length
    rotate_left
    ·have:¬ book=s.book:=fun h=>c (by rw [h])
     rw [decide_eq_false this] at H'
     rw [if_pos (show ¬ ((book.length:Nat):Int)=(s.book.length:Int) by omega),←H']
    rw [if_neg (show ¬ ¬ ((book.length:Nat):Int)=(s.book.length:Int) by omega)]
    refine aG book (step:=eE s.book) (fin:=fun _=>true) (fun i n vs U=>n=i∧vs=[.bool false,.int .i64 (i:Int)]∧U.heap=X.heap) (fun r=>r=R) ?_ ?_ (s:=0) ⟨rfl,rfl,hZ⟩ (by rw [eqL c];exact H')
    ·rintro i q n vs U hi ⟨rfl,rfl,hU⟩ again2 H2
     have hil:=(List.getElem?_eq_some_iff.1 hi).1
     have hj:s.book[n]?=some s.book[n]:=List.getElem?_eq_getElem (by omega)
     have hve:v=.imm (book.map Bal.enc):=hv.resolve_right fun h=>by rw [h.2] at hi;cases hi
     have u0:∀ m,aA ⟨m,U.heap⟩ 0 0=.ok (6,[s.enc]):=fun m=>by rw [hU];exact x0
     simp only [State.enc] at u0
     generalize hz:s.book[n]=z at hj
     have he:(z=q)=(q.acc=z.acc∧q.amount=z.amount):=by
      obtain ⟨_,_⟩:=q;obtain ⟨_,_⟩:=z;simp [and_assoc,eq_comm]
     simp only [eE,hj,Option.some.injEq,he] at H2
     simp only [aLv,kk,gm,hve,bB hi,if_true,lS hi,lS hj,Bal.enc,u0,hJ (show n<1000000000 by omega)]
     by_cases c:q.acc=z.acc∧q.amount=z.amount
     ·have c':¬ (!(q.acc == z.acc&&decide (q.amount=z.amount)))=true:=by simp [c]
      rw [if_pos c] at H2
      rw [if_neg c']
      exact H2 _ _ ⟨rfl,rfl,hU⟩
     ·have c':(!(q.acc == z.acc&&decide (q.amount=z.amount)))=true:=by
       rw [Bool.not_eq_true',Bool.eq_false_iff]
       intro h
       simp only [Bool.and_eq_true,decide_eq_true_eq,beq_iff_eq] at h
       exact c h
      rw [if_neg c] at H2
      have H2:false=R:=H2
      rw [if_pos c',←H2]
    ·rintro n vs U ⟨rfl,rfl,hU⟩ again2 H2
     have H2:true=R:=H2
     simp only [aLv,kk,lv,Int.lt_irrefl,if_false,oo,←H2]
 obtain ⟨Z,hZ⟩:∃ Z:St,Z=⟨1,Tr.nil.put 0 (Blk.row 0 (1+1+1+1+1+1) [s.enc])⟩:=⟨_,rfl⟩
 have z0:∀ m,aA ⟨m,Z.heap⟩ 0 0=.ok (6,[s.enc]):=fun m=>by rw [hZ];rfl
 have zh:Z.heap=Tr.nil.put 0 (Blk.row 0 (1+1+1+1+1+1) [s.enc]):=by rw [hZ]
 simp only [State.enc] at zh
 rw [←zh]
 have z0':=z0
 simp only [State.enc] at z0'
 by_cases c7:s.sess.length=0
 ·have:s.sess=[]:=List.length_eq_zero_iff.1 c7
  rw [if_neg (by simp [rT,this])] at hR
  rw [if_neg (show ¬ (0:Int)<(s.sess.length:Int) by omega)]
  exact hj0 _ (z0 _) (by show 1≤1+14;decide) hR
 ·obtain ⟨j,hj⟩:∃ j,s.sess.length=j+1:=⟨s.sess.length - 1,by omega⟩
  have hjl:s.sess[j]?=some s.sess[j]:=List.getElem?_eq_getElem (by omega)
  rw [if_pos (show (0:Int)<(s.sess.length:Int) by omega)]
  simp only [rT,hj,Nat.add_sub_cancel,hjl] at hR
  simp only [hj,wrm (show j+1<1000000000 by omega),mD hjl,Sess.enc,kk,gm]
  by_cases c8:s.sess[j].id<s.next
  ·rw [if_neg (by simp [c8])] at hR
   rw [if_neg (by omega)]
   exact hj0 _ (z0 _) (by show 1≤1+14;decide) hR
  ·rw [if_pos (by simp [c8])] at hR
   rw [if_pos (by omega),hR]
theorem aA1 (s:State) (e:Int) (S:St) (K:KW):C 187 [.agg [.imm (s.table.map Rate.enc),.imm (s.ser.map Ser.enc),.imm (s.posted.map Posted.enc),.imm (s.book.map Bal.enc),.imm (s.sess.map Sess.enc),.int .i64 s.next],.int .i64 e] S K=K (kO (s,why e)) S:=by
 refine (bLl rfl ?_).eq S K
 delta Tryz.f187;simp only [↓cw,↓reduceIte,Nat.reduceLT,kk,cN,gm,kO,why,oo]
theorem g32 (S:St) (K:KW):C 32 [] S K=K (.agg [.imm [],.imm [],.imm [],.imm [],.imm [],.int .i64 1]) S:=by
 refine (v32 rfl ?_).eq S K
 delta Tryz.f32;simp only [↓cw,↓reduceIte,Nat.reduceLT,kk,cN,gm,oo]
set_option maxHeartbeats 4000000 in
theorem bJq (s:State) (c:Cmd) (T:Total) (hs:s.book.length<900000) (hf:aDm T) (S:St) (K:KW):C 191 [.agg [.imm (s.table.map Rate.enc),.imm (s.ser.map Ser.enc),.imm (s.posted.map Posted.enc),.imm (s.book.map Bal.enc),.imm (s.sess.map Sess.enc),.int .i64 s.next],
  .agg [.int .i64 c.kind,.str c.series,.int .i64 c.limit,.str c.row.cat,.int .i64 c.row.day.y,.int .i64 c.row.day.m,.int .i64 c.row.day.d,.int .i64 c.row.bp,.int .i64 c.day.y,.int .i64 c.day.m,.int .i64 c.day.d,.imm (c.lines.map Line.enc),.str c.of.ser,.int .i64 c.of.num,.int .i64 c.session],
  .agg [.int .i64 T.net,.int .i64 T.tax,.int .i64 T.gross,.imm (T.parts.map Part.enc)]] S K=K (kO (aT s c.series ⟨Ref.zero,c.day,T,c.of,false⟩)) S:=by
 refine (bLn rfl ?_).eq S K
 delta Tryz.f191;simp only [↓cw,↓reduceIte,Nat.reduceLT,kk,cN,gm,bPj,aT]
 by_cases c1:(cL s.ser c.series).2.2=0
 rotate_left
 ·simp only [↓cw,↓reduceIte,Nat.reduceLT,c1,not_false_eq_true,if_true,aA1,kO,kk,cN,ne_eq,why]
  simp only [oo]
 simp only [c1,not_true_eq_false,if_false,ne_eq]
 by_cases c2:40≤s.posted.length
 ·simp only [↓cw,↓reduceIte,Nat.reduceLT,c2,show (40:Int)≤(s.posted.length:Int) by omega,if_true,aA1,kO,kk,cN,why]
  simp only [oo]
 simp only [↓cw,↓reduceIte,Nat.reduceLT,c2,show ¬ (40:Int)≤(s.posted.length:Int) by omega,if_false,bJn T hf,kk]
 by_cases c3:(cH T).2=0
 rotate_left
 ·simp only [↓cw,↓reduceIte,Nat.reduceLT,c3,not_false_eq_true,if_true,aA1,kO,kk,cN,why]
  simp only [oo]
 have hle:=(pR T).resolve_right (not_not_intro c3)
 have h12:=hf.1
 simp only [↓cw,↓reduceIte,Nat.reduceLT,c3,not_true_eq_false,if_false,bDb s.book (cH T).1 (show s.book.length+(cH T).1.length<1000000 by omega),kk,cN]
 by_cases c4:(bL s.book (cH T).1).2=0
 rotate_left
 ·simp only [↓cw,↓reduceIte,Nat.reduceLT,c4,not_false_eq_true,if_true,aA1,kO,kk,cN,why]
  simp only [oo]
 simp only [c4,not_true_eq_false,if_false]
 obtain ⟨sr,hsr⟩:∃ sr,sr=(cL s.ser c.series).1:=⟨_,rfl⟩
 obtain ⟨nm,hnm⟩:∃ nm,nm=(cL s.ser c.series).2.1:=⟨_,rfl⟩
 obtain ⟨bk,hbk⟩:∃ bk,bk=(bL s.book (cH T).1).1:=⟨_,rfl⟩
 rw [←hsr,←hnm,←hbk]
 obtain ⟨X,hX⟩:∃ X:St,X=⟨5,((((((Tr.nil.put 0 (Blk.row 0 (1+1+1+1+1+1) [[V.imm (List.map Rate.enc s.table),V.imm (List.map Ser.enc s.ser),V.imm (List.map Posted.enc s.posted),V.imm (List.map Bal.enc s.book),V.imm (List.map Sess.enc s.sess),V.int IntKind.i64 s.next]])).put 1 (Blk.row 0 (1+1+1+1+1+1+1+1+1+1+1+1+1+1+1) [[V.int IntKind.i64 c.kind,V.str c.series,V.int IntKind.i64 c.limit,V.str c.row.cat,V.int IntKind.i64 c.row.day.y,V.int IntKind.i64 c.row.day.m,V.int IntKind.i64 c.row.day.d,V.int IntKind.i64 c.row.bp,V.int IntKind.i64 c.day.y,V.int IntKind.i64 c.day.m,V.int IntKind.i64 c.day.d,V.imm (List.map Line.enc c.lines),V.str c.of.ser,V.int IntKind.i64 c.of.num,V.int IntKind.i64 c.session]])).put (1+1) (Blk.row 0 (1+1+1+1) [[V.int IntKind.i64 T.net,V.int IntKind.i64 T.tax,V.int IntKind.i64 T.gross,V.imm (List.map Part.enc T.parts)]])).put (1+1+1) (Blk.row 0 6 [[V.nils,V.nils,V.nils,V.nils,V.nils,V.int IntKind.i64 0]])).put (1+1+1+1) (Blk.row 0 3 [[V.int IntKind.i64 0,V.int IntKind.i64 0,V.int IntKind.i64 0]])).put 0 (Blk.row 0 (1+1+1+1+1+1) [[V.imm (List.map Rate.enc s.table),V.imm (List.map Ser.enc sr),V.imm (List.map Posted.enc s.posted),V.imm (List.map Bal.enc s.book),V.imm (List.map Sess.enc s.sess),V.int IntKind.i64 s.next]])).put 0 (Blk.row 0 (1+1+1+1+1+1) [[V.imm (List.map Rate.enc s.table),V.imm (List.map Ser.enc sr),V.imm (List.map Posted.enc s.posted),V.imm (List.map Bal.enc bk),V.imm (List.map Sess.enc s.sess),V.int IntKind.i64 s.next]])⟩:=⟨_,rfl⟩
 have xr:∀ m,aA ⟨m,X.heap⟩ 0 0=.ok (6,[[V.imm (List.map Rate.enc s.table),V.imm (List.map Ser.enc sr),V.imm (List.map Posted.enc s.posted),V.imm (List.map Bal.enc bk),V.imm (List.map Sess.enc s.sess),V.int IntKind.i64 s.next]])∧aA ⟨m,X.heap⟩ 1 0=.ok (15,[[V.int IntKind.i64 c.kind,V.str c.series,V.int IntKind.i64 c.limit,V.str c.row.cat,V.int IntKind.i64 c.row.day.y,V.int IntKind.i64 c.row.day.m,V.int IntKind.i64 c.row.day.d,V.int IntKind.i64 c.row.bp,V.int IntKind.i64 c.day.y,V.int IntKind.i64 c.day.m,V.int IntKind.i64 c.day.d,V.imm (List.map Line.enc c.lines),V.str c.of.ser,V.int IntKind.i64 c.of.num,V.int IntKind.i64 c.session]]) ∧
   aA ⟨m,X.heap⟩ 2 0=.ok (4,[[V.int IntKind.i64 T.net,V.int IntKind.i64 T.tax,V.int IntKind.i64 T.gross,V.imm (List.map Part.enc T.parts)]])∧aA ⟨m,X.heap⟩ 3 0=.ok (6,[[V.nils,V.nils,V.nils,V.nils,V.nils,V.int IntKind.i64 0]])∧aA ⟨m,X.heap⟩ 4 0=.ok (3,[[V.int IntKind.i64 0,V.int IntKind.i64 0,V.int IntKind.i64 0]]):=fun m=>by rw [hX];exact ⟨rfl,rfl,rfl,rfl,rfl⟩
 have xh:X.heap=_:=congrArg St.heap hX
 simp only at xh
 rw [←xh]
 obtain ⟨D,hD⟩:∃ D:St,D=⟨1+1+1+1+1+18,X.heap.put 5 (.row 0 12 [])⟩:=⟨_,rfl⟩
 have dn:D.next=23:=by rw [hD]
 have d5:aA D 5 0=.ok (12,[]):=by rw [hD];exact aC _ _ _ _ _ _
 have q1:=pX (b:=128) uA s.posted d5 (by omega) (by unfold dY;omega) (some (1+1+1+1+1+3))
 obtain ⟨E,hE⟩:∃ E:St,E=⟨D.next,D.heap.put 5 (.row 1 12 (s.posted.map Posted.enc))⟩:=⟨_,rfl⟩
 rw [←hE] at q1
 have hEr:∀ k:Nat,k<5→∀ ver r,aA ⟨23,X.heap⟩ k ver=.ok r→aA E k ver=.ok r:=fun k hk ver r h=>by
  rw [hE,hD]
  exact aD (n:=23) (by omega) (aD (n:=23) (by omega) h)
 obtain ⟨x0,x1,x2,x3,x4⟩:=xr 23
 have e1:=hEr 1 (by decide) _ _ x1
 have e2:=hEr 2 (by decide) _ _ x2
 obtain ⟨x,hx⟩:∃ x:Posted,x=⟨⟨c.series,nm⟩,c.day,T,c.of,false⟩:=⟨_,rfl⟩
 obtain ⟨F,hF⟩:∃ F:St,F=⟨E.next,E.heap.put 19 (.row 0 12 [x.enc])⟩:=⟨_,rfl⟩
 have f5:aA F 5 1=.ok (12,s.posted.map Posted.enc):=by rw [hF];exact aD (n:=E.next) (by decide) (by rw [hE];exact aC _ _ _ _ _ _)
 have f19:aA F 19 0=.ok (12,[x.enc]):=by rw [hF];exact aC _ _ _ _ _ _
 have q2:=aE3 (b:=128) uA s.posted x f5 f19 (by omega) (by unfold dY;omega) (some (1+1+1+1+1+15))
 obtain ⟨G,hG⟩:∃ G:St,G=⟨F.next,F.heap.put 5 (.row 2 12 ((s.posted++[x]).map Posted.enc))⟩:=⟨_,rfl⟩
 have q2':dW 12 128 (.sl 5 1 12 0 s.posted.length) (.sl 19 0 12 0 1) (some (1+1+1+1+1+15)) F=.ok (.sl 5 2 12 0 (s.posted.length+1),G):=by rw [hG];exact q2
 have hGr:∀ k:Nat,k<5→∀ ver r,aA ⟨23,X.heap⟩ k ver=.ok r→aA G k ver=.ok r:=fun k hk ver r h=>by
  rw [hG]
  refine aD (n:=F.next) (by omega) ?_
  rw [hF]
  exact aD (n:=E.next) (by omega) (hEr k hk ver r h)
 have g0:=hGr 0 (by decide) _ _ x0
 have gg:=fun (k:Nat) (hk:k<5) (m ver:Nat) r (h:aA ⟨23,X.heap⟩ k ver=.ok r)=>show aA ⟨m,G.heap⟩ k ver=.ok r from hGr k hk ver r h
 have g2:=fun m=>gg 2 (by decide) m _ _ x2
 have g3:=fun m=>gg 3 (by decide) m _ _ x3
 have g4:=fun m=>gg 4 (by decide) m _ _ x4
 have xe:x.enc=[V.str c.series,V.int IntKind.i64 nm,V.int IntKind.i64 c.day.y,V.int IntKind.i64 c.day.m,V.int IntKind.i64 c.day.d,V.int IntKind.i64 T.net,V.int IntKind.i64 T.tax,V.int IntKind.i64 T.gross,V.imm (List.map Part.enc T.parts),V.str c.of.ser,V.int IntKind.i64 c.of.num,V.bool false]:=by rw [hx];rfl
 rw [xe] at hF
 simp only [↓cw,↓reduceIte,Nat.reduceLT,bs0,bBw,nb1,kk,Nat.reduceAdd] at hD q1 q2' hF ⊢
 simp only [↓cw,↓reduceIte,Nat.reduceLT,←hD,q1,e1,e2,kk,←hF,q2',g0,g2,g3,g4,cN,gm]
 have gn:G.next=23:=by rw [hG,hF,hE];exact dn
 have gh:G.heap.get 5=some (.row 2 12 ((s.posted++[x]).map Posted.enc)):=by rw [hG];exact Tr.get_put_sameB _ _ _ trivial
 have of:∀ (b0 b3 b4:Blk),dD lV (pG (lF ⟨G.next+7,((G.heap.put 0 b0).put 3 b3).put 4 b4⟩ 3) ⟨G.next+7,((G.heap.put 0 b0).put 3 b3).put 4 b4⟩) (.sl 5 2 12 0 (s.posted.length+1))=.ok (.imm ((s.posted++[x]).map Posted.enc)):=fun b0 b3 b4=>by
  have:=(aE2 uA (l:=s.posted++[x]) (S:=⟨G.next+7,((G.heap.put 0 b0).put 3 b3).put 4 b4⟩) (a:=5) (ver:=2) (by
   show (((G.heap.put 0 b0).put 3 b3).put 4 b4).get 5=_
   rw [Tr.get_put_neB _ _ _ _ trivial (by decide),Tr.get_put_neB _ _ _ _ trivial (by decide),Tr.get_put_neB _ _ _ _ trivial (by decide)];exact gh) (by show 5<G.next+7;omega)).out fun _=>rfl
  rw [List.length_append] at this
  exact this
 simp only [oo,of,kO,hx]
def kN (r:Ref) (st:Int×Nat) (q:Posted):Int⊕(Int×Nat):=.inr (if q.ref=r then (st.2:Int) else st.1,st.2+1)
def aG9 (l:List Posted) (r:Ref):Int:=aE (kN r) Prod.fst l (-1,0)
theorem xL (r:Ref) {ρ:Type} (fin:Int×Nat→Int):∀ (l:List Posted) (a:Int) (n:Nat),(∀ q∈l,q.ref≠r)→aE (kN r) fin l (a,n)=fin (a,n+l.length)
 | [],a,n,_=>rfl
 | q::l,a,n,h=>by
  simp only [aE,kN]
  rw [if_neg (h q (List.mem_cons_self ..)),xL (ρ:=ρ) r fin l a (n+1) fun q hq=>h q (List.mem_cons_of_mem _ hq),List.length_cons]
  congr 2;omega
theorem aGa (r:Ref) (fin:Int×Nat→Int):∀ (l m:List Posted) (a:Int) (n:Nat),∃ a',aE (kN r) fin (l++m) (a,n)=aE (kN r) fin m (a',n+l.length)
 | [],m,a,n=>⟨a,rfl⟩
 | q::l,m,a,n=>by
  obtain ⟨a',h⟩:=aGa r fin l m (if q.ref=r then (n:Int) else a) (n+1)
  refine ⟨a',?_⟩
  rw [List.cons_append]
  simp only [aE,kN]
  rw [h,List.length_cons]
  congr 2;omega
theorem aP9 {α:Type} (p:α→Bool):∀ (l:List α),ixM p l=-1→∀ a∈l,p a=false
 | [],_,a,h=>by cases h
 | b::l,h,a,ha=>by
  rw [aJz] at h
  cases c:p b with
  | true=>rw [c,if_pos rfl] at h;omega
  | false=>
   rw [c,if_neg (by decide)] at h
   rcases List.mem_cons.1 ha with rfl | ha
   ·exact c
   ·refine aP9 p l ?_ a ha
    by_cases c2:ixM p l<0
    ·rcases gR p l with e | ⟨i,_,e,_,_⟩<;>omega
    ·rw [if_neg c2] at h;omega
theorem aVp {l:List Posted} (hu:∀ (i j:Nat) (p q:Posted),l[i]?=some p→l[j]?=some q→p.ref=q.ref→i=j) (r:Ref):aG9 l r=aW l r:=by
 rcases gR (fun p:Posted=>decide (p.ref=r)) l with e | ⟨i,q,e,hi,hq⟩
 ·have h:∀ q∈l,q.ref≠r:=fun q hq e2=>by
   have:=aP9 _ l e q hq
   simp [e2] at this
  unfold aG9 aW
  rw [xL (ρ:=Int) r Prod.fst l (-1) 0 h,e]
 ·have hq:q.ref=r:=of_decide_eq_true hq
  have hil:=(List.getElem?_eq_some_iff.1 hi).1
  have hl:l=l.take i++q::l.drop (i+1):=by
   have:=List.drop_eq_getElem_cons hil
   rw [(List.getElem?_eq_some_iff.1 hi).2] at this
   rw [←this,List.take_append_drop]
  unfold aW
  rw [e]
  unfold aG9
  rw [hl]
  obtain ⟨a',h⟩:=aGa r Prod.fst (l.take i) (q::l.drop (i+1)) (-1) 0
  rw [h]
  simp only [aE,kN]
  rw [if_pos hq,xL (ρ:=Int) r Prod.fst _ _ _ fun x hx e2=>?_,List.length_take]
  ·show ((0+min i l.length:Nat):Int)=i
   omega
  ·obtain ⟨j,hj⟩:=List.getElem?_of_mem hx
   rw [List.getElem?_drop] at hj
   have:=hu _ _ _ _ hj hi (e2.trans hq.symm)
   omega
def Cmd.rowE (c:Cmd):List V:=[.int .i64 c.kind,.str c.series,.int .i64 c.limit,.str c.row.cat,.int .i64 c.row.day.y,.int .i64 c.row.day.m,.int .i64 c.row.day.d,.int .i64 c.row.bp,.int .i64 c.day.y,.int .i64 c.day.m,.int .i64 c.day.d,.imm (c.lines.map Line.enc),.str c.of.ser,.int .i64 c.of.num,.int .i64 c.session]
structure Q4 (X:St) (a b:List V):Prop where
 r0:∀ m,aA ⟨m,X.heap⟩ 0 0=.ok (6,[a])
 r1:∀ m,aA ⟨m,X.heap⟩ 1 0=.ok (15,[b])
 r2:∀ m,aA ⟨m,X.heap⟩ 2 0=.ok (6,[[.nils,.nils,.nils,.nils,.nils,.int .i64 0]])
 r3:∀ m,aA ⟨m,X.heap⟩ 3 0=.ok (3,[[.int .i64 0,.int .i64 0,.int .i64 0]])
 n4:4≤X.next
 wf:WF X
theorem Q4.keep {X Y:St} {a b:List V} (h:Q4 X a b) (hn:X.next≤Y.next) (w:WF Y) (hk:∀ y,y<4→Y.heap.get y=X.heap.get y):Q4 Y a b:=
 ⟨fun m=>aI (S:=X) (h.r0 _) (hk 0 (by decide)),fun m=>aI (S:=X) (h.r1 _) (hk 1 (by decide)),fun m=>aI (S:=X) (h.r2 _) (hk 2 (by decide)),fun m=>aI (S:=X) (h.r3 _) (hk 3 (by decide)),Nat.le_trans h.n4 hn,w⟩
theorem Q4.bump {X:St} {a b:List V} (h:Q4 X a b) (c:Nat):Q4 ⟨X.next+c,X.heap⟩ a b:=h.keep (Nat.le_add_right _ _) (h.wf.bump c) fun _ _=>rfl
theorem Q4.put {X:St} {a b:List V} (h:Q4 X a b) {k m:Nat} {c:Blk} (hk:4≤k) (hm:k<m) (hn:X.next≤m):Q4 ⟨m,X.heap.put k c⟩ a b:=
 h.keep hn (eB (n:=X.next) h.wf hm hn) fun y hy=>Tr.get_put_neB _ _ _ _ trivial (by omega)
theorem aR1 (s:State) (name:List UInt8) (p:Posted):(aT s name p).1.posted.length≤s.posted.length+1:=by
 unfold aT
 repeat' split
 all_goals simp
set_option maxHeartbeats 4000000 in
theorem bPx (s:State) (c:Cmd) (hl:aG9 s.posted c.of=aW s.posted c.of) (hd:∀ p∈s.posted,p.day.right=true) (hf:∀ p∈s.posted,aDm p.total) (hp:s.posted.length<900000) (hb:s.book.length<900000) (S:St) (K:KW):
  C 192 [.agg [.imm (s.table.map Rate.enc),.imm (s.ser.map Ser.enc),.imm (s.posted.map Posted.enc),.imm (s.book.map Bal.enc),.imm (s.sess.map Sess.enc),.int .i64 s.next],
   .agg [.int .i64 c.kind,.str c.series,.int .i64 c.limit,.str c.row.cat,.int .i64 c.row.day.y,.int .i64 c.row.day.m,.int .i64 c.row.day.d,.int .i64 c.row.bp,.int .i64 c.day.y,.int .i64 c.day.m,.int .i64 c.day.d,.imm (c.lines.map Line.enc),.str c.of.ser,.int .i64 c.of.num,.int .i64 c.session]] S K=K (kO (eN s c)) S:=by
 refine (bNa rfl ?_).eq S K
 simp only [aX9,kk]
 obtain ⟨S0,hS0⟩:∃ S0:St,S0=⟨3+1,(((Tr.nil.put 0 (.row 0 6 [s.enc])).put 1 (.row 0 15 [c.rowE])).put 2 (.row 0 6 [[.nils,.nils,.nils,.nils,.nils,.int .i64 0]])).put 3 (.row 0 3 [[.int .i64 0,.int .i64 0,.int .i64 0]])⟩:=⟨_,rfl⟩
 have q0:Q4 S0 s.enc c.rowE:=by
  rw [hS0]
  exact ⟨fun _=>rfl,fun _=>rfl,fun _=>rfl,fun _=>rfl,Nat.le_refl _,eB (n:=3) (eB (n:=2) (eB (n:=1) (eB lB (by decide) (by decide)) (by decide) (by decide)) (by decide) (by decide)) (by decide) (by decide)⟩
 have hno:∀ (X:St) (e:Int),Q4 X s.enc c.rowE→dS ⟨X.next,(X.heap.put 2 (.row 0 6 [s.enc])).put 3 (.row 0 3 [[.int .i64 e,.int .i64 0,.int .i64 0]])⟩ (kO (s,why e))=.ok (kO (s,why e)):=fun X e _=>by
  simp only [kO,why,oo]
 simp only [State.enc,Cmd.rowE] at hS0 q0 hno
 simp only [Nat.reduceAdd] at hS0 ⊢
 rw [←hS0]
 have hj2:∀ (Z:St) (P:Nat) (pv:V) (R:State×Rep),aA Z 0 0=.ok (6,[R.1.cells pv])→aA Z P 0=.ok (3,[[.int .i64 R.2.why,.int .i64 R.2.number,.int .i64 R.2.gross]])→aA Z 2 0=.ok (6,[[.nils,.nils,.nils,.nils,.nils,.int .i64 0]])→aA Z 3 0=.ok (3,[[.int .i64 0,.int .i64 0,.int .i64 0]])→4≤P→
   (pv=.imm (R.1.posted.map Posted.enc)∨Own E0 Z 12 pv (R.1.posted.map Posted.enc)∧∀ k,k<4→AM.blkOf pv≠some k)→aC7 C (fun v0 S0=>dS S0 v0=.ok (kO R)) (.ptr 0 0 0 0) (.ptr 2 0 0 0) (.ptr 3 0 0 0) (.ptr P 0 0 0) Z:=by
  intro Z P pv R z0 zP z2 z3 hP hpv
  have z0:∀ m,aA ⟨m,Z.heap⟩ 0 0=.ok (6,[R.1.cells pv]):=fun m=>z0
  have zP:∀ m,aA ⟨m,Z.heap⟩ P 0=.ok (3,[[.int .i64 R.2.why,.int .i64 R.2.number,.int .i64 R.2.gross]]):=fun m=>zP
  have z2:∀ m,aA ⟨m,Z.heap⟩ 2 0=.ok (6,[[.nils,.nils,.nils,.nils,.nils,.int .i64 0]]):=fun m=>z2
  have z3:∀ m,aA ⟨m,Z.heap⟩ 3 0=.ok (3,[[.int .i64 0,.int .i64 0,.int .i64 0]]):=fun m=>z3
  have p1:pv.one=true:=by rcases hpv with rfl | ⟨o,_⟩;rfl;exact o.one
  have p2:pv.cells=[pv]:=by rcases hpv with rfl | ⟨o,_⟩;rfl;exact o.cells
  have of:∀ b2 b3,dD lV (pG (lF ⟨Z.next+4,(Z.heap.put 2 b2).put 3 b3⟩ 3) ⟨Z.next+4,(Z.heap.put 2 b2).put 3 b3⟩) pv=.ok (.imm (R.1.posted.map Posted.enc)):=fun b2 b3=>by
   rcases hpv with rfl | ⟨o,hk⟩
   ·rfl
   ·exact (o.same (S':=⟨Z.next+4,(Z.heap.put 2 b2).put 3 b3⟩) (by show Z.next≤Z.next+4;omega) fun a ha=>by
     show ((Z.heap.put 2 b2).put 3 b3).get a=_
     rw [Tr.get_put_neB _ _ _ _ trivial (fun e=>hk 3 (by decide) (by rw [←e];exact ha)),Tr.get_put_neB _ _ _ _ trivial (fun e=>hk 2 (by decide) (by rw [←e];exact ha))]).out fun _=>rfl
  have hP2:¬ P=2:=by omega
  have hP2':¬ (2=P):=by omega
  simp only [State.cells] at z0
  have zPn:∀ b2,aA ⟨Z.next+4,Z.heap.put 2 b2⟩ P 0=.ok (3,[[.int .i64 R.2.why,.int .i64 R.2.number,.int .i64 R.2.gross]]):=fun b2=>aD (n:=Z.next) hP2 (zP _)
  simp only [aC7,kk,gm,z0,zP,z2,z3,p1,p2,zPn,cN,kO,oo,of]
 have hj1:∀ (Y:St) (P n:Nat) (p:Posted) (b:Bool) (R:State×Rep),Q4 Y s.enc c.rowE→(∀ m,aA ⟨m,Y.heap⟩ P 0=.ok (12,[p.enc]))→4≤P→P<Y.next→s.posted[n]?=some p→
   R=(if b=true then (s,why 9) else if (aV p.total).2≠0 then (s,why (aV p.total).2) else if (aT s c.series ⟨Ref.zero,c.day,(aV p.total).1,c.of,false⟩).2.why=0 then
     ({ (aT s c.series ⟨Ref.zero,c.day,(aV p.total).1,c.of,false⟩).1 with posted:=eA (aT s c.series ⟨Ref.zero,c.day,(aV p.total).1,c.of,false⟩).1.posted n },(aT s c.series ⟨Ref.zero,c.day,(aV p.total).1,c.of,false⟩).2)
    else aT s c.series ⟨Ref.zero,c.day,(aV p.total).1,c.of,false⟩)→
   zD C (fun v0 S0=>dS S0 v0=.ok (kO R)) (.ptr 0 0 0 0) (.ptr 1 0 0 0) (.ptr 2 0 0 0) (.ptr 3 0 0 0) (.int .i64 (n:Int)) (.ptr P 0 0 0) (.bool b) Y:=by
  intro Y P n p b R q hP h4 hPn hn hR
  have hpm:=List.mem_of_getElem? hn
  obtain ⟨r0,r1,r2,r3,n4,w⟩:=id q
  simp only [State.enc,Cmd.rowE] at r0 r1
  have r0':=r0 Y.next
  have r1':=r1 Y.next
  have r2':=r2 Y.next
  have r3':=r3 Y.next
  have hP':=hP Y.next
  simp only [Posted.enc] at hP hP'
  cases b
  rotate_left
  ·rw [if_pos rfl] at hR
   subst hR
   simp only [zD,kk,if_true,gm,r0',aA1,kO,why,r2',r3',cN,r0,r1,r2,r3,oo]
  rw [if_neg (by decide)] at hR
  have hfb:=hf p hpm
  have h12:=hfb.1
  simp only [zD,kk,Bool.false_eq_true,if_false,gm,hP',bJp p.total (by omega),mE]
  obtain ⟨B,hB⟩:∃ B,B=(aV p.total).1:=⟨_,rfl⟩
  rw [←hB] at hR ⊢
  obtain ⟨U,hU⟩:∃ U:St,U=⟨Y.next+1,(Y.heap.put Y.next (Blk.row 0 4 [[V.int IntKind.i64 0,V.int IntKind.i64 0,V.int IntKind.i64 0,V.nils]])).put Y.next (Blk.row 0 4 [[V.int IntKind.i64 B.net,V.int IntKind.i64 B.tax,V.int IntKind.i64 B.gross,V.imm (List.map Part.enc B.parts)]])⟩:=⟨_,rfl⟩
  have qU:Q4 U s.enc c.rowE:=by
   rw [hU]
   exact (q.put (k:=Y.next) (m:=Y.next+1) n4 (by omega) (by omega)).put (k:=Y.next) (m:=Y.next+1) n4 (by omega) (Nat.le_refl _)
  obtain ⟨u0,u1,u2,u3,un,uw⟩:=id qU
  simp only [State.enc,Cmd.rowE] at u0 u1
  have u0':=u0 U.next
  have u1':=u1 U.next
  have u2':=u2 U.next
  have u3':=u3 U.next
  rw [←hU]
  by_cases d1:(aV p.total).2=0
  rotate_left
  ·rw [if_pos d1] at hR
   subst hR
   rw [if_pos d1]
   simp only [kk,u0',aA1,kO,why,u2',u3',cN,u0,u1,u2,u3,oo]
  rw [if_neg (fun h=>h d1)] at hR
  rw [if_neg (fun h=>h d1)]
  have hfB:aDm B:=by rw [hB];exact aFl hfb d1
  obtain ⟨I,hI⟩:∃ I,I=aT s c.series ⟨Ref.zero,c.day,B,c.of,false⟩:=⟨_,rfl⟩
  rw [←hI] at hR
  simp only [u0',u1',kk,bJq s c B hb hfB,←hI,kO]
  obtain ⟨D,hD⟩:∃ D:St,D=⟨U.next+1,((U.heap.put U.next (.row 0 3 [[.int .i64 0,.int .i64 0,.int .i64 0]])).put 0 (.row 0 6 [I.1.enc])).put U.next (.row 0 3 [[.int .i64 I.2.why,.int .i64 I.2.number,.int .i64 I.2.gross]])⟩:=⟨_,rfl⟩
  have hDk:∀ y,y≠0→y≠U.next→D.heap.get y=U.heap.get y:=fun y h1 h2=>by
   rw [hD]
   show (((U.heap.put U.next _).put 0 _).put U.next _).get y=_
   rw [Tr.get_put_neB _ _ _ _ trivial h2,Tr.get_put_neB _ _ _ _ trivial h1,Tr.get_put_neB _ _ _ _ trivial h2]
  have dn:D.next=U.next+1:=by rw [hD]
  have wD:WF D:=by rw [hD];exact eB (n:=U.next+1) (eB (n:=U.next+1) (eB (n:=U.next) uw (by omega) (by omega)) (by omega) (Nat.le_refl _)) (by omega) (Nat.le_refl _)
  have dP:aA D U.next 0=.ok (3,[[.int .i64 I.2.why,.int .i64 I.2.number,.int .i64 I.2.gross]]):=by rw [hD];exact aC _ _ _ _ _ _
  have d0:aA D 0 0=.ok (6,[I.1.enc]):=by rw [hD];exact aD (n:=U.next+1) (by omega) (aC _ _ _ _ _ _)
  have d2:aA D 2 0=_:=aI (S:=U) u2' (hDk 2 (by decide) (by omega))
  have d3:aA D 3 0=_:=aI (S:=U) u3' (hDk 3 (by decide) (by omega))
  have hUn:(0=U.next)=False:=by simp;omega
  have hUn':(U.next=0)=False:=by simp;omega
  have e0:aA ⟨U.next+1,U.heap.put U.next (.row 0 3 [[.int .i64 0,.int .i64 0,.int .i64 0]])⟩ 0 0=.ok (6,[s.enc]):=aD (n:=U.next) (by omega) (qU.r0 U.next)
  have eP:∀ b,aA ⟨U.next+1,(U.heap.put U.next (.row 0 3 [[.int .i64 0,.int .i64 0,.int .i64 0]])).put 0 b⟩ U.next 0=.ok (3,[[.int .i64 0,.int .i64 0,.int .i64 0]]):=fun b=>aD (n:=U.next+1) (by omega) (aC _ _ _ _ _ _)
  have d0':=d0
  simp only [State.enc] at hD e0 d0
  simp only [e0,kk,eP,←hD,dP]
  by_cases d5:I.2.why=0
  rotate_left
  ·rw [if_neg d5] at hR
   subst hR
   rw [if_neg d5]
   exact hj2 D U.next (.imm (R.1.posted.map Posted.enc)) R d0' dP d2 d3 (by omega) (.inl rfl)
  rw [if_pos d5] at hR
  rw [if_pos d5]
  obtain ⟨l',hl'⟩:∃ l',I.1.posted=s.posted++l':=by rw [hI];exact zM s c.series _
  have hIl:I.1.posted.length<1000000:=by have:=aR1 s c.series ⟨Ref.zero,c.day,B,c.of,false⟩;rw [←hI] at this;omega
  have hnl:=(List.getElem?_eq_some_iff.1 hn).1
  have hp':I.1.posted[n]?=some p:=by rw [hl',List.getElem?_append_left hnl];exact hn
  obtain ⟨v,E,q1,own,wE,nE,kE,bv⟩:=aK5 (b:=128) uA I.1.posted wD (by omega) (by unfold dY;omega)
  obtain ⟨a,ver,hv,_,hav,e4,hat,set1⟩:=own.setK (wW wE) lB (i:=n) (cs:=p.enc) (by simp [hp']) .i64
  obtain ⟨F,st1,x2,nF,own2,keep2,w2⟩:=set1 11 1 (.bool true) rfl rfl (by decide)
  have ha:a=D.next:=by rw [hv] at bv;exact Option.some.inj bv
  have hset:(I.1.posted.map Posted.enc).set n (splice p.enc 11 [.bool true])=(eA I.1.posted n).map Posted.enc:=by
   unfold eA
   rw [hp',List.map_set];rfl
  simp only [V.cells] at own2
  rw [hset] at own2
  have kF:∀ y,y<D.next→F.heap.get y=D.heap.get y:=fun y hy=>(keep2 y (by omega)).trans (kE y (by omega))
  have f0:=aI d0 (kF 0 (by omega))
  have dB:∀ b,aA ⟨D.next+1,D.heap.put D.next b⟩ 0 0=.ok (6,[I.1.enc]):=fun b=>aD (n:=D.next) (by omega) d0'
  simp only [State.enc] at dB
  simp only [bs0,nb0,kk,dB,q1,e4,st1,f0,own2.one,own2.cells]
  have hvb:∀ k,k<4→AM.blkOf v≠some k:=fun k hk e=>by rw [bv] at e;cases e;omega
  subst hR
  refine hj2 ⟨F.next,F.heap.put 0 (.row 0 6 [State.cells { I.1 with posted:=eA I.1.posted n } v])⟩ U.next v ({ I.1 with posted:=eA I.1.posted n },I.2) (aC _ _ _ _ _ _) ?_ ?_ ?_ (by omega) (.inr ⟨?_,hvb⟩)
  ·exact aD (n:=F.next) (by omega) (aI dP (kF _ (by omega)))
  ·exact aD (n:=F.next) (by decide) (aI d2 (kF _ (by omega)))
  ·exact aD (n:=F.next) (by decide) (aI d3 (kF _ (by omega)))
  ·exact own2.same (Nat.le_refl _) fun y hy=>Tr.get_put_neB _ _ _ _ trivial fun e=>hvb 0 (by decide) (by rw [←e];exact hy)
 refine aG s.posted (step:=kN c.of) (fin:=Prod.fst) (fun i st vs X=>vs=[.int .i64 st.1,.int .i64 (i:Int)]∧st.2=i∧Q4 X s.enc c.rowE) (fun r=>r=aW s.posted c.of) ?_ ?_ (s:=(-1,0)) ⟨rfl,rfl,q0⟩ hl
 ·rintro i p ⟨k,j⟩ vs X hi ⟨rfl,hji,q⟩ aF H
  have hji:j=i:=hji
  subst hji
  have hil:=(List.getElem?_eq_some_iff.1 hi).1
  obtain ⟨r0,r1,r2,r3,n4,w⟩:=id q
  have r0':=r0 X.next
  simp only [State.enc,Cmd.rowE] at r0 r1 r0'
  simp only [kN] at H
  simp only [aHo,kk,gm,r0',r0,r1,bB hi,if_true,kJ hi,Posted.enc,hJ (show j<1000000000 by omega)]
  by_cases d:p.ref=c.of
  ·have d':(p.ref.ser == c.of.ser&&decide (p.ref.num=c.of.num))=true:=by rw [d];simp
   rw [if_pos d] at H
   rw [if_pos d']
   exact H _ _ ⟨rfl,trivial,q.bump 9⟩
  ·have d':¬ (p.ref.ser == c.of.ser&&decide (p.ref.num=c.of.num))=true:=by rw [Ref.ext_iff] at d;simpa using d
   rw [if_neg d] at H
   rw [if_neg d']
   exact H _ _ ⟨rfl,trivial,q.bump 9⟩
 ·rintro ⟨k,j⟩ vs X ⟨rfl,hji,q⟩ aF H
  have hk:k=aW s.posted c.of:=H
  obtain ⟨r0,r1,r2,r3,n4,w⟩:=id q
  have r0':=r0 X.next
  have r2':=r2 X.next
  have r3':=r3 X.next
  simp only [State.enc,Cmd.rowE] at r0 r1 r0'
  simp only [aHo,kk,gm,r0',r0,Int.lt_irrefl,if_false]
  unfold eN
  rw [hk]
  rcases kG s.posted c.of with e | ⟨n,p,e,hn,hpr⟩
  ·rw [e,if_pos (by decide),if_pos (by decide)]
   simp only [aA1,kO,why,kk,r2',r3',cN,r0,r1,r2,r3,oo]
  have hg:s.posted.getD n Posted.zero=p:=by rw [List.getD_eq_getElem?_getD,hn];rfl
  have hpm:=List.mem_of_getElem? hn
  rw [e,if_neg (by omega),if_neg (by omega),Int.toNat_natCast,hg]
  obtain ⟨B,hB⟩:∃ B:St,B=⟨X.next+1,(X.heap.put X.next (.row 0 12 [aBo])).put X.next (.row 0 12 [p.enc])⟩:=⟨_,rfl⟩
  have qB:Q4 B s.enc c.rowE:=by
   rw [hB]
   exact (q.put (k:=X.next) (m:=X.next+1) n4 (by omega) (by omega)).put (k:=X.next) (m:=X.next+1) n4 (by omega) (Nat.le_refl _)
  have bP:∀ m,aA ⟨m,B.heap⟩ X.next 0=.ok (12,[p.enc]):=fun m=>by rw [hB];exact aC _ _ _ _ _ _
  have bn:B.next=X.next+1:=by rw [hB]
  obtain ⟨s0,s1,s2,s3,m4,w'⟩:=id qB
  have s0':=s0 B.next
  have s2':=s2 B.next
  have s3':=s3 B.next
  have bP0:=bP
  have bP':=bP B.next
  simp only [State.enc,Cmd.rowE] at s0 s1 s0'
  simp only [Posted.enc] at bP bP'
  simp only [aBo,Posted.enc] at hB
  obtain ⟨R,hR⟩:∃ R,R=eW s c n p:=⟨_,rfl⟩
  rw [←hR]
  unfold eW at hR
  have hj0:∀ b:Bool,b=(p.back||!decide (p.of=Ref.zero))→zF C (fun v0 S0=>dS S0 v0=.ok (kO R)) (.ptr 0 0 0 0) (.ptr 1 0 0 0) (.ptr 2 0 0 0) (.ptr 3 0 0 0) (.int .i64 (n:Int)) (.ptr X.next 0 0 0) (.bool b) B:=by
   intro b hb
   cases b
   ·have hb1:p.back=false:=by cases h:p.back;rfl;rw [h] at hb;cases hb
    have hb2:p.of=Ref.zero:=by rw [hb1] at hb;simpa using hb.symm
    rw [if_neg (by rw [hb1];decide),if_pos hb2] at hR
    have n13:B.next≤B.next+13:=Nat.le_add_right _ _
    simp only [zF,kk,Bool.false_eq_true,if_false,gm,s1,aM0]
    cases d1:c.day.right
    ·rw [if_pos d1] at hR
     simp only [Bool.not_false,if_true]
     exact hj1 ⟨B.next+13,B.heap⟩ X.next n p true R (qB.bump 13) bP0 n4 (by show X.next<B.next+13;omega) hn (by rw [if_pos rfl];exact hR)
    rw [if_neg (by rw [d1];decide)] at hR
    have hbef:c.day.before p.day=decide (c.day.days<p.day.days):=by unfold Date.before;rw [d1,hd p hpm];rfl
    rw [hbef] at hR
    simp only [Bool.not_true,Bool.false_eq_true,if_false,bP,kk,aXp]
    exact hj1 ⟨B.next+13,B.heap⟩ X.next n p _ R (qB.bump 13) bP0 n4 (by show X.next<B.next+13;omega) hn hR
   ·have hR:R=(s,why 12):=by
     rw [hR]
     cases h:p.back
     ·rw [if_neg (by decide)]
      rw [h] at hb
      have:¬ p.of=Ref.zero:=by simpa using hb.symm
      rw [if_neg this]
     ·rw [if_pos rfl]
    subst hR
    simp only [zF,kk,if_true,gm,s0',aA1,kO,why,s2',s3',cN,s0,s1,s2,s3,oo]
  have hz:(!(p.of.ser == []&&decide (p.of.num=0)))=(!decide (p.of=Ref.zero)):=by
   by_cases h:p.of=Ref.zero
   ·rw [h];decide
   ·rw [decide_eq_false h]
    rw [Ref.ext_iff] at h
    simp
    exact Decidable.not_and_iff_or_not.1 h
  simp only [kJ hn,Posted.enc,kk,←hB,bP']
  cases hbk:p.back
  ·simp only [Bool.false_eq_true,if_false,kk,hz]
   exact hj0 _ (by rw [hbk];rfl)
  ·simp only [if_true]
   exact hj0 _ (by rw [hbk];rfl)
def Cmd.zero:Cmd:=⟨0,[],0,⟨[],⟨0,0,0⟩,0⟩,⟨0,0,0⟩,[],Ref.zero,0⟩
def eY (c:Cmd):Cmd×Bool:=
 if c.kind=1 then ({ Cmd.zero with kind:=1,series:=c.series,limit:=c.limit },true) else if c.kind=2∨c.kind=8 then ({ Cmd.zero with kind:=c.kind,series:=c.series },true) else
  if c.kind=3 then ({ Cmd.zero with kind:=3,row:=c.row },true) else if c.kind=4 then ({ Cmd.zero with kind:=4,series:=c.series,day:=c.day,lines:=c.lines },true) else
   if c.kind=5 then ({ Cmd.zero with kind:=5,series:=c.series,day:=c.day,of:=c.of },true) else if c.kind=6 then ({ Cmd.zero with kind:=6 },true) else
    if c.kind=7 then ({ Cmd.zero with kind:=7,session:=c.session },true) else (Cmd.zero,false)
def iR (r:Cmd×Bool):V:=.tup [.agg [.int .i64 r.1.kind,.str r.1.series,.int .i64 r.1.limit,.str r.1.row.cat,.int .i64 r.1.row.day.y,.int .i64 r.1.row.day.m,.int .i64 r.1.row.day.d,.int .i64 r.1.row.bp,.int .i64 r.1.day.y,.int .i64 r.1.day.m,.int .i64 r.1.day.d,.imm (r.1.lines.map Line.enc),.str r.1.of.ser,.int .i64 r.1.of.num,.int .i64 r.1.session],.bool r.2]
set_option maxHeartbeats 4000000 in
theorem bPy (c:Cmd) (hl:c.lines.length<1000000) (S:St) (K:KW):
  C 108 [.agg [.int .i64 c.kind,.str c.series,.int .i64 c.limit,.str c.row.cat,.int .i64 c.row.day.y,.int .i64 c.row.day.m,.int .i64 c.row.day.d,.int .i64 c.row.bp,.int .i64 c.day.y,.int .i64 c.day.m,.int .i64 c.day.d,.imm (c.lines.map Line.enc),.str c.of.ser,.int .i64 c.of.num,.int .i64 c.session]] S K=K (iR (eY c)) S:=by
 refine (bMy rfl ?_).eq S K
 simp only [aWq,kk,cN,gm,iR,eY]
 by_cases k1:c.kind=1
 ·simp only [k1,if_true,kk,cN,oo,Cmd.zero,Ref.zero,List.map_nil]
 simp only [k1,if_false]
 have hj:∀ (K:KW) (S0:St),uO C K (.ptr 0 0 0 0) (.ptr 1 0 0 0) (.ptr 2 0 0 0) (.int .i64 c.kind) (.bool true) S0→True:=fun _ _ _=>trivial
 by_cases k2:c.kind=2
 ·simp only [k2,if_true,uO,kk,cN,gm,oo,Cmd.zero,Ref.zero,List.map_nil,true_or]
 simp only [k2,if_false]
 by_cases k8:c.kind=8
 ·simp only [k8,if_true,decide_true,uO,kk,cN,gm,oo,Cmd.zero,Ref.zero,List.map_nil,or_true]
 simp only [k8,decide_false,or_self,if_false,uO,kk,Bool.false_eq_true,gm,cN]
 by_cases k3:c.kind=3
 ·simp only [k3,if_true,kk,cN,gm,oo,Cmd.zero,Ref.zero,List.map_nil]
 simp only [k3,if_false]
 by_cases k4:c.kind=4
 ·simp only [k4,if_true,kk,cN,gm]
  generalize hX:(St.mk (1+1+1+8) _)=X
  have x0:∀ m,aA ⟨m,X.heap⟩ 0 0=.ok (15,[[.int .i64 4,.str c.series,.int .i64 c.limit,.str c.row.cat,.int .i64 c.row.day.y,.int .i64 c.row.day.m,.int .i64 c.row.day.d,.int .i64 c.row.bp,.int .i64 c.day.y,.int .i64 c.day.m,.int .i64 c.day.d,.imm (c.lines.map Line.enc),.str c.of.ser,.int .i64 c.of.num,.int .i64 c.session]]):=fun m=>by rw [←hX];rfl
  have x1:∀ m,aA ⟨m,X.heap⟩ 1 0=.ok (15,[[.int .i64 0,.str [],.int .i64 0,.str [],.int .i64 0,.int .i64 0,.int .i64 0,.int .i64 0,.int .i64 0,.int .i64 0,.int .i64 0,.nils,.str [],.int .i64 0,.int .i64 0]]):=fun m=>by rw [←hX];rfl
  have x2:∀ m,aA ⟨m,X.heap⟩ 2 0=.ok (15,[[.int .i64 4,.str c.series,.int .i64 0,.str [],.int .i64 0,.int .i64 0,.int .i64 0,.int .i64 0,.int .i64 c.day.y,.int .i64 c.day.m,.int .i64 c.day.d,.nils,.str [],.int .i64 0,.int .i64 0]]):=fun m=>by rw [←hX];rfl
  have xn:X.next=11:=by rw [←hX]
  have wX:WF X:=by
   rw [←hX]
   exact eB (n:=11) (eB (n:=11) (eB (n:=11) (eB (n:=11) (eB (n:=11) (eB (n:=0) lB (by decide) (by decide)) (by decide) (by decide)) (by decide) (by decide)) (by decide) (by decide)) (by decide) (by decide)) (by decide) (by decide)
  obtain ⟨v,Y,q1,own,wY,nY,kY,bv⟩:=aK5 (b:=48) bC0 c.lines wX (by omega) (by unfold dY;omega)
  have b0:∀ b,aA ⟨X.next+1,X.heap.put X.next b⟩ 0 0=_:=fun b=>aD (n:=X.next) (by omega) (x0 _)
  have y1:∀ m,aA ⟨m,Y.heap⟩ 1 0=_:=fun m=>aI (S:=X) (x1 _) (kY 1 (by omega))
  have y2:aA Y 2 0=_:=aI (S:=X) (x2 _) (kY 2 (by omega))
  have of:∀ (b1 b2:Blk),dD lV (pG (lF ⟨Y.next,(Y.heap.put 2 b1).put 1 b2⟩ 3) ⟨Y.next,(Y.heap.put 2 b1).put 1 b2⟩) v=.ok (.imm (c.lines.map Line.enc)):=fun b1 b2=>
   (own.same (S':=⟨Y.next,(Y.heap.put 2 b1).put 1 b2⟩) (Nat.le_refl _) fun a ha=>by
    rw [bv] at ha
    cases ha
    show ((Y.heap.put 2 b1).put 1 b2).get X.next=_
    rw [Tr.get_put_neB _ _ _ _ trivial (by omega),Tr.get_put_neB _ _ _ _ trivial (by omega)]).out fun _=>rfl
  simp only [bs0,nb0,kk,b0,q1,y2,own.one,own.cells,y1,cN,Nat.reduceAdd]
  simp only [oo,of,Cmd.zero,Ref.zero]
 simp only [k4,if_false]
 by_cases k5:c.kind=5
 ·simp only [k5,if_true,kk,cN,gm,oo,Cmd.zero,Ref.zero,List.map_nil]
 simp only [k5,if_false]
 by_cases k6:c.kind=6
 ·simp only [k6,if_true,kk,cN,gm,oo,Cmd.zero,Ref.zero,List.map_nil]
 simp only [k6,if_false]
 by_cases k7:c.kind=7
 ·simp only [k7,if_true,kk,cN,gm,oo,Cmd.zero,Ref.zero,List.map_nil]
 ·simp only [k7,if_false,kk,cN,gm,oo,Cmd.zero,Ref.zero,List.map_nil]
set_option maxHeartbeats 8000000 in
theorem bPz (s:State) (c:Cmd) (h4:c.kind=4→c.of=Ref.zero) (hse:eG s.sess=true) (hsr:s.ser.length<1000000) (hc64:∀ l∈c.lines,eF l.count∧eF l.price) (hll:c.lines.length<1000000) (hl:aG9 s.posted c.of=aW s.posted c.of) (hd:∀ p∈s.posted,p.day.right=true) (hf:∀ p∈s.posted,aDm p.total) (hp:s.posted.length<900000) (hb:s.book.length<900000) (S:St) (K:KW):
  C 110 [.agg [.imm (s.table.map Rate.enc),.imm (s.ser.map Ser.enc),.imm (s.posted.map Posted.enc),.imm (s.book.map Bal.enc),.imm (s.sess.map Sess.enc),.int .i64 s.next],
   .agg [.int .i64 c.kind,.str c.series,.int .i64 c.limit,.str c.row.cat,.int .i64 c.row.day.y,.int .i64 c.row.day.m,.int .i64 c.row.day.d,.int .i64 c.row.bp,.int .i64 c.day.y,.int .i64 c.day.m,.int .i64 c.day.d,.imm (c.lines.map Line.enc),.str c.of.ser,.int .i64 c.of.num,.int .i64 c.session]] S K=K (kO (mC s c)) S:=by
 refine (bKf rfl ?_).eq S K
 have hel:=gS hse
 delta Tryz.f110;simp only [↓cw,↓reduceIte,Nat.reduceLT,kk,cN,gm,mC,bPh,bPi,bPg]
 by_cases k1:c.kind=1
 ·simp only [k1,if_true,fB]
  by_cases e:(fL s.ser c.series c.limit).2=0
  ·simp only [↓cw,↓reduceIte,Nat.reduceLT,e,not_true_eq_false,if_false,if_true,kk,cN,gm,kO,why,oo]
  ·simp only [↓cw,↓reduceIte,Nat.reduceLT,e,not_false_eq_true,if_false,if_true,kk,cN,gm,aA1,kO,why,oo]
 simp only [k1,if_false]
 by_cases k2:c.kind=2
 ·simp only [k2,if_true,fB]
  by_cases e:(oO s.ser c.series).2=0
  ·simp only [↓cw,↓reduceIte,Nat.reduceLT,e,not_true_eq_false,if_false,if_true,kk,cN,gm,kO,why,oo]
  ·simp only [↓cw,↓reduceIte,Nat.reduceLT,e,not_false_eq_true,if_false,if_true,kk,cN,gm,aA1,kO,why,oo]
 simp only [k2,if_false]
 by_cases k3:c.kind=3
 ·simp only [k3,if_true,jB]
  by_cases e:(dE s.table c.row).2=0
  ·simp only [↓cw,↓reduceIte,Nat.reduceLT,e,not_true_eq_false,if_false,if_true,kk,cN,gm,kO,why,oo]
  ·simp only [↓cw,↓reduceIte,Nat.reduceLT,e,not_false_eq_true,if_false,if_true,kk,cN,gm,aA1,kO,why,oo]
 simp only [k3,if_false]
 by_cases k4:c.kind=4
 ·simp only [↓cw,↓reduceIte,Nat.reduceLT,k4,if_true,lR,bPo s.table c.day c.lines hc64 hll,mE,kk,cN,gm]
  by_cases e:(dN s.table c.day c.lines).2=0
  ·have g4:=bJq s c (dN s.table c.day c.lines).1 hb (rV e)
   rw [k4,h4 k4] at g4
   simp only [↓cw,↓reduceIte,Nat.reduceLT,e,h4 k4,not_true_eq_false,if_false,if_true,ne_eq,kk,cN,gm]
   simp only [↓cw,↓reduceIte,Nat.reduceLT,g4,kO,kk,cN,gm,oo]
  ·simp only [↓cw,↓reduceIte,Nat.reduceLT,e,not_false_eq_true,if_false,if_true,ne_eq,kk,cN,gm,aA1,kO,why,oo]
 simp only [k4,if_false]
 by_cases k5:c.kind=5
 ·have g5:=bPx s c hl hd hf hp hb
  rw [k5] at g5
  simp only [↓cw,↓reduceIte,Nat.reduceLT,k5,if_true,kk,cN,gm]
  simp only [↓cw,↓reduceIte,Nat.reduceLT,g5,kO,kk,cN,gm,oo]
 simp only [k5,if_false]
 by_cases k7:c.kind=7
 ·simp only [↓cw,↓reduceIte,Nat.reduceLT,k7,if_true,bD9 s.sess c.session (show s.sess.length<1000000 by omega),kk,gm,gQ,iZ,hse,Bool.true_eq_false,if_false]
  by_cases e:cE s.sess c.session<0
  ·simp only [↓cw,↓reduceIte,Nat.reduceLT,e,if_true,kk,cN,gm,aA1,kO,why,oo,show ¬ (11:Int)=0 by decide,if_false]
  obtain ⟨i,x,e1,hi⟩:=sF e
  have hil:=(List.getElem?_eq_some_iff.1 hi).1
  simp only [e,if_false,e1,Int.toNat_natCast,if_true,show ¬ (i:Int)<0 by omega]
  have c1:=aMe bBm oS s.sess (k:=i) (by omega)
  have c2:=aMf bBm oS s.sess (k:=i+1) (by omega)
  simp only [↓cw,↓reduceIte,Nat.reduceLT,kk,cN,gm,c1,hJ (show i<1000000000 by omega),c2,bs0,Nat.reduceAdd]
  have lt:(s.sess.take i).length=i:=by rw [List.length_take];omega
  have ld:(s.sess.drop (i+1)).length=s.sess.length - (i+1):=List.length_drop
  generalize hX:(St.mk 18 (Tr.put _ 4 _))=X
  have x0:∀ m,aA ⟨m,X.heap⟩ 0 0=.ok (6,[[.imm (s.table.map Rate.enc),.imm (s.ser.map Ser.enc),.imm (s.posted.map Posted.enc),.imm (s.book.map Bal.enc),.imm (s.sess.map Sess.enc),.int .i64 s.next]]):=fun m=>by rw [←hX];rfl
  have x2:∀ m,aA ⟨m,X.heap⟩ 2 0=.ok (6,[[.nils,.nils,.nils,.nils,.nils,.int .i64 0]]):=fun m=>by rw [←hX];rfl
  have x3:∀ m,aA ⟨m,X.heap⟩ 3 0=.ok (3,[[.int .i64 0,.int .i64 0,.int .i64 0]]):=fun m=>by rw [←hX];rfl
  have x4:aA X 4 0=.ok (5,[]):=by rw [←hX];rfl
  have xn:X.next=18:=by rw [←hX]
  have q1:=pX (b:=40) oS (s.sess.take i) x4 (by omega) (by unfold dY;omega) (some 9)
  rw [lt] at q1
  obtain ⟨Y,hY⟩:∃ Y:St,Y=⟨X.next,X.heap.put 4 (.row 1 5 ((s.sess.take i).map Sess.enc))⟩:=⟨_,rfl⟩
  rw [←hY] at q1
  have y4:aA Y 4 1=.ok (5,(s.sess.take i).map Sess.enc):=by rw [hY];exact aC _ _ _ _ _ _
  have y0:∀ m,aA ⟨m,Y.heap⟩ 0 0=.ok (6,[[.imm (s.table.map Rate.enc),.imm (s.ser.map Ser.enc),.imm (s.posted.map Posted.enc),.imm (s.book.map Bal.enc),.imm (s.sess.map Sess.enc),.int .i64 s.next]]):=fun m=>by rw [hY];exact aD (n:=X.next) (by decide) (x0 _)
  have q2:=aVg (b:=40) oS (s.sess.take i) (s.sess.drop (i+1)) y4 (by rw [lt,ld];omega) (by rw [lt,ld];unfold dY;omega) (some 15)
  rw [lt] at q2
  obtain ⟨Z,hZ⟩:∃ Z:St,Z=⟨Y.next,Y.heap.put 4 (.row 2 5 ((s.sess.take i++s.sess.drop (i+1)).map Sess.enc))⟩:=⟨_,rfl⟩
  rw [←hZ] at q2
  have z0:aA Z 0 0=.ok (6,[[.imm (s.table.map Rate.enc),.imm (s.ser.map Ser.enc),.imm (s.posted.map Posted.enc),.imm (s.book.map Bal.enc),.imm (s.sess.map Sess.enc),.int .i64 s.next]]):=by rw [hZ];exact aD (n:=Y.next) (by decide) (y0 _)
  have zk:∀ k,k<4→∀ m ver r,aA ⟨X.next,X.heap⟩ k ver=.ok r→aA ⟨m,Z.heap⟩ k ver=.ok r:=fun k hk m ver r h=>by
   rw [hZ]
   refine aD (n:=Y.next) (by omega) ?_
   rw [hY]
   exact aD (n:=X.next) (by omega) h
  have z2:=fun m=>zk 2 (by decide) m _ _ (x2 _)
  have z3:=fun m=>zk 3 (by decide) m _ _ (x3 _)
  have zn:Z.next=18:=by rw [hZ,hY];exact xn
  have zh:Z.heap.get 4=some (.row 2 5 ((mA s.sess i).map Sess.enc)):=by rw [hZ];exact Tr.get_put_sameB _ _ _ trivial
  have dl:(mA s.sess i).length=i+(s.sess.drop (i+1)).length:=by unfold mA;rw [List.length_append,lt]
  have of:∀ (b0 b2 b3:Blk),dD lV (pG (lF ⟨Z.next,((Z.heap.put 0 b0).put 2 b2).put 3 b3⟩ 3) ⟨Z.next,((Z.heap.put 0 b0).put 2 b2).put 3 b3⟩) (.sl 4 2 5 0 (i+(s.sess.drop (i+1)).length))=.ok (.imm ((mA s.sess i).map Sess.enc)):=fun b0 b2 b3=>by
   have:=(aE2 oS (l:=mA s.sess i) (S:=⟨Z.next,((Z.heap.put 0 b0).put 2 b2).put 3 b3⟩) (a:=4) (ver:=2) (by
    show (((Z.heap.put 0 b0).put 2 b2).put 3 b3).get 4=_
    rw [Tr.get_put_neB _ _ _ _ trivial (by decide),Tr.get_put_neB _ _ _ _ trivial (by decide),Tr.get_put_neB _ _ _ _ trivial (by decide)];exact zh) (by show 4<Z.next;omega)).out fun _=>rfl
   rw [dl] at this
   exact this
  simp only [↓cw,↓reduceIte,Nat.reduceLT,q1,y0,kk,q2,z0,z2,z3,cN]
  simp only [kO,why,oo,of]
 simp only [↓cw,↓reduceIte,Nat.reduceLT,k7,if_false,aQv s.ser c.series hsr,kk,gm,aJe,kA]
 by_cases e:dH s.ser c.series<0
 ·simp only [↓cw,↓reduceIte,Nat.reduceLT,e,if_true,kk,cN,gm,aA1,kO,why,oo]
  done
 obtain ⟨i,x,e1,hi⟩:=vB e
 have hil:=(List.getElem?_eq_some_iff.1 hi).1
 simp only [↓cw,↓reduceIte,Nat.reduceLT,e,if_false,e1,Int.toNat_natCast,hi,show ¬ (i:Int)<0 by omega,kk,cN,gm,kT hi,Ser.enc,Bool.true_eq_false]
 generalize hX:(St.mk (1+1+1+1+1) (Tr.put _ (1+1+1+1) _))=X
 have x0:∀ m,aA ⟨m,X.heap⟩ 0 0=.ok (6,[[.imm (s.table.map Rate.enc),.imm (s.ser.map Ser.enc),.imm (s.posted.map Posted.enc),.imm (s.book.map Bal.enc),.imm (s.sess.map Sess.enc),.int .i64 s.next]]):=fun m=>by rw [←hX];rfl
 have x2:∀ m,aA ⟨m,X.heap⟩ 2 0=.ok (6,[[.nils,.nils,.nils,.nils,.nils,.int .i64 0]]):=fun m=>by rw [←hX];rfl
 have x3:∀ m,aA ⟨m,X.heap⟩ 3 0=.ok (3,[[.int .i64 0,.int .i64 0,.int .i64 0]]):=fun m=>by rw [←hX];rfl
 have x4:∀ m,aA ⟨m,X.heap⟩ 4 0=.ok (3,[[.int .i64 0,.int .i64 (wr .i64 (x.next - 1)),.int .i64 0]]):=fun m=>by rw [←hX];rfl
 refine aG s.book (step:=mQ) (fin:=id) (fun j g vs Y=>vs=[.int .i64 (j:Int)]∧(∀ k,k<4→∀ m,aA ⟨m,Y.heap⟩ k 0=aA ⟨m,X.heap⟩ k 0)∧∀ m,aA ⟨m,Y.heap⟩ 4 0=.ok (3,[[.int .i64 0,.int .i64 (wr .i64 (x.next - 1)),.int .i64 g]])) (fun r=>r=aE mQ id s.book 0) ?_ ?_ (s:=0) ⟨rfl,fun _ _ _=>rfl,x4⟩ rfl
 ·rintro j b g vs Y hj ⟨rfl,hk,y4⟩ aF H
  have hjl:=(List.getElem?_eq_some_iff.1 hj).1
  have y0:=fun m=>(hk 0 (by decide) m).trans (x0 m)
  have y0':aA Y 0 0=_:=y0 Y.next
  have y4':aA Y 4 0=_:=y4 Y.next
  simp only [mQ] at H
  simp only [↓cw,↓reduceIte,Nat.reduceLT,kk,gm,y0',bB hj,if_true,lS hj,Bal.enc,hJ (show j<1000000000 by omega),y4']
  by_cases d:(b.acc == aUl)=true
  ·rw [if_pos d] at H
   rw [if_pos (show (b.acc == [111,119,101,100])=true from d)]
   exact H _ _ ⟨rfl,fun k hk4 m=>by rw [←hk k hk4 m];exact cK m m Y.heap (1+1+1+1) k 0 _ (by omega),fun m=>aC m Y.heap 4 0 3 _⟩
  ·rw [if_neg d] at H
   rw [if_neg (show ¬ (b.acc == [111,119,101,100])=true from d)]
   exact H _ _ ⟨rfl,hk,y4⟩
 ·rintro g vs Y ⟨rfl,hk,y4⟩ aF H
  have H:g=aE mQ id s.book 0:=H
  have y0:=fun m=>(hk 0 (by decide) m).trans (x0 m)
  have y2:=fun m=>(hk 2 (by decide) m).trans (x2 m)
  have y3:=fun m=>(hk 3 (by decide) m).trans (x3 m)
  have y0':aA Y 0 0=_:=y0 Y.next
  simp only [↓cw,↓reduceIte,Nat.reduceLT,kk,gm,y0',Int.lt_irrefl,if_false,y0,y2,y3,y4,cN]
  simp only [kO,←H,oo]
theorem aYc (s:State) (c:Cmd):(mC s c).2.why≠0→(mC s c).1=s:=by
 have hi:∀ name p,(aT s name p).2.why≠0→(aT s name p).1=s:=by
  intro name p
  unfold aT
  repeat' split
  all_goals first | exact fun _=>rfl | exact fun h=>absurd rfl h
 unfold mC
 split
 ·unfold fB;split
  ·rename_i h;exact fun q=>absurd h q
  ·exact fun _=>rfl
 ·split
  ·unfold fB;split
   ·rename_i h;exact fun q=>absurd h q
   ·exact fun _=>rfl
  ·split
   ·unfold jB;split
    ·rename_i h;exact fun q=>absurd h q
    ·exact fun _=>rfl
   ·split
    ·unfold lR
     split
     ·exact fun _=>rfl
     ·exact hi _ _
    ·split
     ·unfold eN eW
      repeat' split
      all_goals first | exact fun _=>rfl | exact hi _ _ | skip
      rename_i h
      exact fun q=>absurd h q
     ·split
      ·unfold gQ;split
       ·rename_i h;exact fun q=>absurd h q
       ·exact fun _=>rfl
      ·exact fun _=>rfl
theorem aGb {c:Cmd}:(eY c).2=true↔¬ (c.kind<1∨8<c.kind):=by
 unfold eY
 repeat' split
 all_goals simp
 all_goals omega
theorem aE5 {c:Cmd} (h:(eY c).2=true):(eY c).1.kind=c.kind:=by
 unfold eY at h ⊢
 repeat' split at h
 all_goals first | (cases h;done) | skip
 all_goals simp_all
theorem aYd {c:Cmd} (h:(eY c).1.kind=4):(eY c).1.of=Ref.zero:=by
 unfold eY at h ⊢
 repeat' split at h
 all_goals simp_all [Cmd.zero]
theorem aE6 (c:Cmd):(eY c).1.lines=c.lines∨(eY c).1.lines=[]:=by
 unfold eY
 repeat' split
 all_goals first | exact .inl rfl | exact .inr rfl
theorem aYe (s:State) {c:Cmd} (h:(eY c).2=true) (h6:c.kind≠6):mC s (eY c).1=mC s c:=by
 have n:∀ a b:Int,a≠b→((a=b)=False):=fun a b h=>by simp [h]
 by_cases k1:c.kind=1
 ·have e:eY c=({ Cmd.zero with kind:=1,series:=c.series,limit:=c.limit },true):=by unfold eY;rw [if_pos k1]
  rw [e];unfold mC;rw [if_pos k1];rfl
 by_cases k2:c.kind=2∨c.kind=8
 ·have e:eY c=({ Cmd.zero with kind:=c.kind,series:=c.series },true):=by unfold eY;rw [if_neg k1,if_pos k2]
  rw [e];unfold mC
  rcases k2 with k | k
  ·simp only [k,if_true,if_false,n 2 1 (by decide)]
  ·simp only [k,if_true,if_false,n 8 1 (by decide),n 8 2 (by decide),n 8 3 (by decide),n 8 4 (by decide),n 8 5 (by decide),n 8 7 (by decide)]
 by_cases k3:c.kind=3
 ·have e:eY c=({ Cmd.zero with kind:=3,row:=c.row },true):=by unfold eY;rw [if_neg k1,if_neg k2,if_pos k3]
  rw [e];unfold mC;simp only [k3,if_true,if_false,n 3 1 (by decide),n 3 2 (by decide)]
 by_cases k4:c.kind=4
 ·have e:eY c=({ Cmd.zero with kind:=4,series:=c.series,day:=c.day,lines:=c.lines },true):=by unfold eY;rw [if_neg k1,if_neg k2,if_neg k3,if_pos k4]
  rw [e];unfold mC;simp only [k4,if_true,if_false,n 4 1 (by decide),n 4 2 (by decide),n 4 3 (by decide),lR]
 by_cases k5:c.kind=5
 ·have e:eY c=({ Cmd.zero with kind:=5,series:=c.series,day:=c.day,of:=c.of },true):=by unfold eY;rw [if_neg k1,if_neg k2,if_neg k3,if_neg k4,if_pos k5]
  rw [e];unfold mC;simp only [k5,if_true,if_false,n 5 1 (by decide),n 5 2 (by decide),n 5 3 (by decide),n 5 4 (by decide),eN,eW]
 have k6:=h6
 by_cases k7:c.kind=7
 ·have e:eY c=({ Cmd.zero with kind:=7,session:=c.session },true):=by unfold eY;rw [if_neg k1,if_neg k2,if_neg k3,if_neg k4,if_neg k5,if_neg k6,if_pos k7]
  rw [e];unfold mC;simp only [k7,if_true,if_false,n 7 1 (by decide),n 7 2 (by decide),n 7 3 (by decide),n 7 4 (by decide),n 7 5 (by decide)]
 ·have e:eY c=(Cmd.zero,false):=by unfold eY;rw [if_neg k1,if_neg k2,if_neg k3,if_neg k4,if_neg k5,if_neg k6,if_neg k7]
  rw [e] at h;cases h
theorem vR {α:Type} {p:α→Bool}:∀ (l:List α),(∀ x∈l,p x=true)→l.takeWhile p=l
 | [],_=>rfl
 | a::l,h=>by rw [List.takeWhile_cons,h a (List.mem_cons_self ..),if_pos rfl,vR l fun x hx=>h x (List.mem_cons_of_mem _ hx)]
theorem aMh {l:List Sess} (h:eG l=true) (id seq:Int):kM l id seq=(if (bK l id seq).2.1=true then 1 else 0,(bK l id seq).1,(bK l id seq).2.2):=by
 have h':¬ eG l=false:=by rw [h];decide
 have e:∀ r:Rep×Bool×Int,bK l id seq=r→kM l id seq=(if r.2.1=true then 1 else 0,r.1,r.2.2)→kM l id seq=(if (bK l id seq).2.1=true then 1 else 0,(bK l id seq).1,(bK l id seq).2.2):=fun r h1 h2=>by rw [h1];exact h2
 by_cases c:cE l id<0
 ·refine e (Rep.zero,false,15) ?_ ?_
  ·unfold bK;rw [if_neg h',if_pos c]
  ·unfold kM;rw [if_pos c];rfl
 by_cases c1:seq<1∨1099511627776<seq
 ·refine e (Rep.zero,false,1) ?_ ?_
  ·unfold bK;rw [if_neg h',if_neg c,if_pos c1]
  ·unfold kM;rw [if_neg c,if_pos c1];rfl
 obtain ⟨i,x,e1,hi⟩:=sF c
 have e2:l[(cE l id).toNat]?=some x:=by rw [e1,Int.toNat_natCast];exact hi
 by_cases c2:seq=x.last
 ·refine e (x.reply,true,0) ?_ ?_
  ·unfold bK;rw [if_neg h',if_neg c,if_neg c1,e2];exact if_pos c2
  ·unfold kM;rw [if_neg c,if_neg c1,e2];exact if_pos c2
 by_cases c3:seq<x.last
 ·refine e (Rep.zero,false,16) ?_ ?_
  ·unfold bK;rw [if_neg h',if_neg c,if_neg c1,e2];exact (if_neg c2).trans (if_pos c3)
  ·unfold kM;rw [if_neg c,if_neg c1,e2];exact (if_neg c2).trans (if_pos c3)
 ·refine e (Rep.zero,false,0) ?_ ?_
  ·unfold bK;rw [if_neg h',if_neg c,if_neg c1,e2];exact (if_neg c2).trans (if_neg c3)
  ·unfold kM;rw [if_neg c,if_neg c1,e2];exact (if_neg c2).trans (if_neg c3)
theorem aVq {s:State} (hr:bW s=true):lH s=if 8≤s.sess.length∨1099511627776≤s.next then (s,why 14) else ({ s with sess:=s.sess++[⟨s.next,0,Rep.zero⟩],next:=wr .i64 (s.next+1) },⟨0,s.next,0⟩):=by
 obtain ⟨a,b,c,d,e,f⟩:=((bZ s).1 hr).2.2.1
 have hse:=aCd hr
 unfold lH
 by_cases h:8≤s.sess.length∨1099511627776≤s.next
 ·rw [if_pos h,if_pos h]
 rw [if_neg h,if_neg h]
 have hneg:cE s.sess s.next<0:=by
  rcases gL s.sess s.next with q | ⟨i,x,q,hi,hx⟩
  ·rw [q];decide
  ·have:=f x (List.mem_of_getElem? hi);omega
 have hlow:fE (fun x:Sess=>decide (x.id<s.next)) s.sess=s.sess.length:=by
  unfold fE
  rw [gW,vR _ fun x hx=>by simpa using f x hx,Nat.zero_add]
 have hj:oN s.sess s.next=(s.sess++[⟨s.next,0,Rep.zero⟩],0):=by
  unfold oN
  rw [if_neg (by rw [hse];simp;omega),if_neg (by omega),if_neg (by omega),hlow]
  unfold cY
  rw [List.take_length,List.drop_length]
 rw [hj,if_neg (show ¬ (0:Int)≠0 by decide)]
theorem aVr {s:State} (hr:bW s=true) (hi:xG s) {c:Call} (h1:(bK s.sess c.session c.seq).2.2=0) (h2:(bK s.sess c.session c.seq).2.1=false):iP (mC s c.cmd) c=({ (mC s c.cmd).1 with sess:=zY (mC s c.cmd).1.sess c.session c.seq (mC s c.cmd).2 },(mC s c.cmd).2):=by
 have hdr:=aDx hr hi c.cmd
 have hds:=aCd hdr.1
 have hmem:∀ x∈(mC s c.cmd).1.sess,x∈s.sess:=fun x hx=>by
  rcases aY6 s c.cmd with e | ⟨_,e1,e2⟩
  ·rw [e] at hx;exact hx
  ·rw [e2] at hx;exact ((aQt e1 ((bZ s).1 hr).2.2.1 x).1 hx).1
 generalize mC s c.cmd=r at *
 obtain ⟨hs,i,x,hx,hid,q1,q2,q3⟩:=aVe h1 h2
 rcases gL r.1.sess c.session with e | ⟨j,y,e,hj,hy⟩
 ·have hk:zY r.1.sess c.session c.seq r.2=r.1.sess:=by unfold zY;rw [e,if_pos (by decide)]
  have hl:(bK r.1.sess c.session c.seq).2.2=15:=by unfold bK;rw [if_neg (by rw [hds];decide),e,if_pos (by decide)]
  rw [hk]
  unfold iP
  rw [if_neg]
  unfold kS
  rw [if_pos (by rw [hl];decide),hl]
  decide
 ·have hym:=hmem y (List.mem_of_getElem? hj)
  obtain ⟨k,hk⟩:=List.getElem?_of_mem hym
  have hp:=(mZ _).1 hs
  have e1:=pW hp.2.2 hk
  have e2:=pW hp.2.2 hx
  rw [hy] at e1
  rw [hid] at e2
  have:k=i:=by omega
  subst this
  rw [hx] at hk
  cases hk
  rw [aK6 e hj]
  have:=aVf hds hj q1 q2 q3 r.2
  rw [hid] at this
  unfold iP
  rw [this,if_pos rfl,hid]
def aI4 (c:Call):List V:=[.int .i64 c.session,.int .i64 c.seq,.int .i64 c.cmd.kind,.str c.cmd.series,.int .i64 c.cmd.limit,.str c.cmd.row.cat,.int .i64 c.cmd.row.day.y,.int .i64 c.cmd.row.day.m,.int .i64 c.cmd.row.day.d,.int .i64 c.cmd.row.bp,.int .i64 c.cmd.day.y,.int .i64 c.cmd.day.m,.int .i64 c.cmd.day.d,.imm (c.cmd.lines.map Line.enc),.str c.cmd.of.ser,.int .i64 c.cmd.of.num,.int .i64 c.cmd.session]
def zs6:List V:=[.nils,.nils,.nils,.nils,.nils,.int .i64 0]
def zs3:List V:=[.int .i64 0,.int .i64 0,.int .i64 0]
theorem bC6 {Y:St} {P Q:Nat} (s:State) (q:Rep) (c:Call) (hb:s.sess.length<1000000) (y1:∀ m,aA ⟨m,Y.heap⟩ 1 0=.ok (17,[aI4 c])) (y2:∀ m,aA ⟨m,Y.heap⟩ 2 0=.ok (6,[zs6])) (y3:∀ m,aA ⟨m,Y.heap⟩ 3 0=.ok (3,[zs3]))
  (yP:∀ m,aA ⟨m,Y.heap⟩ P 0=.ok (3,[[.int .i64 q.why,.int .i64 q.number,.int .i64 q.gross]])) (yQ:∀ m,aA ⟨m,Y.heap⟩ Q 0=.ok (6,[s.enc])) (h4:4≤P) (h5:4≤Q) (hne:P≠Q) {R:State×Rep} (hR:R=({ s with sess:=zY s.sess c.session c.seq q },q)):
  aH9 C (fun v0 S0=>dS S0 v0=.ok (kO R)) (.ptr 1 0 0 0) (.ptr 2 0 0 0) (.ptr 3 0 0 0) (.ptr P 0 0 0) (.ptr Q 0 0 0) Y:=by
 subst hR
 have y1':=y1 Y.next
 have yP':=yP Y.next
 have yQ':=yQ Y.next
 simp only [aI4] at y1 y1'
 simp only [zs6] at y2
 simp only [zs3] at y3
 simp only [State.enc] at yQ yQ'
 have e1:(2=Q)=False:=by simp;omega
 have e2:(3=Q)=False:=by simp;omega
 have e3:(P=Q)=False:=by simp [hne]
 have e4:(P=2)=False:=by simp;omega
 have aP:∀ m b,aA ⟨m,Y.heap.put Q b⟩ P 0=.ok (3,[[.int .i64 q.why,.int .i64 q.number,.int .i64 q.gross]]):=fun m b=>aD (n:=m) hne (yP _)
 have aP2:∀ m b b',aA ⟨m,(Y.heap.put Q b).put 2 b'⟩ P 0=.ok (3,[[.int .i64 q.why,.int .i64 q.number,.int .i64 q.gross]]):=fun m b b'=>aD (n:=m) (by omega) (aP m b)
 have a2:∀ m b,aA ⟨m,Y.heap.put Q b⟩ 2 0=.ok (6,[[.nils,.nils,.nils,.nils,.nils,.int .i64 0]]):=fun m b=>aD (n:=m) (by omega) (y2 _)
 have a3:∀ m b b',aA ⟨m,(Y.heap.put Q b).put 2 b'⟩ 3 0=.ok (3,[[.int .i64 0,.int .i64 0,.int .i64 0]]):=fun m b b'=>aD (n:=m) (by decide) (aD (n:=m) (by omega) (y3 _))
 simp only [aH9,kk,gm,y1',yP',yQ',bPt s.sess hb,aP,a2,aP2,a3,cN]
 simp only [kO,oo]
set_option maxHeartbeats 8000000 in
theorem g34 (s:State) (c:Call) (hI:xG s) (hx:∀ x∈s.ser,eF x.next) (hp:s.posted.length<900000) (hq:∀ q∈s.posted,q.total.parts.length≤1000) (hb:s.book.length<900000) (hc64:∀ l∈c.cmd.lines,eF l.count∧eF l.price) (hll:c.cmd.lines.length<1000000) (S:St) (K:KW):
  C 34 [.agg [.imm (s.table.map Rate.enc),.imm (s.ser.map Ser.enc),.imm (s.posted.map Posted.enc),.imm (s.book.map Bal.enc),.imm (s.sess.map Sess.enc),.int .i64 s.next],
   .agg [.int .i64 c.session,.int .i64 c.seq,.int .i64 c.cmd.kind,.str c.cmd.series,.int .i64 c.cmd.limit,.str c.cmd.row.cat,.int .i64 c.cmd.row.day.y,.int .i64 c.cmd.row.day.m,.int .i64 c.cmd.row.day.d,.int .i64 c.cmd.row.bp,.int .i64 c.cmd.day.y,.int .i64 c.cmd.day.m,.int .i64 c.cmd.day.d,.imm (c.cmd.lines.map Line.enc),.str c.cmd.of.ser,.int .i64 c.cmd.of.num,.int .i64 c.cmd.session]] S K=K (kO (eO s c)) S:=by
 refine (v34 rfl ?_).eq S K
 simp only [m34,kk,cN,gm,g38 s hI (by omega) hq,aQu hI hx,eO]
 cases hr:bW s
 ·simp only [Bool.not_false,if_true,kk,cN,gm,kO,why,oo]
 simp only [Bool.not_true,Bool.true_eq_false,Bool.false_eq_true,if_false,bPy c.cmd hll,iR,kk,cN,gm]
 by_cases hk:c.cmd.kind<1∨8<c.cmd.kind
 ·have hbk:(eY c.cmd).2=false:=by
   rw [Bool.eq_false_iff];exact fun h=>aGb.1 h hk
  simp only [hk,hbk,Bool.not_false,if_true,kk,cN,gm,kO,why,oo]
 have hbk:=aGb.2 hk
 simp only [hk,hbk,Bool.not_true,Bool.false_eq_true,if_false,kk,cN,gm,aE5 hbk]
 obtain ⟨b,hbe⟩:∃ b,b=(eY c.cmd).1:=⟨_,rfl⟩
 rw [←hbe]
 generalize hX:(St.mk (1+1+1+1+1) (Tr.put _ (1+1+1+1) _))=X
 have x0:∀ m,aA ⟨m,X.heap⟩ 0 0=.ok (6,[s.enc]):=fun m=>by rw [←hX];rfl
 have x1:∀ m,aA ⟨m,X.heap⟩ 1 0=.ok (17,[aI4 c]):=fun m=>by rw [←hX];rfl
 have x2:∀ m,aA ⟨m,X.heap⟩ 2 0=.ok (6,[zs6]):=fun m=>by rw [←hX];rfl
 have x3:∀ m,aA ⟨m,X.heap⟩ 3 0=.ok (3,[zs3]):=fun m=>by rw [←hX];rfl
 have x4:∀ m,aA ⟨m,X.heap⟩ 4 0=.ok (15,[[.int .i64 c.cmd.kind,.str b.series,.int .i64 b.limit,.str b.row.cat,.int .i64 b.row.day.y,.int .i64 b.row.day.m,.int .i64 b.row.day.d,.int .i64 b.row.bp,.int .i64 b.day.y,.int .i64 b.day.m,.int .i64 b.day.d,.imm (b.lines.map Line.enc),.str b.of.ser,.int .i64 b.of.num,.int .i64 b.session]]):=fun m=>by rw [←hX];rfl
 have xn:X.next=5:=by rw [←hX]
 have hse:=aCd hr
 have hsl:=gS hse
 have x0':=x0 X.next
 have x2':=x2 X.next
 have x3':=x3 X.next
 simp only [State.enc] at x0 x0'
 simp only [zs6] at x2 x2'
 simp only [zs3] at x3 x3'
 by_cases h6:c.cmd.kind=6
 ·simp only [h6,if_true,aVq hr]
  have hj0:∀ f:Bool,(f=true↔8≤s.sess.length∨1099511627776≤s.next)→aDc C (fun v0 S0=>dS S0 v0=Except.ok (kO (if 8≤s.sess.length∨1099511627776≤s.next then (s,why 14) else ({ s with sess:=s.sess++[⟨s.next,0,Rep.zero⟩],next:=wr .i64 (s.next+1) },⟨0,s.next,0⟩)))) (.ptr 0 0 0 0) (.ptr 1 0 0 0) (.ptr (1+1) 0 0 0) (.ptr (1+1+1) 0 0 0) (.ptr (1+1+1+1) 0 0 0) (.bool f) X:=by
   intro f hf
   cases f
   rotate_left
   ·rw [if_pos (hf.1 rfl)]
    simp only [aDc,kk,if_true,gm,x0',x2',x3',x0,x2,x3,cN,kO,why,oo]
   have hn:¬ (8≤s.sess.length∨1099511627776≤s.next):=fun h=>by have:=hf.2 h;cases this
   rw [if_neg hn]
   obtain ⟨_,_,_,hn1,_,_⟩:=((bZ s).1 hr).2.2.1
   obtain ⟨x,hx⟩:∃ x:Sess,x=⟨s.next,0,Rep.zero⟩:=⟨_,rfl⟩
   have xe:x.enc=[.int .i64 s.next,.int .i64 0,.int .i64 0,.int .i64 0,.int .i64 0]:=by rw [hx];rfl
   have hw1:wr .i64 (s.next+1)=s.next+1:=nM (by omega) (by omega)
   have hw2:wr .i64 (s.next+1 - 1)=s.next:=by rw [show s.next+1 - 1=s.next by omega];exact nM (by omega) (by omega)
   obtain ⟨D,hD⟩:∃ D:St,D=⟨X.next+11,X.heap.put X.next (.row 0 5 [])⟩:=⟨_,rfl⟩
   have d5:aA D X.next 0=.ok (5,[]):=by rw [hD];exact aC _ _ _ _ _ _
   have q1:=pX (b:=40) oS s.sess d5 (by omega) (by unfold dY;omega) (some (X.next+3))
   obtain ⟨E,hE⟩:∃ E:St,E=⟨D.next,D.heap.put X.next (.row 1 5 (s.sess.map Sess.enc))⟩:=⟨_,rfl⟩
   rw [←hE] at q1
   obtain ⟨F,hF⟩:∃ F:St,F=⟨E.next,E.heap.put (X.next+7) (.row 0 5 [x.enc])⟩:=⟨_,rfl⟩
   have f5:aA F X.next 1=.ok (5,s.sess.map Sess.enc):=by rw [hF];exact aD (n:=E.next) (by omega) (by rw [hE];exact aC _ _ _ _ _ _)
   have f7:aA F (X.next+7) 0=.ok (5,[x.enc]):=by rw [hF];exact aC _ _ _ _ _ _
   have q2:=aE3 (b:=40) oS s.sess x f5 f7 (by omega) (by unfold dY;omega) (some (X.next+8))
   obtain ⟨G,hG⟩:∃ G:St,G=⟨F.next,F.heap.put X.next (.row 2 5 ((s.sess++[x]).map Sess.enc))⟩:=⟨_,rfl⟩
   rw [←hG] at q2
   have eK:∀ k:Nat,k<5→∀ m ver r,aA ⟨X.next,X.heap⟩ k ver=.ok r→aA ⟨m,E.heap⟩ k ver=.ok r:=fun k hk m ver r h=>by
    rw [hE,hD]
    exact aD (n:=m) (by omega) (aD (n:=X.next) (by omega) h)
   have gK:∀ k:Nat,k<5→∀ m ver r,aA ⟨X.next,X.heap⟩ k ver=.ok r→aA ⟨m,G.heap⟩ k ver=.ok r:=fun k hk m ver r h=>by
    rw [hG]
    refine aD (n:=m) (by omega) ?_
    rw [hF]
    exact aD (n:=m) (by omega) (eK k hk m ver r h)
   have e0:aA E 0 0=.ok (6,[s.enc]):=eK 0 (by decide) E.next _ _ (x0 X.next)
   have g0:aA G 0 0=.ok (6,[s.enc]):=gK 0 (by decide) G.next _ _ (x0 X.next)
   have g2:=fun m=>gK 2 (by decide) m _ _ (x2 X.next)
   have g3:=fun m=>gK 3 (by decide) m _ _ (x3 X.next)
   simp only [State.enc] at e0 g0
   have gn:G.next=16:=by rw [hG,hF,hE,hD];show X.next+11=16;omega
   have gh:G.heap.get X.next=some (.row 2 5 ((s.sess++[x]).map Sess.enc)):=by rw [hG];exact Tr.get_put_sameB _ _ _ trivial
   have of:∀ (m:Nat) (b0 b0' b2 b3:Blk),16≤m→dD lV (pG (lF ⟨m,(((G.heap.put 0 b0).put 0 b0').put 2 b2).put 3 b3⟩ 3) ⟨m,(((G.heap.put 0 b0).put 0 b0').put 2 b2).put 3 b3⟩) (.sl X.next 2 5 0 (s.sess.length+1))=.ok (.imm ((s.sess++[x]).map Sess.enc)):=fun m b0 b0' b2 b3 hm=>by
    have:=(aE2 oS (l:=s.sess++[x]) (S:=⟨m,(((G.heap.put 0 b0).put 0 b0').put 2 b2).put 3 b3⟩) (a:=X.next) (ver:=2) (by
     show ((((G.heap.put 0 b0).put 0 b0').put 2 b2).put 3 b3).get X.next=_
     rw [Tr.get_put_neB _ _ _ _ trivial (by omega),Tr.get_put_neB _ _ _ _ trivial (by omega),Tr.get_put_neB _ _ _ _ trivial (by omega),Tr.get_put_neB _ _ _ _ trivial (by omega)];exact gh) (by show X.next<m;omega)).out fun _=>rfl
    rw [List.length_append] at this
    exact this
   rw [xe] at hF
   simp only [aDc,kk,Bool.false_eq_true,if_false,gm,x0,bs0,nb1,Nat.add_zero,←hD,q1,e0,aXs,←hF,q2,g0,g2,g3,cN,hw1,hw2]
   simp only [kO,oo,of _ _ _ _ _ (show 16≤G.next+7 by omega),hx]
  by_cases d:8≤s.sess.length
  ·rw [if_pos (show (8:Int)≤(s.sess.length:Int) by omega)]
   exact hj0 true ⟨fun _=>.inl d,fun _=>rfl⟩
  ·rw [if_neg (show ¬ (8:Int)≤(s.sess.length:Int) by omega)]
   exact hj0 _ ⟨fun h=>.inr (of_decide_eq_true h),fun h=>by simp;omega⟩
 obtain ⟨p1,p2,p3,p4,p5,p6⟩:=(bZ s).1 hr
 have hfr:=aMh hse c.session c.seq
 obtain ⟨L,hL⟩:∃ L,L=bK s.sess c.session c.seq:=⟨_,rfl⟩
 rw [←hL] at hfr
 simp only [h6,if_false,bPk s.sess (show s.sess.length<1000000 by omega),hfr,←hL,kk]
 obtain ⟨Y,hY⟩:∃ Y:St,Y=⟨X.next+1,(X.heap.put X.next (Blk.row 0 3 [[V.int IntKind.i64 0,V.int IntKind.i64 0,V.int IntKind.i64 0]])).put X.next (.row 0 3 [[.int .i64 L.1.why,.int .i64 L.1.number,.int .i64 L.1.gross]])⟩:=⟨_,rfl⟩
 have yK:∀ k:Nat,k<5→∀ m ver r,aA ⟨X.next,X.heap⟩ k ver=.ok r→aA ⟨m,Y.heap⟩ k ver=.ok r:=fun k hk m ver r h=>by
  rw [hY]
  exact aD (n:=m) (by omega) (aD (n:=X.next) (by omega) h)
 have y0:=fun m=>yK 0 (by decide) m _ _ (x0 X.next)
 have y1:=fun m=>yK 1 (by decide) m _ _ (x1 X.next)
 have y2:=fun m=>yK 2 (by decide) m _ _ (x2 X.next)
 have y3:=fun m=>yK 3 (by decide) m _ _ (x3 X.next)
 have y4:=fun m=>yK 4 (by decide) m _ _ (x4 X.next)
 have y5:∀ m,aA ⟨m,Y.heap⟩ X.next 0=.ok (3,[[.int .i64 L.1.why,.int .i64 L.1.number,.int .i64 L.1.gross]]):=fun m=>by rw [hY];exact aC _ _ _ _ _ _
 have yn:Y.next=X.next+1:=by rw [hY]
 have y0':=y0 Y.next
 have y2':=y2 Y.next
 have y3':=y3 Y.next
 have y4':=y4 Y.next
 have y5':=y5 Y.next
 have hYh:Y.heap=(X.heap.put X.next (Blk.row 0 3 [[V.int IntKind.i64 0,V.int IntKind.i64 0,V.int IntKind.i64 0]])).put X.next (.row 0 3 [[.int .i64 L.1.why,.int .i64 L.1.number,.int .i64 L.1.gross]]):=by rw [hY]
 rw [←hY,←hYh]
 by_cases e1:L.2.2=0
 rotate_left
 ·simp only [e1,not_false_eq_true,if_true,kk,gm,y0',y2',y3',y0,y2,y3,cN,kO,why,oo]
 simp only [e1,not_true_eq_false,if_false]
 cases e2:L.2.1
 rotate_left
 ·have a5:∀ m b,aA ⟨m,Y.heap.put 2 b⟩ X.next 0=.ok (3,[[.int .i64 L.1.why,.int .i64 L.1.number,.int .i64 L.1.gross]]):=fun m b=>aD (n:=m) (by omega) (y5 _)
  simp only [e2,if_true,kk,gm,y0,y5,y2,y3,a5,cN,Nat.reduceAdd,kO,oo]
 have hbk2:b.kind=c.cmd.kind:=by rw [hbe];exact aE5 hbk
 have hu:aG9 s.posted b.of=aW s.posted b.of:=aVp (fun i j p q hi hj e=>xH p5 hi hj e) b.of
 have hok:=rU p4
 have hbl:∀ l∈b.lines,l∈c.cmd.lines:=by rw [hbe];rcases aE6 c.cmd with e | e<;>rw [e];exact fun l h=>h;exact fun l h=>by cases h
 have hblen:b.lines.length<1000000:=by rw [hbe];rcases aE6 c.cmd with e | e<;>rw [e];exact hll;decide
 have g110':=bPz s b (fun h=>by rw [hbe] at h ⊢;exact aYd h) hse (by have:=iG p2;omega) (fun l h=>hc64 l (hbl l h)) hblen hu (fun p h=>(hok.2 p h).1) (fun p h=>oR (hok.2 p h).2) hp hb
 have hdo:mC s b=mC s c.cmd:=by rw [hbe];exact aYe s hbk h6
 rw [hbk2,hdo] at g110'
 have hkd:=aVr hr hI (c:=c) (by rw [←hL];exact e1) (by rw [←hL];exact e2)
 obtain ⟨r,hre⟩:∃ r,r=mC s c.cmd:=⟨_,rfl⟩
 have hback:=aYc s c.cmd
 rw [←hre] at g110' hkd hback
 simp only [e2,Bool.false_eq_true,if_false,kk,gm,y0',y4',←hre,show ¬ (0:Int)=1 by decide]
 simp only [g110',kO,kk,gm]
 obtain ⟨Z,hZ⟩:∃ Z:St,Z=⟨Y.next+1,((Y.heap.put Y.next (.row 0 6 [[.nils,.nils,.nils,.nils,.nils,.int .i64 0]])).put Y.next (.row 0 6 [r.1.enc])).put X.next (.row 0 3 [[.int .i64 r.2.why,.int .i64 r.2.number,.int .i64 r.2.gross]])⟩:=⟨_,rfl⟩
 have zK:∀ k:Nat,k<5→∀ m ver r,aA ⟨X.next,X.heap⟩ k ver=.ok r→aA ⟨m,Z.heap⟩ k ver=.ok r:=fun k hk m ver r h=>by
  rw [hZ]
  exact aD (n:=m) (by omega) (aD (n:=m) (by omega) (aD (n:=m) (by omega) (yK k hk m ver r h)))
 have b5:∀ b b',aA ⟨Y.next+1,(Y.heap.put Y.next b).put Y.next b'⟩ X.next 0=.ok (3,[[.int .i64 L.1.why,.int .i64 L.1.number,.int .i64 L.1.gross]]):=fun b b'=>aD (n:=Y.next) (by omega) (aD (n:=Y.next) (by omega) (y5 _))
 have z0:=fun m=>zK 0 (by decide) m _ _ (x0 X.next)
 have z1:=fun m=>zK 1 (by decide) m _ _ (x1 X.next)
 have z2:=fun m=>zK 2 (by decide) m _ _ (x2 X.next)
 have z3:=fun m=>zK 3 (by decide) m _ _ (x3 X.next)
 have zP:∀ m,aA ⟨m,Z.heap⟩ X.next 0=.ok (3,[[.int .i64 r.2.why,.int .i64 r.2.number,.int .i64 r.2.gross]]):=fun m=>by rw [hZ];exact aC _ _ _ _ _ _
 have zQ:∀ m,aA ⟨m,Z.heap⟩ Y.next 0=.ok (6,[r.1.enc]):=fun m=>by rw [hZ];exact aD (n:=m) (by omega) (aC _ _ _ _ _ _)
 have zn:Z.next=Y.next+1:=by rw [hZ]
 have z0':=z0 Z.next
 have zP':=zP Z.next
 have zQ':=zQ Z.next
 have hrs:r.1.sess.length<1000000:=by
  have:=gS (aCd (aDx hr hI c.cmd).1)
  rw [←hre] at this;omega
 simp only [State.enc] at hZ zQ'
 simp only [b5,kk,←hZ,zP']
 by_cases e3:r.2.why=0
 ·simp only [e3,not_true_eq_false,if_false]
  exact bC6 r.1 r.2 c hrs z1 z2 z3 zP zQ (by omega) (by omega) (by omega) hkd
 ·simp only [e3,not_false_eq_true,if_true,z0',zQ',kk]
  have hs:r.1=s:=hback e3
  refine bC6 (Y:=⟨Z.next,Z.heap.put Y.next (.row 0 6 [s.enc])⟩) (P:=X.next) (Q:=Y.next) s r.2 c (by omega) (fun m=>aD (n:=m) (by omega) (z1 m)) (fun m=>aD (n:=m) (by omega) (z2 m)) (fun m=>aD (n:=m) (by omega) (z3 m)) (fun m=>aD (n:=m) (by omega) (zP m)) (fun m=>aC _ _ _ _ _ _) (by omega) (by omega) (by omega) (by rw [hkd,hs])
theorem bC7 {l:List Rep} {i:Nat} {a:Rep} (hi:l[i]?=some a) (k:IntKind):iF 3 (.imm (l.map Rep.enc)) (.int k (i:Int))=.ok (.iptr a.enc 0):=ixI (enc:=Rep.enc) hi rfl k
theorem Rate.same_iff (a b:Rate):(a=b)=(b.cat=a.cat∧b.day.y=a.day.y∧b.day.m=a.day.m∧b.day.d=a.day.d∧b.bp=a.bp):=by
 obtain ⟨_,⟨_,_,_⟩,_⟩:=a;obtain ⟨_,⟨_,_,_⟩,_⟩:=b;simp [and_assoc,eq_comm]
theorem Ser.same_iff (a b:Ser):(a=b)=(b.name=a.name∧b.next=a.next∧b.limit=a.limit∧b.shut=a.shut):=by
 obtain ⟨_,_,_,_⟩:=a;obtain ⟨_,_,_,_⟩:=b;simp [and_assoc,eq_comm]
theorem Bal.same_iff (a b:Bal):(a=b)=(b.acc=a.acc∧b.amount=a.amount):=by
 obtain ⟨_,_⟩:=a;obtain ⟨_,_⟩:=b;simp [and_assoc,eq_comm]
theorem Sess.same_iff (a b:Sess):(a=b)=(b.id=a.id∧b.last=a.last∧b.reply.why=a.reply.why∧b.reply.number=a.reply.number∧b.reply.gross=a.reply.gross):=by
 obtain ⟨_,_,⟨_,_,_⟩⟩:=a;obtain ⟨_,_,⟨_,_,_⟩⟩:=b;simp [and_assoc,eq_comm]
theorem Rep.same_iff (a b:Rep):(a=b)=(b.why=a.why∧b.number=a.number∧b.gross=a.gross):=by
 obtain ⟨_,_,_⟩:=a;obtain ⟨_,_,_⟩:=b;simp [and_assoc,eq_comm]
theorem Part.same_iff (a b:Part):(a=b)=(b.cat=a.cat∧b.bp=a.bp∧b.net=a.net∧b.tax=a.tax):=by
 obtain ⟨_,_,_,_⟩:=a;obtain ⟨_,_,_,_⟩:=b;simp [and_assoc,eq_comm]
theorem g80 (l r:List Rate) (hb:l.length<1000000) (S:St) (K:KW):C 80 [.imm (l.map Rate.enc),.imm (r.map Rate.enc)] S K=K (.bool (decide (l=r))) S:=by
 refine (v80 rfl ?_).eq S K
 delta Tryz.f80;simp only [↓cw,↓reduceIte,Nat.reduceLT,kk]
 by_cases h:l.length=r.length
 ·simp only [↓cw,↓reduceIte,Nat.reduceLT,show (l.length:Int)=(r.length:Int) by omega,kk,not_true_eq_false,if_false]
  refine aG l (step:=eE r) (fin:=fun _=>true) (fun i n vs S=>n=i∧vs=[.bool false,.int .i64 (i:Int)]) (fun x=>x=decide (l=r)) ?_ ?_ (s:=0) ⟨rfl,rfl⟩ (eqL h)
  ·rintro i p n vs S hi ⟨rfl,rfl⟩ aF H
   have hil:=(List.getElem?_eq_some_iff.1 hi).1
   have hj:r[n]?=some r[n]:=List.getElem?_eq_getElem (by omega)
   have hlt:((n:Int)<(r.length:Int))=True:=bB hj
   simp only [eE,hj,Option.some.injEq,Rate.same_iff] at H
   simp only [↓cw,↓reduceIte,Nat.reduceLT,kk,bB hi,hlt,nR hi,nR hj,Rate.enc,hJ (show n<1000000000 by omega),oo]
   grind
  ·rintro n vs S ⟨rfl,rfl⟩ aF H
   simp only [↓cw,↓reduceIte,Nat.reduceLT,kk,h,Int.lt_irrefl,if_false,oo,←H]
 ·simp only [↓cw,↓reduceIte,Nat.reduceLT,show ¬ (l.length:Int)=(r.length:Int) by omega,kk,not_false_eq_true,if_true,oo]
  have:decide (l=r)=false:=by simpa using fun e=>h (by rw [e])
  rw [this]
theorem g81 (l r:List Ser) (hb:l.length<1000000) (S:St) (K:KW):C 81 [.imm (l.map Ser.enc),.imm (r.map Ser.enc)] S K=K (.bool (decide (l=r))) S:=by
 refine (v81 rfl ?_).eq S K
 delta Tryz.f81;simp only [↓cw,↓reduceIte,Nat.reduceLT,kk]
 by_cases h:l.length=r.length
 ·simp only [↓cw,↓reduceIte,Nat.reduceLT,show (l.length:Int)=(r.length:Int) by omega,kk,not_true_eq_false,if_false]
  refine aG l (step:=eE r) (fin:=fun _=>true) (fun i n vs S=>n=i∧vs=[.bool false,.int .i64 (i:Int)]) (fun x=>x=decide (l=r)) ?_ ?_ (s:=0) ⟨rfl,rfl⟩ (eqL h)
  ·rintro i p n vs S hi ⟨rfl,rfl⟩ aF H
   have hil:=(List.getElem?_eq_some_iff.1 hi).1
   have hj:r[n]?=some r[n]:=List.getElem?_eq_getElem (by omega)
   have hlt:((n:Int)<(r.length:Int))=True:=bB hj
   simp only [eE,hj,Option.some.injEq,Ser.same_iff] at H
   simp only [↓cw,↓reduceIte,Nat.reduceLT,kk,bB hi,hlt,kT hi,kT hj,Ser.enc,hJ (show n<1000000000 by omega),oo]
   grind
  ·rintro n vs S ⟨rfl,rfl⟩ aF H
   simp only [↓cw,↓reduceIte,Nat.reduceLT,kk,h,Int.lt_irrefl,if_false,oo,←H]
 ·simp only [↓cw,↓reduceIte,Nat.reduceLT,show ¬ (l.length:Int)=(r.length:Int) by omega,kk,not_false_eq_true,if_true,oo]
  have:decide (l=r)=false:=by simpa using fun e=>h (by rw [e])
  rw [this]
theorem g83 (l r:List Bal) (hb:l.length<1000000) (S:St) (K:KW):C 83 [.imm (l.map Bal.enc),.imm (r.map Bal.enc)] S K=K (.bool (decide (l=r))) S:=by
 refine (v83 rfl ?_).eq S K
 delta Tryz.f83;simp only [↓cw,↓reduceIte,Nat.reduceLT,kk]
 by_cases h:l.length=r.length
 ·simp only [↓cw,↓reduceIte,Nat.reduceLT,show (l.length:Int)=(r.length:Int) by omega,kk,not_true_eq_false,if_false]
  refine aG l (step:=eE r) (fin:=fun _=>true) (fun i n vs S=>n=i∧vs=[.bool false,.int .i64 (i:Int)]) (fun x=>x=decide (l=r)) ?_ ?_ (s:=0) ⟨rfl,rfl⟩ (eqL h)
  ·rintro i p n vs S hi ⟨rfl,rfl⟩ aF H
   have hil:=(List.getElem?_eq_some_iff.1 hi).1
   have hj:r[n]?=some r[n]:=List.getElem?_eq_getElem (by omega)
   have hlt:((n:Int)<(r.length:Int))=True:=bB hj
   simp only [eE,hj,Option.some.injEq,Bal.same_iff] at H
   simp only [↓cw,↓reduceIte,Nat.reduceLT,kk,bB hi,hlt,lS hi,lS hj,Bal.enc,hJ (show n<1000000000 by omega),oo]
   grind
  ·rintro n vs S ⟨rfl,rfl⟩ aF H
   simp only [↓cw,↓reduceIte,Nat.reduceLT,kk,h,Int.lt_irrefl,if_false,oo,←H]
 ·simp only [↓cw,↓reduceIte,Nat.reduceLT,show ¬ (l.length:Int)=(r.length:Int) by omega,kk,not_false_eq_true,if_true,oo]
  have:decide (l=r)=false:=by simpa using fun e=>h (by rw [e])
  rw [this]
theorem g84 (l r:List Sess) (hb:l.length<1000000) (S:St) (K:KW):C 84 [.imm (l.map Sess.enc),.imm (r.map Sess.enc)] S K=K (.bool (decide (l=r))) S:=by
 refine (v84 rfl ?_).eq S K
 delta Tryz.f84;simp only [↓cw,↓reduceIte,Nat.reduceLT,kk]
 by_cases h:l.length=r.length
 ·simp only [↓cw,↓reduceIte,Nat.reduceLT,show (l.length:Int)=(r.length:Int) by omega,kk,not_true_eq_false,if_false]
  refine aG l (step:=eE r) (fin:=fun _=>true) (fun i n vs S=>n=i∧vs=[.bool false,.int .i64 (i:Int)]) (fun x=>x=decide (l=r)) ?_ ?_ (s:=0) ⟨rfl,rfl⟩ (eqL h)
  ·rintro i p n vs S hi ⟨rfl,rfl⟩ aF H
   have hil:=(List.getElem?_eq_some_iff.1 hi).1
   have hj:r[n]?=some r[n]:=List.getElem?_eq_getElem (by omega)
   have hlt:((n:Int)<(r.length:Int))=True:=bB hj
   simp only [eE,hj,Option.some.injEq,Sess.same_iff] at H
   simp only [↓cw,↓reduceIte,Nat.reduceLT,kk,bB hi,hlt,mD hi,mD hj,Sess.enc,hJ (show n<1000000000 by omega),oo]
   grind
  ·rintro n vs S ⟨rfl,rfl⟩ aF H
   simp only [↓cw,↓reduceIte,Nat.reduceLT,kk,h,Int.lt_irrefl,if_false,oo,←H]
 ·simp only [↓cw,↓reduceIte,Nat.reduceLT,show ¬ (l.length:Int)=(r.length:Int) by omega,kk,not_false_eq_true,if_true,oo]
  have:decide (l=r)=false:=by simpa using fun e=>h (by rw [e])
  rw [this]
theorem g53 (l r:List Rep) (hb:l.length<1000000) (S:St) (K:KW):C 53 [.imm (l.map Rep.enc),.imm (r.map Rep.enc)] S K=K (.bool (decide (l=r))) S:=by
 refine (v53 rfl ?_).eq S K
 delta Tryz.f53;simp only [↓cw,↓reduceIte,Nat.reduceLT,kk]
 by_cases h:l.length=r.length
 ·simp only [↓cw,↓reduceIte,Nat.reduceLT,show (l.length:Int)=(r.length:Int) by omega,kk,not_true_eq_false,if_false]
  refine aG l (step:=eE r) (fin:=fun _=>true) (fun i n vs S=>n=i∧vs=[.bool false,.int .i64 (i:Int)]) (fun x=>x=decide (l=r)) ?_ ?_ (s:=0) ⟨rfl,rfl⟩ (eqL h)
  ·rintro i p n vs S hi ⟨rfl,rfl⟩ aF H
   have hil:=(List.getElem?_eq_some_iff.1 hi).1
   have hj:r[n]?=some r[n]:=List.getElem?_eq_getElem (by omega)
   have hlt:((n:Int)<(r.length:Int))=True:=bB hj
   simp only [eE,hj,Option.some.injEq,Rep.same_iff] at H
   simp only [↓cw,↓reduceIte,Nat.reduceLT,kk,bB hi,hlt,bC7 hi,bC7 hj,Rep.enc,hJ (show n<1000000000 by omega),oo]
   grind
  ·rintro n vs S ⟨rfl,rfl⟩ aF H
   simp only [↓cw,↓reduceIte,Nat.reduceLT,kk,h,Int.lt_irrefl,if_false,oo,←H]
 ·simp only [↓cw,↓reduceIte,Nat.reduceLT,show ¬ (l.length:Int)=(r.length:Int) by omega,kk,not_false_eq_true,if_true,oo]
  have:decide (l=r)=false:=by simpa using fun e=>h (by rw [e])
  rw [this]
theorem bQ0 (l r:List Part) (hb:l.length<1000000) (S:St) (K:KW):C 224 [.imm (l.map Part.enc),.imm (r.map Part.enc)] S K=K (.bool (decide (l=r))) S:=by
 refine (bM4 rfl ?_).eq S K
 delta Tryz.f224;simp only [↓cw,↓reduceIte,Nat.reduceLT,kk]
 by_cases h:l.length=r.length
 ·simp only [↓cw,↓reduceIte,Nat.reduceLT,show (l.length:Int)=(r.length:Int) by omega,kk,not_true_eq_false,if_false]
  refine aG l (step:=eE r) (fin:=fun _=>true) (fun i n vs S=>n=i∧vs=[.bool false,.int .i64 (i:Int)]) (fun x=>x=decide (l=r)) ?_ ?_ (s:=0) ⟨rfl,rfl⟩ (eqL h)
  ·rintro i p n vs S hi ⟨rfl,rfl⟩ aF H
   have hil:=(List.getElem?_eq_some_iff.1 hi).1
   have hj:r[n]?=some r[n]:=List.getElem?_eq_getElem (by omega)
   have hlt:((n:Int)<(r.length:Int))=True:=bB hj
   simp only [eE,hj,Option.some.injEq,Part.same_iff] at H
   simp only [↓cw,↓reduceIte,Nat.reduceLT,kk,bB hi,hlt,jE hi,jE hj,Part.enc,hJ (show n<1000000000 by omega),oo]
   grind
  ·rintro n vs S ⟨rfl,rfl⟩ aF H
   simp only [↓cw,↓reduceIte,Nat.reduceLT,kk,h,Int.lt_irrefl,if_false,oo,←H]
 ·simp only [↓cw,↓reduceIte,Nat.reduceLT,show ¬ (l.length:Int)=(r.length:Int) by omega,kk,not_false_eq_true,if_true,oo]
  have:decide (l=r)=false:=by simpa using fun e=>h (by rw [e])
  rw [this]
theorem bQ1 (a b:Total) (hb:a.parts.length<1000000) (S:St) (K:KW):C 162 [.agg [.int .i64 a.net,.int .i64 a.tax,.int .i64 a.gross,.imm (a.parts.map Part.enc)],.agg [.int .i64 b.net,.int .i64 b.tax,.int .i64 b.gross,.imm (b.parts.map Part.enc)]] S K=K (.bool (decide (a=b))) S:=by
 refine (bL1 rfl ?_).eq S K
 delta Tryz.f162;simp only [↓cw,↓reduceIte,Nat.reduceLT,kk,cN,gm,bQ0 a.parts b.parts hb,Total.ext_iff,oo]
 grind
theorem Posted.same_iff (a b:Posted):(a=b)=(b.ref=a.ref∧b.day=a.day∧b.of=a.of∧b.back=a.back∧b.total=a.total):=by
 obtain ⟨_,_,_,_,_⟩:=a;obtain ⟨_,_,_,_,_⟩:=b;simp only [Posted.mk.injEq,eq_iff_iff]
 constructor
 ·rintro ⟨rfl,rfl,rfl,rfl,rfl⟩;exact ⟨rfl,rfl,rfl,rfl,rfl⟩
 ·rintro ⟨rfl,rfl,rfl,rfl,rfl⟩;exact ⟨rfl,rfl,rfl,rfl,rfl⟩
theorem Date.same_iff (a b:Date):(a=b)=(a.y=b.y∧a.m=b.m∧a.d=b.d):=by obtain ⟨_,_,_⟩:=a;obtain ⟨_,_,_⟩:=b;simp
theorem g82 (l r:List Posted) (hb:l.length<1000000) (hq:∀ p∈l,p.total.parts.length<1000000) (S:St) (K:KW):C 82 [.imm (l.map Posted.enc),.imm (r.map Posted.enc)] S K=K (.bool (decide (l=r))) S:=by
 refine (v82 rfl ?_).eq S K
 delta Tryz.f82;simp only [↓cw,↓reduceIte,Nat.reduceLT,kk]
 by_cases h:l.length=r.length
 ·simp only [↓cw,↓reduceIte,Nat.reduceLT,show (l.length:Int)=(r.length:Int) by omega,kk,not_true_eq_false,if_false]
  refine aG l (step:=eE r) (fin:=fun _=>true) (fun i n vs S=>n=i∧vs=[.bool false,.int .i64 (i:Int)]) (fun x=>x=decide (l=r)) ?_ ?_ (s:=0) ⟨rfl,rfl⟩ (eqL h)
  ·rintro i p n vs S hi ⟨rfl,rfl⟩ aF H
   have hil:=(List.getElem?_eq_some_iff.1 hi).1
   have hj:r[n]?=some r[n]:=List.getElem?_eq_getElem (by omega)
   have hlt:((n:Int)<(r.length:Int))=True:=bB hj
   generalize r[n]=q at hj
   simp only [eE,hj,Option.some.injEq,Posted.same_iff q p] at H
   simp only [↓cw,↓reduceIte,Nat.reduceLT,kk,gm,bB hi,hlt,if_true,kJ hi,kJ hj,Posted.enc,bQ1 p.total q.total (hq p (List.mem_of_getElem? hi)),hJ (show n<1000000000 by omega),aAg]
   by_cases c1:p.ref=q.ref
   rotate_left
   ·have c':(!(p.ref.ser == q.ref.ser&&decide (p.ref.num=q.ref.num)))=true:=by rw [Ref.ext_iff] at c1;simp;exact Decidable.not_and_iff_or_not.1 c1
    rw [if_neg (fun h=>c1 h.1)] at H
    have H:false=decide (l=r):=H
    rw [if_pos c',←H]
   have c':¬ (!(p.ref.ser == q.ref.ser&&decide (p.ref.num=q.ref.num)))=true:=by rw [c1];simp
   rw [if_neg c']
   by_cases c2:p.day=q.day
   rotate_left
   ·rw [if_neg (fun h=>c2 h.2.1)] at H
    have H:false=decide (l=r):=H
    rw [Date.same_iff] at c2
    rw [if_pos (by simp;grind),←H]
   rw [if_neg (by rw [c2];simp)]
   by_cases c3:p.of=q.of
   rotate_left
   ·rw [if_neg (fun h=>c3 h.2.2.1)] at H
    have H:false=decide (l=r):=H
    rw [Ref.ext_iff] at c3
    rw [if_pos (by simp;grind),←H]
   rw [if_neg (by rw [c3];simp)]
   by_cases c4:p.back=q.back
   rotate_left
   ·rw [if_neg (fun h=>c4 h.2.2.2.1)] at H
    have H:false=decide (l=r):=H
    rw [if_pos (by simpa using c4),←H]
   rw [if_neg (by rw [c4];simp)]
   by_cases c5:p.total=q.total
   ·rw [if_pos ⟨c1,c2,c3,c4,c5⟩] at H
    rw [if_neg (by simp [c5])]
    exact H _ _ ⟨rfl,rfl⟩
   ·rw [if_neg (fun h=>c5 h.2.2.2.2)] at H
    have H:false=decide (l=r):=H
    rw [if_pos (by simpa using c5),←H]
  ·rintro n vs S ⟨rfl,rfl⟩ aF H
   simp only [↓cw,↓reduceIte,Nat.reduceLT,kk,h,Int.lt_irrefl,if_false,oo,←H]
 ·simp only [↓cw,↓reduceIte,Nat.reduceLT,show ¬ (l.length:Int)=(r.length:Int) by omega,kk,not_false_eq_true,if_true,oo]
  have:decide (l=r)=false:=by simpa using fun e=>h (by rw [e])
  rw [this]
theorem State.same_iff (a b:State):(a=b)=(a.table=b.table∧a.ser=b.ser∧a.posted=b.posted∧a.book=b.book∧a.sess=b.sess∧a.next=b.next):=by
 obtain ⟨_,_,_,_,_,_⟩:=a;obtain ⟨_,_,_,_,_,_⟩:=b;simp
def aGc (a b:State):Bool:=decide (a.table=b.table)&&(decide (a.ser=b.ser)&&(decide (a.posted=b.posted)&&(decide (a.book=b.book)&&(decide (a.sess=b.sess)&&decide (a.next=b.next)))))
theorem aGd (a b:State):aGc a b=true↔a=b:=by
 rw [State.same_iff];unfold aGc;simp
structure SmlS (s:State):Prop where
 tab:s.table.length<1000000
 ser:s.ser.length<1000000
 post:s.posted.length<1000000
 parts:∀ p∈s.posted,p.total.parts.length<1000000
 book:s.book.length<1000000
 sess:s.sess.length<1000000
theorem g22 (a b:State) (h:SmlS a) (S:St) (K:KW):C 22 [.agg [.imm (a.table.map Rate.enc),.imm (a.ser.map Ser.enc),.imm (a.posted.map Posted.enc),.imm (a.book.map Bal.enc),.imm (a.sess.map Sess.enc),.int .i64 a.next],.agg [.imm (b.table.map Rate.enc),.imm (b.ser.map Ser.enc),.imm (b.posted.map Posted.enc),.imm (b.book.map Bal.enc),.imm (b.sess.map Sess.enc),.int .i64 b.next]] S K=K (.bool (aGc a b)) S:=by
 refine (v22 rfl ?_).eq S K
 delta Tryz.f22;simp only [↓cw,↓reduceIte,Nat.reduceLT,kk,cN,gm,g80 a.table b.table h.tab,g81 a.ser b.ser h.ser,g82 a.posted b.posted h.post h.parts,g83 a.book b.book h.book,g84 a.sess b.sess h.sess,aGc]
 by_cases c1:a.table=b.table
 rotate_left
 ·simp only [c1,if_false,decide_false,Bool.false_and,oo]
 by_cases c2:a.ser=b.ser
 rotate_left
 ·simp only [c1,c2,if_true,if_false,decide_false,decide_true,Bool.false_and,Bool.true_and,oo]
 by_cases c3:a.posted=b.posted
 rotate_left
 ·simp only [c1,c2,c3,if_true,if_false,decide_false,decide_true,Bool.false_and,Bool.true_and,oo]
 by_cases c4:a.book=b.book
 rotate_left
 ·simp only [c1,c2,c3,c4,if_true,if_false,decide_false,decide_true,Bool.false_and,Bool.true_and,oo]
 by_cases c5:a.sess=b.sess
 rotate_left
 ·simp only [c1,c2,c3,c4,c5,if_true,if_false,decide_false,decide_true,Bool.false_and,Bool.true_and,oo]
 simp only [c1,c2,c3,c4,c5,if_true,decide_true,Bool.true_and,oo]
theorem bJr (S:St) (K:KW):C 113 [] S K=K (.agg [.int .i64 2026,.int .i64 11,.int .i64 15]) S:=by
 refine (bKi rfl ?_).eq S K
 delta Tryz.f113;simp only [↓cw,↓reduceIte,Nat.reduceLT,kk,cN,gm,oo]
theorem bQ2 (n:Int) (S:St) (K:KW):C 112 [.int .i64 n] S K=K (.agg (aDy n).enc) S:=by
 refine (bKh rfl ?_).eq S K
 delta Tryz.f112;simp only [↓cw,↓reduceIte,Nat.reduceLT,kk,bJr,aQj,cN,gm,oo]
 rfl
def aPa:List Call:=[⟨0,0,⟨6,[],0,aG2,⟨0,0,0⟩,[],Ref.zero,0⟩⟩,⟨1,1,⟨3,[],0,⟨[115,116,100],⟨2000,1,1⟩,1900⟩,⟨0,0,0⟩,[],Ref.zero,0⟩⟩,⟨1,2,⟨1,[97],2,aG2,⟨0,0,0⟩,[],Ref.zero,0⟩⟩,aDy 3,aDy 3,aDy 4,aDy 5,
 ⟨1,6,⟨1,[98],9,aG2,⟨0,0,0⟩,[],Ref.zero,0⟩⟩,⟨1,7,⟨5,[98],0,aG2,⟨2026,11,15⟩,[],⟨[97],1⟩,0⟩⟩,⟨1,8,⟨5,[98],0,aG2,⟨2026,11,15⟩,[],⟨[97],1⟩,0⟩⟩,⟨1,9,⟨8,[98],0,aG2,⟨0,0,0⟩,[],Ref.zero,0⟩⟩]
def aK7:List Rep:=[⟨0,1,0⟩,⟨0,0,0⟩,⟨0,0,0⟩,⟨0,1,119⟩,⟨0,1,119⟩,⟨0,2,119⟩,⟨14,0,0⟩,⟨0,0,0⟩,⟨0,1,-119⟩,⟨12,0,0⟩,⟨0,1,119⟩]
theorem aYf (z:List V) (parts:List (Nat×V)) (fr:Option Nat) (S:St):cI 17 z 11 parts fr S=(match vU 17 [z,z,z,z,z,z,z,z,z,z,z] parts with
  | .error e=>.error e
  | .ok elems=>match bG fr S (.row 0 17 elems) with
   | .error e=>.error e
   | .ok (a,S')=>.ok (.sl a 0 17 0 11,S')):=by unfold cI;rw [if_pos (by decide)];rfl
theorem bDc (z:List V) (parts:List (Nat×V)) (fr:Option Nat) (S:St):cI 3 z 11 parts fr S=(match vU 3 [z,z,z,z,z,z,z,z,z,z,z] parts with
  | .error e=>.error e
  | .ok elems=>match bG fr S (.row 0 3 elems) with
   | .error e=>.error e
   | .ok (a,S')=>.ok (.sl a 0 3 0 11,S')):=by unfold cI;rw [if_pos (by decide)];rfl
theorem a53 (S:St) (r l:List Rep) (hl:r.length<1000000) (K:KW):C 53 [.imm (r.map Rep.enc),.sl S.next 0 3 0 l.length] ⟨S.next+1,S.heap.put S.next (.row 0 3 (l.map Rep.enc))⟩ K=K (.bool (decide (r=l))) ⟨S.next+1,S.heap.put S.next (.row 0 3 (l.map Rep.enc))⟩:=by
 have o:=Own.made (n:=3) (S:=S) (es:=l.map Rep.enc) fun c hc=>by obtain ⟨x,_,rfl⟩:=List.mem_map.1 hc;exact bJb x
 rw [List.length_map] at o
 have h:=o.out fun _=>rfl
 exact (Fn.back fun S K=>g53 r l hl S K).frz bK7 rfl (by simp only [frzVs,rJ (.imm (r.map Rep.enc)) rfl,h]) (by simp only [ptrsVs,sH,o.ptrs];rfl) (.inl rfl) K
theorem g36 (S:St) (K:KW):C 36 [] S K=K (.bool true) S:=by
 refine (v36 rfl ?_).eq S K
 obtain ⟨s,hs⟩:∃ s,s=(iV State.new aPa).1:=⟨_,rfl⟩
 have hr:(iV State.new aPa).2=aK7:=by kernel_rfl
 have hrt:bW s=true:=by rw [hs];kernel_rfl
 have hlen:s.posted.length=3:=by rw [hs];kernel_rfl
 have e3:∀ n,(sM (aDy n).enc 17&&aJ (aDy n).enc)=true:=fun n=>rfl
 delta Tryz.f36;simp only [↓cw,↓reduceIte,Nat.reduceLT,kk,g31,bJr,bQ2,aYf,e3]
 obtain ⟨S1,hS1⟩:∃ S1:St,S1=⟨1,Tr.nil.put 0 (.row 0 17 (aPa.map Call.mem))⟩:=⟨_,rfl⟩
 obtain ⟨h',_,hC⟩:=(Fn.back fun S K=>g35 State.new aPa Sml.new (by decide) (by decide) S K).cutE (S:=S1) (args:=[.agg [.imm [],.imm [],.imm [],.imm [],.imm [],.int .i64 1],.sl 0 0 17 0 11]) bK6 rfl (by rw [hS1];rfl) (by rfl)
 rw [←hs,hr] at hC
 have key:=hC
 rw [hS1] at key
 refine Eq.mpr (key _) ?_
 have n1:S1.next=1:=by rw [hS1]
 simp only [↓cw,↓reduceIte,Nat.reduceLT,n1,kk]
 obtain ⟨S2,hS2⟩:∃ S2:St,S2=⟨1+1,(h'.put 1 (.row 0 6 [[.nils,.nils,.nils,.nils,.nils,.int .i64 0]])).put 1 (.row 0 6 [s.enc])⟩:=⟨_,rfl⟩
 have r1:aA S2 1 0=.ok (6,[s.enc]):=by rw [hS2];exact aC _ _ _ _ _ _
 have n2:S2.next=2:=by rw [hS2]
 simp only [State.enc] at hS2 r1
 have c0:=fun K=>a53 S2 aK7 aK7 (by decide) K
 have t1:aA ⟨S2.next+1,S2.heap.put S2.next (.row 0 3 (aK7.map Rep.enc))⟩ 1 0=.ok (6,[s.enc]):=aD (n:=S2.next) (by omega) r1
 simp only [aK7,List.map_cons,List.map_nil,List.length_cons,List.length_nil,Rep.enc,Nat.zero_add,Nat.reduceAdd,State.enc] at c0 t1
 simp only [↓cw,↓reduceIte,Nat.reduceLT,←hS2,bDc,kk,gm]
 refine Eq.mpr (c0 _) ?_
 simp only [↓cw,↓reduceIte,Nat.reduceLT,decide_true,if_true,t1,kk,gm,g24,hrt,hlen]
 rfl
def vC (c:Call):Prop:=∀ l∈c.cmd.lines,eF l.count∧eF l.price
theorem aE7 {s:State} (hr:bW s=true):∀ x∈s.ser,eF x.next:=fun x hx=>by
 obtain ⟨_,b⟩:=((gC _).1 ((bZ s).1 hr).2.1).2.1 x hx
 unfold mB at b
 simp only [Bool.or_eq_false_iff,decide_eq_false_iff_not] at b
 obtain ⟨b1,b2,b3,b4⟩:=b
 rw [eX ⟨by omega,by omega⟩] at b4
 exact ⟨by omega,by omega⟩
theorem r34 (s:State) (c:Call) (hr:bW s=true) (hI:xG s) (hc:vC c) (hll:c.cmd.lines.length<1000000) (S:St) (K:KW):type_of% (g34 s c hI (aE7 hr) (by have:=gH hr;omega) (fun q h=>by have:=(gH hr).2.2.2.2.2.1 q h;omega) (by have:=gH hr;omega) hc hll S K):=
 g34 s c hI (aE7 hr) (by have:=gH hr;omega) (fun q h=>by have:=(gH hr).2.2.2.2.2.1 q h;omega) (by have:=gH hr;omega) hc hll S K
theorem Sml.s {s:State} (h:Sml s):SmlS s:=⟨by have:=h.st;omega,by have:=h.ss;omega,by have:=h.sp;omega,fun p hp=>by have:=h.sq p hp;omega,by have:=h.sb;omega,by have:=h.se;omega⟩
theorem aVs (l:List Call):∀ (s:State) (a:List Rep),(l.foldl nQ (s,a)).1=l.foldl (fun s c=>(eO s c).1) s:=by
 induction l with
 | nil=>exact fun _ _=>rfl
 | cons c l ih=>exact fun s a=>ih _ _
def aVt (s:State) (c:Call):State⊕State:=.inr (eO s c).1
theorem sL (l:List Call):∀ s:State,aE aVt id l s=l.foldl (fun s c=>(eO s c).1) s:=by
 induction l with
 | nil=>exact fun _=>rfl
 | cons c l ih=>exact fun s=>ih _
theorem bJs {l:List Call} (h:∀ c∈l,vC c) (n:Nat):∀ c∈sT l n,vC c:=fun c hc x hx=>by
 obtain ⟨d,hd,rfl⟩:=List.mem_map.1 hc
 exact h d (List.mem_of_mem_take hd) x (List.mem_of_mem_take hx)
set_option maxHeartbeats 4000000 in
theorem g5 (l:List Call) (h64:∀ c∈l,vC c) (S:St) (K:KW):C 5 [.imm (l.map Call.enc)] S K=K (.bool true) S:=by
 refine (v5 rfl ?_).eq S K
 obtain ⟨fl,hfl⟩:∃ fl,fl=sT l 60:=⟨_,rfl⟩
 have hflen:fl.length≤60:=by have:=aJg l 60;rw [hfl];omega
 have hf64:=bJs h64 60
 have hfl1:=aG1 l 60
 rw [←hfl] at hf64 hfl1
 have g30':=fun S K=>g30 l 60 (by decide) S K
 simp only [←hfl] at g30'
 have g30':∀ (S:St) (K:KW),C 30 [.imm (l.map Call.enc),.int .i64 60] S K=K (.imm (fl.map Call.enc)) S:=g30'
 delta Tryz.f5;simp only [↓cw,↓reduceIte,Nat.reduceLT,g30',g31,g32,kk,cN,gm]
 obtain ⟨S0,hS0⟩:∃ S0:St,S0=⟨1+1,((((Tr.nil.put 0 (.row 0 6 [[.nils,.nils,.nils,.nils,.nils,.int .i64 0]])).put 1 (.row 0 6 [[.nils,.nils,.nils,.nils,.nils,.int .i64 0]])).put 0 (.row 0 6 [State.new.enc])).put 1 (.row 0 6 [State.new.enc]))⟩:=⟨_,rfl⟩
 have s0:∀ m,aA ⟨m,S0.heap⟩ 0 0=.ok (6,[State.new.enc]):=fun m=>by rw [hS0];rfl
 have s1:∀ m,aA ⟨m,S0.heap⟩ 1 0=.ok (6,[State.new.enc]):=fun m=>by rw [hS0];rfl
 have n0:2≤S0.next:=by rw [hS0];exact Nat.le_refl _
 have hS0':S0=⟨1+1,((((Tr.nil.put 0 (.row 0 6 [[.nils,.nils,.nils,.nils,.nils,.int .i64 0]])).put 1 (.row 0 6 [[.nils,.nils,.nils,.nils,.nils,.int .i64 0]])).put 0 (.row 0 6 [[.imm [],.imm [],.imm [],.imm [],.imm [],.int .i64 1]])).put 1 (.row 0 6 [[.imm [],.imm [],.imm [],.imm [],.imm [],.int .i64 1]]))⟩:=hS0
 simp only [Nat.reduceAdd] at hS0' ⊢
 rw [←hS0']
 refine aG fl (step:=aVt) (fin:=id) (fun i s vs X=>vs=[.bool false,.int .i64 (i:Int)]∧bW s=true∧xG s∧Sml s∧(∀ m,aA ⟨m,X.heap⟩ 0 0=.ok (6,[s.enc]))∧(∀ m,aA ⟨m,X.heap⟩ 1 0=.ok (6,[s.enc]))∧2≤X.next) (fun r=>r=(iV State.new fl).1) ?_ ?_ (s:=State.new) ⟨rfl,aG0.1,aG0.2,Sml.new,s0,s1,n0⟩ (by rw [sL,iV,aVs])
 ·rintro i c s vs X hi ⟨rfl,hr,hI,sm,x0,x1,xn⟩ aF H
  have hil:=(List.getElem?_eq_some_iff.1 hi).1
  have hcm:=List.mem_of_getElem? hi
  have har:=aJx hr hI c
  have hsm:=aDl sm c
  have same:aGc (eO s c).1 (eO s c).1=true:=(aGd _ _).2 rfl
  simp only [aVt] at H
  simp only [State.enc] at x0 x1
  simp only [↓cw,↓reduceIte,Nat.reduceLT,kk,gm,bB hi,if_true,aM1 hi,Call.enc,x0,g33 s c sm.bnd (hfl1 c hcm),kO,hJ (show i<1000000000 by omega)]
  obtain ⟨A,hA⟩:∃ A,A=eO s c:=⟨_,rfl⟩
  have g34':=fun S K=>r34 s c hr hI (hf64 c hcm) (hfl1 c hcm) S K
  rw [←hA] at har hsm same H
  simp only [←hA] at g34' ⊢
  have two:∀ (X:St) (k k1:Nat),k≠k1→∀ (r1 r2:List V),(∀ b,aA ⟨X.next,(X.heap.put k (.row 0 6 [[.nils,.nils,.nils,.nils,.nils,.int .i64 0]])).put k1 b⟩ k 0=.ok (6,[[.nils,.nils,.nils,.nils,.nils,.int .i64 0]])) ∧
    (∀ b,aA ⟨X.next,((X.heap.put k (.row 0 6 [[.nils,.nils,.nils,.nils,.nils,.int .i64 0]])).put k1 (.row 0 3 [[.int .i64 0,.int .i64 0,.int .i64 0]])).put k b⟩ k1 0=.ok (3,[[.int .i64 0,.int .i64 0,.int .i64 0]])):=fun X k k1 h r1 r2=>
   ⟨fun b=>aD (n:=X.next) h (aC _ _ _ _ _ _),fun b=>aD (n:=X.next) (Ne.symm h) (aC _ _ _ _ _ _)⟩
  obtain ⟨Y,hY⟩:∃ Y:St,Y=⟨X.next+13,(((X.heap.put (X.next+9) (.row 0 6 [[.nils,.nils,.nils,.nils,.nils,.int .i64 0]])).put (X.next+10) (.row 0 3 [[.int .i64 0,.int .i64 0,.int .i64 0]])).put (X.next+9) (.row 0 6 [A.1.enc])).put (X.next+10) (.row 0 3 [[.int .i64 A.2.why,.int .i64 A.2.number,.int .i64 A.2.gross]])⟩:=⟨_,rfl⟩
  have yK:∀ k,k<X.next→∀ m r,aA ⟨m,X.heap⟩ k 0=.ok r→aA ⟨m,Y.heap⟩ k 0=.ok r:=fun k hk m r h=>by
   rw [hY]
   exact aD (n:=m) (by omega) (aD (n:=m) (by omega) (aD (n:=m) (by omega) (aD (n:=m) (by omega) h)))
  have y0:=fun m=>yK 0 (by omega) m _ (x0 m)
  have y1:=fun m=>yK 1 (by omega) m _ (x1 m)
  have y1':aA Y 1 0=_:=y1 Y.next
  have yk:∀ m,aA ⟨m,Y.heap⟩ (X.next+9) 0=.ok (6,[A.1.enc]):=fun m=>by rw [hY];exact aD (n:=m) (by omega) (aC _ _ _ _ _ _)
  have yk1:∀ m,aA ⟨m,Y.heap⟩ (X.next+10) 0=.ok (3,[[.int .i64 A.2.why,.int .i64 A.2.number,.int .i64 A.2.gross]]):=fun m=>by rw [hY];exact aC _ _ _ _ _ _
  have yn:Y.next=X.next+13:=by rw [hY]
  obtain ⟨Z,hZ⟩:∃ Z:St,Z=⟨Y.next+13,(((Y.heap.put (Y.next+9) (.row 0 6 [[.nils,.nils,.nils,.nils,.nils,.int .i64 0]])).put (Y.next+10) (.row 0 3 [[.int .i64 0,.int .i64 0,.int .i64 0]])).put (Y.next+9) (.row 0 6 [A.1.enc])).put (Y.next+10) (.row 0 3 [[.int .i64 A.2.why,.int .i64 A.2.number,.int .i64 A.2.gross]])⟩:=⟨_,rfl⟩
  have zK:∀ k,k<Y.next→∀ m r,aA ⟨m,Y.heap⟩ k 0=.ok r→aA ⟨m,Z.heap⟩ k 0=.ok r:=fun k hk m r h=>by
   rw [hZ]
   exact aD (n:=m) (by omega) (aD (n:=m) (by omega) (aD (n:=m) (by omega) (aD (n:=m) (by omega) h)))
  have zk:=fun m=>zK (X.next+9) (by omega) m _ (yk m)
  have zk1:=fun m=>zK (X.next+10) (by omega) m _ (yk1 m)
  have zj:∀ m,aA ⟨m,Z.heap⟩ (Y.next+9) 0=.ok (6,[A.1.enc]):=fun m=>by rw [hZ];exact aD (n:=m) (by omega) (aC _ _ _ _ _ _)
  have zj1:∀ m,aA ⟨m,Z.heap⟩ (Y.next+10) 0=.ok (3,[[.int .i64 A.2.why,.int .i64 A.2.number,.int .i64 A.2.gross]]):=fun m=>by rw [hZ];exact aC _ _ _ _ _ _
  have z0:=fun m=>zK 0 (by omega) m _ (y0 m)
  have z1:=fun m=>zK 1 (by omega) m _ (y1 m)
  have zn:Z.next=Y.next+13:=by rw [hZ]
  have zk':aA Z (X.next+9) 0=_:=zk Z.next
  have zk1':aA Z (X.next+10) 0=_:=zk1 Z.next
  have zj':aA Z (Y.next+9) 0=_:=zj Z.next
  have zj1':aA Z (Y.next+10) 0=_:=zj1 Z.next
  have z1':aA Z 1 0=_:=z1 Z.next
  have z0':aA Z 0 0=_:=z0 Z.next
  have t1:=two ⟨X.next+13,X.heap⟩ (X.next+9) (X.next+10) (by omega) [] []
  have t2:=two ⟨Y.next+13,Y.heap⟩ (Y.next+9) (Y.next+10) (by omega) [] []
  have zjp:∀ m b,aA ⟨m,Z.heap.put 0 b⟩ (Y.next+9) 0=.ok (6,[A.1.enc]):=fun m b=>aD (n:=m) (by omega) (zj m)
  have z1p:∀ m b,aA ⟨m,Z.heap.put 0 b⟩ 1 0=.ok (6,[s.enc]):=fun m b=>aD (n:=m) (by omega) (z1 m)
  have zfin:(∀ q,aA ⟨q,((Z.heap.put 0 (.row 0 6 [A.1.enc])).put 1 (.row 0 6 [A.1.enc]))⟩ 0 0=.ok (6,[A.1.enc]))∧∀ q,aA ⟨q,((Z.heap.put 0 (.row 0 6 [A.1.enc])).put 1 (.row 0 6 [A.1.enc]))⟩ 1 0=.ok (6,[A.1.enc]):=⟨fun q=>aD (n:=q) (by decide) (aC _ _ _ _ _ _),fun q=>aC _ _ _ _ _ _⟩
  have w1:=t1.1
  have w2:=t1.2
  have w3:=t2.1
  have w4:=t2.2
  simp only at w1 w2 w3 w4
  simp only [State.enc] at hY hZ zk zj zk' zj' zjp z1p z0 z0'
  simp only [↓cw,↓reduceIte,Nat.reduceLT,w1,w2,kk,kO,←hY,y1',g34',w3,w4,←hZ,zk1',zj1',zk',zj',decide_true,Bool.and_true,Bool.not_true,Bool.false_eq_true,if_false,g22 A.1 A.1 hsm.s,same,zk,zj,z0,zjp,z1p]
  exact H _ _ ⟨rfl,har.1,har.2,hsm,zfin.1,zfin.2,by show 2≤Z.next+4;omega⟩
 ·rintro s vs X ⟨rfl,hr,hI,sm,x0,x1,xn⟩ aF H
  have H:s=(iV State.new fl).1:=H
  simp only [State.enc] at x0 x1
  have x0':aA X 0 0=_:=x0 X.next
  have a35':=fun S K=>a35 l 60 (by decide) S K
  simp only [←hfl,←H] at a35'
  have hlen:=aQg fl State.new []
  simp only [↓cw,↓reduceIte,Nat.reduceLT,kk,gm,Int.lt_irrefl,if_false,g31,a35',cN]
  have b0:∀ m b b',aA ⟨m,(X.heap.put X.next b).put X.next b'⟩ 0 0=.ok (6,[s.enc]):=fun m b b'=>aD (n:=m) (by omega) (aD (n:=m) (by omega) (x0 m))
  have same:aGc s s=true:=(aGd _ _).2 rfl
  have hl2:(iV State.new fl).2.length=fl.length:=by have:=hlen;simp only [List.length_nil,Nat.zero_add] at this;exact this
  simp only [State.enc] at b0
  simp only [↓cw,↓reduceIte,Nat.reduceLT,b0,kk,g22 s s sm.s,same,if_true,hl2,g36,oo]
theorem bC8 {n:Nat} {i:Int} (h:aN prog n 3 [.int .i64 i]):eF i:=by
 cases n with
 | zero=>cases h
 | succ m=>
  simp only [aN,Tryz.underlying3] at h
  obtain ⟨j,e,h⟩:=h
  cases e
  simp [Lit.wf,IntKind.min,IntKind.max,IntKind.signed,IntKind.bits] at h
  exact ⟨by omega,by omega⟩
theorem bDd {n:Nat} {d:Line} (h:aN prog n 201 d.enc):eF d.count∧eF d.price:=by
 obtain ⟨m,_,hf⟩:=iQ Tryz.underlying201 h
 have h2:aN prog m 3 ((d.enc.drop 2).take (prog.cellsOf 3)):=hf 2 _ rfl
 have h3:aN prog m 3 ((d.enc.drop 3).take (prog.cellsOf 3)):=hf 3 _ rfl
 rw [c3] at h2 h3
 exact ⟨bC8 h2,bC8 h3⟩
theorem aVu {α:Type} {enc:α→List V} {t e n:Nat} {Q:α→Prop} (ht:prog.underlying t=some (.slice e)) (hq:∀ m x,aN prog m e (enc x)→Q x) {l:List α} (h:aN prog n t [.imm (l.map enc)]):∀ x∈l,Q x:=fun x hx=>by
 obtain ⟨m,es,e1,h2⟩:=aDo ht h
 cases e1
 exact hq m x (h2 _ (List.mem_map_of_mem hx)).2
theorem bDe {n:Nat} {c:Call} (h:aN prog n 61 c.enc):vC c:=by
 obtain ⟨m,_,hf⟩:=iQ Tryz.underlying61 h
 have h2:aN prog m 59 ((c.enc.drop 2).take (prog.cellsOf 59)):=hf 2 _ rfl
 rw [c59] at h2
 obtain ⟨m',_,hf'⟩:=iQ Tryz.underlying59 h2
 have h5:aN prog m' 55 ((((c.enc.drop 2).take 15).drop 11).take (prog.cellsOf 55)):=hf' 5 _ rfl
 rw [c55] at h5
 exact aVu (Q:=fun l:Line=>eF l.count∧eF l.price) Tryz.underlying55 (fun _ _=>bDd) h5
theorem aYg {n:Nat} {l:List Call} (h:aN prog n 44 [.imm (l.map Call.enc)]):∀ c∈l,vC c:=aVu Tryz.underlying44 (fun _ _=>bDe) h
end Go.Proofs.YtoaibmbldmckaaaGreat
end
