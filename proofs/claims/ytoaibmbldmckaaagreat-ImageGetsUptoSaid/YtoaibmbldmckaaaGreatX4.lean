import Derived.KernelRfl
import Derived.Test.YtoaibmbldmckaaaGreatProg
import Derived.Test.YtoaibmbldmckaaaGreatX3
set_option linter.unusedSimpArgs false
set_option linter.unusedVariables false
set_option linter.unusedSectionVars false
set_option maxRecDepth 100000
section
namespace Go.Proofs.YtoaibmbldmckaaaGreat
open Go.AM Tryz
theorem bF7 {v:V} (book l:List Bal) (hv:v=.imm (book.map Bal.enc)∨(v=.nils∧book=[])) (hbb:book.length+l.length<1000000) (S:St) (K:KW):C 122 [v,.imm (l.map Bal.enc)] S K=K (.tup [.imm ((bY book l).1.map Bal.enc),.int .i64 (bY book l).2]) S:=by
 rcases hv with rfl | ⟨rfl,rfl⟩
 ·exact bF6 book l hbb S K
 ·exact (Fn.back (args:=[.imm [],.imm (l.map Bal.enc)]) fun S K=>bF6 [] l hbb S K).frz bAn rfl rfl rfl (.inr rfl) K
def kN (n:Int):List V:=[.int .i64 n]
theorem bJa {n:Nat} (hn:n≤8) (S:St):dF prog 96 (.int .i64 (n:Int)) (.int .i64 (n:Int)) none S=.ok (.sl S.next 0 1 0 n,⟨S.next+1,S.heap.put S.next (.row 0 1 ((List.replicate n (0:Int)).map kN))⟩):=by
 have h1:iG prog 96=some 3:=by kernel_rfl
 have h2:aM prog 3=some (.int .i64 0):=by kernel_rfl
 have h3:sz prog 3=1:=by kernel_rfl
 have h4:sM prog 3 n=true:=match n,hn with
  | 0,_=>by kernel_rfl
  | 1,_=>by kernel_rfl
  | 2,_=>by kernel_rfl
  | 3,_=>by kernel_rfl
  | 4,_=>by kernel_rfl
  | 5,_=>by kernel_rfl
  | 6,_=>by kernel_rfl
  | 7,_=>by kernel_rfl
  | 8,_=>by kernel_rfl
  | k+9,h=>absurd h (by omega)
 have h5:(decide ((0:Int)≤(n:Int))&&decide ((n:Int)≤(n:Int))&&decide ((n:Int)<2147483648))=true:=by simp;omega
 simp only [dF,h1,h2,h3,Int.toNat_natCast,h4,V.cells,List.length_cons,List.length_nil,Nat.zero_add,Nat.beq_refl,Bool.true_and,Bool.and_true,h5,cond_true,dK,List.map_replicate,kN]
theorem aRt (b:Bool):∀ (l:List Ser) (is:List Int),aD fI (fun _=>b) l is=(aD fI (fun _=>true) l is&&b)
 | [],is=>by simp [aD]
 | s::l,is=>by
  simp only [aD,fI]
  by_cases c:is.headD 0=wr .i64 (s.next - 1)
  ·rw [if_pos c];exact aRt b l _
  ·rw [if_neg c];rfl
set_option maxHeartbeats 4000000 in
theorem g38 (s:State) (hI:bEv s) (hp:s.posted.length<1000000) (hq:∀ q∈s.posted,q.total.parts.length≤1100000) (S:St) (K:KW):C 38 [.agg [.imm (s.table.map Rate.enc),.imm (s.ser.map Ser.enc),.imm (s.posted.map Posted.enc),.imm (s.book.map Bal.enc),.imm (s.sess.map Sess.enc),.int .i64 s.next]] S K=K (.bool (aBf s)) S:=by
 refine (v38 rfl ?_).eq S K
 obtain ⟨R,hR⟩:∃ R,R=aBf s:=⟨_,rfl⟩
 rw [←hR]
 unfold aBf at hR
 simp only [m38,kk,gm,bIz,bJ0,bJ1]
 cases c1:kK s.table
 ·rw [if_pos c1] at hR;rw [hR];simp only [kk,if_true,oo]
 rw [if_neg (by rw [c1];decide)] at hR
 cases c2:tJ s.ser
 ·rw [if_pos c2] at hR;rw [hR];simp only [kk,Bool.false_eq_true,if_false,if_true,oo]
 rw [if_neg (by rw [c2];decide)] at hR
 cases c3:kQ s.sess
 ·rw [if_pos c3] at hR;rw [hR];simp only [kk,Bool.false_eq_true,if_false,if_true,oo]
 rw [if_neg (by rw [c3];decide)] at hR
 have hsl:=aAw c2
 have hel:=wP c3
 simp only [kk,Bool.true_eq_false,Bool.false_eq_true,if_false]
 by_cases c4:40<s.posted.length
 ·rw [if_pos c4] at hR;rw [hR]
  simp only [show (40:Int)<(s.posted.length:Int) by omega,kk,if_true,oo]
 rw [if_neg c4] at hR
 simp only [show ¬ (40:Int)<(s.posted.length:Int) by omega,if_false]
 by_cases c5:s.next<1
 ·rw [if_pos c5] at hR;rw [hR];simp only [c5,if_true,oo]
 rw [if_neg c5] at hR
 simp only [c5,if_false]
 by_cases c6:1099511627776<s.next
 ·rw [if_pos c6] at hR;rw [hR];simp only [c6,if_true,oo]
 rw [if_neg c6] at hR
 simp only [c6,if_false]
 have hj0:∀ Y:St,aC Y 0 0=.ok (6,[s.enc])→1≤Y.next→R=aD (pH s) (aH4 s) s.posted ⟨[],List.replicate s.ser.length 0,[]⟩→aEq C (fun v0 S0=>fW S0 v0=.ok (.bool R)) (.ptr 0 0 0 0) Y:=by
  intro Y y0 yn hR
  have y0':=y0
  simp only [State.enc] at y0
  simp only [aEq,kk,gm,y0,bJa hsl]
  obtain ⟨tb,htb⟩:∃ tb,tb=Y.next:=⟨_,rfl⟩
  rw [←htb]
  refine aG s.posted (step:=pH s) (fin:=aH4 s) (fun i st vs X=>∃ v,vs=[.bool false,v,.int .i64 (i:Int)]∧(v=.imm (st.book.map Bal.enc)∨(v=.nils∧st.book=[]))∧aC X 0 0=.ok (6,[s.enc])∧X.heap.get tb=some (.row 0 1 (st.taken.map kN))∧tb<X.next∧st.taken.length=s.ser.length∧st.done.length=i∧st.book.length≤25*i) (fun r=>r=R) ?_ ?_ (s:=⟨[],List.replicate s.ser.length 0,[]⟩) ⟨.nils,rfl,.inr ⟨rfl,rfl⟩,bX (n:=Y.next) (by omega) y0',Tr.get_put_sameB _ _ _ trivial,Nat.lt_succ_self _,List.length_replicate,rfl,Nat.zero_le _⟩ hR.symm
  ·rintro i p ⟨done,taken,book⟩ vs X hi ⟨v,rfl,hv,x0,hg,htX,htl,hdl,hbl⟩ aF H
   simp only at hv hg htl hdl hbl
   have hil:=(List.getElem?_eq_some_iff.1 hi).1
   have hpm:=List.mem_of_getElem? hi
   simp only [State.enc] at x0
   simp only [pH,hdl] at H
   simp only [aIo,kk,gm,x0,bG hi,if_true,kL hi,Posted.enc,aZ6 s.ser p.ref.ser (by omega),gJ (show i<1000000000 by omega)]
   obtain ⟨B,hB⟩:∃ B:St,B=⟨X.next+1,(X.heap.put X.next (.row 0 12 [aGp])).put X.next (.row 0 12 [p.enc])⟩:=⟨_,rfl⟩
   have kB:∀ y,y≠X.next→B.heap.get y=X.heap.get y:=fun y hy=>by
    rw [hB]
    show ((X.heap.put X.next _).put X.next _).get y=_
    rw [Tr.get_put_neB _ _ _ _ trivial hy,Tr.get_put_neB _ _ _ _ trivial hy]
   have h0X:0<X.next:=by omega
   have b0:∀ m,aC ⟨m,B.heap⟩ 0 0=.ok (6,[s.enc]):=fun m=>dW (S:=X) x0 (kB 0 (by omega))
   have bP:∀ m,aC ⟨m,B.heap⟩ X.next 0=.ok (12,[p.enc]):=fun m=>by rw [hB];exact aA _ _ _ _ _ _
   have bT:B.heap.get tb=some (.row 0 1 (taken.map kN)):=by rw [kB tb (by omega)];exact hg
   have bn:B.next=X.next+1:=by rw [hB]
   have b0':aC B 0 0=.ok (6,[s.enc]):=b0 B.next
   have bP':aC B X.next 0=.ok (12,[p.enc]):=bP B.next
   simp only [State.enc] at b0 b0'
   simp only [Posted.enc] at bP bP'
   simp only [aGp,Posted.enc] at hB
   simp only [←hB,b0',bP',kk,aZ6 s.ser p.ref.ser (show s.ser.length<1000000 by omega)]
   by_cases d0:cE s.ser p.ref.ser<0
   ·rw [if_pos d0] at H
    rw [if_pos d0,←H]
   rw [if_neg d0] at H
   rw [if_neg d0]
   obtain ⟨k,x,e,hk⟩:=aN2 d0
   have hkl:=(List.getElem?_eq_some_iff.1 hk).1
   have hkt:(taken.map kN)[k]?=some (kN (taken.getD k 0)):=by
    rw [List.getElem?_map,List.getD_eq_getElem?_getD,List.getElem?_eq_getElem (by omega)];rfl
   have hld:∀ m,fN none (.ptr tb 0 k 0) ⟨m,B.heap⟩=.ok (.int .i64 (taken.getD k 0)):=fun m=>by rw [aRr (X:=⟨m,B.heap⟩) bT hkt];rfl
   have hst:=fun m=>aY1 (X:=⟨m,B.heap⟩) (v:=.int .i64 (wr .i64 (taken.getD k 0+1))) (j:=0) bT hkt rfl rfl (Nat.le_refl _)
   have hset:(taken.map kN).set k (splice (kN (taken.getD k 0)) 0 [.int .i64 (wr .i64 (taken.getD k 0+1))])=(taken.set k (wr .i64 (taken.getD k 0+1))).map kN:=by rw [List.map_set];rfl
   simp only [e,Int.toNat_natCast] at H
   simp only [e,aH6 hkl,hld,kk,bP]
   by_cases d1:p.ref.num=wr .i64 (taken.getD k 0+1)
   rotate_left
   ·rw [if_pos d1] at H
    rw [if_pos d1,←H]
   rw [if_neg (fun h=>h d1)] at H
   rw [if_neg (fun h=>h d1)]
   simp only [aYs,kk,bP]
   cases d2:p.day.right
   ·rw [if_pos d2] at H
    simp only [Bool.not_false,if_true,←H]
   rw [if_neg (by rw [d2];decide)] at H
   simp only [Bool.not_true,Bool.false_eq_true,if_false,bJ4 p.total (hI p hpm),kk,b0]
   cases d3:cF p.total
   ·rw [if_pos d3] at H
    simp only [Bool.not_false,if_true,←H]
   rw [if_neg (by rw [d3];decide)] at H
   simp only [Bool.not_true,Bool.false_eq_true,if_false,bJ9 s.posted hp hq hi,kk]
   cases d4:nR s.posted i p
   ·rw [if_pos d4] at H
    simp only [Bool.not_false,if_true,←H]
   rw [if_neg (by rw [d4];decide)] at H
   have hft:=yB d3
   obtain ⟨D,hD⟩:∃ D:St,D=⟨B.next+32,B.heap.put tb (.row 0 1 ((taken.set k (wr .i64 (taken.getD k 0+1))).map kN))⟩:=⟨_,rfl⟩
   have hst':dT 1 (.ptr tb 0 k 0) (.int .i64 (wr .i64 (taken.getD k 0+1))) ⟨B.next+32,B.heap⟩=.ok D:=by rw [hst,hset,hD]
   have dP:aC D X.next 0=.ok (12,[p.enc]):=by rw [hD];exact bX (n:=B.next) (by omega) (bP B.next)
   have d0r:aC D 0 0=.ok (6,[s.enc]):=by rw [hD];exact bX (n:=B.next) (by omega) (b0 B.next)
   have dn:D.next=B.next+32:=by rw [hD]
   simp only [Posted.enc] at dP
   simp only [Bool.not_true,Bool.false_eq_true,if_false,hld,hst',dP,bJ5 p.total hft,kk]
   by_cases d5:(cG p.total).2=0
   rotate_left
   ·rw [if_pos d5] at H
    rw [if_pos d5,←H]
   have hle:=(qT p.total).resolve_right (not_not_intro d5)
   have h12:=hft.1
   have hle2:=lY book (cG p.total).1
   rw [if_neg (fun h=>h d5)] at H
   rw [if_neg (fun h=>h d5),bF7 book _ hv (show book.length+(cG p.total).1.length<1000000 by omega)]
   simp only [kk]
   by_cases d6:(bY book (cG p.total).1).2=0
   rotate_left
   ·rw [if_pos d6] at H
    rw [if_pos d6,←H]
   rw [if_neg (fun h=>h d6)] at H
   rw [if_neg (fun h=>h d6)]
   exact H _ _ ⟨_,rfl,.inl rfl,d0r,by rw [hD];exact Tr.get_put_sameB _ _ _ trivial,by omega,by rw [List.length_set];exact htl,by rw [List.length_append,hdl];rfl,by show (bY book (cG p.total).1).1.length≤_;omega⟩
  ·rintro ⟨done,taken,book⟩ vs X ⟨v,rfl,hv,x0,hg,htX,htl,hdl,hbl⟩ aF H
   simp only at hv hg htl hdl hbl
   have H:aH4 s ⟨done,taken,book⟩=R:=H
   unfold aH4 at H
   rw [←aRt] at H
   simp only [State.enc] at x0
   simp only [aIo,kk,gm,x0,Int.lt_irrefl,if_false]
   have lv:lenW v=.ok (.int .i64 (book.length:Int)):=by rcases hv with rfl | ⟨rfl,rfl⟩<;>simp [lenW]
   refine aG s.ser (step:=fI) (fin:=fun _=>decide (book=s.book)) (fun i is vs Z=>vs=[.bool false,.int .i64 (i:Int)]∧is=taken.drop i∧Z.heap=X.heap) (fun r=>r=R) ?_ ?_ (s:=taken) ⟨rfl,rfl,rfl⟩ H
   ·rintro i x is vs Z hi ⟨rfl,rfl,hZ⟩ again' H'
    have hil:=(List.getElem?_eq_some_iff.1 hi).1
    have hkt:(taken.map kN)[i]?=some (kN (taken.getD i 0)):=by
     rw [List.getElem?_map,List.getD_eq_getElem?_getD,List.getElem?_eq_getElem (by omega)];rfl
    have hhd:(taken.drop i).headD 0=taken.getD i 0:=by rw [List.drop_eq_getElem_cons (by omega),List.getD_eq_getElem?_getD,List.getElem?_eq_getElem (by omega)];rfl
    have htl':(taken.drop i).tail=taken.drop (i+1):=by rw [List.drop_eq_getElem_cons (by omega)];rfl
    have hld:∀ m,fN none (.ptr tb 0 i 0) ⟨m,Z.heap⟩=.ok (.int .i64 (taken.getD i 0)):=fun m=>by rw [aRr (X:=⟨m,Z.heap⟩) (by rw [←hZ] at hg;exact hg) hkt];rfl
    have z0:∀ m,aC ⟨m,Z.heap⟩ 0 0=.ok (6,[s.enc]):=fun m=>by rw [hZ];exact x0
    simp only [State.enc] at z0
    simp only [fI,hhd,htl'] at H'
    simp only [aIn,kk,gm,bG hi,if_true,aH6 hil,hld,z0,sK hi,Ser.enc,gJ (show i<1000000000 by omega)]
    by_cases c:taken.getD i 0=wr .i64 (x.next - 1)
    ·rw [if_pos c] at H'
     rw [if_neg (fun h=>h c)]
     exact H' _ _ ⟨rfl,rfl,hZ⟩
    ·rw [if_neg c] at H'
     have H':false=R:=H'
     rw [if_pos c,←H']
   ·rintro is vs Z ⟨rfl,rfl,hZ⟩ again' H'
    have H':decide (book=s.book)=R:=H'
    have z0:∀ m,aC ⟨m,Z.heap⟩ 0 0=.ok (6,[s.enc]):=fun m=>by rw [hZ];exact x0
    have z0':aC Z 0 0=.ok (6,[s.enc]):=z0 Z.next
    simp only [State.enc] at z0 z0'
    simp only [aIn,kk,gm,Int.lt_irrefl,if_false,lv,z0']
    by_cases c:book.length=s.book.length
    rotate_left
    ·have:¬ book=s.book:=fun h=>c (by rw [h])
     rw [decide_eq_false this] at H'
     rw [if_pos (show ¬ ((book.length:Nat):Int)=(s.book.length:Int) by omega),←H']
    rw [if_neg (show ¬ ¬ ((book.length:Nat):Int)=(s.book.length:Int) by omega)]
    refine aG book (step:=dU s.book) (fin:=fun _=>true) (fun i n vs U=>n=i∧vs=[.bool false,.int .i64 (i:Int)]∧U.heap=X.heap) (fun r=>r=R) ?_ ?_ (s:=0) ⟨rfl,rfl,hZ⟩ (by rw [eqL c];exact H')
    ·rintro i q n vs U hi ⟨rfl,rfl,hU⟩ again2 H2
     have hil:=(List.getElem?_eq_some_iff.1 hi).1
     have hj:s.book[n]?=some s.book[n]:=List.getElem?_eq_getElem (by omega)
     have hve:v=.imm (book.map Bal.enc):=hv.resolve_right fun h=>by rw [h.2] at hi;cases hi
     have u0:∀ m,aC ⟨m,U.heap⟩ 0 0=.ok (6,[s.enc]):=fun m=>by rw [hU];exact x0
     simp only [State.enc] at u0
     generalize hz:s.book[n]=z at hj
     have he:(z=q)=(q.acc=z.acc∧q.amount=z.amount):=by
      obtain ⟨_,_⟩:=q;obtain ⟨_,_⟩:=z;simp [and_assoc,eq_comm]
     simp only [dU,hj,Option.some.injEq,he] at H2
     simp only [aIm,kk,gm,hve,bG hi,if_true,mA hi,mA hj,Bal.enc,u0,gJ (show n<1000000000 by omega)]
     by_cases c:q.acc=z.acc∧q.amount=z.amount
     ·have c':¬ (!(q.acc == z.acc&&decide (q.amount=z.amount)))=true:=by simp [c]
      rw [if_pos c] at H2
      rw [if_neg c']
      exact H2 _ _ ⟨rfl,rfl,hU⟩
     ·have c':(!(q.acc == z.acc&&decide (q.amount=z.amount)))=true:=by
       rw [Bool.not_eq_true',Bool.eq_false_iff]
       intro h
       simp only [Bool.and_eq_true,decide_eq_true_eq,beq_iff_eq] at h
       exact c h
      rw [if_neg c] at H2
      have H2:false=R:=H2
      rw [if_pos c',←H2]
    ·rintro n vs U ⟨rfl,rfl,hU⟩ again2 H2
     have H2:true=R:=H2
     simp only [aIm,kk,lv,Int.lt_irrefl,if_false,oo,←H2]
 obtain ⟨Z,hZ⟩:∃ Z:St,Z=⟨1,Tr.nil.put 0 (Blk.row 0 (1+1+1+1+1+1) [s.enc])⟩:=⟨_,rfl⟩
 have z0:∀ m,aC ⟨m,Z.heap⟩ 0 0=.ok (6,[s.enc]):=fun m=>by rw [hZ];rfl
 have zh:Z.heap=Tr.nil.put 0 (Blk.row 0 (1+1+1+1+1+1) [s.enc]):=by rw [hZ]
 simp only [State.enc] at zh
 rw [←zh]
 have z0':=z0
 simp only [State.enc] at z0'
 by_cases c7:s.sess.length=0
 ·have:s.sess=[]:=List.length_eq_zero_iff.1 c7
  rw [if_neg (by simp [oW,this])] at hR
  rw [if_neg (show ¬ (0:Int)<(s.sess.length:Int) by omega)]
  exact hj0 _ (z0 _) (by show 1≤1+14;decide) hR
 ·obtain ⟨j,hj⟩:∃ j,s.sess.length=j+1:=⟨s.sess.length - 1,by omega⟩
  have hjl:s.sess[j]?=some s.sess[j]:=List.getElem?_eq_getElem (by omega)
  rw [if_pos (show (0:Int)<(s.sess.length:Int) by omega)]
  simp only [oW,hj,Nat.add_sub_cancel,hjl] at hR
  simp only [hj,wrm (show j+1<1000000000 by omega),tM hjl,Sess.enc,kk,gm]
  by_cases c8:s.sess[j].id<s.next
  ·rw [if_neg (by simp [c8])] at hR
   rw [if_neg (by omega)]
   exact hj0 _ (z0 _) (by show 1≤1+14;decide) hR
  ·rw [if_pos (by simp [c8])] at hR
   rw [if_pos (by omega),hR]
def gV (r:Cmd×Bool):V:=.tup [.agg [.int .i64 r.1.kind,.str r.1.series,.int .i64 r.1.limit,.str r.1.row.cat,.int .i64 r.1.row.day.y,.int .i64 r.1.row.day.m,.int .i64 r.1.row.day.d,.int .i64 r.1.row.bp,.int .i64 r.1.day.y,.int .i64 r.1.day.m,.int .i64 r.1.day.d,.imm (r.1.lines.map Line.enc),.str r.1.of.ser,.int .i64 r.1.of.num,.int .i64 r.1.session],.bool r.2]
theorem Rate.same_iff (a b:Rate):(a=b)=(b.cat=a.cat∧b.day.y=a.day.y∧b.day.m=a.day.m∧b.day.d=a.day.d∧b.bp=a.bp):=by
 obtain ⟨_,⟨_,_,_⟩,_⟩:=a;obtain ⟨_,⟨_,_,_⟩,_⟩:=b;simp [and_assoc,eq_comm]
theorem Ser.same_iff (a b:Ser):(a=b)=(b.name=a.name∧b.next=a.next∧b.limit=a.limit∧b.shut=a.shut):=by
 obtain ⟨_,_,_,_⟩:=a;obtain ⟨_,_,_,_⟩:=b;simp [and_assoc,eq_comm]
theorem Bal.same_iff (a b:Bal):(a=b)=(b.acc=a.acc∧b.amount=a.amount):=by
 obtain ⟨_,_⟩:=a;obtain ⟨_,_⟩:=b;simp [and_assoc,eq_comm]
theorem Sess.same_iff (a b:Sess):(a=b)=(b.id=a.id∧b.last=a.last∧b.reply.why=a.reply.why∧b.reply.number=a.reply.number∧b.reply.gross=a.reply.gross):=by
 obtain ⟨_,_,⟨_,_,_⟩⟩:=a;obtain ⟨_,_,⟨_,_,_⟩⟩:=b;simp [and_assoc,eq_comm]
theorem Part.same_iff (a b:Part):(a=b)=(b.cat=a.cat∧b.bp=a.bp∧b.net=a.net∧b.tax=a.tax):=by
 obtain ⟨_,_,_,_⟩:=a;obtain ⟨_,_,_,_⟩:=b;simp [and_assoc,eq_comm]
theorem g80 (l r:List Rate) (hb:l.length<1000000) (S:St) (K:KW):C 80 [.imm (l.map Rate.enc),.imm (r.map Rate.enc)] S K=K (.bool (decide (l=r))) S:=by
 refine (v80 rfl ?_).eq S K
 delta Tryz.f80;simp only [↓cw,↓reduceIte,Nat.reduceLT,kk]
 by_cases h:l.length=r.length
 ·simp only [↓cw,↓reduceIte,Nat.reduceLT,show (l.length:Int)=(r.length:Int) by omega,kk,not_true_eq_false,if_false]
  refine aG l (step:=dU r) (fin:=fun _=>true) (fun i n vs S=>n=i∧vs=[.bool false,.int .i64 (i:Int)]) (fun x=>x=decide (l=r)) ?_ ?_ (s:=0) ⟨rfl,rfl⟩ (eqL h)
  ·rintro i p n vs S hi ⟨rfl,rfl⟩ aF H
   have hil:=(List.getElem?_eq_some_iff.1 hi).1
   have hj:r[n]?=some r[n]:=List.getElem?_eq_getElem (by omega)
   have hlt:((n:Int)<(r.length:Int))=True:=bG hj
   simp only [dU,hj,Option.some.injEq,Rate.same_iff] at H
   simp only [↓cw,↓reduceIte,Nat.reduceLT,kk,bG hi,hlt,wQ hi,wQ hj,Rate.enc,gJ (show n<1000000000 by omega),oo]
   grind
  ·rintro n vs S ⟨rfl,rfl⟩ aF H
   simp only [↓cw,↓reduceIte,Nat.reduceLT,kk,h,Int.lt_irrefl,if_false,oo,←H]
 ·simp only [↓cw,↓reduceIte,Nat.reduceLT,show ¬ (l.length:Int)=(r.length:Int) by omega,kk,not_false_eq_true,if_true,oo]
  have:decide (l=r)=false:=by simpa using fun e=>h (by rw [e])
  rw [this]
theorem g81 (l r:List Ser) (hb:l.length<1000000) (S:St) (K:KW):C 81 [.imm (l.map Ser.enc),.imm (r.map Ser.enc)] S K=K (.bool (decide (l=r))) S:=by
 refine (v81 rfl ?_).eq S K
 delta Tryz.f81;simp only [↓cw,↓reduceIte,Nat.reduceLT,kk]
 by_cases h:l.length=r.length
 ·simp only [↓cw,↓reduceIte,Nat.reduceLT,show (l.length:Int)=(r.length:Int) by omega,kk,not_true_eq_false,if_false]
  refine aG l (step:=dU r) (fin:=fun _=>true) (fun i n vs S=>n=i∧vs=[.bool false,.int .i64 (i:Int)]) (fun x=>x=decide (l=r)) ?_ ?_ (s:=0) ⟨rfl,rfl⟩ (eqL h)
  ·rintro i p n vs S hi ⟨rfl,rfl⟩ aF H
   have hil:=(List.getElem?_eq_some_iff.1 hi).1
   have hj:r[n]?=some r[n]:=List.getElem?_eq_getElem (by omega)
   have hlt:((n:Int)<(r.length:Int))=True:=bG hj
   simp only [dU,hj,Option.some.injEq,Ser.same_iff] at H
   simp only [↓cw,↓reduceIte,Nat.reduceLT,kk,bG hi,hlt,sK hi,sK hj,Ser.enc,gJ (show n<1000000000 by omega),oo]
   grind
  ·rintro n vs S ⟨rfl,rfl⟩ aF H
   simp only [↓cw,↓reduceIte,Nat.reduceLT,kk,h,Int.lt_irrefl,if_false,oo,←H]
 ·simp only [↓cw,↓reduceIte,Nat.reduceLT,show ¬ (l.length:Int)=(r.length:Int) by omega,kk,not_false_eq_true,if_true,oo]
  have:decide (l=r)=false:=by simpa using fun e=>h (by rw [e])
  rw [this]
theorem g83 (l r:List Bal) (hb:l.length<1000000) (S:St) (K:KW):C 83 [.imm (l.map Bal.enc),.imm (r.map Bal.enc)] S K=K (.bool (decide (l=r))) S:=by
 refine (v83 rfl ?_).eq S K
 delta Tryz.f83;simp only [↓cw,↓reduceIte,Nat.reduceLT,kk]
 by_cases h:l.length=r.length
 ·simp only [↓cw,↓reduceIte,Nat.reduceLT,show (l.length:Int)=(r.length:Int) by omega,kk,not_true_eq_false,if_false]
  refine aG l (step:=dU r) (fin:=fun _=>true) (fun i n vs S=>n=i∧vs=[.bool false,.int .i64 (i:Int)]) (fun x=>x=decide (l=r)) ?_ ?_ (s:=0) ⟨rfl,rfl⟩ (eqL h)
  ·rintro i p n vs S hi ⟨rfl,rfl⟩ aF H
   have hil:=(List.getElem?_eq_some_iff.1 hi).1
   have hj:r[n]?=some r[n]:=List.getElem?_eq_getElem (by omega)
   have hlt:((n:Int)<(r.length:Int))=True:=bG hj
   simp only [dU,hj,Option.some.injEq,Bal.same_iff] at H
   simp only [↓cw,↓reduceIte,Nat.reduceLT,kk,bG hi,hlt,mA hi,mA hj,Bal.enc,gJ (show n<1000000000 by omega),oo]
   grind
  ·rintro n vs S ⟨rfl,rfl⟩ aF H
   simp only [↓cw,↓reduceIte,Nat.reduceLT,kk,h,Int.lt_irrefl,if_false,oo,←H]
 ·simp only [↓cw,↓reduceIte,Nat.reduceLT,show ¬ (l.length:Int)=(r.length:Int) by omega,kk,not_false_eq_true,if_true,oo]
  have:decide (l=r)=false:=by simpa using fun e=>h (by rw [e])
  rw [this]
theorem g84 (l r:List Sess) (hb:l.length<1000000) (S:St) (K:KW):C 84 [.imm (l.map Sess.enc),.imm (r.map Sess.enc)] S K=K (.bool (decide (l=r))) S:=by
 refine (v84 rfl ?_).eq S K
 delta Tryz.f84;simp only [↓cw,↓reduceIte,Nat.reduceLT,kk]
 by_cases h:l.length=r.length
 ·simp only [↓cw,↓reduceIte,Nat.reduceLT,show (l.length:Int)=(r.length:Int) by omega,kk,not_true_eq_false,if_false]
  refine aG l (step:=dU r) (fin:=fun _=>true) (fun i n vs S=>n=i∧vs=[.bool false,.int .i64 (i:Int)]) (fun x=>x=decide (l=r)) ?_ ?_ (s:=0) ⟨rfl,rfl⟩ (eqL h)
  ·rintro i p n vs S hi ⟨rfl,rfl⟩ aF H
   have hil:=(List.getElem?_eq_some_iff.1 hi).1
   have hj:r[n]?=some r[n]:=List.getElem?_eq_getElem (by omega)
   have hlt:((n:Int)<(r.length:Int))=True:=bG hj
   simp only [dU,hj,Option.some.injEq,Sess.same_iff] at H
   simp only [↓cw,↓reduceIte,Nat.reduceLT,kk,bG hi,hlt,tM hi,tM hj,Sess.enc,gJ (show n<1000000000 by omega),oo]
   grind
  ·rintro n vs S ⟨rfl,rfl⟩ aF H
   simp only [↓cw,↓reduceIte,Nat.reduceLT,kk,h,Int.lt_irrefl,if_false,oo,←H]
 ·simp only [↓cw,↓reduceIte,Nat.reduceLT,show ¬ (l.length:Int)=(r.length:Int) by omega,kk,not_false_eq_true,if_true,oo]
  have:decide (l=r)=false:=by simpa using fun e=>h (by rw [e])
  rw [this]
theorem bJb (l r:List Part) (hb:l.length<1000000) (S:St) (K:KW):C 224 [.imm (l.map Part.enc),.imm (r.map Part.enc)] S K=K (.bool (decide (l=r))) S:=by
 refine (bHj rfl ?_).eq S K
 delta Tryz.f224;simp only [↓cw,↓reduceIte,Nat.reduceLT,kk]
 by_cases h:l.length=r.length
 ·simp only [↓cw,↓reduceIte,Nat.reduceLT,show (l.length:Int)=(r.length:Int) by omega,kk,not_true_eq_false,if_false]
  refine aG l (step:=dU r) (fin:=fun _=>true) (fun i n vs S=>n=i∧vs=[.bool false,.int .i64 (i:Int)]) (fun x=>x=decide (l=r)) ?_ ?_ (s:=0) ⟨rfl,rfl⟩ (eqL h)
  ·rintro i p n vs S hi ⟨rfl,rfl⟩ aF H
   have hil:=(List.getElem?_eq_some_iff.1 hi).1
   have hj:r[n]?=some r[n]:=List.getElem?_eq_getElem (by omega)
   have hlt:((n:Int)<(r.length:Int))=True:=bG hj
   simp only [dU,hj,Option.some.injEq,Part.same_iff] at H
   simp only [↓cw,↓reduceIte,Nat.reduceLT,kk,bG hi,hlt,iD hi,iD hj,Part.enc,gJ (show n<1000000000 by omega),oo]
   grind
  ·rintro n vs S ⟨rfl,rfl⟩ aF H
   simp only [↓cw,↓reduceIte,Nat.reduceLT,kk,h,Int.lt_irrefl,if_false,oo,←H]
 ·simp only [↓cw,↓reduceIte,Nat.reduceLT,show ¬ (l.length:Int)=(r.length:Int) by omega,kk,not_false_eq_true,if_true,oo]
  have:decide (l=r)=false:=by simpa using fun e=>h (by rw [e])
  rw [this]
theorem bJc (a b:Total) (hb:a.parts.length<1000000) (S:St) (K:KW):C 162 [.agg [.int .i64 a.net,.int .i64 a.tax,.int .i64 a.gross,.imm (a.parts.map Part.enc)],.agg [.int .i64 b.net,.int .i64 b.tax,.int .i64 b.gross,.imm (b.parts.map Part.enc)]] S K=K (.bool (decide (a=b))) S:=by
 refine (bGv rfl ?_).eq S K
 delta Tryz.f162;simp only [↓cw,↓reduceIte,Nat.reduceLT,kk,kE,gm,bJb a.parts b.parts hb,Total.ext_iff,oo]
 grind
theorem Posted.same_iff (a b:Posted):(a=b)=(b.ref=a.ref∧b.day=a.day∧b.of=a.of∧b.back=a.back∧b.total=a.total):=by
 obtain ⟨_,_,_,_,_⟩:=a;obtain ⟨_,_,_,_,_⟩:=b;simp only [Posted.mk.injEq,eq_iff_iff]
 constructor
 ·rintro ⟨rfl,rfl,rfl,rfl,rfl⟩;exact ⟨rfl,rfl,rfl,rfl,rfl⟩
 ·rintro ⟨rfl,rfl,rfl,rfl,rfl⟩;exact ⟨rfl,rfl,rfl,rfl,rfl⟩
theorem Date.same_iff (a b:Date):(a=b)=(a.y=b.y∧a.m=b.m∧a.d=b.d):=by obtain ⟨_,_,_⟩:=a;obtain ⟨_,_,_⟩:=b;simp
theorem g82 (l r:List Posted) (hb:l.length<1000000) (hq:∀ p∈l,p.total.parts.length<1000000) (S:St) (K:KW):C 82 [.imm (l.map Posted.enc),.imm (r.map Posted.enc)] S K=K (.bool (decide (l=r))) S:=by
 refine (v82 rfl ?_).eq S K
 delta Tryz.f82;simp only [↓cw,↓reduceIte,Nat.reduceLT,kk]
 by_cases h:l.length=r.length
 ·simp only [↓cw,↓reduceIte,Nat.reduceLT,show (l.length:Int)=(r.length:Int) by omega,kk,not_true_eq_false,if_false]
  refine aG l (step:=dU r) (fin:=fun _=>true) (fun i n vs S=>n=i∧vs=[.bool false,.int .i64 (i:Int)]) (fun x=>x=decide (l=r)) ?_ ?_ (s:=0) ⟨rfl,rfl⟩ (eqL h)
  ·rintro i p n vs S hi ⟨rfl,rfl⟩ aF H
   have hil:=(List.getElem?_eq_some_iff.1 hi).1
   have hj:r[n]?=some r[n]:=List.getElem?_eq_getElem (by omega)
   have hlt:((n:Int)<(r.length:Int))=True:=bG hj
   generalize r[n]=q at hj
   simp only [dU,hj,Option.some.injEq,Posted.same_iff q p] at H
   simp only [↓cw,↓reduceIte,Nat.reduceLT,kk,gm,bG hi,hlt,if_true,kL hi,kL hj,Posted.enc,bJc p.total q.total (hq p (List.mem_of_getElem? hi)),gJ (show n<1000000000 by omega),wU]
   by_cases c1:p.ref=q.ref
   rotate_left
   ·have c':(!(p.ref.ser == q.ref.ser&&decide (p.ref.num=q.ref.num)))=true:=by rw [Ref.ext_iff] at c1;simp;exact Decidable.not_and_iff_or_not.1 c1
    rw [if_neg (fun h=>c1 h.1)] at H
    have H:false=decide (l=r):=H
    rw [if_pos c',←H]
   have c':¬ (!(p.ref.ser == q.ref.ser&&decide (p.ref.num=q.ref.num)))=true:=by rw [c1];simp
   rw [if_neg c']
   by_cases c2:p.day=q.day
   rotate_left
   ·rw [if_neg (fun h=>c2 h.2.1)] at H
    have H:false=decide (l=r):=H
    rw [Date.same_iff] at c2
    rw [if_pos (by simp;grind),←H]
   rw [if_neg (by rw [c2];simp)]
   by_cases c3:p.of=q.of
   rotate_left
   ·rw [if_neg (fun h=>c3 h.2.2.1)] at H
    have H:false=decide (l=r):=H
    rw [Ref.ext_iff] at c3
    rw [if_pos (by simp;grind),←H]
   rw [if_neg (by rw [c3];simp)]
   by_cases c4:p.back=q.back
   rotate_left
   ·rw [if_neg (fun h=>c4 h.2.2.2.1)] at H
    have H:false=decide (l=r):=H
    rw [if_pos (by simpa using c4),←H]
   rw [if_neg (by rw [c4];simp)]
   by_cases c5:p.total=q.total
   ·rw [if_pos ⟨c1,c2,c3,c4,c5⟩] at H
    rw [if_neg (by simp [c5])]
    exact H _ _ ⟨rfl,rfl⟩
   ·rw [if_neg (fun h=>c5 h.2.2.2.2)] at H
    have H:false=decide (l=r):=H
    rw [if_pos (by simpa using c5),←H]
  ·rintro n vs S ⟨rfl,rfl⟩ aF H
   simp only [↓cw,↓reduceIte,Nat.reduceLT,kk,h,Int.lt_irrefl,if_false,oo,←H]
 ·simp only [↓cw,↓reduceIte,Nat.reduceLT,show ¬ (l.length:Int)=(r.length:Int) by omega,kk,not_false_eq_true,if_true,oo]
  have:decide (l=r)=false:=by simpa using fun e=>h (by rw [e])
  rw [this]
theorem State.same_iff (a b:State):(a=b)=(a.table=b.table∧a.ser=b.ser∧a.posted=b.posted∧a.book=b.book∧a.sess=b.sess∧a.next=b.next):=by
 obtain ⟨_,_,_,_,_,_⟩:=a;obtain ⟨_,_,_,_,_,_⟩:=b;simp
def aLd (a b:State):Bool:=decide (a.table=b.table)&&(decide (a.ser=b.ser)&&(decide (a.posted=b.posted)&&(decide (a.book=b.book)&&(decide (a.sess=b.sess)&&decide (a.next=b.next)))))
theorem aN7 (a b:State):aLd a b=true↔a=b:=by
 rw [State.same_iff];unfold aLd;simp
structure SmlS (s:State):Prop where
 tab:s.table.length<1000000
 ser:s.ser.length<1000000
 post:s.posted.length<1000000
 parts:∀ p∈s.posted,p.total.parts.length<1000000
 book:s.book.length<1000000
 sess:s.sess.length<1000000
theorem g22 (a b:State) (h:SmlS a) (S:St) (K:KW):C 22 [.agg [.imm (a.table.map Rate.enc),.imm (a.ser.map Ser.enc),.imm (a.posted.map Posted.enc),.imm (a.book.map Bal.enc),.imm (a.sess.map Sess.enc),.int .i64 a.next],.agg [.imm (b.table.map Rate.enc),.imm (b.ser.map Ser.enc),.imm (b.posted.map Posted.enc),.imm (b.book.map Bal.enc),.imm (b.sess.map Sess.enc),.int .i64 b.next]] S K=K (.bool (aLd a b)) S:=by
 refine (v22 rfl ?_).eq S K
 delta Tryz.f22;simp only [↓cw,↓reduceIte,Nat.reduceLT,kk,kE,gm,g80 a.table b.table h.tab,g81 a.ser b.ser h.ser,g82 a.posted b.posted h.post h.parts,g83 a.book b.book h.book,g84 a.sess b.sess h.sess,aLd]
 by_cases c1:a.table=b.table
 rotate_left
 ·simp only [c1,if_false,decide_false,Bool.false_and,oo]
 by_cases c2:a.ser=b.ser
 rotate_left
 ·simp only [c1,c2,if_true,if_false,decide_false,decide_true,Bool.false_and,Bool.true_and,oo]
 by_cases c3:a.posted=b.posted
 rotate_left
 ·simp only [c1,c2,c3,if_true,if_false,decide_false,decide_true,Bool.false_and,Bool.true_and,oo]
 by_cases c4:a.book=b.book
 rotate_left
 ·simp only [c1,c2,c3,c4,if_true,if_false,decide_false,decide_true,Bool.false_and,Bool.true_and,oo]
 by_cases c5:a.sess=b.sess
 rotate_left
 ·simp only [c1,c2,c3,c4,c5,if_true,if_false,decide_false,decide_true,Bool.false_and,Bool.true_and,oo]
 simp only [c1,c2,c3,c4,c5,if_true,decide_true,Bool.true_and,oo]
structure Rd where
 pos:Nat
 err:Int
def Rd.cells (b:List UInt8) (r:Rd):List V:=[.imm (b.map eN),.int .i64 (r.pos:Int),.int .i64 r.err]
theorem Rd.clo (b:List UInt8) (r:Rd):[r.cells b].all cloVs=true:=by
 simp only [Rd.cells,List.all_cons,List.all_nil,cloVs,lE,bM (enc:=eN) (fun _=>rfl) b,Bool.and_self]
abbrev FRd (f:FuncId) (ws:List V) (b:List UInt8) (r:Rd) (v:V) (r':Rd):Prop:=Fr f (fun a=>.ptr a 0 0 0::ws) 3 (r.cells b) v (r'.cells b)
theorem bF8:mE 151=some (.val (dI [])):=by kernel_rfl
theorem aZc:VT 151 Tryz.f151 [] []:=vt (by kernel_rfl)
theorem bJd (b:List UInt8) (r:Rd) (n:Nat) (e:Int):FRd 151 [.int .i64 (n:Int),.int .i64 e] b r (.int .i64 0) ⟨n,e⟩:=by
 refine FnR.of bF8 (lv:=eG []) (Pt.head rfl) (Rd.clo b r) ?_ rfl (Rd.clo b _)
 rw [aZc]
 delta Tryz.f151;simp only [↓cw,↓reduceIte,Nat.reduceLT,kk,Rd.cells,aA]
 trivial
theorem bF9:mE 139=some (.val (dI [])):=by kernel_rfl
theorem aZd:VT 139 Tryz.f139 [] []:=vt (by kernel_rfl)
theorem aRu (b:List UInt8) (r:Rd):FRd 139 [] b r (.int .i64 r.err) r:=by
 refine FnR.of bF9 (lv:=eG []) (Pt.head rfl) (Rd.clo b r) ?_ rfl (Rd.clo b _)
 rw [aZd]
 delta Tryz.f139;simp only [↓cw,↓reduceIte,Nat.reduceLT,kk,Rd.cells,aA]
 trivial
theorem bJe:mE 69=some (.val (dI [])):=by kernel_rfl
theorem t69:VT 69 Tryz.f69 [] [(6,[2,3,4])]:=vt (by kernel_rfl)
def aR (b:List UInt8) (r:Rd):Int×Rd:=if r.err=0 then (match Go.Pack.rdL 0 0 (b.drop r.pos) with
 | .ok (u,t)=>(Go.Pack.zag u,⟨b.length - t.length,0⟩)
 | .error e=>(0,⟨r.pos,e⟩)) else (0,r)
theorem tR {l:List UInt8} {i:Nat} {a:UInt8} (hi:l[i]?=some a) (k:IntKind):fK 1 (.imm (l.map eN)) (.int k (i:Int))=.ok (.iptr (eN a) 0):=ixI (enc:=eN) hi rfl k
theorem bJf (t:Nat) (k:IntKind) (a:Int) (s:Nat):bW prog .shl t (.int k a) (.int .u64 (s:Int))=.ok (.int k (wr k (a*2 ^ (min s k.bits)))):=by
 have h:¬ ((s:Int)<0):=by omega
 simp [bW,tU,h,wr]
theorem aY2 (t:Nat) (a b:Int):bW prog .and t (.int .u8 a) (.int .u8 b)=.ok (.int .u8 (wr .u8 ((BitVec.toNat (BitVec.ofInt IntKind.u8.bits a &&& BitVec.ofInt IntKind.u8.bits b):Nat):Int))):=rfl
theorem orK (t:Nat) (a b:Int):bW prog .or t (.int .u64 a) (.int .u64 b)=.ok (.int .u64 (wr .u64 ((BitVec.toNat (BitVec.ofInt IntKind.u64.bits a ||| BitVec.ofInt IntKind.u64.bits b):Nat):Int))):=rfl
theorem bJg (x:Nat) (h:x<256):BitVec.toNat (BitVec.ofInt 8 (x:Int) &&& BitVec.ofInt 8 127)=x % 128:=
 (by decide +kernel:∀ x:Fin 256,BitVec.toNat (BitVec.ofInt 8 (x.val:Int) &&& BitVec.ofInt 8 127)=x.val % 128) ⟨x,h⟩
theorem aLe (c:UInt8):wr .u8 ((BitVec.toNat (BitVec.ofInt IntKind.u8.bits (c.toNat:Int) &&& BitVec.ofInt IntKind.u8.bits 127):Nat):Int)=((c.toNat % 128:Nat):Int):=by
 have hc:c.toNat<256:=c.toNat_lt
 have:=bJg c.toNat hc
 have e:BitVec.toNat (BitVec.ofInt IntKind.u8.bits (c.toNat:Int) &&& BitVec.ofInt IntKind.u8.bits 127)=c.toNat % 128:=this
 rw [e,wr8];congr 1;omega
theorem aH7 (i acc:Nat) (c:UInt8) (t:List UInt8):Go.Pack.rdL i acc (c::t)=if i=9∧1<c.toNat then .error 4 else if 128≤c.toNat then Go.Pack.rdL (i+1) (acc+c.toNat % 128*2 ^ (7*i)) t else if c.toNat=0∧0<i then .error 4 else .ok (acc+c.toNat % 128*2 ^ (7*i),t):=by rw [Go.Pack.rdL]
theorem aTx {u:Nat} (h:u<2 ^ 64):wr .u64 ((BitVec.toNat (BitVec.ofInt IntKind.u64.bits (u:Int) &&& BitVec.ofInt IntKind.u64.bits 1):Nat):Int)=((u % 2:Nat):Int):=by
 have e:BitVec.toNat (BitVec.ofInt IntKind.u64.bits (u:Int) &&& BitVec.ofInt IntKind.u64.bits 1)=u % 2:=by
  rw [BitVec.toNat_and]
  have e1:(BitVec.ofInt IntKind.u64.bits (u:Int)).toNat=u:=by rw [BitVec.toNat_ofInt];show ((u:Int) % ((2 ^ 64:Nat):Int)).toNat=u;omega
  have e2:(BitVec.ofInt IntKind.u64.bits 1).toNat=2 ^ 1 - 1:=by decide
  rw [e1,e2,Nat.and_two_pow_sub_one_eq_mod]
 rw [e,aDq (by omega)]
theorem aLf (t:Nat) (k:IntKind) (a:Int):bW prog .shr t (.int k a) (.int .u64 1)=.ok (.int k (Int.fdiv a (2 ^ (min (Int.toNat 1) k.bits)))):=rfl
theorem aTy (u:Nat):Int.fdiv (u:Int) (2 ^ (min (Int.toNat 1) IntKind.u64.bits))=((u / 2:Nat):Int):=by
 rw [show (min (Int.toNat 1) IntKind.u64.bits)=1 from by decide,Int.fdiv_eq_ediv_of_nonneg _ (by decide)]
 omega
theorem bJh {m:Nat} (h:m<2 ^ 63):wr .i64 (aGm (m:Int))=-(m:Int) - 1:=by
 rw [aTu (by omega) (by omega)]
 simp [wr,lo,hi,IntKind.wrap,IntKind.min,IntKind.max,IntKind.bits,IntKind.signed];omega
theorem aCc {b:List UInt8} {pos:Nat} {e0:Int} {S:St} {a:Nat} (hS:S.heap.get a=some (.row 0 3 [[.imm (b.map eN),.int .i64 (pos:Int),.int .i64 e0]])) (n:Nat) (e:Int) (K:KW):C 151 [.ptr a 0 0 0,.int .i64 (n:Int),.int .i64 e] S K=K (.int .i64 0) ⟨S.next,S.heap.put a (.row 0 3 [[.imm (b.map eN),.int .i64 (n:Int),.int .i64 e]])⟩:=(bJd b ⟨pos,e0⟩ n e).eq hS K
theorem aY3 {i acc c:Nat} (hi:i≤9) (ha:acc<2 ^ (7*i)) (h9:¬ (i=9∧1<c)):c % 128*2 ^ (7*i)<2 ^ 64∧acc+c % 128*2 ^ (7*i)<2 ^ 64∧acc<2 ^ 64∧(i≤8→acc+c % 128*2 ^ (7*i)<2 ^ (7*(i+1)))∧7*i≤63:=by
 rcases Go.Pack.pow_step hi with rfl | rfl | rfl | rfl | rfl | rfl | rfl | rfl | rfl | rfl<;>simp only [Nat.reduceMul,Nat.reduceSub,Nat.reducePow,Nat.reduceAdd] at ha ⊢<;>omega
theorem aY4 {acc m i:Nat} (ha:acc<2 ^ (7*i)) (h1:m*2 ^ (7*i)<2 ^ 64) (h2:acc+m*2 ^ (7*i)<2 ^ 64) (h3:acc<2 ^ 64):wr .u64 ((BitVec.toNat (BitVec.ofInt IntKind.u64.bits (acc:Int) ||| BitVec.ofInt IntKind.u64.bits ((m*2 ^ (7*i):Nat):Int)):Nat):Int)=((acc+m*2 ^ (7*i):Nat):Int):=by
 have k1:m <<< (7*i)=m*2 ^ (7*i):=Nat.shiftLeft_eq m (7*i)
 have k2:=Nat.shiftLeft_add_eq_or_of_lt ha m
 rw [k1] at k2
 generalize m*2 ^ (7*i)=w at h1 h2 k2 ⊢
 have e:BitVec.toNat (BitVec.ofInt IntKind.u64.bits (acc:Int) ||| BitVec.ofInt IntKind.u64.bits (w:Int))=acc+w:=by
  rw [BitVec.toNat_or]
  have e1:(BitVec.ofInt IntKind.u64.bits (acc:Int)).toNat=acc:=by rw [BitVec.toNat_ofInt];show ((acc:Int) % ((2 ^ 64:Nat):Int)).toNat=acc;omega
  have e2:(BitVec.ofInt IntKind.u64.bits (w:Int)).toNat=w:=by rw [BitVec.toNat_ofInt];show ((w:Int) % ((2 ^ 64:Nat):Int)).toNat=_;omega
  rw [e1,e2,Nat.or_comm,←k2,Nat.add_comm]
 rw [e,aDq h2]
theorem sh7 {i m:Nat} (h7:7*i≤63) (h:m*2 ^ (7*i)<2 ^ 64):wr .u64 ((m:Int)*2 ^ (min (7*i) IntKind.u64.bits))=((m*2 ^ (7*i):Nat):Int):=by
 rw [show min (7*i) IntKind.u64.bits=7*i by show min (7*i) 64=_;omega]
 have e:(m:Int)*2 ^ (7*i)=((m*2 ^ (7*i):Nat):Int):=by rw [Int.natCast_mul,Int.natCast_pow];rfl
 rw [e,aDq h]
theorem i7 {i:Nat} (h:7*i≤63):wr .u64 (wr .i64 (7*(i:Int)))=((7*i:Nat):Int):=by
 rw [eX (by omega) (by omega),show (7*(i:Int))=((7*i:Nat):Int) by omega,aDq (by omega)]
theorem b69 {b:List UInt8} (hb:b.length<1000000000) {r:Rd} (hr:r.pos≤b.length):fD prog C (dI []) (eG [(6,[2,3,4])]) 69 [.ptr 0 0 0 0] ⟨1,Tr.nil.put 0 (.row 0 3 [r.cells b])⟩ fun v0 S0=>v0=.int .i64 (aR b r).1∧S0.heap.get 0=some (.row 0 3 [(aR b r).2.cells b]):=by
 rw [t69]
 delta Tryz.f69;simp only [↓cw,↓reduceIte,Nat.reduceLT,kk,Rd.cells,aA]
 by_cases he:r.err=0
 ·simp only [↓cw,↓reduceIte,Nat.reduceLT,kk,he,if_true,if_false,not_true_eq_false]
  refine dB (fun m vs X=>∃ i acc:Nat,m=10 - i∧i≤9∧vs=[.int .i64 0,.int .u64 (acc:Int),.int .i64 (i:Int)]∧X.heap=Tr.nil.put 0 (Blk.row 0 3 [[V.imm (b.map eN),V.int IntKind.i64 (r.pos:Int),V.int IntKind.i64 0]])∧acc<2 ^ (7*i)∧r.pos+i≤b.length∧Go.Pack.rdL i acc (b.drop (r.pos+i))=Go.Pack.rdL 0 0 (b.drop r.pos)) ?_ ⟨0,0,rfl,by omega,rfl,rfl,by decide,by omega,rfl⟩
  rintro m vs ⟨nx,hp⟩ ⟨i,acc,rfl,hi,rfl,hX,ha,hpi,hrd⟩ aF hag
  simp only at hX
  subst hX
  have hw:wr .i64 ((r.pos:Int)+(i:Int))=((r.pos+i:Nat):Int):=by rw [eX (by omega) (by omega)];omega
  simp only [↓cw,↓reduceIte,Nat.reduceLT,kk,aA,hw]
  by_cases hs:b.length≤r.pos+i
  ·simp only [↓cw,↓reduceIte,Nat.reduceLT,kk,show ((b.length:Int)≤((r.pos+i:Nat):Int))=True by simp;omega,if_true]
   refine Eq.mpr (aCc (b:=b) (pos:=r.pos) (e0:=0) (Tr.get_put_sameB _ _ _ trivial) r.pos 3 _) ?_
   have hN:aR b r=(0,⟨r.pos,3⟩):=by unfold aR;rw [if_pos he,←hrd,List.drop_eq_nil_of_le hs];rfl
   rw [hN]
   exact ⟨rfl,Tr.get_put_sameB _ _ _ trivial⟩
  ·obtain ⟨c,hc⟩:∃ c,b[r.pos+i]?=some c:=⟨_,List.getElem?_eq_getElem (by omega)⟩
   have hd:b.drop (r.pos+i)=c::b.drop (r.pos+(i+1)):=by
    obtain ⟨hl,hcc⟩:=List.getElem?_eq_some_iff.1 hc
    rw [←hcc];exact (List.getElem_cons_drop hl).symm
   rw [hd,aH7] at hrd
   have hN:aR b r=(match Go.Pack.rdL 0 0 (b.drop r.pos) with
    | .ok (u,t)=>(Go.Pack.zag u,⟨b.length - t.length,0⟩)
    | .error e=>(0,⟨r.pos,e⟩)):=by unfold aR;rw [if_pos he]
   rw [←hrd] at hN
   have hu8:(eN c)[0]?=some (.int .u8 (c.toNat:Int)):=rfl
   by_cases h91:i=9∧1<c.toNat
   ·rw [if_pos h91] at hN
    simp only [↓cw,↓reduceIte,Nat.reduceLT,kk,show ((b.length:Int)≤((r.pos+i:Nat):Int))=False by simp;omega,if_false,tR hc,hu8,show ((i:Int)=9)=True by simp;omega,if_true,show ((1:Int)<(c.toNat:Int))=True by simp;omega]
    refine Eq.mpr (aCc (b:=b) (pos:=r.pos) (e0:=0) (Tr.get_put_sameB _ _ _ trivial) r.pos 4 _) ?_
    rw [hN]
    exact ⟨rfl,Tr.get_put_sameB _ _ _ trivial⟩
   rw [if_neg h91] at hN
   obtain ⟨q1,q2,q3,q4,q5⟩:=aY3 hi ha h91
   have hlow:wr .u64 ((c.toNat % 128:Nat):Int)=((c.toNat % 128:Nat):Int):=aDq (by omega)
   have h99:∀ (A B:Prop),(if (i:Int)=9 then (if (1:Int)<(c.toNat:Int) then A else B) else B)=B:=by
    intro A B
    split
    ·rw [if_neg (by omega)]
    ·rfl
   simp only [↓cw,↓reduceIte,Nat.reduceLT,kk,show ((b.length:Int)≤((r.pos+i:Nat):Int))=False by simp;omega,if_false,tR hc,hu8,h99,aY2,aLe,hlow,i7 q5,bJf,sh7 q5 q1,orK,aY4 ha q1 q2 q3,gJ (show i<1000000000 by omega)]
   by_cases h128:128≤c.toNat
   ·rw [if_pos h128] at hrd
    simp only [show ((128:Int)≤(c.toNat:Int))=True by simp;omega,if_true]
    exact hag (10 - (i+1)) _ _ (by omega) ⟨i+1,_,rfl,by omega,rfl,rfl,q4 (by omega),by omega,by rw [if_neg h91] at hrd;exact hrd⟩
   rw [if_neg h128] at hN
   simp only [show ((128:Int)≤(c.toNat:Int))=False by simp;omega,if_false]
   by_cases h0:c.toNat=0∧0<i
   ·rw [if_pos h0] at hN
    simp only [show ((c.toNat:Int)=0)=True by simp;omega,show ((0:Int)<(i:Int))=True by simp;omega,if_true]
    refine Eq.mpr (aCc (b:=b) (pos:=r.pos) (e0:=0) (Tr.get_put_sameB _ _ _ trivial) r.pos 4 _) ?_
    rw [hN]
    exact ⟨rfl,Tr.get_put_sameB _ _ _ trivial⟩
   rw [if_neg h0] at hN
   have h00:∀ (A B:Prop),(if (c.toNat:Int)=0 then (if (0:Int)<(i:Int) then A else B) else B)=B:=by
    intro A B
    split
    ·rw [if_neg (by omega)]
    ·rfl
   have hv:wr .i64 ((r.pos:Int)+((i+1:Nat):Int))=((b.length - (b.drop (r.pos+(i+1))).length:Nat):Int):=by rw [eX (by omega) (by omega),List.length_drop];omega
   generalize acc+c.toNat % 128*2 ^ (7*i)=u at *
   by_cases hodd:u % 2=1
   ·have hz:Go.Pack.zag u=-((u / 2:Nat):Int) - 1:=by unfold Go.Pack.zag;rw [if_pos hodd]
    simp only [↓cw,↓reduceIte,Nat.reduceLT,kk,h00,hv,aTw,unK,aTx q2,hodd,aLf,aTy,bJh (show u / 2<2 ^ 63 by omega),Int.natCast_one,if_true]
    rw [hN]
    exact ⟨congrArg (V.int .i64) hz.symm,Tr.get_put_sameB _ _ _ trivial⟩
   ·have hz:Go.Pack.zag u=((u / 2:Nat):Int):=by unfold Go.Pack.zag;rw [if_neg hodd]
    simp only [↓cw,↓reduceIte,Nat.reduceLT,kk,h00,hv,aTw,unK,aTx q2,show (((u % 2:Nat):Int)=1)=False by simp;omega,aLf,aTy,if_false,eX (show -9223372036854775808≤((u / 2:Nat):Int) by omega) (show ((u / 2:Nat):Int)≤9223372036854775807 by omega)]
    rw [hN]
    exact ⟨congrArg (V.int .i64) hz.symm,Tr.get_put_sameB _ _ _ trivial⟩
 ·simp only [↓cw,↓reduceIte,Nat.reduceLT,kk,he,if_true,if_false,not_false_eq_true,aR]
  trivial
theorem r69 {b:List UInt8} (hb:b.length<1000000000) {r:Rd} (hr:r.pos≤b.length):FRd 69 [] b r (.int .i64 (aR b r).1) (aR b r).2:=FnR.of bJe (lv:=eG [(6,[2,3,4])]) (Pt.head rfl) (Rd.clo b r) (b69 hb hr) rfl (Rd.clo b _)
theorem aK {b:List UInt8} {r:Rd} (hr:r.pos≤b.length):(aR b r).2.pos≤b.length:=by
 unfold aR
 split
 ·split
  ·exact Nat.sub_le _ _
  ·exact hr
 ·exact hr
def eI (b:List UInt8) (lo hi:Int) (r:Rd):Int×Rd:=if (aR b r).2.err=0 then (if (aR b r).1<lo then (0,⟨r.pos,2⟩) else if hi<(aR b r).1 then (0,⟨r.pos,2⟩) else aR b r) else aR b r
theorem jC {b:List UInt8} {lo hi:Int} {r:Rd} (hr:r.pos≤b.length):(eI b lo hi r).2.pos≤b.length:=by
 unfold eI
 repeat' split
 all_goals first | exact hr | exact aK hr
theorem bFa:mE 216=some (.val (dI [])):=by kernel_rfl
theorem bJi:VT 216 Tryz.f216 [] []:=vt (by kernel_rfl)
theorem aTz {b:List UInt8} (hb:b.length<1000000000) {r:Rd} (hr:r.pos≤b.length) (lo hi:Int):FRd 216 [.int .i64 lo,.int .i64 hi] b r (.int .i64 (eI b lo hi r).1) (eI b lo hi r).2:=by
 refine FnR.of bFa (lv:=eG []) (Pt.head rfl) (Rd.clo b r) ?_ rfl (Rd.clo b _)
 rw [bJi]
 delta Tryz.f216;simp only [↓cw,↓reduceIte,Nat.reduceLT,kk,Rd.cells,aA]
 refine Eq.mpr ((r69 hb hr).eq (Tr.get_put_sameB _ _ _ trivial) _) ?_
 unfold eI
 generalize aR b r=x
 obtain ⟨n,p,e⟩:=x
 simp only [↓cw,↓reduceIte,Nat.reduceLT,kk,Rd.cells,aA]
 by_cases he:e=0
 ·by_cases h1:n<lo
  ·simp only [↓cw,↓reduceIte,Nat.reduceLT,kk,he,h1,if_true,aA]
   refine Eq.mpr (aCc (b:=b) (pos:=p) (e0:=0) (Tr.get_put_sameB _ _ _ trivial) r.pos 2 _) ?_
   first | exact ⟨rfl,Tr.get_put_sameB _ _ _ trivial⟩ | exact Tr.get_put_sameB _ _ _ trivial
  ·by_cases h2:hi<n
   ·simp only [↓cw,↓reduceIte,Nat.reduceLT,kk,he,h1,h2,if_true,if_false,aA]
    refine Eq.mpr (aCc (b:=b) (pos:=p) (e0:=0) (Tr.get_put_sameB _ _ _ trivial) r.pos 2 _) ?_
    first | exact ⟨rfl,Tr.get_put_sameB _ _ _ trivial⟩ | exact Tr.get_put_sameB _ _ _ trivial
   ·simp only [↓cw,↓reduceIte,Nat.reduceLT,kk,he,h1,h2,if_true,if_false,aA]
    first | exact ⟨rfl,Tr.get_put_sameB _ _ _ trivial⟩ | exact Tr.get_put_sameB _ _ _ trivial
 ·simp only [↓cw,↓reduceIte,Nat.reduceLT,kk,he,if_true,if_false,aA]
  first | exact ⟨rfl,Tr.get_put_sameB _ _ _ trivial⟩ | exact Tr.get_put_sameB _ _ _ trivial
def bF (b:List UInt8) (most:Int) (r:Rd):Int×Rd:=if (eI b 0 most r).2.err=0 then (if (b.length:Int) - (eI b 0 most r).2.pos<(eI b 0 most r).1 then (0,⟨r.pos,3⟩) else eI b 0 most r) else eI b 0 most r
theorem eC {b:List UInt8} {most:Int} {r:Rd} (hr:r.pos≤b.length):(bF b most r).2.pos≤b.length:=by
 unfold bF
 repeat' split
 all_goals first | exact hr | exact jC hr
theorem aRv:mE 145=some (.val (dI [])):=by kernel_rfl
theorem aRw:VT 145 Tryz.f145 [] []:=vt (by kernel_rfl)
theorem aU0 {b:List UInt8} (hb:b.length<1000000000) {r:Rd} (hr:r.pos≤b.length) (most:Int):FRd 145 [.int .i64 most] b r (.int .i64 (bF b most r).1) (bF b most r).2:=by
 refine FnR.of aRv (lv:=eG []) (Pt.head rfl) (Rd.clo b r) ?_ rfl (Rd.clo b _)
 rw [aRw]
 delta Tryz.f145;simp only [↓cw,↓reduceIte,Nat.reduceLT,kk,Rd.cells,aA]
 refine Eq.mpr ((aTz hb hr 0 most).eq (Tr.get_put_sameB _ _ _ trivial) _) ?_
 have hp:=jC (lo:=0) (hi:=most) hr
 unfold bF
 generalize eI b 0 most r=x at hp ⊢
 obtain ⟨n,p,e⟩:=x
 simp only at hp
 have hw:wr .i64 ((b.length:Int) - (p:Int))=(b.length:Int) - (p:Int):=eX (by omega) (by omega)
 simp only [↓cw,↓reduceIte,Nat.reduceLT,kk,Rd.cells,aA,hw]
 by_cases he:e=0
 ·by_cases h1:(b.length:Int) - (p:Int)<n
  ·simp only [↓cw,↓reduceIte,Nat.reduceLT,kk,he,h1,if_true,aA,hw]
   refine Eq.mpr (aCc (b:=b) (pos:=p) (e0:=0) (Tr.get_put_sameB _ _ _ trivial) r.pos 3 _) ?_
   first | exact ⟨rfl,Tr.get_put_sameB _ _ _ trivial⟩ | exact Tr.get_put_sameB _ _ _ trivial
  ·simp only [↓cw,↓reduceIte,Nat.reduceLT,kk,he,h1,if_true,if_false,aA,hw]
   first | exact ⟨rfl,Tr.get_put_sameB _ _ _ trivial⟩ | exact Tr.get_put_sameB _ _ _ trivial
 ·simp only [↓cw,↓reduceIte,Nat.reduceLT,kk,he,if_true,if_false,aA]
  first | exact ⟨rfl,Tr.get_put_sameB _ _ _ trivial⟩ | exact Tr.get_put_sameB _ _ _ trivial
def jE (b:List UInt8) (r:Rd):Bool×Rd:=if (aR b r).2.err=0 then (if (aR b r).1=0 then (false,(aR b r).2) else if (aR b r).1=1 then (true,(aR b r).2) else (false,⟨r.pos,4⟩)) else (false,(aR b r).2)
theorem xC {b:List UInt8} {r:Rd} (hr:r.pos≤b.length):(jE b r).2.pos≤b.length:=by
 unfold jE
 repeat' split
 all_goals first | exact hr | exact aK hr
theorem bFb:mE 148=some (.val (dI [])):=by kernel_rfl
theorem bJj:VT 148 Tryz.f148 [] []:=vt (by kernel_rfl)
theorem bJk {b:List UInt8} (hb:b.length<1000000000) {r:Rd} (hr:r.pos≤b.length):FRd 148 [] b r (.bool (jE b r).1) (jE b r).2:=by
 refine FnR.of bFb (lv:=eG []) (Pt.head rfl) (Rd.clo b r) ?_ rfl (Rd.clo b _)
 rw [bJj]
 delta Tryz.f148;simp only [↓cw,↓reduceIte,Nat.reduceLT,kk,Rd.cells,aA]
 refine Eq.mpr ((r69 hb hr).eq (Tr.get_put_sameB _ _ _ trivial) _) ?_
 unfold jE
 generalize aR b r=x
 obtain ⟨n,p,e⟩:=x
 simp only [↓cw,↓reduceIte,Nat.reduceLT,kk,Rd.cells,aA]
 by_cases he:e=0
 ·by_cases h1:n=0
  ·simp only [↓cw,↓reduceIte,Nat.reduceLT,kk,he,h1,if_true,if_false,not_true_eq_false,aA,show ((0:Int)=1)=False by simp,decide_false]
   first | exact ⟨rfl,Tr.get_put_sameB _ _ _ trivial⟩ | exact Tr.get_put_sameB _ _ _ trivial
  ·by_cases h2:n=1
   ·simp only [↓cw,↓reduceIte,Nat.reduceLT,kk,he,h2,if_true,if_false,not_true_eq_false,not_false_eq_true,aA,show ((1:Int)=0)=False by simp,decide_true]
    first | exact ⟨rfl,Tr.get_put_sameB _ _ _ trivial⟩ | exact Tr.get_put_sameB _ _ _ trivial
   ·simp only [↓cw,↓reduceIte,Nat.reduceLT,kk,he,h1,h2,if_true,if_false,not_true_eq_false,not_false_eq_true,aA]
    refine Eq.mpr (aCc (b:=b) (pos:=p) (e0:=0) (Tr.get_put_sameB _ _ _ trivial) r.pos 4 _) ?_
    simp only [↓cw,↓reduceIte,Nat.reduceLT,kk,aA,show ((4:Int)=0)=False by simp,if_false]
    first | exact ⟨rfl,Tr.get_put_sameB _ _ _ trivial⟩ | exact Tr.get_put_sameB _ _ _ trivial
 ·simp only [↓cw,↓reduceIte,Nat.reduceLT,kk,he,if_true,if_false,aA]
  first | exact ⟨rfl,Tr.get_put_sameB _ _ _ trivial⟩ | exact Tr.get_put_sameB _ _ _ trivial
def iL (b:List UInt8) (r:Rd):Rd:=if r.err=0 then (if r.pos<b.length then ⟨r.pos,5⟩ else r) else r
theorem bJl:mE 70=some (.val (dI [])):=by kernel_rfl
theorem t70:VT 70 Tryz.f70 [] []:=vt (by kernel_rfl)
theorem r70 {b:List UInt8} {r:Rd}:FRd 70 [] b r (.int .i64 (iL b r).err) (iL b r):=by
 refine FnR.of bJl (lv:=eG []) (Pt.head rfl) (Rd.clo b r) ?_ rfl (Rd.clo b _)
 rw [t70]
 obtain ⟨p,e⟩:=r
 delta Tryz.f70;simp only [↓cw,↓reduceIte,Nat.reduceLT,kk,Rd.cells,aA,iL]
 by_cases he:e=0
 ·by_cases h1:p<b.length
  ·simp only [↓cw,↓reduceIte,Nat.reduceLT,kk,he,show ((p:Int)<(b.length:Int))=True by simp;exact h1,if_pos h1,if_true,aA]
   trivial
  ·simp only [↓cw,↓reduceIte,Nat.reduceLT,kk,he,show ((p:Int)<(b.length:Int))=False by simp;omega,if_neg h1,if_true,if_false,aA]
   trivial
 ·simp only [↓cw,↓reduceIte,Nat.reduceLT,kk,he,if_true,if_false,aA]
  trivial
theorem vO {b:List UInt8} {lo hi:Int} {r:Rd} (he:(eI b lo hi r).2.err=0):lo≤(eI b lo hi r).1∧(eI b lo hi r).1≤hi:=by
 unfold eI at he ⊢
 split
 ·rename_i h
  rw [if_pos h] at he
  split
  ·rename_i h1;rw [if_pos h1] at he;cases he
  ·rename_i h1
   rw [if_neg h1] at he
   split
   ·rename_i h2;rw [if_pos h2] at he;cases he
   ·exact ⟨by omega,by omega⟩
 ·rename_i h
  rw [if_neg h] at he
  exact absurd he h
def fA (b:List UInt8) (most:Int) (r:Rd):List UInt8×Rd:=if (eI b 0 most r).2.err=0 then (if (b.length:Int) - (eI b 0 most r).2.pos<(eI b 0 most r).1 then ([],⟨r.pos,3⟩) else ((b.drop (eI b 0 most r).2.pos).take (eI b 0 most r).1.toNat,⟨(eI b 0 most r).2.pos+(eI b 0 most r).1.toNat,0⟩)) else ([],(eI b 0 most r).2)
theorem cY {b:List UInt8} {most:Int} {r:Rd} (hr:r.pos≤b.length):(fA b most r).2.pos≤b.length:=by
 unfold fA
 have:=jC (lo:=0) (hi:=most) hr
 repeat' split
 all_goals first | exact hr | exact this | (show _+_≤_;omega)
theorem aY5 {b:List UInt8} {p m:Nat} (h:p+m≤b.length):gA prog 22 (.imm (b.map eN)) (some (.int .i64 (p:Int))) (some (.int .i64 ((p+m:Nat):Int)))=.ok (.imm (((b.drop p).take m).map eN)):=by
 have hb:dR (b.map eN).length (some (.int .i64 (p:Int))) (some (.int .i64 ((p+m:Nat):Int)))=.ok (p,p+m):=by
  have t1:(decide ((0:Int)≤((p+m:Nat):Int))&&decide (((p+m:Nat):Int)≤((b.map eN).length:Int)))=true:=by simp;omega
  have t2:(decide ((0:Int)≤(p:Int))&&decide ((p:Int)≤((p+m:Nat):Int)))=true:=by simp;omega
  simp only [dR,t1,t2,cond_true,Int.toNat_natCast]
 rw [aQx _ (cX (n:=1) (fun c hc=>by obtain ⟨x,_,rfl⟩:=List.mem_map.1 hc;exact u81 x)).1,hb]
 simp only [←List.map_take,←List.map_drop,List.drop_take,Nat.add_sub_cancel_left]
theorem aRx:∀ l:List UInt8,dH (l.map eN)=some l
 | []=>rfl
 | c::l=>by simp only [List.map_cons,eN,dH,aRx l];simp
theorem bFc (l:List UInt8) (fr:Option Nat) (S:St):dJ prog 22 9 (.imm (l.map eN)) fr S=.ok (.str l,S):=by
 have e1:prog.underlying 22=some (.slice 5):=by kernel_rfl
 have e2:prog.underlying 9=some .string:=by kernel_rfl
 have e3:prog.underlying 5=some (.int .u8):=by kernel_rfl
 have e4:aL S (.imm (l.map eN))=.ok (l.map eN):=rfl
 simp only [dJ,e1,e2,e3,e4,aRx]
theorem bFd:mE 146=some (.val (dI [])):=by kernel_rfl
theorem bJm:VT 146 Tryz.f146 [] []:=vt (by kernel_rfl)
theorem aRy {b:List UInt8} (hb:b.length<1000000000) {r:Rd} (hr:r.pos≤b.length) (most:Int):FRd 146 [.int .i64 most] b r (.str (fA b most r).1) (fA b most r).2:=by
 refine FnR.of bFd (lv:=eG []) (Pt.head rfl) (Rd.clo b r) ?_ rfl (Rd.clo b _)
 rw [bJm]
 delta Tryz.f146;simp only [↓cw,↓reduceIte,Nat.reduceLT,kk,Rd.cells,aA]
 refine Eq.mpr ((aTz hb hr 0 most).eq (Tr.get_put_sameB _ _ _ trivial) _) ?_
 have hp:=jC (lo:=0) (hi:=most) hr
 have hk:=vO (b:=b) (lo:=0) (hi:=most) (r:=r)
 unfold fA
 generalize eI b 0 most r=x at hp hk ⊢
 obtain ⟨n,p,e⟩:=x
 simp only at hp hk
 have hw:wr .i64 ((b.length:Int) - (p:Int))=(b.length:Int) - (p:Int):=eX (by omega) (by omega)
 simp only [↓cw,↓reduceIte,Nat.reduceLT,kk,Rd.cells,aA,hw]
 by_cases he:e=0
 ·obtain ⟨k1,k2⟩:=hk he
  obtain ⟨m,rfl⟩:=Int.eq_ofNat_of_zero_le k1
  by_cases h1:(b.length:Int) - (p:Int)<(m:Int)
  ·simp only [↓cw,↓reduceIte,Nat.reduceLT,kk,he,h1,if_true,aA,hw,not_true_eq_false,if_false]
   refine Eq.mpr (aCc (b:=b) (pos:=p) (e0:=0) (Tr.get_put_sameB _ _ _ trivial) r.pos 3 _) ?_
   first | exact ⟨rfl,Tr.get_put_sameB _ _ _ trivial⟩ | exact Tr.get_put_sameB _ _ _ trivial
  ·have hw2:wr .i64 ((p:Int)+(m:Int))=((p+m:Nat):Int):=by rw [eX (by omega) (by omega)];omega
   simp only [↓cw,↓reduceIte,Nat.reduceLT,kk,he,h1,if_true,if_false,not_true_eq_false,aA,hw,hw2]
   have hm:((m:Int)).toNat=m:=by omega
   simp only [↓cw,↓reduceIte,Nat.reduceLT,kk,aY5 (show p+m≤b.length by omega),bFc,aA,hw2,hm]
   first | exact ⟨rfl,Tr.get_put_sameB _ _ _ trivial⟩ | exact Tr.get_put_sameB _ _ _ trivial
 ·simp only [↓cw,↓reduceIte,Nat.reduceLT,kk,he,if_true,if_false,not_false_eq_true,aA]
  first | exact ⟨rfl,Tr.get_put_sameB _ _ _ trivial⟩ | exact Tr.get_put_sameB _ _ _ trivial
theorem gS {α:Type} {t:Tr α} {n:Nat} {x:α}:(t.put n x).get n=some x:=Tr.get_put_sameB _ _ _ trivial
theorem gN {α:Type} {t:Tr α} {n m:Nat} {x:α} {y:Option α} (g:t.get m=y) (h:m≠n:=by omega):(t.put n x).get m=y:=(Tr.get_put_neB _ _ _ _ trivial h).trans g
theorem kC:type_of% (A2 (kE (show (2:Nat)≠0 by decide)) <| A2 (kE (show (1:Nat)≠0 by decide)) <| A2 (kE (show (1:Nat)≠2 by decide)) <| A2 (kE (show (2:Nat)≠1 by decide)) <| A2 (kE (show (0:Nat)≠1 by decide)) (kE (show (0:Nat)≠2 by decide))):=A2 (kE (show (2:Nat)≠0 by decide)) <| A2 (kE (show (1:Nat)≠0 by decide)) <| A2 (kE (show (1:Nat)≠2 by decide)) <| A2 (kE (show (2:Nat)≠1 by decide)) <| A2 (kE (show (0:Nat)≠1 by decide)) (kE (show (0:Nat)≠2 by decide))
def mU (b:List UInt8) (r:Rd):Date×Rd:=(⟨(aR b r).1,(aR b (aR b r).2).1,(aR b (aR b (aR b r).2).2).1⟩,(aR b (aR b (aR b r).2).2).2)
theorem nW {b:List UInt8} {r:Rd} (hr:r.pos≤b.length):(mU b r).2.pos≤b.length:=aK (aK (aK hr))
theorem bFe:mE 147=some (.val (dI [])):=by kernel_rfl
theorem aZe:VT 147 Tryz.f147 [] []:=vt (by kernel_rfl)
theorem bFf {b:List UInt8} (hb:b.length<1000000000) {r:Rd} (hr:r.pos≤b.length):FRd 147 [] b r (.agg (mU b r).1.enc) (mU b r).2:=by
 refine FnR.of bFe (lv:=eG []) (Pt.head rfl) (Rd.clo b r) ?_ rfl (Rd.clo b _)
 rw [aZe]
 delta Tryz.f147;simp only [↓cw,↓reduceIte,Nat.reduceLT,Nat.reduceAdd,kk,Rd.cells,aA,kC]
 refine Eq.mpr ((r69 hb hr).eq (by repeat' first | exact gS | refine gN ?_) _) ?_
 simp only [↓cw,↓reduceIte,Nat.reduceLT,Nat.reduceAdd,kk,Rd.cells,aA,kC]
 refine Eq.mpr ((r69 hb (aK hr)).eq (by repeat' first | exact gS | refine gN ?_) _) ?_
 simp only [↓cw,↓reduceIte,Nat.reduceLT,Nat.reduceAdd,kk,Rd.cells,aA,kC]
 refine Eq.mpr ((r69 hb (aK (aK hr))).eq (by repeat' first | exact gS | refine gN ?_) _) ?_
 simp only [↓cw,↓reduceIte,Nat.reduceLT,Nat.reduceAdd,kk,Rd.cells,aA,kC]
 exact ⟨rfl,by repeat' first | exact gS | refine gN ?_⟩
def dD (b:List UInt8) (r:Rd):Rate×Rd:=
 let x:=fA b 64 r
 let y:=mU b x.2
 let z:=aR b y.2
 (⟨x.1,y.1,z.1⟩,z.2)
theorem aN8 {b:List UInt8} {r:Rd} (hr:r.pos≤b.length):(dD b r).2.pos≤b.length:=aK (nW (cY hr))
theorem bJn:mE 62=some (.val (dI [])):=by kernel_rfl
theorem t62:VT 62 Tryz.f62 [] []:=vt (by kernel_rfl)
theorem r62 {b:List UInt8} (hb:b.length<1000000000) {r:Rd} (hr:r.pos≤b.length):FRd 62 [] b r (.agg (dD b r).1.enc) (dD b r).2:=by
 refine FnR.of bJn (lv:=eG []) (Pt.head rfl) (Rd.clo b r) ?_ rfl (Rd.clo b _)
 rw [t62]
 delta Tryz.f62;simp only [↓cw,↓reduceIte,Nat.reduceLT,Nat.reduceAdd,kk,Rd.cells,aA,kC]
 refine Eq.mpr ((aRy hb hr 64).eq (by repeat' first | exact gS | refine gN ?_) _) ?_
 simp only [↓cw,↓reduceIte,Nat.reduceLT,Nat.reduceAdd,kk,Rd.cells,aA,kC]
 refine Eq.mpr ((bFf hb (cY hr)).eq (by repeat' first | exact gS | refine gN ?_) _) ?_
 simp only [Date.enc]
 simp only [↓cw,↓reduceIte,Nat.reduceLT,Nat.reduceAdd,kk,Rd.cells,aA,kC]
 refine Eq.mpr ((r69 hb (nW (cY hr))).eq (by repeat' first | exact gS | refine gN ?_) _) ?_
 simp only [↓cw,↓reduceIte,Nat.reduceLT,Nat.reduceAdd,kk,Rd.cells,aA,kC]
 exact ⟨rfl,by repeat' first | exact gS | refine gN ?_⟩
def dE (b:List UInt8) (r:Rd):Ser×Rd:=
 let x:=fA b 64 r
 let y:=aR b x.2
 let z:=jE b y.2
 (⟨x.1,1,y.1,z.1⟩,z.2)
theorem aN9 {b:List UInt8} {r:Rd} (hr:r.pos≤b.length):(dE b r).2.pos≤b.length:=xC (aK (cY hr))
theorem bJo:mE 64=some (.val (dI [])):=by kernel_rfl
theorem t64:VT 64 Tryz.f64 [] []:=vt (by kernel_rfl)
theorem r64 {b:List UInt8} (hb:b.length<1000000000) {r:Rd} (hr:r.pos≤b.length):FRd 64 [] b r (.agg (dE b r).1.enc) (dE b r).2:=by
 refine FnR.of bJo (lv:=eG []) (Pt.head rfl) (Rd.clo b r) ?_ rfl (Rd.clo b _)
 rw [t64]
 delta Tryz.f64;simp only [↓cw,↓reduceIte,Nat.reduceLT,Nat.reduceAdd,kk,Rd.cells,aA,kC]
 refine Eq.mpr ((aRy hb hr 64).eq (by repeat' first | exact gS | refine gN ?_) _) ?_
 simp only [↓cw,↓reduceIte,Nat.reduceLT,Nat.reduceAdd,kk,Rd.cells,aA,kC]
 refine Eq.mpr ((r69 hb (cY hr)).eq (by repeat' first | exact gS | refine gN ?_) _) ?_
 simp only [↓cw,↓reduceIte,Nat.reduceLT,Nat.reduceAdd,kk,Rd.cells,aA,kC]
 refine Eq.mpr ((bJk hb (aK (cY hr))).eq (by repeat' first | exact gS | refine gN ?_) _) ?_
 simp only [↓cw,↓reduceIte,Nat.reduceLT,Nat.reduceAdd,kk,Rd.cells,aA,kC]
 exact ⟨rfl,by repeat' first | exact gS | refine gN ?_⟩
def dX (b:List UInt8) (r:Rd):Sess×Rd:=
 let x:=aR b r
 let y:=aR b x.2
 let z:=aR b y.2
 let u:=aR b z.2
 let v:=aR b u.2
 (⟨x.1,y.1,⟨z.1,u.1,v.1⟩⟩,v.2)
theorem aNa {b:List UInt8} {r:Rd} (hr:r.pos≤b.length):(dX b r).2.pos≤b.length:=aK (aK (aK (aK (aK hr))))
theorem bJp:mE 68=some (.val (dI [])):=by kernel_rfl
theorem t68:VT 68 Tryz.f68 [] []:=vt (by kernel_rfl)
theorem r68 {b:List UInt8} (hb:b.length<1000000000) {r:Rd} (hr:r.pos≤b.length):FRd 68 [] b r (.agg (dX b r).1.enc) (dX b r).2:=by
 refine FnR.of bJp (lv:=eG []) (Pt.head rfl) (Rd.clo b r) ?_ rfl (Rd.clo b _)
 rw [t68]
 delta Tryz.f68;simp only [↓cw,↓reduceIte,Nat.reduceLT,Nat.reduceAdd,kk,Rd.cells,aA,kC]
 refine Eq.mpr ((r69 hb hr).eq (by repeat' first | exact gS | refine gN ?_) _) ?_
 simp only [↓cw,↓reduceIte,Nat.reduceLT,Nat.reduceAdd,kk,Rd.cells,aA,kC]
 refine Eq.mpr ((r69 hb (aK hr)).eq (by repeat' first | exact gS | refine gN ?_) _) ?_
 simp only [↓cw,↓reduceIte,Nat.reduceLT,Nat.reduceAdd,kk,Rd.cells,aA,kC]
 refine Eq.mpr ((r69 hb (aK (aK hr))).eq (by repeat' first | exact gS | refine gN ?_) _) ?_
 simp only [↓cw,↓reduceIte,Nat.reduceLT,Nat.reduceAdd,kk,Rd.cells,aA,kC]
 refine Eq.mpr ((r69 hb (aK (aK (aK hr)))).eq (by repeat' first | exact gS | refine gN ?_) _) ?_
 simp only [↓cw,↓reduceIte,Nat.reduceLT,Nat.reduceAdd,kk,Rd.cells,aA,kC]
 refine Eq.mpr ((r69 hb (aK (aK (aK (aK hr))))).eq (by repeat' first | exact gS | refine gN ?_) _) ?_
 simp only [↓cw,↓reduceIte,Nat.reduceLT,Nat.reduceAdd,kk,Rd.cells,aA,kC]
 exact ⟨rfl,by repeat' first | exact gS | refine gN ?_⟩
def eB (b:List UInt8) (r:Rd):Part×Rd:=
 let x:=fA b 64 r
 let y:=aR b x.2
 let z:=aR b y.2
 (⟨x.1,y.1,z.1,0⟩,z.2)
theorem aNb {b:List UInt8} {r:Rd} (hr:r.pos≤b.length):(eB b r).2.pos≤b.length:=aK (aK (cY hr))
theorem bFg:mE 150=some (.val (dI [])):=by kernel_rfl
theorem bJr:VT 150 Tryz.f150 [] []:=vt (by kernel_rfl)
theorem bJs {b:List UInt8} (hb:b.length<1000000000) {r:Rd} (hr:r.pos≤b.length):FRd 150 [] b r (.agg (eB b r).1.enc) (eB b r).2:=by
 refine FnR.of bFg (lv:=eG []) (Pt.head rfl) (Rd.clo b r) ?_ rfl (Rd.clo b _)
 rw [bJr]
 delta Tryz.f150;simp only [↓cw,↓reduceIte,Nat.reduceLT,Nat.reduceAdd,kk,Rd.cells,aA,kC]
 refine Eq.mpr ((aRy hb hr 64).eq (by repeat' first | exact gS | refine gN ?_) _) ?_
 simp only [↓cw,↓reduceIte,Nat.reduceLT,Nat.reduceAdd,kk,Rd.cells,aA,kC]
 refine Eq.mpr ((r69 hb (cY hr)).eq (by repeat' first | exact gS | refine gN ?_) _) ?_
 simp only [↓cw,↓reduceIte,Nat.reduceLT,Nat.reduceAdd,kk,Rd.cells,aA,kC]
 refine Eq.mpr ((r69 hb (aK (cY hr))).eq (by repeat' first | exact gS | refine gN ?_) _) ?_
 simp only [↓cw,↓reduceIte,Nat.reduceLT,Nat.reduceAdd,kk,Rd.cells,aA,kC]
 exact ⟨rfl,by repeat' first | exact gS | refine gN ?_⟩
def St.at (S:St) (a:Nat) (c:List V):St:=⟨S.next,S.heap.put a (.row 0 3 [c])⟩
theorem St.at_get (S:St) (a:Nat) (c:List V):(St.at S a c).heap.get a=some (.row 0 3 [c]):=Tr.get_put_sameB _ _ _ trivial
theorem St.at_at (S:St) (a:Nat) (c d:List V) {x:Nat} (h:x≠a):(St.at S a c).heap.get x=(St.at S a d).heap.get x:=by
 unfold St.at
 rw [Tr.get_put_neB _ _ _ _ trivial h,Tr.get_put_neB _ _ _ _ trivial h]
theorem St.at_wf {S:St} {a:Nat} {c d:List V} (h:a<S.next) (w:WF (St.at S a c)):WF (St.at S a d):=by
 intro x bx hx
 by_cases e:x=a
 ·rw [e];exact h
 ·rw [St.at_at S a d c e] at hx
  exact w x bx hx
theorem St.wf_at {S:St} {a:Nat} {d:List V} (h:a<S.next) (w:WF S):WF (St.at S a d):=by
 intro x bx hx
 by_cases e:x=a
 ·rw [e];exact h
 ·unfold St.at at hx
  rw [Tr.get_put_neB _ _ _ _ trivial e] at hx
  exact w x bx hx
theorem Ext.at {S X:St} {a:Nat} {c d:List V} (h:a<S.next) (x:Ext (St.at S a c) X):Ext (St.at S a d) (St.at X a d):=by
 refine ⟨fun y b hy=>?_,x.next,fun w=>St.wf_at (Nat.lt_of_lt_of_le h x.next) (x.wf (St.at_wf h w))⟩
 by_cases e:y=a
 ·subst e;rw [St.at_get] at hy ⊢;exact hy
 ·rw [St.at_at S a d c e] at hy
  unfold St.at
  rw [Tr.get_put_neB _ _ _ _ trivial e]
  exact x.old y b hy
theorem Own.at {S X:St} {a n:Nat} {c d e:List V} {v:V} {es:List (List V)} (h:a<S.next) (o:Own (St.at S a c) X n v es):Own (St.at S a d) (St.at X a e) n v es:=by
 refine ⟨?_,o.len⟩
 rcases o.is with q | ⟨y,ver,tl,q1,q2,q3,q4⟩
 ·exact .inl q
 ·have q2':S.next≤y:=q2
  refine .inr ⟨y,ver,tl,q1,q2,q3,?_⟩
  unfold St.at
  rw [Tr.get_put_neB _ _ _ _ trivial (show y≠a by omega)]
  exact q4
def aH {α:Type} (f:Rd→α×Rd):Nat→Rd→List α×Rd
 | 0,r=>([],r)
 | n+1,r=>if r.err=0 then ((f r).1::(aH f n (f r).2).1,(aH f n (f r).2).2) else ([],r)
def aO {α:Type} (b:List UInt8) (f:Rd→α×Rd) (most:Int) (r:Rd):List α×Rd:=aH f (bF b most r).1.toNat (bF b most r).2
theorem fJ {b:List UInt8} {most:Int} {r:Rd} (hm:0≤most) (hq:(bF b most r).2.err≠0→(bF b most r).1=0):0≤(bF b most r).1∧(bF b most r).1≤most:=by
 by_cases he:(bF b most r).2.err=0
 ·unfold bF at he ⊢
  split
  ·rename_i h1
   split
   ·exact ⟨Int.le_refl _,hm⟩
   ·exact vO h1
  ·rename_i h1
   rw [if_neg h1] at he
   exact absurd he h1
 ·rw [hq he];exact ⟨Int.le_refl _,hm⟩
theorem aBi {b:List UInt8} {r:Rd} (h:(aR b r).2.err≠0):(aR b r).1=0:=by
 unfold aR at h ⊢
 split
 ·rename_i h1
  rw [if_pos h1] at h
  split
  ·rename_i e;rw [e] at h;exact absurd rfl h
  ·rfl
 ·rfl
theorem xD {b:List UInt8} {lo hi:Int} {r:Rd} (h:(eI b lo hi r).2.err≠0):(eI b lo hi r).1=0:=by
 unfold eI at h ⊢
 split
 ·rename_i h1
  split
  ·rfl
  ·split
   ·rfl
   ·rename_i h2 h3
    rw [if_pos h1,if_neg h2,if_neg h3] at h
    exact absurd h1 h
 ·rename_i h1;exact aBi h1
theorem eJ {b:List UInt8} {most:Int} {r:Rd} (h:(bF b most r).2.err≠0):(bF b most r).1=0:=by
 unfold bF at h ⊢
 split
 ·rename_i h1
  split
  ·rfl
  ·rename_i h2
   rw [if_pos h1,if_neg h2] at h
   exact absurd h1 h
 ·rename_i h1;exact xD h1
theorem aR8 (z:List V) (parts:List (Nat×V)) (fr:Option Nat) (S:St):type_of% (bsl 5 z parts fr S (by decide)):=bsl 5 z parts fr S (by decide)
theorem bJt:cP prog 62=some none:=by kernel_rfl
theorem aMs (z:List V) (parts:List (Nat×V)) (fr:Option Nat) (S:St):type_of% (bsl 4 z parts fr S (by decide)):=bsl 4 z parts fr S (by decide)
theorem bJu:cP prog 64=some none:=by kernel_rfl
theorem g63 {b:List UInt8} (hb:b.length<1000000000) {S:St} {a:Nat} (ha:a<S.next) {r:Rd} (hr:r.pos≤b.length) (w:WF S) (hS:S.heap.get a=some (.row 0 3 [r.cells b])) {K:KW}
  (H:∀ v X,Ext (St.at S a ((aO b (dE b) 8 r).2.cells b)) X→Own (St.at S a ((aO b (dE b) 8 r).2.cells b)) X 4 v ((aO b (dE b) 8 r).1.map Ser.enc)→(aO b (dE b) 8 r).2.pos≤b.length→K v X):
  C 63 [.ptr a 0 0 0,.int .i64 8,.func 64 [] []] S K:=by
 refine v63 ?_
 delta Tryz.f63;simp only [↓cw,↓reduceIte,Nat.reduceLT,kk]
 refine Eq.mpr ((aU0 hb hr 8).eq hS _) ?_
 have hc:=eC (most:=8) hr
 obtain ⟨h0,h24⟩:=fJ (b:=b) (r:=r) (show (0:Int)≤8 by decide) eJ
 unfold aO at H
 generalize bF b 8 r=y at hc h0 h24 H ⊢
 obtain ⟨n,r0⟩:=y
 simp only at hc h0 h24 H ⊢
 obtain ⟨n,rfl⟩:=Int.eq_ofNat_of_zero_le h0
 rw [show ((n:Int)).toNat=n from by omega] at H
 refine dB (fun m vs X=>∃ (i:Nat) (r1:Rd) (v:V) (done:List Ser),i+m=n∧vs=[v,.int .i64 (i:Int)]∧Ext (St.at S a (r1.cells b)) X∧Own (St.at S a (r1.cells b)) X 4 v (done.map Ser.enc)∧done.length=i∧r1.pos≤b.length∧done++(aH (dE b) m r1).1=(aH (dE b) n r0).1∧(aH (dE b) m r1).2=(aH (dE b) n r0).2) ?_ (n:=n) ⟨0,r0,.nils,[],by omega,rfl,Ext.refl _,Own.nil _ _ _,rfl,hc,rfl,rfl⟩
 rintro m vs X ⟨i,r1,v,done,hi,rfl,x,o,hd,hp,e1,e2⟩ aF hag
 have hXa:=x.old a _ (St.at_get S a _)
 have hn:S.next≤X.next:=x.next
 by_cases hin:(i:Int)<(n:Int)
 ·obtain ⟨m,rfl⟩:∃ m',m=m'+1:=⟨m - 1,by omega⟩
  simp only [↓cw,↓reduceIte,Nat.reduceLT,kk,hin,if_true]
  refine Eq.mpr ((aRu b r1).eq_same hXa _) ?_
  by_cases he:r1.err=0
  ·simp only [↓cw,↓reduceIte,Nat.reduceLT,kk,he,if_true,if_false,not_true_eq_false,↓nI prog C bJu,List.nil_append,List.cons_append]
   refine Eq.mpr ((r64 hb hp).eq hXa _) ?_
   have x':=Go.Proofs.YtoaibmbldmckaaaGreat.Ext.at ha x (d:=(dE b r1).2.cells b)
   have o':=Go.Proofs.YtoaibmbldmckaaaGreat.Own.at ha o (d:=(dE b r1).2.cells b) (e:=(dE b r1).2.cells b)
   have wS:=St.wf_at (d:=(dE b r1).2.cells b) ha w
   rw [show (⟨X.next,X.heap.put a (.row 0 3 [(dE b r1).2.cells b])⟩:St)=St.at X a ((dE b r1).2.cells b) from rfl]
   generalize St.at X a ((dE b r1).2.cells b)=Y at x' o' ⊢
   simp only [aH,he,if_true] at e1 e2
   have hq:=aN9 hp
   generalize dE b r1=z at x' o' e1 e2 wS hq ⊢
   obtain ⟨rt,r2⟩:=z
   simp only at x' o' e1 e2 wS hq ⊢
   have x2:Ext Y ⟨Y.next+1,Y.heap.put Y.next (.row 0 4 [rt.enc])⟩:=Ext.new (x'.wf wS) _
   obtain ⟨v2,X2,q1,x3,n3,o2⟩:=(o'.ext x2).push (b:=40) (x'.trans x2) wS (u:=.sl Y.next 0 4 0 1) (cs:=[rt.enc]) (by simp only [aL,aA];rfl) (fun c hc=>by rcases List.mem_singleton.1 hc with rfl;exact (Go.Proofs.YtoaibmbldmckaaaGreat.ser4) _) (by simp) (by simp;omega) (by simp [fL];omega)
   simp only [Ser.enc] at q1
   simp only [↓cw,↓reduceIte,Nat.reduceLT,kk,aMs,Ser.enc,q1,gJ (show i<1000000000 by omega)]
   exact hag m _ _ (by omega) ⟨i+1,r2,v2,done++[rt],by omega,rfl,x3,by simpa using o2,by simp [hd],hq,by rw [←e1];simp,e2⟩
  ·simp only [↓cw,↓reduceIte,Nat.reduceLT,kk,he,if_true,if_false,not_false_eq_true]
   simp only [aH,he,if_false] at e1 e2
   rw [←e1,←e2] at H
   exact H v X x (by simpa using o) hp
 ·obtain rfl:m=0:=by omega
  simp only [↓cw,↓reduceIte,Nat.reduceLT,kk,hin,if_false]
  simp only [aH] at e1 e2
  rw [←e1,←e2] at H
  exact H v X x (by simpa using o) hp
theorem bJv:cP prog 68=some none:=by kernel_rfl
theorem g67 {b:List UInt8} (hb:b.length<1000000000) {S:St} {a:Nat} (ha:a<S.next) {r:Rd} (hr:r.pos≤b.length) (w:WF S) (hS:S.heap.get a=some (.row 0 3 [r.cells b])) {K:KW}
  (H:∀ v X,Ext (St.at S a ((aO b (dX b) 8 r).2.cells b)) X→Own (St.at S a ((aO b (dX b) 8 r).2.cells b)) X 5 v ((aO b (dX b) 8 r).1.map Sess.enc)→(aO b (dX b) 8 r).2.pos≤b.length→K v X):
  C 67 [.ptr a 0 0 0,.int .i64 8,.func 68 [] []] S K:=by
 refine v67 ?_
 delta Tryz.f67;simp only [↓cw,↓reduceIte,Nat.reduceLT,kk]
 refine Eq.mpr ((aU0 hb hr 8).eq hS _) ?_
 have hc:=eC (most:=8) hr
 obtain ⟨h0,h24⟩:=fJ (b:=b) (r:=r) (show (0:Int)≤8 by decide) eJ
 unfold aO at H
 generalize bF b 8 r=y at hc h0 h24 H ⊢
 obtain ⟨n,r0⟩:=y
 simp only at hc h0 h24 H ⊢
 obtain ⟨n,rfl⟩:=Int.eq_ofNat_of_zero_le h0
 rw [show ((n:Int)).toNat=n from by omega] at H
 refine dB (fun m vs X=>∃ (i:Nat) (r1:Rd) (v:V) (done:List Sess),i+m=n∧vs=[v,.int .i64 (i:Int)]∧Ext (St.at S a (r1.cells b)) X∧Own (St.at S a (r1.cells b)) X 5 v (done.map Sess.enc)∧done.length=i∧r1.pos≤b.length∧done++(aH (dX b) m r1).1=(aH (dX b) n r0).1∧(aH (dX b) m r1).2=(aH (dX b) n r0).2) ?_ (n:=n) ⟨0,r0,.nils,[],by omega,rfl,Ext.refl _,Own.nil _ _ _,rfl,hc,rfl,rfl⟩
 rintro m vs X ⟨i,r1,v,done,hi,rfl,x,o,hd,hp,e1,e2⟩ aF hag
 have hXa:=x.old a _ (St.at_get S a _)
 have hn:S.next≤X.next:=x.next
 by_cases hin:(i:Int)<(n:Int)
 ·obtain ⟨m,rfl⟩:∃ m',m=m'+1:=⟨m - 1,by omega⟩
  simp only [↓cw,↓reduceIte,Nat.reduceLT,kk,hin,if_true]
  refine Eq.mpr ((aRu b r1).eq_same hXa _) ?_
  by_cases he:r1.err=0
  ·simp only [↓cw,↓reduceIte,Nat.reduceLT,kk,he,if_true,if_false,not_true_eq_false,↓nI prog C bJv,List.nil_append,List.cons_append]
   refine Eq.mpr ((r68 hb hp).eq hXa _) ?_
   have x':=Go.Proofs.YtoaibmbldmckaaaGreat.Ext.at ha x (d:=(dX b r1).2.cells b)
   have o':=Go.Proofs.YtoaibmbldmckaaaGreat.Own.at ha o (d:=(dX b r1).2.cells b) (e:=(dX b r1).2.cells b)
   have wS:=St.wf_at (d:=(dX b r1).2.cells b) ha w
   rw [show (⟨X.next,X.heap.put a (.row 0 3 [(dX b r1).2.cells b])⟩:St)=St.at X a ((dX b r1).2.cells b) from rfl]
   generalize St.at X a ((dX b r1).2.cells b)=Y at x' o' ⊢
   simp only [aH,he,if_true] at e1 e2
   have hq:=aNa hp
   generalize dX b r1=z at x' o' e1 e2 wS hq ⊢
   obtain ⟨rt,r2⟩:=z
   simp only at x' o' e1 e2 wS hq ⊢
   have x2:Ext Y ⟨Y.next+1,Y.heap.put Y.next (.row 0 5 [rt.enc])⟩:=Ext.new (x'.wf wS) _
   obtain ⟨v2,X2,q1,x3,n3,o2⟩:=(o'.ext x2).push (b:=40) (x'.trans x2) wS (u:=.sl Y.next 0 5 0 1) (cs:=[rt.enc]) (by simp only [aL,aA];rfl) (fun c hc=>by rcases List.mem_singleton.1 hc with rfl;exact (Go.Proofs.YtoaibmbldmckaaaGreat.sess5) _) (by simp) (by simp;omega) (by simp [fL];omega)
   simp only [Sess.enc] at q1
   simp only [↓cw,↓reduceIte,Nat.reduceLT,kk,aR8,Sess.enc,q1,gJ (show i<1000000000 by omega)]
   exact hag m _ _ (by omega) ⟨i+1,r2,v2,done++[rt],by omega,rfl,x3,by simpa using o2,by simp [hd],hq,by rw [←e1];simp,e2⟩
  ·simp only [↓cw,↓reduceIte,Nat.reduceLT,kk,he,if_true,if_false,not_false_eq_true]
   simp only [aH,he,if_false] at e1 e2
   rw [←e1,←e2] at H
   exact H v X x (by simpa using o) hp
 ·obtain rfl:m=0:=by omega
  simp only [↓cw,↓reduceIte,Nat.reduceLT,kk,hin,if_false]
  simp only [aH] at e1 e2
  rw [←e1,←e2] at H
  exact H v X x (by simpa using o) hp
theorem bFh:cP prog 150=some none:=by kernel_rfl
theorem bJw {b:List UInt8} (hb:b.length<1000000000) {S:St} {a:Nat} (ha:a<S.next) {r:Rd} (hr:r.pos≤b.length) (w:WF S) (hS:S.heap.get a=some (.row 0 3 [r.cells b])) {K:KW}
  (H:∀ v X,Ext (St.at S a ((aO b (eB b) 12 r).2.cells b)) X→Own (St.at S a ((aO b (eB b) 12 r).2.cells b)) X 4 v ((aO b (eB b) 12 r).1.map Part.enc)→(aO b (eB b) 12 r).2.pos≤b.length→K v X):
  C 149 [.ptr a 0 0 0,.int .i64 12,.func 150 [] []] S K:=by
 refine bGo ?_
 delta Tryz.f149;simp only [↓cw,↓reduceIte,Nat.reduceLT,kk]
 refine Eq.mpr ((aU0 hb hr 12).eq hS _) ?_
 have hc:=eC (most:=12) hr
 obtain ⟨h0,h24⟩:=fJ (b:=b) (r:=r) (show (0:Int)≤12 by decide) eJ
 unfold aO at H
 generalize bF b 12 r=y at hc h0 h24 H ⊢
 obtain ⟨n,r0⟩:=y
 simp only at hc h0 h24 H ⊢
 obtain ⟨n,rfl⟩:=Int.eq_ofNat_of_zero_le h0
 rw [show ((n:Int)).toNat=n from by omega] at H
 refine dB (fun m vs X=>∃ (i:Nat) (r1:Rd) (v:V) (done:List Part),i+m=n∧vs=[v,.int .i64 (i:Int)]∧Ext (St.at S a (r1.cells b)) X∧Own (St.at S a (r1.cells b)) X 4 v (done.map Part.enc)∧done.length=i∧r1.pos≤b.length∧done++(aH (eB b) m r1).1=(aH (eB b) n r0).1∧(aH (eB b) m r1).2=(aH (eB b) n r0).2) ?_ (n:=n) ⟨0,r0,.nils,[],by omega,rfl,Ext.refl _,Own.nil _ _ _,rfl,hc,rfl,rfl⟩
 rintro m vs X ⟨i,r1,v,done,hi,rfl,x,o,hd,hp,e1,e2⟩ aF hag
 have hXa:=x.old a _ (St.at_get S a _)
 have hn:S.next≤X.next:=x.next
 by_cases hin:(i:Int)<(n:Int)
 ·obtain ⟨m,rfl⟩:∃ m',m=m'+1:=⟨m - 1,by omega⟩
  simp only [↓cw,↓reduceIte,Nat.reduceLT,kk,hin,if_true]
  refine Eq.mpr ((aRu b r1).eq_same hXa _) ?_
  by_cases he:r1.err=0
  ·simp only [↓cw,↓reduceIte,Nat.reduceLT,kk,he,if_true,if_false,not_true_eq_false,↓nI prog C bFh,List.nil_append,List.cons_append]
   refine Eq.mpr ((bJs hb hp).eq hXa _) ?_
   have x':=Go.Proofs.YtoaibmbldmckaaaGreat.Ext.at ha x (d:=(eB b r1).2.cells b)
   have o':=Go.Proofs.YtoaibmbldmckaaaGreat.Own.at ha o (d:=(eB b r1).2.cells b) (e:=(eB b r1).2.cells b)
   have wS:=St.wf_at (d:=(eB b r1).2.cells b) ha w
   rw [show (⟨X.next,X.heap.put a (.row 0 3 [(eB b r1).2.cells b])⟩:St)=St.at X a ((eB b r1).2.cells b) from rfl]
   generalize St.at X a ((eB b r1).2.cells b)=Y at x' o' ⊢
   simp only [aH,he,if_true] at e1 e2
   have hq:=aNb hp
   generalize eB b r1=z at x' o' e1 e2 wS hq ⊢
   obtain ⟨rt,r2⟩:=z
   simp only at x' o' e1 e2 wS hq ⊢
   have x2:Ext Y ⟨Y.next+1,Y.heap.put Y.next (.row 0 4 [rt.enc])⟩:=Ext.new (x'.wf wS) _
   obtain ⟨v2,X2,q1,x3,n3,o2⟩:=(o'.ext x2).push (b:=40) (x'.trans x2) wS (u:=.sl Y.next 0 4 0 1) (cs:=[rt.enc]) (by simp only [aL,aA];rfl) (fun c hc=>by rcases List.mem_singleton.1 hc with rfl;exact aKz _) (by simp) (by simp;omega) (by simp [fL];omega)
   simp only [Part.enc] at q1
   simp only [↓cw,↓reduceIte,Nat.reduceLT,kk,aMs,Part.enc,q1,gJ (show i<1000000000 by omega)]
   exact hag m _ _ (by omega) ⟨i+1,r2,v2,done++[rt],by omega,rfl,x3,by simpa using o2,by simp [hd],hq,by rw [←e1];simp,e2⟩
  ·simp only [↓cw,↓reduceIte,Nat.reduceLT,kk,he,if_true,if_false,not_false_eq_true]
   simp only [aH,he,if_false] at e1 e2
   rw [←e1,←e2] at H
   exact H v X x (by simpa using o) hp
 ·obtain rfl:m=0:=by omega
  simp only [↓cw,↓reduceIte,Nat.reduceLT,kk,hin,if_false]
  simp only [aH] at e1 e2
  rw [←e1,←e2] at H
  exact H v X x (by simpa using o) hp
def Posted.encW (u:V) (p:Posted):List V:=[.str p.ref.ser,.int .i64 p.ref.num,.int .i64 p.day.y,.int .i64 p.day.m,.int .i64 p.day.d,.int .i64 p.total.net,.int .i64 p.total.tax,.int .i64 p.total.gross,u,.str p.of.ser,.int .i64 p.of.num,.bool p.back]
def cJ (b:List UInt8) (r:Rd):Posted×Rd:=
 let x:=fA b 64 r
 let y:=mU b x.2
 let z:=fA b 64 y.2
 let k:=aR b z.2
 let l:=aO b (eB b) 12 k.2
 (⟨⟨x.1,0⟩,y.1,⟨0,0,0,l.1⟩,⟨z.1,k.1⟩,false⟩,l.2)
theorem Ext.lows {S X:St} (w:WF S) (hn:S.next≤X.next) (hx:WF X) (h:∀ y,y<S.next→X.heap.get y=S.heap.get y):Ext S X:=
 ⟨fun y b hy=>by rw [h y (w y b hy)];exact hy,hn,fun _=>hx⟩
theorem Own.ge {S0 S:St} {n:Nat} {v:V} {es:List (List V)} (h:Own S0 S n v es):∀ a ver m,v=.sl a ver n 0 m→S0.next≤a:=by
 intro a ver m hv
 rcases h.is with ⟨rfl,_⟩ | ⟨a',ver',tl,rfl,hl,_⟩
 ·cases hv
 ·cases hv;exact hl
theorem g66 {b:List UInt8} (hb:b.length<1000000000) {S:St} {a:Nat} (ha:a<S.next) {r:Rd} (hr:r.pos≤b.length) (w:WF S) (hS:S.heap.get a=some (.row 0 3 [r.cells b])) {K:KW}
  (H:∀ u X,Ext (St.at S a ((cJ b r).2.cells b)) X→Own (St.at S a ((cJ b r).2.cells b)) X 4 u ((cJ b r).1.total.parts.map Part.enc)→(cJ b r).2.pos≤b.length→K (.agg ((cJ b r).1.encW u)) X):
  C 66 [.ptr a 0 0 0] S K:=by
 refine v66 ?_
 have w2:WF ⟨S.next+1+1,S.heap⟩:=fun y c hy=>by have:=w y c hy;show y<S.next+1+1;omega
 have n1:S.next≠a:=by omega
 have n2:S.next+1≠a:=by omega
 have n3:S.next≠S.next+1:=by omega
 have n4:S.next+1≠S.next:=by omega
 delta Tryz.f66;simp only [↓cw,↓reduceIte,Nat.reduceLT,kk]
 refine Eq.mpr ((aRy hb hr 64).eq (by repeat' first | exact gS | assumption | refine gN ?_) _) ?_
 have p1:=cY (most:=64) hr
 simp only [↓cw,↓reduceIte,Nat.reduceLT,kk,aA,kE n1,kE n2,kE n3,kE n4]
 refine Eq.mpr ((bFf hb p1).eq (by repeat' first | exact gS | assumption | refine gN ?_) _) ?_
 have p2:=nW p1
 simp only [Date.enc]
 simp only [↓cw,↓reduceIte,Nat.reduceLT,kk,aA,kE n1,kE n2,kE n3,kE n4]
 refine Eq.mpr ((aRy hb p2 64).eq (by repeat' first | exact gS | assumption | refine gN ?_) _) ?_
 have p3:=cY (most:=64) p2
 simp only [↓cw,↓reduceIte,Nat.reduceLT,kk,aA,kE n1,kE n2,kE n3,kE n4]
 refine Eq.mpr ((r69 hb p3).eq (by repeat' first | exact gS | assumption | refine gN ?_) _) ?_
 have p4:=aK p3
 simp only [↓cw,↓reduceIte,Nat.reduceLT,kk,aA,kE n1,kE n2,kE n3,kE n4]
 refine bJw hb (a:=a) (by show a<S.next+1+1;omega) p4 ?_ (by repeat' first | exact gS | assumption | refine gN ?_) fun v X x o p5=>?_
 ·repeat' first | exact w2 | (refine kR (n:=S.next+1+1) ?_ (by omega) (by omega))
 have g2:=aE (x.old (S.next+1) _ (by unfold St.at;repeat' first | exact gS | assumption | refine gN ?_))
 have g1:=aE (x.old S.next _ (by unfold St.at;repeat' first | exact gS | assumption | refine gN ?_))
 have hnX:S.next+1+1≤X.next:=x.next
 have ga:=x.old a _ (St.at_get _ _ _)
 have oc:=o.cells
 have o1:=o.one
 simp only [↓cw,↓reduceIte,Nat.reduceLT,kk,aA,kE n1,kE n2,kE n3,kE n4,g2,g1,oc,o1]
 have wA:∀ c,WF (St.at S a c):=fun c=>St.wf_at ha w
 have y0:Ext (St.at S a ((cJ b r).2.cells b)) X:=by
  refine Ext.trans (Ext.lows (wA _) ?_ ?_ ?_) x
  ·show S.next≤S.next+1+1;omega
  ·exact St.wf_at (by show a<S.next+1+1;omega) (by repeat' first | exact w2 | (refine kR (n:=S.next+1+1) ?_ (by omega) (by omega)))
  ·intro y hy
   have hy':y<S.next:=hy
   by_cases e:y=a
   ·subst e;rw [St.at_get,St.at_get];rfl
   ·unfold St.at
    rw [Tr.get_put_neB _ _ _ _ trivial e,Tr.get_put_neB _ _ _ _ trivial e]
    repeat rw [Tr.get_put_neB _ _ _ _ trivial (by omega)]
 have y1:=Ext.put y0 (a:=S.next+1) (m:=X.next) (by show S.next≤S.next+1;omega) (by omega) (Nat.le_refl _) (wA _)
 refine H v _ (Ext.put (y1 _) (a:=S.next) (m:=X.next) (Nat.le_refl _) (by omega) (Nat.le_refl _) (wA _) _) ?_ p5
 refine Own.weaken (B:=St.at ⟨S.next+1+1,S.heap⟩ a ((cJ b r).2.cells b)) ?_ (by show S.next≤S.next+1+1;omega)
 have o2:Own (St.at ⟨S.next+1+1,S.heap⟩ a ((cJ b r).2.cells b)) X 4 v ((cJ b r).1.total.parts.map Part.enc):=o.weaken (Nat.le_refl _)
 exact (o2.put (k:=S.next+1) (Nat.le_refl _) fun y ver m hv=>by have:=Own.ge o2 y ver m hv;have h3:S.next+1+1≤y:=this;omega).put (k:=S.next) (Nat.le_refl _) fun y ver m hv=>by have:=Own.ge o2 y ver m hv;have h3:S.next+1+1≤y:=this;omega
theorem bJx:mE 76=some (.val (dI [])):=by kernel_rfl
theorem t76:VT 76 Tryz.f76 [] [(6,[2,3,4])]:=vt (by kernel_rfl)
theorem bFi (t:Nat) (a b:Int):bW prog .xor t (.int .i64 a) (.int .i64 b)=.ok (.int .i64 (wr .i64 ((BitVec.toNat (BitVec.ofInt IntKind.i64.bits a ^^^ BitVec.ofInt IntKind.i64.bits b):Nat):Int))):=rfl
theorem bFj {m:Nat} (h:m<2 ^ 63):BitVec.toNat (BitVec.ofInt 64 (m:Int) ^^^ BitVec.ofInt 64 0)=m:=by
 rw [show BitVec.ofInt 64 0=0#64 by decide,BitVec.xor_zero,BitVec.toNat_ofInt]
 omega
theorem bFk {m:Nat} (h:m<2 ^ 63):BitVec.toNat (BitVec.ofInt 64 (m:Int) ^^^ BitVec.ofInt 64 (-1))=2 ^ 64 - 1 - m:=by
 rw [show BitVec.ofInt 64 (-1)=BitVec.allOnes 64 by decide,BitVec.xor_allOnes,BitVec.toNat_not,BitVec.toNat_ofInt]
 omega
theorem bJy {m:Nat} (h:m<2 ^ 63):wr .i64 ((BitVec.toNat (BitVec.ofInt IntKind.i64.bits (m:Int) ^^^ BitVec.ofInt IntKind.i64.bits 0):Nat):Int)=(m:Int):=by
 have e:BitVec.toNat (BitVec.ofInt IntKind.i64.bits (m:Int) ^^^ BitVec.ofInt IntKind.i64.bits 0)=m:=bFj h
 rw [e,eX (by omega) (by omega)]
theorem bJz {m:Nat} (h:m<2 ^ 63):wr .i64 ((BitVec.toNat (BitVec.ofInt IntKind.i64.bits (m:Int) ^^^ BitVec.ofInt IntKind.i64.bits (-1)):Nat):Int)=-(m:Int) - 1:=by
 have e:BitVec.toNat (BitVec.ofInt IntKind.i64.bits (m:Int) ^^^ BitVec.ofInt IntKind.i64.bits (-1))=2 ^ 64 - 1 - m:=bFk h
 rw [e]
 simp [wr,lo,hi,IntKind.wrap,IntKind.min,IntKind.max,IntKind.bits,IntKind.signed];omega
theorem bK0 (t:Nat) (k:IntKind) (a:Int) (s:Nat):bW prog .shl t (.int k a) (.int .i64 (s:Int))=.ok (.int k (wr k (a*2 ^ (min s k.bits)))):=by
 have h:¬ ((s:Int)<0):=by omega
 simp [bW,tU,h,wr]
theorem i7i {i:Nat} (h:7*i≤63):wr .i64 (7*(i:Int))=((7*i:Nat):Int):=by
 rw [eX (by omega) (by omega)];omega
theorem b76 {b:List UInt8} (hb:b.length<1000000000) {r:Rd} (hr:r.pos≤b.length):fD prog C (dI []) (eG [(6,[2,3,4])]) 76 [.ptr 0 0 0 0] ⟨1,Tr.nil.put 0 (.row 0 3 [r.cells b])⟩ fun v0 S0=>v0=.int .i64 (aR b r).1∧S0.heap.get 0=some (.row 0 3 [(aR b r).2.cells b]):=by
 rw [t76]
 delta Tryz.f76;simp only [↓cw,↓reduceIte,Nat.reduceLT,kk,Rd.cells,aA]
 by_cases he:r.err=0
 ·simp only [↓cw,↓reduceIte,Nat.reduceLT,kk,he,if_true,if_false,not_true_eq_false]
  refine dB (fun m vs X=>∃ i acc:Nat,m=10 - i∧i≤9∧vs=[.int .i64 0,.int .u64 (acc:Int),.int .i64 (i:Int)]∧X.heap=Tr.nil.put 0 (Blk.row 0 3 [[V.imm (b.map eN),V.int IntKind.i64 (r.pos:Int),V.int IntKind.i64 0]])∧acc<2 ^ (7*i)∧r.pos+i≤b.length∧Go.Pack.rdL i acc (b.drop (r.pos+i))=Go.Pack.rdL 0 0 (b.drop r.pos)) ?_ ⟨0,0,rfl,by omega,rfl,rfl,by decide,by omega,rfl⟩
  rintro m vs ⟨nx,hp⟩ ⟨i,acc,rfl,hi,rfl,hX,ha,hpi,hrd⟩ aF hag
  simp only at hX
  subst hX
  have hw:wr .i64 ((r.pos:Int)+(i:Int))=((r.pos+i:Nat):Int):=by rw [eX (by omega) (by omega)];omega
  simp only [↓cw,↓reduceIte,Nat.reduceLT,kk,aA,hw]
  by_cases hs:b.length≤r.pos+i
  ·simp only [↓cw,↓reduceIte,Nat.reduceLT,kk,show ((b.length:Int)≤((r.pos+i:Nat):Int))=True by simp;omega,if_true]
   have hN:aR b r=(0,⟨r.pos,3⟩):=by unfold aR;rw [if_pos he,←hrd,List.drop_eq_nil_of_le hs];rfl
   rw [hN]
   exact ⟨rfl,Tr.get_put_sameB _ _ _ trivial⟩
  ·obtain ⟨c,hc⟩:∃ c,b[r.pos+i]?=some c:=⟨_,List.getElem?_eq_getElem (by omega)⟩
   have hd:b.drop (r.pos+i)=c::b.drop (r.pos+(i+1)):=by
    obtain ⟨hl,hcc⟩:=List.getElem?_eq_some_iff.1 hc
    rw [←hcc];exact (List.getElem_cons_drop hl).symm
   rw [hd,aH7] at hrd
   have hN:aR b r=(match Go.Pack.rdL 0 0 (b.drop r.pos) with
    | .ok (u,t)=>(Go.Pack.zag u,⟨b.length - t.length,0⟩)
    | .error e=>(0,⟨r.pos,e⟩)):=by unfold aR;rw [if_pos he]<;>rfl
   rw [←hrd] at hN
   have hu8:(eN c)[0]?=some (.int .u8 (c.toNat:Int)):=rfl
   by_cases h91:i=9∧1<c.toNat
   ·rw [if_pos h91] at hN
    simp only [↓cw,↓reduceIte,Nat.reduceLT,kk,show ((b.length:Int)≤((r.pos+i:Nat):Int))=False by simp;omega,if_false,tR hc,hu8,show ((i:Int)=9)=True by simp;omega,if_true,show ((1:Int)<(c.toNat:Int))=True by simp;omega]
    rw [hN]
    exact ⟨rfl,Tr.get_put_sameB _ _ _ trivial⟩
   rw [if_neg h91] at hN
   obtain ⟨q1,q2,q3,q4,q5⟩:=aY3 hi ha h91
   have hlow:wr .u64 ((c.toNat % 128:Nat):Int)=((c.toNat % 128:Nat):Int):=aDq (by omega)
   have h99:∀ (A B:Prop),(if (i:Int)=9 then (if (1:Int)<(c.toNat:Int) then A else B) else B)=B:=by
    intro A B
    split
    ·rw [if_neg (by omega)]
    ·rfl
   simp only [↓cw,↓reduceIte,Nat.reduceLT,kk,show ((b.length:Int)≤((r.pos+i:Nat):Int))=False by simp;omega,if_false,tR hc,hu8,h99,aY2,aLe,hlow,i7i q5,bK0,sh7 q5 q1,orK,aY4 ha q1 q2 q3,gJ (show i<1000000000 by omega)]
   by_cases h128:128≤c.toNat
   ·rw [if_pos h128] at hrd
    rw [if_neg (show ¬ (c.toNat:Int)<128 by omega)]
    exact hag (10 - (i+1)) _ _ (by omega) ⟨i+1,_,rfl,by omega,rfl,rfl,q4 (by omega),by omega,by rw [if_neg h91] at hrd;exact hrd⟩
   rw [if_neg h128] at hN
   rw [if_pos (show (c.toNat:Int)<128 by omega)]
   by_cases h0:c.toNat=0∧0<i
   ·rw [if_pos h0] at hN
    simp only [show ((c.toNat:Int)=0)=True by simp;omega,show ((0:Int)<(i:Int))=True by simp;omega,if_true]
    rw [hN]
    exact ⟨rfl,Tr.get_put_sameB _ _ _ trivial⟩
   rw [if_neg h0] at hN
   have h00:∀ (A B:Prop),(if (c.toNat:Int)=0 then (if (0:Int)<(i:Int) then A else B) else B)=B:=by
    intro A B
    split
    ·rw [if_neg (by omega)]
    ·rfl
   have hv:wr .i64 (wr .i64 ((r.pos:Int)+(i:Int))+1)=((b.length - (b.drop (r.pos+(i+1))).length:Nat):Int):=by
    have e:wr .i64 ((r.pos:Int)+(i:Int))=((r.pos+i:Nat):Int):=by rw [eX (by omega) (by omega)];omega
    rw [e,eX (by omega) (by omega),List.length_drop];omega
   generalize acc+c.toNat % 128*2 ^ (7*i)=u at *
   have wu:wr .i64 ((u / 2:Nat):Int)=((u / 2:Nat):Int):=eX (by omega) (by omega)
   by_cases hodd:u % 2=1
   ·have hz:Go.Pack.zag u=-((u / 2:Nat):Int) - 1:=by unfold Go.Pack.zag;rw [if_pos hodd]
    simp only [↓cw,↓reduceIte,Nat.reduceLT,kk,h00,hv,aTw,unK,aTx q2,hodd,aLf,aTy,wu,Int.natCast_one,show wr .i64 (1:Int)=1 from rfl,show wr .i64 ((0:Int) - 1)=-1 from rfl,bFi,bJz (show u / 2<2 ^ 63 by omega)]
    rw [hN]
    exact ⟨congrArg (V.int .i64) hz.symm,Tr.get_put_sameB _ _ _ trivial⟩
   ·have hz:Go.Pack.zag u=((u / 2:Nat):Int):=by unfold Go.Pack.zag;rw [if_neg hodd]
    have h0:u % 2=0:=by omega
    simp only [↓cw,↓reduceIte,Nat.reduceLT,kk,h00,hv,aTw,unK,aTx q2,h0,aLf,aTy,wu,Int.natCast_zero,show wr .i64 (0:Int)=0 from rfl,show wr .i64 ((0:Int) - 0)=0 from rfl,bFi,bJy (show u / 2<2 ^ 63 by omega)]
    rw [hN]
    exact ⟨congrArg (V.int .i64) hz.symm,Tr.get_put_sameB _ _ _ trivial⟩
 ·simp only [↓cw,↓reduceIte,Nat.reduceLT,kk,he,if_true,if_false,not_false_eq_true,aR]
  trivial
theorem r76 {b:List UInt8} (hb:b.length<1000000000) {r:Rd} (hr:r.pos≤b.length):FRd 76 [] b r (.int .i64 (aR b r).1) (aR b r).2:=FnR.of bJx (lv:=eG [(6,[2,3,4])]) (Pt.head rfl) (Rd.clo b r) (b76 hb hr) rfl (Rd.clo b _)
theorem bFl:mE 159=some (.val (dI [])):=by kernel_rfl
theorem bK1:VT 159 Tryz.f159 [] []:=vt (by kernel_rfl)
theorem bFm {b:List UInt8} (hb:b.length<1000000000) {r:Rd} (hr:r.pos≤b.length) (lo hi:Int):FRd 159 [.int .i64 lo,.int .i64 hi] b r (.int .i64 (eI b lo hi r).1) (eI b lo hi r).2:=by
 refine FnR.of bFl (lv:=eG []) (Pt.head rfl) (Rd.clo b r) ?_ rfl (Rd.clo b _)
 rw [bK1]
 delta Tryz.f159;simp only [↓cw,↓reduceIte,Nat.reduceLT,kk,Rd.cells,aA]
 refine Eq.mpr ((r76 hb hr).eq (Tr.get_put_sameB _ _ _ trivial) _) ?_
 unfold eI
 generalize aR b r=x
 obtain ⟨n,p,e⟩:=x
 simp only [↓cw,↓reduceIte,Nat.reduceLT,kk,Rd.cells,aA]
 by_cases he:e=0
 ·by_cases h1:n<lo
  ·simp only [↓cw,↓reduceIte,Nat.reduceLT,kk,he,h1,if_true,aA]
   first | exact ⟨rfl,Tr.get_put_sameB _ _ _ trivial⟩ | exact Tr.get_put_sameB _ _ _ trivial
  ·by_cases h2:hi<n
   ·simp only [↓cw,↓reduceIte,Nat.reduceLT,kk,he,h1,h2,if_true,if_false,aA]
    first | exact ⟨rfl,Tr.get_put_sameB _ _ _ trivial⟩ | exact Tr.get_put_sameB _ _ _ trivial
   ·simp only [↓cw,↓reduceIte,Nat.reduceLT,kk,he,h1,h2,if_true,if_false,aA]
    first | exact ⟨rfl,Tr.get_put_sameB _ _ _ trivial⟩ | exact Tr.get_put_sameB _ _ _ trivial
 ·simp only [↓cw,↓reduceIte,Nat.reduceLT,kk,he,if_true,if_false,aA]
  first | exact ⟨rfl,Tr.get_put_sameB _ _ _ trivial⟩ | exact Tr.get_put_sameB _ _ _ trivial
theorem bFn:mE 73=some (.val (dI [])):=by kernel_rfl
theorem t73:VT 73 Tryz.f73 [] []:=vt (by kernel_rfl)
theorem b73 {b:List UInt8} (hb:b.length<1000000000) {r:Rd} (hr:r.pos≤b.length) (most:Int):fD prog C (dI []) (eG []) 73 [.ptr 0 0 0 0,.int .i64 most] ⟨1,Tr.nil.put 0 (.row 0 3 [r.cells b])⟩ fun v0 S0=>v0=.int .i64 (bF b most r).1∧S0.heap.get 0=some (.row 0 3 [(bF b most r).2.cells b]):=by
 rw [t73]
 delta Tryz.f73;simp only [↓cw,↓reduceIte,Nat.reduceLT,kk,Rd.cells,aA]
 refine Eq.mpr ((bFm hb hr 0 most).eq (Tr.get_put_sameB _ _ _ trivial) _) ?_
 have hp:=jC (lo:=0) (hi:=most) hr
 unfold bF
 generalize eI b 0 most r=x at hp ⊢
 obtain ⟨n,p,e⟩:=x
 simp only at hp
 have hw:wr .i64 ((b.length:Int) - (p:Int))=(b.length:Int) - (p:Int):=eX (by omega) (by omega)
 simp only [↓cw,↓reduceIte,Nat.reduceLT,kk,Rd.cells,aA,hw]
 by_cases he:e=0
 ·by_cases h1:(b.length:Int) - (p:Int)<n
  ·simp only [↓cw,↓reduceIte,Nat.reduceLT,kk,he,h1,if_true,aA,hw]
   first | exact ⟨rfl,Tr.get_put_sameB _ _ _ trivial⟩ | exact Tr.get_put_sameB _ _ _ trivial
  ·simp only [↓cw,↓reduceIte,Nat.reduceLT,kk,he,h1,if_true,if_false,aA,hw]
   first | exact ⟨rfl,Tr.get_put_sameB _ _ _ trivial⟩ | exact Tr.get_put_sameB _ _ _ trivial
 ·simp only [↓cw,↓reduceIte,Nat.reduceLT,kk,he,if_true,if_false,aA]
  first | exact ⟨rfl,Tr.get_put_sameB _ _ _ trivial⟩ | exact Tr.get_put_sameB _ _ _ trivial
theorem r73 {b:List UInt8} (hb:b.length<1000000000) {r:Rd} (hr:r.pos≤b.length) (most:Int):FRd 73 [.int .i64 most] b r (.int .i64 (bF b most r).1) (bF b most r).2:=
 FnR.of bFn (lv:=eG []) (Pt.head rfl) (Rd.clo b r) (b73 hb hr most) rfl (Rd.clo b _)
theorem bK2:mE 77=some (.val (dI [])):=by kernel_rfl
theorem t77:VT 77 Tryz.f77 [] []:=vt (by kernel_rfl)
theorem r77 {b:List UInt8} (hb:b.length<1000000000) {r:Rd} (hr:r.pos≤b.length):FRd 77 [] b r (.bool (jE b r).1) (jE b r).2:=by
 refine FnR.of bK2 (lv:=eG []) (Pt.head rfl) (Rd.clo b r) ?_ rfl (Rd.clo b _)
 rw [t77]
 delta Tryz.f77;simp only [↓cw,↓reduceIte,Nat.reduceLT,kk,Rd.cells,aA]
 refine Eq.mpr ((r76 hb hr).eq (Tr.get_put_sameB _ _ _ trivial) _) ?_
 have hz0:=aBi (b:=b) (r:=r)
 unfold jE
 generalize aR b r=x at hz0 ⊢
 obtain ⟨n,p,e⟩:=x
 simp only at hz0
 simp only [↓cw,↓reduceIte,Nat.reduceLT,kk,Rd.cells,aA]
 by_cases he:e=0
 ·by_cases h1:n=0
  ·simp only [↓cw,↓reduceIte,Nat.reduceLT,kk,he,h1,if_true,if_false,not_true_eq_false,aA,show ((0:Int)=1)=False by simp,decide_false]
   first | exact ⟨rfl,Tr.get_put_sameB _ _ _ trivial⟩ | exact Tr.get_put_sameB _ _ _ trivial
  ·by_cases h2:n=1
   ·simp only [↓cw,↓reduceIte,Nat.reduceLT,kk,he,h2,if_true,if_false,not_true_eq_false,not_false_eq_true,aA,show ((1:Int)=0)=False by simp,decide_true]
    first | exact ⟨rfl,Tr.get_put_sameB _ _ _ trivial⟩ | exact Tr.get_put_sameB _ _ _ trivial
   ·simp only [↓cw,↓reduceIte,Nat.reduceLT,kk,he,h1,h2,if_true,if_false,not_true_eq_false,not_false_eq_true,aA]
    first | exact ⟨rfl,Tr.get_put_sameB _ _ _ trivial⟩ | exact Tr.get_put_sameB _ _ _ trivial
 ·simp only [↓cw,↓reduceIte,Nat.reduceLT,kk,he,if_true,if_false,aA]
  exact ⟨by rw [hz0 he];rfl,Tr.get_put_sameB _ _ _ trivial⟩
theorem bK3:mE 78=some (.val (dI [])):=by kernel_rfl
theorem t78:VT 78 Tryz.f78 [] []:=vt (by kernel_rfl)
theorem r78 {b:List UInt8} {r:Rd}:FRd 78 [] b r (.int .i64 (iL b r).err) (iL b r):=by
 refine FnR.of bK3 (lv:=eG []) (Pt.head rfl) (Rd.clo b r) ?_ rfl (Rd.clo b _)
 rw [t78]
 obtain ⟨p,e⟩:=r
 delta Tryz.f78;simp only [↓cw,↓reduceIte,Nat.reduceLT,kk,Rd.cells,aA,iL]
 by_cases he:e=0
 ·by_cases h1:p<b.length
  ·simp only [↓cw,↓reduceIte,Nat.reduceLT,kk,he,show ((p:Int)<(b.length:Int))=True by simp;exact h1,if_pos h1,if_true,aA]
   trivial
  ·simp only [↓cw,↓reduceIte,Nat.reduceLT,kk,he,show ((p:Int)<(b.length:Int))=False by simp;omega,if_neg h1,if_true,if_false,aA]
   trivial
 ·simp only [↓cw,↓reduceIte,Nat.reduceLT,kk,he,if_true,if_false,aA]
  trivial
theorem bK5:mE 74=some (.val (dI [])):=by kernel_rfl
theorem t74:VT 74 Tryz.f74 [] []:=vt (by kernel_rfl)
theorem r74 {b:List UInt8} (hb:b.length<1000000000) {r:Rd} (hr:r.pos≤b.length) (most:Int):FRd 74 [.int .i64 most] b r (.str (fA b most r).1) (fA b most r).2:=by
 refine FnR.of bK5 (lv:=eG []) (Pt.head rfl) (Rd.clo b r) ?_ rfl (Rd.clo b _)
 rw [t74]
 delta Tryz.f74;simp only [↓cw,↓reduceIte,Nat.reduceLT,kk,Rd.cells,aA]
 refine Eq.mpr ((bFm hb hr 0 most).eq (Tr.get_put_sameB _ _ _ trivial) _) ?_
 have hp:=jC (lo:=0) (hi:=most) hr
 have hk:=vO (b:=b) (lo:=0) (hi:=most) (r:=r)
 unfold fA
 generalize eI b 0 most r=x at hp hk ⊢
 obtain ⟨n,p,e⟩:=x
 simp only at hp hk
 have hw:wr .i64 ((b.length:Int) - (p:Int))=(b.length:Int) - (p:Int):=eX (by omega) (by omega)
 simp only [↓cw,↓reduceIte,Nat.reduceLT,kk,Rd.cells,aA,hw]
 by_cases he:e=0
 ·obtain ⟨k1,k2⟩:=hk he
  obtain ⟨m,rfl⟩:=Int.eq_ofNat_of_zero_le k1
  by_cases h1:(b.length:Int) - (p:Int)<(m:Int)
  ·simp only [↓cw,↓reduceIte,Nat.reduceLT,kk,he,h1,if_true,aA,hw,not_true_eq_false,if_false]
   first | exact ⟨rfl,Tr.get_put_sameB _ _ _ trivial⟩ | exact Tr.get_put_sameB _ _ _ trivial
  ·have hw2:wr .i64 ((p:Int)+(m:Int))=((p+m:Nat):Int):=by rw [eX (by omega) (by omega)];omega
   simp only [↓cw,↓reduceIte,Nat.reduceLT,kk,he,h1,if_true,if_false,not_true_eq_false,aA,hw,hw2]
   have hm:((m:Int)).toNat=m:=by omega
   simp only [↓cw,↓reduceIte,Nat.reduceLT,kk,aY5 (show p+m≤b.length by omega),bFc,aA,hw2,hm]
   first | exact ⟨rfl,Tr.get_put_sameB _ _ _ trivial⟩ | exact Tr.get_put_sameB _ _ _ trivial
 ·simp only [↓cw,↓reduceIte,Nat.reduceLT,kk,he,if_true,if_false,not_false_eq_true,aA]
  first | exact ⟨rfl,Tr.get_put_sameB _ _ _ trivial⟩ | exact Tr.get_put_sameB _ _ _ trivial
theorem bK7:mE 75=some (.val (dI [])):=by kernel_rfl
theorem t75:VT 75 Tryz.f75 [] []:=vt (by kernel_rfl)
theorem r75 {b:List UInt8} (hb:b.length<1000000000) {r:Rd} (hr:r.pos≤b.length):FRd 75 [] b r (.agg (mU b r).1.enc) (mU b r).2:=by
 refine FnR.of bK7 (lv:=eG []) (Pt.head rfl) (Rd.clo b r) ?_ rfl (Rd.clo b _)
 rw [t75]
 delta Tryz.f75;simp only [↓cw,↓reduceIte,Nat.reduceLT,Nat.reduceAdd,kk,Rd.cells,aA,kC]
 refine Eq.mpr ((r76 hb hr).eq (by repeat' first | exact gS | refine gN ?_) _) ?_
 simp only [↓cw,↓reduceIte,Nat.reduceLT,Nat.reduceAdd,kk,Rd.cells,aA,kC]
 refine Eq.mpr ((r76 hb (aK hr)).eq (by repeat' first | exact gS | refine gN ?_) _) ?_
 simp only [↓cw,↓reduceIte,Nat.reduceLT,Nat.reduceAdd,kk,Rd.cells,aA,kC]
 refine Eq.mpr ((r76 hb (aK (aK hr))).eq (by repeat' first | exact gS | refine gN ?_) _) ?_
 simp only [↓cw,↓reduceIte,Nat.reduceLT,Nat.reduceAdd,kk,Rd.cells,aA,kC]
 exact ⟨rfl,by repeat' first | exact gS | refine gN ?_⟩
structure PL (S0 X:St) (us:List V) (l:List Posted):Prop where
 len:us.length=l.length
 own:∀ (i:Nat) (u:V) (p:Posted),us[i]?=some u→l[i]?=some p→Own S0 X 4 u (p.total.parts.map Part.enc)
 sep:∀ (i j:Nat) (u u':V) (y:Nat),us[i]?=some u→us[j]?=some u'→blkOf u=some y→blkOf u'=some y→i=j
theorem PL.nil (S0 X:St):PL S0 X [] []:=PL.mk rfl (by intro i u p h;simp at h) (by intro i j u u' y h;simp at h)
theorem PL.move {S0 S1 X Y:St} {us:List V} {l:List Posted} (h:PL S0 X us l) (hg:∀ (i:Nat) (u:V) (p:Posted),us[i]?=some u→l[i]?=some p→Own S0 X 4 u (p.total.parts.map Part.enc)→Own S1 Y 4 u (p.total.parts.map Part.enc)):PL S1 Y us l:=
 ⟨h.len,fun i u p h1 h2=>hg i u p h1 h2 (h.own i u p h1 h2),h.sep⟩
theorem PL.snoc {S0 X:St} {us:List V} {l:List Posted} (h:PL S0 X us l) {u:V} {p:Posted} (o:Own S0 X 4 u (p.total.parts.map Part.enc)) (hs:∀ (i:Nat) (u':V) (y:Nat),us[i]?=some u'→blkOf u'=some y→blkOf u≠some y):PL S0 X (us++[u]) (l++[p]):=by
 have one:∀ {k:Nat} {x:V},(us++[u])[k]?=some x→(us[k]?=some x∧k<us.length)∨(x=u∧k=us.length):=by
  intro k x hk
  by_cases c:k<us.length
  ·rw [List.getElem?_append_left c] at hk;exact .inl ⟨hk,c⟩
  ·rw [List.getElem?_append_right (by omega)] at hk
   have:=(List.getElem?_eq_some_iff.1 hk).1
   simp only [List.length_cons,List.length_nil] at this
   have hi:k - us.length=0:=by omega
   rw [hi] at hk
   cases hk
   exact .inr ⟨rfl,by omega⟩
 have hlen:=h.len
 refine PL.mk (by rw [List.length_append,List.length_append,hlen];rfl) ?_ ?_
 ·intro i u' p' h1 h2
  rcases one h1 with ⟨a1,a2⟩ | ⟨rfl,a2⟩
  ·rw [List.getElem?_append_left (by rw [←hlen];exact a2)] at h2
   exact h.own i u' p' a1 h2
  ·rw [List.getElem?_append_right (by rw [←hlen,a2];exact Nat.le_refl _),←hlen,a2,Nat.sub_self] at h2
   cases h2
   exact o
 ·intro i j v v' y h1 h2 h3 h4
  rcases one h1 with ⟨a1,a2⟩ | ⟨rfl,a2⟩<;>rcases one h2 with ⟨b1,b2⟩ | ⟨rfl,b2⟩
  ·exact h.sep i j v v' y a1 b1 h3 h4
  ·exact absurd h4 (hs i v y a1 h3)
  ·exact absurd h3 (hs j v' y b1 h4)
  ·omega
theorem aBj {S0 X:St} {n:Nat} {u:V} {es:List (List V)} (o:Own S0 X n u es) (p:Posted):(p.encW u).length=12∧aI (p.encW u)=true:=by
 refine ⟨rfl,?_⟩
 rcases o.is with ⟨rfl,_⟩ | ⟨a,ver,tl,rfl,_⟩<;>rfl
theorem Own.apart {S0 S1 X:St} {m n:Nat} (hmn:m≠n) {u v:V} {es fs:List (List V)} (o:Own S0 X m u es) (q:Own S1 X n v fs) {y:Nat} (hu:blkOf u=some y):blkOf v≠some y:=by
 intro hv
 rcases o.is with ⟨rfl,_⟩ | ⟨a1,ver1,tl1,rfl,_,_,h1⟩
 ·cases hu
 ·cases hu
  rcases q.is with ⟨rfl,_⟩ | ⟨a2,ver2,tl2,rfl,_,_,h2⟩
  ·cases hv
  ·cases hv
   have e:=h1.symm.trans h2
   injection e with e
   injection e with _ e2
   exact hmn e2
theorem bK9:cP prog 66=some none:=by kernel_rfl
theorem aRz (z:List V) (parts:List (Nat×V)) (fr:Option Nat) (S:St):type_of% (bsl 12 z parts fr S (by decide)):=bsl 12 z parts fr S (by decide)
theorem g65 {b:List UInt8} (hb:b.length<1000000000) {S:St} {a:Nat} (ha:a<S.next) {r:Rd} (hr:r.pos≤b.length) (w:WF S) (hS:S.heap.get a=some (.row 0 3 [r.cells b])) {K:KW}
  (H:∀ v us X,Ext (St.at S a ((aO b (cJ b) 40 r).2.cells b)) X→Own (St.at S a ((aO b (cJ b) 40 r).2.cells b)) X 12 v (List.zipWith Posted.encW us (aO b (cJ b) 40 r).1)→PL (St.at S a ((aO b (cJ b) 40 r).2.cells b)) X us (aO b (cJ b) 40 r).1→(aO b (cJ b) 40 r).2.pos≤b.length→K v X):
  C 65 [.ptr a 0 0 0,.int .i64 40,.func 66 [] []] S K:=by
 refine v65 ?_
 delta Tryz.f65;simp only [↓cw,↓reduceIte,Nat.reduceLT,kk]
 refine Eq.mpr ((aU0 hb hr 40).eq hS _) ?_
 have hc:=eC (most:=40) hr
 obtain ⟨h0,h24⟩:=fJ (b:=b) (r:=r) (show (0:Int)≤40 by decide) eJ
 unfold aO at H
 generalize bF b 40 r=y at hc h0 h24 H ⊢
 obtain ⟨n,r0⟩:=y
 simp only at hc h0 h24 H ⊢
 obtain ⟨n,rfl⟩:=Int.eq_ofNat_of_zero_le h0
 rw [show ((n:Int)).toNat=n from by omega] at H
 refine dB (fun m vs X=>∃ (i:Nat) (r1:Rd) (v:V) (us:List V) (done:List Posted),i+m=n∧vs=[v,.int .i64 (i:Int)]∧Ext (St.at S a (r1.cells b)) X∧Own (St.at S a (r1.cells b)) X 12 v (List.zipWith Posted.encW us done)∧PL (St.at S a (r1.cells b)) X us done∧done.length=i∧r1.pos≤b.length∧done++(aH (cJ b) m r1).1=(aH (cJ b) n r0).1∧(aH (cJ b) m r1).2=(aH (cJ b) n r0).2) ?_ (n:=n) ⟨0,r0,.nils,[],[],by omega,rfl,Ext.refl _,Own.nil _ _ _,PL.nil _ _,rfl,hc,rfl,rfl⟩
 rintro m vs X ⟨i,r1,v,us,done,hi,rfl,x,o,pl,hd,hp,e1,e2⟩ aF hag
 have hXa:=x.old a _ (St.at_get S a _)
 have hn:S.next≤X.next:=x.next
 by_cases hin:(i:Int)<(n:Int)
 ·obtain ⟨m,rfl⟩:∃ m',m=m'+1:=⟨m - 1,by omega⟩
  simp only [↓cw,↓reduceIte,Nat.reduceLT,kk,hin,if_true]
  refine Eq.mpr ((aRu b r1).eq_same hXa _) ?_
  by_cases he:r1.err=0
  ·simp only [↓cw,↓reduceIte,Nat.reduceLT,kk,he,if_true,if_false,not_true_eq_false,↓nI prog C bK9,List.nil_append,List.cons_append]
   refine g66 hb (a:=a) (by omega) hp (x.wf (St.wf_at ha w)) hXa fun u Y xY oY hq=>?_
   have x':Ext (St.at S a ((cJ b r1).2.cells b)) Y:=Ext.trans (Go.Proofs.YtoaibmbldmckaaaGreat.Ext.at ha x) xY
   have o':Own (St.at S a ((cJ b r1).2.cells b)) Y 12 v (List.zipWith Posted.encW us done):=(Go.Proofs.YtoaibmbldmckaaaGreat.Own.at ha o).ext xY
   have pl':PL (St.at S a ((cJ b r1).2.cells b)) Y us done:=pl.move fun i u p _ _ q=>(Go.Proofs.YtoaibmbldmckaaaGreat.Own.at ha q).ext xY
   have wS:=St.wf_at (d:=(cJ b r1).2.cells b) ha w
   have hsep:∀ (i:Nat) (u':V) (y:Nat),us[i]?=some u'→blkOf u'=some y→blkOf u≠some y:=by
    intro k u' y h1 h2 h3
    have hk:=(List.getElem?_eq_some_iff.1 h1).1
    have q:=pl.own k u' _ h1 (List.getElem?_eq_getElem (by rw [←pl.len];exact hk))
    have t1:=(cS q h2).2
    have t2:X.next≤y:=(cS oY h3).1
    omega
   have oU:Own (St.at S a ((cJ b r1).2.cells b)) Y 4 u ((cJ b r1).1.total.parts.map Part.enc):=oY.weaken hn
   have pl2:=pl'.snoc oU hsep
   simp only [aH,he,if_true] at e1 e2
   clear hsep oY pl' pl xY x o
   generalize cJ b r1=z at x' o' e1 e2 wS hq pl2 oU ⊢
   obtain ⟨rt,r2⟩:=z
   simp only at x' o' e1 e2 wS hq pl2 oU ⊢
   have x2:Ext Y ⟨Y.next+1,Y.heap.put Y.next (.row 0 12 [rt.encW u])⟩:=Ext.new (x'.wf wS) _
   obtain ⟨v2,X2,q1,x3,o2,_,st,n3⟩:=(o'.ext x2).pushG (b:=128) (x'.trans x2) wS (u:=.sl Y.next 0 12 0 1) (cs:=[rt.encW u]) (by simp only [aL,aA];rfl) (fun c hc=>by rcases List.mem_singleton.1 hc with rfl;exact aBj oU _) (by simp) (by simp;omega) (by simp [fL];omega)
   have hz:List.zipWith Posted.encW us done++[rt.encW u]=List.zipWith Posted.encW (us++[u]) (done++[rt]):=by
    have hl:us.length=done.length:=by have:=pl2.len;simp at this;exact this
    rw [List.zipWith_append hl];rfl
   have pl3:PL (St.at S a (r2.cells b)) X2 (us++[u]) (done++[rt]):=pl2.move fun k u' p _ _ q=>by
    have q2:=q.ext x2
    exact q2.same n3 fun y hy=>st y (cS q2 hy).2 (Own.apart (by decide) q2 (o'.ext x2) hy)
   simp only [Posted.encW] at q1
   simp only [↓cw,↓reduceIte,Nat.reduceLT,kk,aRz,Posted.encW,oU.one,oU.cells,q1,gJ (show i<1000000000 by omega)]
   exact hag m _ _ (by omega) ⟨i+1,r2,v2,us++[u],done++[rt],by omega,rfl,x3,hz▸o2,pl3,by simp [hd],hq,by rw [←e1];simp,e2⟩
  ·simp only [↓cw,↓reduceIte,Nat.reduceLT,kk,he,if_true,if_false,not_false_eq_true]
   simp only [aH,he,if_false] at e1 e2
   rw [←e1,←e2] at H
   exact H v us X x (by simpa using o) (by simpa using pl) hp
 ·obtain rfl:m=0:=by omega
  simp only [↓cw,↓reduceIte,Nat.reduceLT,kk,hin,if_false]
  simp only [aH] at e1 e2
  rw [←e1,←e2] at H
  exact H v us X x (by simpa using o) (by simpa using pl) hp
structure Rds {α:Type} (b:List UInt8) (f:Rd→α×Rd) (g:List UInt8→Except Int (α×List UInt8)):Prop where
 pos:∀ r:Rd,r.pos≤b.length→(f r).2.pos≤b.length
 bad:∀ r:Rd,r.err≠0→(f r).2.err=r.err
 good:∀ (r:Rd) (a:α) (t:List UInt8),r.pos≤b.length→r.err=0→g (b.drop r.pos)=.ok (a,t)→(f r).1=a∧(f r).2.err=0∧t=b.drop (f r).2.pos
 fail:∀ (r:Rd) (e:Int),r.pos≤b.length→r.err=0→g (b.drop r.pos)=.error e→(f r).2.err=e
def Rb {α β:Type} (f:Rd→α×Rd) (f':Rd→β×Rd):Rd→(α×β)×Rd:=fun r=>(((f r).1,(f' (f r).2).1),(f' (f r).2).2)
def Rm {α β:Type} (h:α→β) (f:Rd→α×Rd):Rd→β×Rd:=fun r=>(h (f r).1,(f r).2)
theorem suf {b x t:List UInt8} {p:Nat} (hp:p≤b.length) (h:b.drop p=x++t):t=b.drop (b.length - t.length):=by
 have hl:(b.drop p).length=b.length - p:=List.length_drop ..
 rw [h,List.length_append] at hl
 have e:b.length - t.length=p+x.length:=by omega
 rw [e,←List.drop_drop,h,List.drop_left']
 rfl
theorem Rds.num (b:List UInt8):Rds b (aR b) Go.Pack.numR:=by
 refine ⟨fun r hr=>aK hr,fun r he=>by unfold aR;rw [if_neg he],fun r a t hr he hg=>?_,fun r e hr he hg=>?_⟩
 ·unfold Go.Pack.numR at hg
  cases e:Go.Pack.rdL 0 0 (b.drop r.pos) with
  | error z=>rw [e] at hg;cases hg
  | ok z=>
   obtain ⟨u,t'⟩:=z
   rw [e] at hg
   cases hg
   obtain ⟨u',_,e2,_,_⟩:=Go.Pack.rd_back _ 0 0 u t (by omega) e
   unfold aR
   rw [if_pos he,e]
   exact ⟨rfl,rfl,suf hr e2⟩
 ·unfold Go.Pack.numR at hg
  cases e2:Go.Pack.rdL 0 0 (b.drop r.pos) with
  | error z=>
   rw [e2] at hg
   cases hg
   unfold aR
   rw [if_pos he,e2]
  | ok z=>rw [e2] at hg;cases hg
theorem Rds.flag (b:List UInt8):Rds b (jE b) Go.Pack.flagR:=by
 have N:=Rds.num b
 refine ⟨fun r hr=>xC hr,fun r he=>?_,fun r a t hr he hg=>?_,fun r e hr he hg=>?_⟩
 ·have q:=N.bad r he
  unfold jE
  rw [if_neg (by rw [q];exact he)]
  exact q
 ·unfold Go.Pack.flagR at hg
  cases e:Go.Pack.numR (b.drop r.pos) with
  | error z=>rw [e] at hg;cases hg
  | ok z=>
   obtain ⟨n,t1⟩:=z
   rw [e] at hg
   simp only at hg
   obtain ⟨q1,q2,q3⟩:=N.good r n t1 hr he e
   unfold jE
   rw [if_pos q2,q1]
   split at hg
   ·cases hg;rename_i h0;rw [if_pos h0];exact ⟨rfl,q2,q3⟩
   ·rename_i h0
    split at hg
    ·cases hg;rename_i h1;rw [if_neg h0,if_pos h1];exact ⟨rfl,q2,q3⟩
    ·cases hg
 ·unfold Go.Pack.flagR at hg
  cases e2:Go.Pack.numR (b.drop r.pos) with
  | error z=>
   rw [e2] at hg
   cases hg
   have q:=N.fail r e hr he e2
   have hz:e≠0:=fun hz=>Go.Proofs.YtoaibmbldmckaaaGreat.numR_ne _ (by rw [e2,hz])
   unfold jE
   rw [if_neg (by rw [q];exact hz)]
   exact q
  | ok z=>
   obtain ⟨n,t1⟩:=z
   rw [e2] at hg
   simp only at hg
   obtain ⟨q1,q2,q3⟩:=N.good r n t1 hr he e2
   unfold jE
   rw [if_pos q2,q1]
   split at hg
   ·cases hg
   ·rename_i h0
    split at hg
    ·cases hg
    ·rename_i h1;cases hg;rw [if_neg h0,if_neg h1]
end Go.Proofs.YtoaibmbldmckaaaGreat
end
section
namespace Go.Proofs.YtoaibmbldmckaaaGreat
open Go.AM Go.Pack Tryz
theorem Rds.inn (b:List UInt8) (most:Nat):Rds b (eI b 0 most) (upto most).get:=by
 have N:=Rds.num b
 have hL:∀ n:Int,aBb most n=true↔0≤n∧n≤most:=fun n=>by unfold aBb;simp
 refine ⟨fun r hr=>jC hr,fun r he=>?_,fun r a t hr he hg=>?_,fun r e hr he hg=>?_⟩
 ·have q:=N.bad r he
  unfold eI
  rw [if_neg (by rw [q];exact he)]
  exact q
 ·simp only [upto,Go.Pack.Cod.only,Go.Pack.num] at hg
  cases e:numR (b.drop r.pos) with
  | error z=>rw [e] at hg;cases hg
  | ok z=>
   obtain ⟨n,t1⟩:=z
   rw [e] at hg
   simp only at hg
   obtain ⟨q1,q2,q3⟩:=N.good r n t1 hr he e
   unfold eI
   rw [if_pos q2,q1]
   split at hg
   ·rename_i h0
    cases hg
    have:=(hL a).1 h0
    rw [if_neg (by omega),if_neg (by omega)]
    exact ⟨q1,q2,q3⟩
   ·cases hg
 ·simp only [upto,Go.Pack.Cod.only,Go.Pack.num] at hg
  cases e2:numR (b.drop r.pos) with
  | error z=>
   rw [e2] at hg
   cases hg
   have q:=N.fail r e hr he e2
   have hz:e≠0:=fun hz=>Go.Proofs.YtoaibmbldmckaaaGreat.numR_ne _ (by rw [e2,hz])
   unfold eI
   rw [if_neg (by rw [q];exact hz)]
   exact q
  | ok z=>
   obtain ⟨n,t1⟩:=z
   rw [e2] at hg
   simp only at hg
   obtain ⟨q1,q2,q3⟩:=N.good r n t1 hr he e2
   unfold eI
   rw [if_pos q2,q1]
   split at hg
   ·cases hg
   ·rename_i h0
    cases hg
    by_cases c:n<0
    ·rw [if_pos c]
    ·rw [if_neg c,if_pos (by have:=mt (hL n).2 h0;omega)]
theorem aLg {most:Nat} {b:List UInt8} {e:Int} (h:(upto most).get b=.error e):e≠0:=fun hz=>CNE.upto most b (by rw [h,hz])
theorem Rds.text (b:List UInt8) (most:Nat):Rds b (fA b most) (yD most):=by
 have N:=Rds.inn b most
 refine ⟨fun r hr=>cY hr,fun r he=>?_,fun r a t hr he hg=>?_,fun r e hr he hg=>?_⟩
 ·have q:=N.bad r he
  unfold fA
  rw [if_neg (by rw [q];exact he)]
  exact q
 ·unfold yD at hg
  cases e:(upto most).get (b.drop r.pos) with
  | error z=>rw [e] at hg;cases hg
  | ok z=>
   obtain ⟨n,t1⟩:=z
   rw [e] at hg
   simp only at hg
   obtain ⟨q1,q2,q3⟩:=N.good r n t1 hr he e
   have hp:=N.pos r hr
   have hl:t1.length=b.length - (eI b 0 most r).2.pos:=by rw [q3,List.length_drop]
   have h0:=(vO q2).1
   unfold fA
   rw [if_pos q2]
   rw [q1] at h0 ⊢
   split at hg
   ·rename_i hn
    cases hg
    rw [if_neg (by omega)]
    refine ⟨by rw [q3],rfl,?_⟩
    rw [q3,List.drop_drop]
   ·cases hg
 ·unfold yD at hg
  cases e2:(upto most).get (b.drop r.pos) with
  | error z=>
   rw [e2] at hg
   cases hg
   have q:=N.fail r e hr he e2
   unfold fA
   rw [if_neg (by rw [q];exact aLg e2)]
   exact q
  | ok z=>
   obtain ⟨n,t1⟩:=z
   rw [e2] at hg
   simp only at hg
   obtain ⟨q1,q2,q3⟩:=N.good r n t1 hr he e2
   have hp:=N.pos r hr
   have hl:t1.length=b.length - (eI b 0 most r).2.pos:=by rw [q3,List.length_drop]
   unfold fA
   rw [if_pos q2,q1]
   split at hg
   ·cases hg
   ·rename_i hn
    cases hg
    rw [if_pos (by omega)]
theorem Rds.cnt {b:List UInt8} {most:Nat} {r:Rd} (hr:r.pos≤b.length) (he:r.err=0):(∀ n t,(upto most).get (b.drop r.pos)=.ok (n,t)→n≤(t.length:Int)→(bF b most r).1=n∧(bF b most r).2.err=0∧t=b.drop (bF b most r).2.pos) ∧
  (∀ n t,(upto most).get (b.drop r.pos)=.ok (n,t)→¬ n≤(t.length:Int)→(bF b most r).1=0∧(bF b most r).2.err=3)∧(∀ e,(upto most).get (b.drop r.pos)=.error e→(bF b most r).1=0∧(bF b most r).2.err=e):=by
 have N:=Rds.inn b most
 refine ⟨fun n t h hn=>?_,fun n t h hn=>?_,fun e h=>?_⟩
 ·obtain ⟨q1,q2,q3⟩:=N.good r n t hr he h
  have hp:=N.pos r hr
  have hl:t.length=b.length - (eI b 0 most r).2.pos:=by rw [q3,List.length_drop]
  unfold bF
  rw [if_pos q2,q1,if_neg (by omega)]
  exact ⟨q1,q2,q3⟩
 ·obtain ⟨q1,q2,q3⟩:=N.good r n t hr he h
  have hp:=N.pos r hr
  have hl:t.length=b.length - (eI b 0 most r).2.pos:=by rw [q3,List.length_drop]
  unfold bF
  rw [if_pos q2,q1,if_pos (by omega)]
  exact ⟨rfl,rfl⟩
 ·have q:=N.fail r e hr he h
  have hz:(eI b 0 most r).2.err≠0:=by rw [q];exact aLg h
  unfold bF
  rw [if_neg hz]
  exact ⟨xD hz,q⟩
theorem Rds.many {α β:Type} {b:List UInt8} {f:Rd→β×Rd} {c:Go.Pack.Cod α} {k:α→β} (hc:CNE c) (hp:∀ r:Rd,r.pos≤b.length→(f r).2.pos≤b.length)
  (hg:∀ (r:Rd) (a:α) (t:List UInt8),r.pos≤b.length→r.err=0→c.get (b.drop r.pos)=.ok (a,t)→(f r).1=k a∧(f r).2.err=0∧t=b.drop (f r).2.pos)
  (hf:∀ (r:Rd) (e:Int),r.pos≤b.length→r.err=0→c.get (b.drop r.pos)=.error e→(f r).2.err=e):∀ (n:Nat) (r:Rd),r.pos≤b.length→
  (aH f n r).2.pos≤b.length∧(r.err≠0→(aH f n r).2.err=r.err)∧(r.err=0→(∀ l t,mD c n (b.drop r.pos)=.ok (l,t)→(aH f n r).1=l.map k∧(aH f n r).2.err=0∧t=b.drop (aH f n r).2.pos)∧∀ e,mD c n (b.drop r.pos)=.error e→(aH f n r).2.err=e)
 | 0,r,hr=>⟨hr,fun _=>rfl,fun he=>⟨fun l t h=>by cases h;exact ⟨rfl,he,rfl⟩,fun e h=>by cases h⟩⟩
 | n+1,r,hr=>by
  by_cases he:r.err=0
  ·have ih:=Rds.many hc hp hg hf n (f r).2 (hp r hr)
   simp only [aH,if_pos he]
   refine ⟨ih.1,fun h=>absurd he h,fun _=>⟨fun l t h=>?_,fun e h=>?_⟩⟩
   ·unfold mD at h
    cases e1:c.get (b.drop r.pos) with
    | error z=>rw [e1] at h;cases h
    | ok z=>
     obtain ⟨a,t1⟩:=z
     rw [e1] at h
     simp only at h
     obtain ⟨q1,q2,q3⟩:=hg r a t1 hr he e1
     cases e2:mD c n t1 with
     | error z=>rw [e2] at h;cases h
     | ok z=>
      obtain ⟨l1,t2⟩:=z
      rw [e2] at h
      cases h
      obtain ⟨p1,p2,p3⟩:=(ih.2.2 q2).1 l1 t (by rw [←q3];exact e2)
      exact ⟨by rw [q1,p1];rfl,p2,p3⟩
   ·unfold mD at h
    cases e1:c.get (b.drop r.pos) with
    | error z=>
     rw [e1] at h
     cases h
     have q:=hf r e hr he e1
     exact (ih.2.1 (by rw [q];exact fun hz=>hc _ (by rw [e1,hz]))).trans q
    | ok z=>
     obtain ⟨a,t1⟩:=z
     rw [e1] at h
     simp only at h
     obtain ⟨q1,q2,q3⟩:=hg r a t1 hr he e1
     cases e2:mD c n t1 with
     | ok z=>rw [e2] at h;cases h
     | error z=>
      rw [e2] at h
      cases h
      exact (ih.2.2 q2).2 e (by rw [←q3];exact e2)
  ·simp only [aH,if_neg he]
   exact ⟨hr,fun _=>trivial,fun h=>absurd h he⟩
structure RdsK {α β:Type} (b:List UInt8) (f:Rd→β×Rd) (c:Go.Pack.Cod α) (k:α→β):Prop where
 pos:∀ r:Rd,r.pos≤b.length→(f r).2.pos≤b.length
 bad:∀ r:Rd,r.err≠0→(f r).2.err=r.err
 good:∀ (r:Rd) (a:α) (t:List UInt8),r.pos≤b.length→r.err=0→c.get (b.drop r.pos)=.ok (a,t)→(f r).1=k a∧(f r).2.err=0∧t=b.drop (f r).2.pos
 fail:∀ (r:Rd) (e:Int),r.pos≤b.length→r.err=0→c.get (b.drop r.pos)=.error e→(f r).2.err=e
theorem RdsK.list {α β:Type} {b:List UInt8} {f:Rd→β×Rd} {c:Go.Pack.Cod α} {k:α→β} (h:RdsK b f c k) (hc:CNE c) (most:Nat) (hm:most≤1000000):RdsK b (aO b f most) (c.list most hm) (fun l=>l.map k):=by
 have M:=Rds.many hc h.pos h.good h.fail
 refine ⟨fun r hr=>(M _ _ (eC hr)).1,fun r he=>?_,fun r l t hr he hg=>?_,fun r e hr he hg=>?_⟩
 ·have q:(eI b 0 most r).2.err=r.err:=(Rds.inn b most).bad r he
  have hz:(eI b 0 most r).2.err≠0:=by rw [q];exact he
  have hx:bF b most r=eI b 0 most r:=by unfold bF;rw [if_neg hz]
  unfold aO
  rw [hx,xD hz]
  exact q
 ·simp only [Go.Pack.Cod.list,aBd] at hg
  cases e1:(upto most).get (b.drop r.pos) with
  | error z=>rw [e1] at hg;cases hg
  | ok z=>
   obtain ⟨n,t1⟩:=z
   rw [e1] at hg
   simp only at hg
   split at hg
   ·rename_i hn
    obtain ⟨q1,q2,q3⟩:=(Rds.cnt hr he).1 n t1 e1 hn
    unfold aO
    rw [q1]
    exact ((M n.toNat _ (eC hr)).2.2 q2).1 l t (by rw [←q3];exact hg)
   ·cases hg
 ·simp only [Go.Pack.Cod.list,aBd] at hg
  cases e1:(upto most).get (b.drop r.pos) with
  | error z=>
   rw [e1] at hg
   cases hg
   obtain ⟨q1,q2⟩:=(Rds.cnt hr he).2.2 e e1
   unfold aO
   rw [q1]
   exact q2
  | ok z=>
   obtain ⟨n,t1⟩:=z
   rw [e1] at hg
   simp only at hg
   split at hg
   ·rename_i hn
    obtain ⟨q1,q2,q3⟩:=(Rds.cnt hr he).1 n t1 e1 hn
    unfold aO
    rw [q1]
    exact ((M n.toNat _ (eC hr)).2.2 q2).2 e (by rw [←q3];exact hg)
   ·rename_i hn
    cases hg
    obtain ⟨q1,q2⟩:=(Rds.cnt hr he).2.1 n t1 e1 hn
    unfold aO
    rw [q1]
    exact q2
theorem RdsK.both {α β α' β':Type} {b:List UInt8} {f:Rd→α'×Rd} {f':Rd→β'×Rd} {c:Go.Pack.Cod α} {d:Go.Pack.Cod β} {k:α→α'} {k':β→β'} (h:RdsK b f c k) (g:RdsK b f' d k') (hc:CNE c):RdsK b (Rb f f') (c.both d) (fun x=>(k x.1,k' x.2)):=by
 refine ⟨fun r hr=>g.pos _ (h.pos r hr),fun r he=>?_,fun r a t hr he hg=>?_,fun r e hr he hg=>?_⟩
 ·have q:=h.bad r he
  exact (g.bad _ (by rw [q];exact he)).trans q
 ·simp only [Go.Pack.Cod.both] at hg
  cases e:c.get (b.drop r.pos) with
  | error z=>rw [e] at hg;cases hg
  | ok z=>
   obtain ⟨x,t1⟩:=z
   rw [e] at hg
   simp only at hg
   obtain ⟨q1,q2,q3⟩:=h.good r x t1 hr he e
   cases e2:d.get t1 with
   | error z=>rw [e2] at hg;cases hg
   | ok z=>
    obtain ⟨y,t2⟩:=z
    rw [e2] at hg
    cases hg
    obtain ⟨p1,p2,p3⟩:=g.good _ y t (h.pos r hr) q2 (by rw [←q3];exact e2)
    exact ⟨by show (((f r).1,(f' (f r).2).1):α'×β')=(k x,k' y);rw [q1,p1],p2,p3⟩
 ·simp only [Go.Pack.Cod.both] at hg
  cases e1:c.get (b.drop r.pos) with
  | error z=>
   rw [e1] at hg
   cases hg
   have h5:=h.fail r e hr he e1
   exact (g.bad _ (by rw [h5];exact fun hz=>hc _ (by rw [e1,hz]))).trans h5
  | ok z=>
   obtain ⟨x,t1⟩:=z
   rw [e1] at hg
   simp only at hg
   obtain ⟨q1,q2,q3⟩:=h.good r x t1 hr he e1
   cases e2:d.get t1 with
   | ok z=>rw [e2] at hg;cases hg
   | error z=>
    rw [e2] at hg
    cases hg
    exact g.fail _ e (h.pos r hr) q2 (by rw [←q3];exact e2)
theorem RdsK.map {α β γ δ:Type} {b:List UInt8} {f:Rd→γ×Rd} {c:Go.Pack.Cod α} {k:α→γ} (h:RdsK b f c k) (w:γ→δ) {p:α→β} {q:β→α} {h1:∀ a,q (p a)=a} {h2:∀ b,p (q b)=b}:RdsK b (Rm w f) (c.map p q h1 h2) (fun y=>w (k (q y))):=by
 refine ⟨h.pos,h.bad,fun r a t hr he hg=>?_,fun r e hr he hg=>?_⟩
 ·simp only [Go.Pack.Cod.map] at hg
  cases e:c.get (b.drop r.pos) with
  | error z=>rw [e] at hg;cases hg
  | ok z=>
   obtain ⟨x,t1⟩:=z
   rw [e] at hg
   cases hg
   obtain ⟨q1,q2,q3⟩:=h.good r x t hr he e
   exact ⟨by show w (f r).1=w (k (q (p x)));rw [h1,q1],q2,q3⟩
 ·simp only [Go.Pack.Cod.map] at hg
  cases e1:c.get (b.drop r.pos) with
  | ok z=>rw [e1] at hg;cases hg
  | error z=>
   rw [e1] at hg
   cases hg
   exact h.fail r e hr he e1
theorem tC (b:List UInt8):RdsK b (aR b) Go.Pack.num id:=⟨(Rds.num b).pos,(Rds.num b).bad,(Rds.num b).good,(Rds.num b).fail⟩
theorem aS0 (b:List UInt8):RdsK b (fA b 64) txt id:=⟨(Rds.text b 64).pos,(Rds.text b 64).bad,(Rds.text b 64).good,(Rds.text b 64).fail⟩
theorem bKa (b:List UInt8):RdsK b (jE b) Go.Pack.flag id:=⟨(Rds.flag b).pos,(Rds.flag b).bad,(Rds.flag b).good,(Rds.flag b).fail⟩
theorem bFo (b:List UInt8):RdsK b (mU b) aL9 id:=RdsK.map (((tC b).both ((tC b).both (tC b) CNE.num) CNE.num)) (fun x=>(⟨x.1,x.2.1,x.2.2⟩:Date))
theorem aZx (b:List UInt8):RdsK b (dD b) aRj id:=RdsK.map ((aS0 b).both ((bFo b).both (tC b) CNE.day) CNE.txt) (fun x=>(⟨x.1,x.2.1,x.2.2⟩:Rate))
theorem aZy (b:List UInt8):RdsK b (dE b) aZ4 bEz:=RdsK.map ((aS0 b).both ((tC b).both (bKa b) CNE.num) CNE.txt) (fun x=>(⟨x.1,1,x.2.1,x.2.2⟩:Ser))
theorem bKb (b:List UInt8):RdsK b (eB b) aRk aXy:=RdsK.map ((aS0 b).both ((tC b).both (tC b) CNE.num) CNE.txt) (fun x=>(⟨x.1,x.2.1,x.2.2,0⟩:Part))
theorem bKc (b:List UInt8):RdsK b (dX b) aRl aY0:=RdsK.map ((tC b).both ((tC b).both ((tC b).both ((tC b).both (tC b) CNE.num) CNE.num) CNE.num) CNE.num) (fun x=>(⟨x.1,x.2.1,⟨x.2.2.1,x.2.2.2.1,x.2.2.2.2⟩⟩:Sess))
theorem CNE.part:CNE aRk:=(CNE.txt.both (CNE.num.both CNE.num)).map
theorem CNE.ser:CNE aZ4:=(CNE.txt.both (CNE.num.both CNE.flag)).map
theorem CNE.rate:CNE aRj:=(CNE.txt.both (CNE.day.both CNE.num)).map
theorem CNE.sess:CNE aRl:=(CNE.num.both (CNE.num.both (CNE.num.both (CNE.num.both CNE.num)))).map
theorem CNE.pst:CNE aZ5:=(CNE.txt.both (CNE.day.both (CNE.txt.both (CNE.num.both (CNE.list CNE.part _))))).map
theorem bKd (b:List UInt8):RdsK b (cJ b) aZ5 aXz:=RdsK.map ((aS0 b).both ((bFo b).both ((aS0 b).both ((tC b).both ((bKb b).list CNE.part 12 (by decide)) CNE.num) CNE.txt) CNE.day) CNE.txt) (fun x=>(⟨⟨x.1,0⟩,x.2.1,⟨0,0,0,x.2.2.2.2⟩,⟨x.2.2.1,x.2.2.2.1⟩,false⟩:Posted))
def pI (b:List UInt8) (r:Rd):State×Rd:=
 let x:=aO b (dD b) 24 r
 let y:=aO b (dE b) 8 x.2
 let z:=aO b (cJ b) 40 y.2
 let u:=aO b (dX b) 8 z.2
 let v:=aR b u.2
 (⟨x.1,y.1,z.1,[],u.1,v.1⟩,v.2)
theorem bKe (b:List UInt8):RdsK b (pI b) aTs aF7:=by
 have h:=RdsK.map (((aZx b).list CNE.rate 24 (by decide)).both (((aZy b).list CNE.ser 8 (by decide)).both (((bKd b).list CNE.pst 40 (by decide)).both (((bKc b).list CNE.sess 8 (by decide)).both (tC b) (CNE.list CNE.sess _)) (CNE.list CNE.pst _)) (CNE.list CNE.ser _)) (CNE.list CNE.rate _)) (fun x=>(⟨x.1,x.2.1,x.2.2.1,[],x.2.2.2.1,x.2.2.2.2⟩:State)) (p:=fun x=>(⟨x.1,x.2.1,x.2.2.1,x.2.2.2.1,x.2.2.2.2⟩:ImgI)) (q:=fun r=>(r.table,r.ser,r.posted,r.sess,r.next)) (h1:=fun _=>rfl) (h2:=fun _=>rfl)
 refine ⟨h.pos,h.bad,fun r a t hr he hg=>?_,h.fail⟩
 obtain ⟨q1,q2,q3⟩:=h.good r a t hr he hg
 refine ⟨?_,q2,q3⟩
 refine Eq.trans q1 ?_
 simp only [aF7,List.map_id,id]
theorem aDt (b:List UInt8):eY b=(if (pI b ⟨0,0⟩).2.err=0 then (if (pI b ⟨0,0⟩).2.pos<b.length then (State.zero,(5:Int)) else match nQ (pI b ⟨0,0⟩).1 with
  | none=>(State.zero,4)
  | some s=>if fX s=true then (s,0) else (State.zero,4)) else (State.zero,(pI b ⟨0,0⟩).2.err)):=by
 have I:=bKe b
 unfold eY
 cases e:aTs.get b with
 | error z=>
  have q:=I.fail ⟨0,0⟩ z (Nat.zero_le _) rfl e
  have hz:z≠0:=fun hz=>CNE.img b (by rw [e,hz])
  rw [q,if_neg hz]
 | ok z=>
  obtain ⟨x,t⟩:=z
  obtain ⟨q1,q2,q3⟩:=I.good ⟨0,0⟩ x t (Nat.zero_le _) rfl e
  have hp:=I.pos ⟨0,0⟩ (Nat.zero_le _)
  rw [if_pos q2,q1]
  simp only
  by_cases c:(pI b ⟨0,0⟩).2.pos<b.length
  ·rw [if_pos c,if_neg (by rw [q3];intro h;have:=congrArg List.length h;simp at this;omega)]
  ·rw [if_neg c,if_pos (by rw [q3];exact List.drop_eq_nil_of_le (by omega))]
   cases nQ (aF7 x)<;>rfl
end Go.Proofs.YtoaibmbldmckaaaGreat
end
section
namespace Go.AM
section
section
variable {P:Program} {pl:gX}
theorem FnR.cut {f:FuncId} {p:Nat→Option (List bH)} (hpl:pl f=some (.val p)) {lv:Nat→List Nat} {mk:Nat→List V} (hm:Pt mk) {ver n:Nat} {pre0 pre post:List (List V)} {v:V} {c:Nat}
  (h:fD P (W P pl) p lv f (mk 0) ⟨1,Tr.nil.put 0 (.row ver n pre)⟩ fun v0 S0=>v0=v∧S0.heap.get 0=some (.row ver n post)) (hv:lE v=true) (hq:post.all cloVs=true) {S:St} {a:Nat} (hS:S.heap.get a=some (.row ver n pre0))
  (h1:jG (iP S 3) pre0=.ok pre) (h2:kW (iN S 3) pre0=[c]) (hca:c≠a) (hb:(gV v&&nD [(ver,n,post)])=false) (K:KW):W P pl f (mk a) S K=K v ⟨S.next,(S.heap.cut c).put a (.row ver n post)⟩:=by
 obtain ⟨v0,S0,g1,rfl,g2⟩:=gE aGc h
 refine aC4 (iW (g1.one fun k g1=>?_)) K
 simp only [eO,hpl]
 obtain ⟨q1,q2⟩:=gF (S:=S0) (n:=2) hq
 unfold sP
 rw [hm.ptr,hm.sls]
 have hA:([]++cV S [a])=[c]:=by simp only [cV,hS,h2,List.append_nil,List.nil_append]
 have hB:(jH (kX (iN S0 3) S0) v0++cV S0 (mX 0 1)).any (fun a=>Nat.blt a 1)=false:=by
  simp only [mX,cV,g2,q2,tF v0 hv,List.append_nil,List.any_nil]
 have hC:([c].any fun x=>iM x [a])=false:=by
  simp only [List.any_cons,List.any_nil,iM,Bool.or_false]
  exact Bool.eq_false_iff.2 fun h=>hca (Nat.eq_of_beq_eq_true h)
 rw [hA]
 simp only [hm.frz,gK,hS,h1,hC,cond_false,List.length_cons,List.length_nil,Nat.zero_add,sO,g1,mK v0 hv,hB,lS]
 have:gK S0 (mX 0 1)=.ok [(ver,n,post)]:=by simp only [mX,gK,g2,q1]
 rw [this]
 simp only [pJ,lS,hb,cond_false]
end
end
end Go.AM
end
section
namespace Go.Proofs.YtoaibmbldmckaaaGreat
open Go.AM Tryz
theorem bKf {b:List UInt8} (hb:b.length<1000000000) {r:Rd} (hr:r.pos≤b.length) (most:Int) {S:St} {a c ver n:Nat} (hc:S.heap.get c=some (.row ver 1 (b.map eN))) (hS:S.heap.get a=some (.row 0 3 [[.sl c ver 1 0 b.length,.int .i64 (r.pos:Int),.int .i64 r.err]])) (hca:c≠a) (hne:b≠[]) (K:KW):
  C 145 [.ptr a 0 0 0,.int .i64 most] S K=K (.int .i64 (bF b most r).1) (St.at ⟨S.next,S.heap.cut c⟩ a ((bF b most r).2.cells b)):=by
 have f1:cZ lH (lR (iP S 2) S) (.sl c ver 1 0 b.length)=.ok (.imm (b.map eN)):=by
  have he:aL S (.sl c ver 1 0 b.length)=.ok (b.map eN):=by
   have:=aBh hc (i:=b.length) (by rw [List.length_map];omega)
   rw [this,List.take_of_length_le (by rw [List.length_map];omega)]
  simp only [cZ,lR,he,(gF (S:=S) (n:=1) (bM (enc:=eN) (fun _=>rfl) b)).1]
 have f2:jH (kX (iN S 2) S) (.sl c ver 1 0 b.length)=[c]:=by
  have he:aL S (.sl c ver 1 0 b.length)=.ok (b.map eN):=by
   have:=aBh hc (i:=b.length) (by rw [List.length_map];omega)
   rw [this,List.take_of_length_le (by rw [List.length_map];omega)]
  simp only [jH,kX,he,(gF (S:=S) (n:=1) (bM (enc:=eN) (fun _=>rfl) b)).2]
 have hbr:nD [(0,3,[(bF b most r).2.cells b])]=false:=by
  cases b with
  | nil=>exact absurd rfl hne
  | cons x y=>rfl
 have e1:iP S 3 [.sl c ver 1 0 b.length,.int .i64 (r.pos:Int),.int .i64 r.err]=.ok (r.cells b):=by
  show frzVs lH (lR (iP S 2) S) [_,_,_]=_
  simp only [frzVs,f1];rfl
 have e2:iN S 3 [.sl c ver 1 0 b.length,.int .i64 (r.pos:Int),.int .i64 r.err]=[c]:=by
  show slsVs (kX (iN S 2) S) [_,_,_]=_
  simp only [slsVs,f2];rfl
 refine FnR.cut (mk:=fun a=>[.ptr a 0 0 0,.int .i64 most]) aRv (lv:=eG []) (Pt.head rfl) (pre:=[r.cells b]) ?_ rfl (Rd.clo b _) hS (by simp only [jG,e1]) (by simp only [kW,e2];rfl) hca (by rw [hbr,Bool.and_false]) K
 rw [aRw]
 delta Tryz.f145;simp only [↓cw,↓reduceIte,Nat.reduceLT,kk,Rd.cells,aA]
 refine Eq.mpr ((aTz hb hr 0 most).eq (Tr.get_put_sameB _ _ _ trivial) _) ?_
 have hp:=jC (lo:=0) (hi:=most) hr
 unfold bF
 generalize eI b 0 most r=x at hp ⊢
 obtain ⟨n,p,e⟩:=x
 simp only at hp
 have hw:wr .i64 ((b.length:Int) - (p:Int))=(b.length:Int) - (p:Int):=eX (by omega) (by omega)
 simp only [↓cw,↓reduceIte,Nat.reduceLT,kk,Rd.cells,aA,hw]
 by_cases he:e=0
 ·by_cases h1:(b.length:Int) - (p:Int)<n
  ·simp only [↓cw,↓reduceIte,Nat.reduceLT,kk,he,h1,if_true,aA,hw]
   refine Eq.mpr (aCc (b:=b) (pos:=p) (e0:=0) (Tr.get_put_sameB _ _ _ trivial) r.pos 3 _) ?_
   first | exact ⟨rfl,Tr.get_put_sameB _ _ _ trivial⟩ | exact Tr.get_put_sameB _ _ _ trivial
  ·simp only [↓cw,↓reduceIte,Nat.reduceLT,kk,he,h1,if_true,if_false,aA,hw]
   first | exact ⟨rfl,Tr.get_put_sameB _ _ _ trivial⟩ | exact Tr.get_put_sameB _ _ _ trivial
 ·simp only [↓cw,↓reduceIte,Nat.reduceLT,kk,he,if_true,if_false,aA]
  first | exact ⟨rfl,Tr.get_put_sameB _ _ _ trivial⟩ | exact Tr.get_put_sameB _ _ _ trivial
theorem bKg {b:List UInt8} (hb:b.length<1000000000) {S:St} {a:Nat} (ha:a<S.next) {r:Rd} (hr:r.pos≤b.length) (w:WF S) {T:St} (h145:∀ K:KW,C 145 [.ptr a 0 0 0,.int .i64 24] T K=K (.int .i64 (bF b 24 r).1) (St.at S a ((bF b 24 r).2.cells b))) {K:KW}
  (H:∀ v X,Ext (St.at S a ((aO b (dD b) 24 r).2.cells b)) X→Own (St.at S a ((aO b (dD b) 24 r).2.cells b)) X 5 v ((aO b (dD b) 24 r).1.map Rate.enc)→(aO b (dD b) 24 r).2.pos≤b.length→K v X):
  C 61 [.ptr a 0 0 0,.int .i64 24,.func 62 [] []] T K:=by
 refine v61 ?_
 delta Tryz.f61;simp only [↓cw,↓reduceIte,Nat.reduceLT,kk]
 refine Eq.mpr (h145 _) ?_
 have hc:=eC (most:=24) hr
 obtain ⟨h0,h24⟩:=fJ (b:=b) (r:=r) (show (0:Int)≤24 by decide) eJ
 unfold aO at H
 generalize bF b 24 r=y at hc h0 h24 H ⊢
 obtain ⟨n,r0⟩:=y
 simp only at hc h0 h24 H ⊢
 obtain ⟨n,rfl⟩:=Int.eq_ofNat_of_zero_le h0
 rw [show ((n:Int)).toNat=n from by omega] at H
 refine dB (fun m vs X=>∃ (i:Nat) (r1:Rd) (v:V) (done:List Rate),i+m=n∧vs=[v,.int .i64 (i:Int)]∧Ext (St.at S a (r1.cells b)) X∧Own (St.at S a (r1.cells b)) X 5 v (done.map Rate.enc)∧done.length=i∧r1.pos≤b.length∧done++(aH (dD b) m r1).1=(aH (dD b) n r0).1∧(aH (dD b) m r1).2=(aH (dD b) n r0).2) ?_ (n:=n) ⟨0,r0,.nils,[],by omega,rfl,Ext.refl _,Own.nil _ _ _,rfl,hc,rfl,rfl⟩
 rintro m vs X ⟨i,r1,v,done,hi,rfl,x,o,hd,hp,e1,e2⟩ aF hag
 have hXa:=x.old a _ (St.at_get S a _)
 have hn:S.next≤X.next:=x.next
 by_cases hin:(i:Int)<(n:Int)
 ·obtain ⟨m,rfl⟩:∃ m',m=m'+1:=⟨m - 1,by omega⟩
  simp only [↓cw,↓reduceIte,Nat.reduceLT,kk,hin,if_true]
  refine Eq.mpr ((aRu b r1).eq_same hXa _) ?_
  by_cases he:r1.err=0
  ·simp only [↓cw,↓reduceIte,Nat.reduceLT,kk,he,if_true,if_false,not_true_eq_false,↓nI prog C bJt,List.nil_append,List.cons_append]
   refine Eq.mpr ((r62 hb hp).eq hXa _) ?_
   have x':=Go.Proofs.YtoaibmbldmckaaaGreat.Ext.at ha x (d:=(dD b r1).2.cells b)
   have o':=Go.Proofs.YtoaibmbldmckaaaGreat.Own.at ha o (d:=(dD b r1).2.cells b) (e:=(dD b r1).2.cells b)
   have wS:=St.wf_at (d:=(dD b r1).2.cells b) ha w
   rw [show (⟨X.next,X.heap.put a (.row 0 3 [(dD b r1).2.cells b])⟩:St)=St.at X a ((dD b r1).2.cells b) from rfl]
   generalize St.at X a ((dD b r1).2.cells b)=Y at x' o' ⊢
   simp only [aH,he,if_true] at e1 e2
   have hq:=aN8 hp
   generalize dD b r1=z at x' o' e1 e2 wS hq ⊢
   obtain ⟨rt,r2⟩:=z
   simp only at x' o' e1 e2 wS hq ⊢
   have x2:Ext Y ⟨Y.next+1,Y.heap.put Y.next (.row 0 5 [rt.enc])⟩:=Ext.new (x'.wf wS) _
   obtain ⟨v2,X2,q1,x3,n3,o2⟩:=(o'.ext x2).push (b:=48) (x'.trans x2) wS (u:=.sl Y.next 0 5 0 1) (cs:=[rt.enc]) (by simp only [aL,aA];rfl) (fun c hc=>by rcases List.mem_singleton.1 hc with rfl;exact aXp _) (by simp) (by simp;omega) (by simp [fL];omega)
   simp only [Rate.enc] at q1
   simp only [↓cw,↓reduceIte,Nat.reduceLT,kk,aR8,Rate.enc,q1,gJ (show i<1000000000 by omega)]
   exact hag m _ _ (by omega) ⟨i+1,r2,v2,done++[rt],by omega,rfl,x3,by simpa using o2,by simp [hd],hq,by rw [←e1];simp,e2⟩
  ·simp only [↓cw,↓reduceIte,Nat.reduceLT,kk,he,if_true,if_false,not_false_eq_true]
   simp only [aH,he,if_false] at e1 e2
   rw [←e1,←e2] at H
   exact H v X x (by simpa using o) hp
 ·obtain rfl:m=0:=by omega
  simp only [↓cw,↓reduceIte,Nat.reduceLT,kk,hin,if_false]
  simp only [aH] at e1 e2
  rw [←e1,←e2] at H
  exact H v X x (by simpa using o) hp
end Go.Proofs.YtoaibmbldmckaaaGreat
end
section
namespace Go.AM
set_option linter.unusedVariables false
set_option linter.unusedSimpArgs false
set_option maxRecDepth 100000
section
variable {P:Program} {pl:gX}
theorem FnR.nil {f:FuncId} {p:Nat→Option (List bH)} (hpl:pl f=some (.val p)) {lv:Nat→List Nat} {mk:Nat→List V} (hm:Pt mk) {ver n:Nat} {pre0 pre post:List (List V)} {v:V}
  (h:fD P (W P pl) p lv f (mk 0) ⟨1,Tr.nil.put 0 (.row ver n pre)⟩ fun v0 S0=>v0=v∧S0.heap.get 0=some (.row ver n post)) (hv:lE v=true) (hq:post.all cloVs=true) {S:St} {a:Nat} (hS:S.heap.get a=some (.row ver n pre0))
  (h1:jG (iP S 3) pre0=.ok pre) (h2:kW (iN S 3) pre0=[]) (K:KW):W P pl f (mk a) S K=K v ⟨S.next,S.heap.put a (.row ver n post)⟩:=by
 obtain ⟨v0,S0,g1,rfl,g2⟩:=gE aGc h
 refine aC4 (iW (g1.one fun k g1=>?_)) K
 simp only [eO,hpl]
 obtain ⟨q1,q2⟩:=gF (S:=S0) (n:=2) hq
 unfold sP
 rw [hm.ptr,hm.sls]
 have hA:([]++cV S [a])=[]:=by simp only [cV,hS,h2,List.append_nil,List.nil_append]
 have hB:(jH (kX (iN S0 3) S0) v0++cV S0 (mX 0 1)).any (fun a=>Nat.blt a 1)=false:=by
  simp only [mX,cV,g2,q2,tF v0 hv,List.append_nil,List.any_nil]
 rw [hA]
 simp only [hm.frz,gK,hS,h1,List.any_nil,cond_false,List.length_cons,List.length_nil,Nat.zero_add,sO,g1,mK v0 hv,hB,lS]
 have:gK S0 (mX 0 1)=.ok [(ver,n,post)]:=by simp only [mX,gK,g2,q1]
 rw [this]
 simp only [pJ,lS]
 cases gV v0&&nD [(ver,n,post)]<;>rfl
end
end Go.AM
namespace Go.Proofs.YtoaibmbldmckaaaGreat
open Go.AM Tryz
set_option linter.unusedVariables false
set_option linter.unusedSimpArgs false
set_option maxRecDepth 100000
theorem bKh {r:Rd} (hr:r.pos≤([]:List UInt8).length) (most:Int) {S:St} {a:Nat} (hS:S.heap.get a=some (.row 0 3 [[.nils,.int .i64 (r.pos:Int),.int .i64 r.err]])) (K:KW):
  C 145 [.ptr a 0 0 0,.int .i64 most] S K=K (.int .i64 (bF [] most r).1) (St.at S a ((bF [] most r).2.cells [])):=by
 obtain ⟨b,hbb⟩:∃ b:List UInt8,b=[]:=⟨_,rfl⟩
 have hb:b.length<1000000000:=by rw [hbb];decide
 rw [←hbb] at hr ⊢
 refine FnR.nil (mk:=fun a=>[.ptr a 0 0 0,.int .i64 most]) aRv (lv:=eG []) (Pt.head rfl) (pre:=[r.cells b]) ?_ rfl (Rd.clo b _) hS (by rw [hbb];rfl) (by rfl) K
 rw [aRw]
 delta Tryz.f145;simp only [↓cw,↓reduceIte,Nat.reduceLT,kk,Rd.cells,aA]
 refine Eq.mpr ((aTz hb hr 0 most).eq (Tr.get_put_sameB _ _ _ trivial) _) ?_
 have hp:=jC (lo:=0) (hi:=most) hr
 unfold bF
 generalize eI b 0 most r=x at hp ⊢
 obtain ⟨n,p,e⟩:=x
 simp only at hp
 have hw:wr .i64 ((b.length:Int) - (p:Int))=(b.length:Int) - (p:Int):=eX (by omega) (by omega)
 simp only [↓cw,↓reduceIte,Nat.reduceLT,kk,Rd.cells,aA,hw]
 by_cases he:e=0
 ·by_cases h1:(b.length:Int) - (p:Int)<n
  ·simp only [↓cw,↓reduceIte,Nat.reduceLT,kk,he,h1,if_true,aA,hw]
   refine Eq.mpr (aCc (b:=b) (pos:=p) (e0:=0) (Tr.get_put_sameB _ _ _ trivial) r.pos 3 _) ?_
   first | exact ⟨rfl,Tr.get_put_sameB _ _ _ trivial⟩ | exact Tr.get_put_sameB _ _ _ trivial
  ·simp only [↓cw,↓reduceIte,Nat.reduceLT,kk,he,h1,if_true,if_false,aA,hw]
   first | exact ⟨rfl,Tr.get_put_sameB _ _ _ trivial⟩ | exact Tr.get_put_sameB _ _ _ trivial
 ·simp only [↓cw,↓reduceIte,Nat.reduceLT,kk,he,if_true,if_false,aA]
  first | exact ⟨rfl,Tr.get_put_sameB _ _ _ trivial⟩ | exact Tr.get_put_sameB _ _ _ trivial
end Go.Proofs.YtoaibmbldmckaaaGreat
end
section
namespace Go.Proofs.YtoaibmbldmckaaaGreat
open Go.AM Tryz
theorem aZf (a b:UInt8):(a=b)=((a.toNat:Int)=(b.toNat:Int)):=by
 refine propext ⟨fun h=>by rw [h],fun h=>UInt8.toNat_inj.1 (by omega)⟩
theorem g27 (l r:List UInt8) (hb:l.length<1000000000) (S:St) (K:KW):C 27 [.imm (l.map eN),.imm (r.map eN)] S K=K (.bool (decide (l=r))) S:=by
 refine (v27 rfl ?_).eq S K
 delta Tryz.f27;simp only [↓cw,↓reduceIte,Nat.reduceLT,kk]
 by_cases h:l.length=r.length
 ·simp only [↓cw,↓reduceIte,Nat.reduceLT,show (l.length:Int)=(r.length:Int) by omega,kk,not_true_eq_false,if_false]
  refine aG l (step:=dU r) (fin:=fun _=>true) (fun i n vs S=>n=i∧vs=[.bool false,.int .i64 (i:Int)]) (fun x=>x=decide (l=r)) ?_ ?_ (s:=0) ⟨rfl,rfl⟩ (eqL h)
  ·rintro i p n vs S hi ⟨rfl,rfl⟩ aF H
   have hil:=(List.getElem?_eq_some_iff.1 hi).1
   have hj:r[n]?=some r[n]:=List.getElem?_eq_getElem (by omega)
   have hlt:((n:Int)<(r.length:Int))=True:=bG hj
   simp only [dU,hj,Option.some.injEq,aZf] at H
   simp only [↓cw,↓reduceIte,Nat.reduceLT,kk,bG hi,hlt,tR hi,tR hj,eN,gJ (show n<1000000000 by omega),oo]
   grind
  ·rintro n vs S ⟨rfl,rfl⟩ aF H
   simp only [↓cw,↓reduceIte,Nat.reduceLT,kk,h,Int.lt_irrefl,if_false,oo,←H]
 ·simp only [↓cw,↓reduceIte,Nat.reduceLT,show ¬ (l.length:Int)=(r.length:Int) by omega,kk,not_false_eq_true,if_true,oo]
  have:decide (l=r)=false:=by simpa using fun e=>h (by rw [e])
  rw [this]
end Go.Proofs.YtoaibmbldmckaaaGreat
end
section
namespace Go.AM
set_option linter.unusedVariables false
set_option linter.unusedSimpArgs false
theorem ldR {S:St} {a ver n:Nat} {els:List (List V)} (hS:S.heap.get a=some (.row ver n els)) {i:Nat} {row:List V} (hi:els[i]?=some row) (k:Option Nat) (j m:Nat):fN k (.ptr a ver i j) ⟨m,S.heap⟩=gO k row j:=by
 have:=aE (S:=⟨m,S.heap⟩) hS
 simp only [fN,this,hi]
theorem stR {S:St} {a ver n:Nat} {els:List (List V)} (hS:S.heap.get a=some (.row ver n els)) {i:Nat} {row:List V} (hi:els[i]?=some row) (x:V) {w:Nat} (hx:x.cells.length=w) (ho:aI x.cells=true) (j m:Nat) (hj:j+w≤row.length):
  dT w (.ptr a ver i j) x ⟨m,S.heap⟩=.ok ⟨m,S.heap.put a (.row ver n (els.set i (splice row j x.cells)))⟩:=by
 have:=aE (S:=⟨m,S.heap⟩) hS
 simp only [dT,this,hi]
 rw [if_pos ⟨hx,ho,by omega⟩]
end Go.AM
namespace Go.Proofs.YtoaibmbldmckaaaGreat
open Go.AM Tryz
set_option linter.unusedVariables false
set_option linter.unusedSimpArgs false
set_option maxRecDepth 100000
theorem lN (t:Total):nP t=(match aD gY some t.parts [] with | none=>none | some ps=>lG ps):=rfl
theorem bKj {S:St} {a ver i:Nat} {els:List (List V)} {u:V} {q:Posted} (w:WF S) (hS:S.heap.get a=some (.row ver 12 els)) (hi:els[i]?=some (q.encW u)) (ou:Own E0 S 4 u (q.total.parts.map Part.enc)) (hua:AM.blkOf u≠some a) (h12:q.total.parts.length≤12) {K:KW}
  (H1:∀ t S',nP q.total=some t→WF S'→S.next≤S'.next→S'.heap.get a=some (.row ver 12 (els.set i (({ q with total:=t }:Posted).encW u)))→Own E0 S' 4 u (t.parts.map Part.enc)→(∀ y,y<S.next→y≠a→AM.blkOf u≠some y→S'.heap.get y=S.heap.get y)→K (.bool true) S')
  (H2:∀ S',nP q.total=none→WF S'→S.next≤S'.next→(∀ y,y<S.next→y≠a→AM.blkOf u≠some y→S'.heap.get y=S.heap.get y)→K (.bool false) S'):C 154 [.ptr a ver i 5] S K:=by
 refine bGq ?_
 have l0:=ldR hS hi
 simp only [Posted.encW] at l0
 have lu:=ou.sl.lenI
 have la:=w _ _ hS
 delta Tryz.f154;simp only [↓cw,↓reduceIte,Nat.reduceLT,kk,l0 none 8 S.next,lu]
 refine aG q.total.parts (step:=gY) (fin:=some) (fun k st vs X=>∃ x y,vs=[.bool false,x,y,.int .i64 (k:Int)]∧Own E0 X 4 u ((st++q.total.parts.drop k).map Part.enc)∧st.length=k∧Own E0 X 1 x ((st.map (·.net)).map cM)∧Own E0 X 1 y ((st.map (·.tax)).map cM)∧WF X∧S.next≤X.next∧(∀ z,AM.blkOf x=some z→S.next≤z)∧(∀ z,AM.blkOf y=some z→S.next≤z)∧(∀ z,AM.blkOf x=some z→AM.blkOf y≠some z)∧∀ z,z<S.next→AM.blkOf u≠some z→X.heap.get z=S.heap.get z)
  (fun r=>r=aD gY some q.total.parts []) ?_ ?_ (s:=[]) ⟨_,_,rfl,by simpa using ou,rfl,Own.nil _ _ _,Own.nil _ _ _,w,Nat.le_refl _,fun z h=>(by cases h),fun z h=>(by cases h),fun z h=>(by cases h),fun _ _ _=>rfl⟩ rfl
 ·rintro k p st vs X hk ⟨x,y,rfl,oU,hst,ox,oy,wX,hn,bx,by_,hxy,keep⟩ aF H
  have hkl:=(List.getElem?_eq_some_iff.1 hk).1
  have bu:∀ z,AM.blkOf u=some z→z<S.next:=fun z hz=>(cS ou hz).2
  have hkU:((st++q.total.parts.drop k).map Part.enc)[k]?=some p.enc:=by
   rw [List.getElem?_map,List.getElem?_append_right (by omega),List.getElem?_drop,hst,Nat.sub_self,Nat.add_zero,hk];rfl
  have rA:X.heap.get a=some (.row ver 12 els):=by rw [keep a la hua];exact hS
  have l1:=ldR rA hi
  simp only [Posted.encW] at l1
  obtain ⟨b,vb,hv,_,hb,e4,_,set1⟩:=(oU.bump 17).setK (rZ (wX.bump 17)) rC hkU .i64
  have hld:∀ m j,fN none (.ptr b vb k j) ⟨m,X.heap⟩=gO none p.enc j:=fun m j=>by
   have:=oU.ld hv hkU none j
   simpa only [ldP,gm] using this
  have m1:=fun m=>hld m 1
  have m2:=fun m=>hld m 2
  simp only [kk,Part.enc] at m1 m2
  obtain ⟨S2,st1,x2,n2,oU2,keep2,w2⟩:=set1 3 1 (.int .i64 (cH p.net p.bp).1) rfl rfl (by decide)
  have w2:=w2 (wX.bump 17)
  have hbS:b<S.next:=bu b (by rw [hv];rfl)
  have htx:((st++q.total.parts.drop k).map Part.enc).set k (splice p.enc 3 [.int .i64 (cH p.net p.bp).1])=((st++[pG p])++q.total.parts.drop (k+1)).map Part.enc:=by
   rw [List.map_append,List.set_append_right _ _ (by rw [List.length_map];omega),List.length_map,hst,Nat.sub_self]
   have hd:q.total.parts.drop k=p::q.total.parts.drop (k+1):=by
    have:=(List.getElem?_eq_some_iff.1 hk).2
    rw [←this];exact (List.getElem_cons_drop hkl).symm
   rw [hd]
   simp only [List.map_cons,List.set_cons_zero,List.map_append,List.append_assoc,List.cons_append,List.nil_append,List.map_nil]
   rfl
  simp only [V.cells] at oU2
  rw [htx] at oU2
  have hk2:(((st++[pG p])++q.total.parts.drop (k+1)).map Part.enc)[k]?=some (pG p).enc:=by
   rw [List.getElem?_map,List.append_assoc,List.getElem?_append_right (by omega),hst,Nat.sub_self];rfl
  simp only [gY] at H
  by_cases he:(cH p.net p.bp).2=0
  rotate_left
  ·simp only [he,if_false] at H
   simp only [↓cw,↓reduceIte,Nat.reduceLT,kk,bG hk,l1 none 8,e4,m1,m2,aYw,eQ,st1,he,not_false_eq_true,if_true]
   exact H2 _ (by rw [lN,←H]) w2 (by have:S2.next=X.next+17:=n2;omega) fun y hy hya hyu=>by rw [keep2 y fun e=>hyu (by rw [hv,e];rfl)];exact keep y hy hyu
  simp only [he,if_true] at H
  have hld2:∀ m j,fN none (.ptr b vb k j) ⟨m,S2.heap⟩=gO none (pG p).enc j:=fun m j=>by
   have:=oU2.ld hv hk2 none j
   simpa only [ldP,gm] using this
  have m3:=fun m=>hld2 m 2
  have m4:=fun m=>hld2 m 3
  simp only [kk,Part.enc,pG] at m3 m4
  have n2':S2.next=X.next+17:=n2
  have ox2:Own E0 S2 1 x _:=ox.same (by omega) fun z hz=>keep2 z (by have:=bx z hz;omega)
  have oy2:Own E0 S2 1 y _:=oy.same (by omega) fun z hz=>keep2 z (by have:=by_ z hz;omega)
  have lx:∀ z,AM.blkOf x=some z→z<X.next:=fun z hz=>(cS ox hz).2
  have ly:∀ z,AM.blkOf y=some z→z<X.next:=fun z hz=>(cS oy hz).2
  obtain ⟨x',S3,q1,w3,n3,ox3,bx3,keep3⟩:=aD9 (b:=8) ox2 w2 (k1:=S2.next+5) (k2:=S2.next+6) (m:=S2.next+16) (fresh w2 (by omega)) (fresh w2 (by omega)) (by omega) (by omega) (by omega) (by omega) (aC6 p.net) (by simp;omega) (by simp [fL];omega)
  have oU3:Own E0 S3 4 u _:=oU2.same (by omega) fun z hz=>keep3 z (by have:=bu z hz;omega) (by have:=bu z hz;omega) (fun h=>by have:=bx z h;have:=bu z hz;omega)
  have oy3:Own E0 S3 1 y _:=oy2.same (by omega) fun z hz=>keep3 z (by have:=ly z hz;omega) (by have:=ly z hz;omega) (fun h=>hxy z h hz)
  have fr:∀ c,7≤c→S3.heap.get (S2.next+c)=none:=fun c hc=>by
   rw [keep3 (S2.next+c) (by omega) (by omega) fun h=>by have:=lx _ h;omega];exact fresh w2 (by omega)
  obtain ⟨y',S4,q2,w4,n4,oy4,by4,keep4⟩:=aD9 (b:=8) oy3 w3 (k1:=S2.next+12) (k2:=S2.next+13) (m:=S3.next) (fr 12 (by omega)) (fr 13 (by omega)) (by omega) (by omega) (by omega) (Nat.le_refl _) (aC6 (cH p.net p.bp).1) (by simp;omega) (by simp [fL];omega)
  have hx3:∀ z,AM.blkOf x'=some z→z=S2.next+6∨AM.blkOf x=some z:=fun z hz=>by
   rcases bx3 with h | h
   ·rw [h] at hz;cases hz;exact .inl rfl
   ·rw [h] at hz;exact .inr hz
  have hy4:∀ z,AM.blkOf y'=some z→z=S2.next+13∨AM.blkOf y=some z:=fun z hz=>by
   rcases by4 with h | h
   ·rw [h] at hz;cases hz;exact .inl rfl
   ·rw [h] at hz;exact .inr hz
  have ox4:Own E0 S4 1 x' _:=ox3.same (by omega) fun z hz=>by
   rcases hx3 z hz with h | h
   ·exact keep4 z (by omega) (by omega) fun h'=>by have:=ly z h';omega
   ·exact keep4 z (by have:=lx z h;omega) (by have:=lx z h;omega) fun h'=>hxy z h h'
  have oU4:Own E0 S4 4 u _:=oU3.same (by omega) fun z hz=>keep4 z (by have:=bu z hz;omega) (by have:=bu z hz;omega) (fun h=>by have:=by_ z h;have:=bu z hz;omega)
  have m5:=oU3.ld hv hk2 none 3
  simp only [kk,Part.enc,pG] at m5
  simp only [cM] at q1 q2
  simp only [↓cw,↓reduceIte,Nat.reduceLT,kk,bG hk,l1 none 8,e4,m1,m2,aYw,eQ,st1,he,not_true_eq_false,if_false,m3,m4,aZ0,q1,m5,q2,gJ (show k<1000000000 by omega)]
  refine H _ _ ⟨x',y',rfl,oU4,by rw [List.length_append,hst];rfl,by rw [List.map_append,List.map_append];exact ox4,by rw [List.map_append,List.map_append];exact oy4,w4,by omega,fun z hz=>?_,fun z hz=>?_,fun z hz hz'=>?_,fun z hz hu=>?_⟩
  ·rcases hx3 z hz with h | h
   ·omega
   ·exact bx z h
  ·rcases hy4 z hz with h | h
   ·omega
   ·exact by_ z h
  ·rcases hx3 z hz with h | h<;>rcases hy4 z hz' with h' | h'
   ·omega
   ·have:=ly z h';omega
   ·have:=lx z h;omega
   ·exact hxy z h h'
  ·rw [keep4 z (by omega) (by omega) fun h=>by have:=by_ z h;omega,keep3 z (by omega) (by omega) fun h=>by have:=bx z h;omega,keep2 z fun e=>hu (by rw [hv,e];rfl)]
   exact keep z hz hu
 ·rintro st vs X ⟨x,y,rfl,oU,hst,ox,oy,wX,hn,bx,by_,hxy,keep⟩ aF H
  have bu:∀ z,AM.blkOf u=some z→z<S.next:=fun z hz=>(cS ou hz).2
  rw [List.drop_length,List.append_nil] at oU
  have rA:X.heap.get a=some (.row ver 12 els):=by rw [keep a la hua];exact hS
  have hil:=(List.getElem?_eq_some_iff.1 hi).1
  have c1:=aMt ox (by rw [List.length_map];omega)
  generalize hA:bO (st.map (·.net))=A at c1
  generalize hB:bO (st.map (·.tax))=B
  generalize hG:bO [A.1,B.1]=G
  obtain ⟨X1,hX1⟩:∃ X1:St,X1=⟨X.next,X.heap.put a (.row ver 12 (els.set i (splice (q.encW u) 5 [.int .i64 A.1])))⟩:=⟨_,rfl⟩
  have t1:dT 1 (.ptr a ver i 5) (.int .i64 A.1) X=.ok X1:=by rw [hX1];exact stR rA hi (.int .i64 A.1) (w:=1) rfl rfl 5 X.next (by show 5+1≤12;decide)
  have r1:X1.heap.get a=some (.row ver 12 (els.set i (splice (q.encW u) 5 [.int .i64 A.1]))):=by rw [hX1];exact Tr.get_put_sameB _ _ _ trivial
  have g1:∀ z,z≠a→X1.heap.get z=X.heap.get z:=fun z hz=>by rw [hX1];exact Tr.get_put_neB _ _ _ _ trivial hz
  have i1:(els.set i (splice (q.encW u) 5 [.int .i64 A.1]))[i]?=some (splice (q.encW u) 5 [.int .i64 A.1]):=List.getElem?_set_self hil
  have n1:X1.next=X.next:=by rw [hX1]
  have oy1:Own E0 X1 1 y _:=oy.same (by omega) fun z hz=>g1 z (by have:=by_ z hz;omega)
  have c2:=aMt oy1 (by rw [List.length_map];omega)
  rw [hB] at c2
  obtain ⟨X2,hX2⟩:∃ X2:St,X2=⟨X1.next,X1.heap.put a (.row ver 12 ((els.set i (splice (q.encW u) 5 [.int .i64 A.1])).set i (splice (splice (q.encW u) 5 [.int .i64 A.1]) 6 [.int .i64 B.1])))⟩:=⟨_,rfl⟩
  have t2:dT 1 (.ptr a ver i 6) (.int .i64 B.1) X1=.ok X2:=by rw [hX2];exact stR r1 i1 (.int .i64 B.1) (w:=1) rfl rfl 6 X1.next (by show 6+1≤12;decide)
  have r2:X2.heap.get a=some (.row ver 12 ((els.set i (splice (q.encW u) 5 [.int .i64 A.1])).set i (splice (splice (q.encW u) 5 [.int .i64 A.1]) 6 [.int .i64 B.1]))):=by rw [hX2];exact Tr.get_put_sameB _ _ _ trivial
  have g2:∀ z,z≠a→X2.heap.get z=X1.heap.get z:=fun z hz=>by rw [hX2];exact Tr.get_put_neB _ _ _ _ trivial hz
  have i2:((els.set i (splice (q.encW u) 5 [.int .i64 A.1])).set i (splice (splice (q.encW u) 5 [.int .i64 A.1]) 6 [.int .i64 B.1]))[i]?=some (splice (splice (q.encW u) 5 [.int .i64 A.1]) 6 [.int .i64 B.1]):=List.getElem?_set_self (by rw [List.length_set];exact hil)
  have n2:X2.next=X.next:=by rw [hX2,←n1]
  have w2:WF X2:=by rw [hX2,hX1];exact kR (n:=X.next) (kR (n:=X.next) wX (by show a<X.next;omega) (Nat.le_refl _)) (by show a<X.next;omega) (Nat.le_refl _)
  have l5:=ldR r2 i2 none 5
  have l6:=ldR r2 i2 none 6
  simp only [splice,Posted.encW,V.cells,List.length_cons,List.length_nil,List.take,List.drop,List.cons_append,List.nil_append,Nat.reduceAdd,Nat.zero_add,kk] at l5 l6
  obtain ⟨X3,hX3⟩:∃ X3:St,X3=⟨X2.next+18,X2.heap.put (X2.next+9) (.row 0 1 ([A.1,B.1].map cM))⟩:=⟨_,rfl⟩
  have ow:Own E0 X3 1 (.sl (X2.next+9) 0 1 0 2) ([A.1,B.1].map cM):=⟨.inr ⟨X2.next+9,0,[],rfl,Nat.zero_le _,by rw [hX3];show X2.next+9<X2.next+18;omega,by rw [List.append_nil,hX3];exact Tr.get_put_sameB _ _ _ trivial⟩,fun c hc=>by
   rcases List.mem_cons.1 hc with rfl | hc
   ·exact aC6 _
   ·rcases List.mem_cons.1 hc with rfl | hc
    ·exact aC6 _
    ·cases hc⟩
  have c3:=aMt ow (by simp)
  rw [hG] at c3
  have g3:∀ z,z<X2.next+9→X3.heap.get z=X2.heap.get z:=fun z hz=>by rw [hX3];exact Tr.get_put_neB _ _ _ _ trivial (by omega)
  have r3:=(g3 a (by omega)).trans r2
  have w3:WF X3:=by rw [hX3];exact kR (n:=X2.next) w2 (by omega) (by omega)
  have n3:X3.next=X2.next+18:=by rw [hX3]
  obtain ⟨X4,hX4⟩:∃ X4:St,X4=⟨X3.next,X3.heap.put a (.row ver 12 (((els.set i (splice (q.encW u) 5 [.int .i64 A.1])).set i (splice (splice (q.encW u) 5 [.int .i64 A.1]) 6 [.int .i64 B.1])).set i (splice (splice (splice (q.encW u) 5 [.int .i64 A.1]) 6 [.int .i64 B.1]) 7 [.int .i64 G.1])))⟩:=⟨_,rfl⟩
  have t4:dT 1 (.ptr a ver i 7) (.int .i64 G.1) X3=.ok X4:=by rw [hX4];exact stR r3 i2 (.int .i64 G.1) (w:=1) rfl rfl 7 X3.next (by show 7+1≤12;decide)
  have w4:WF X4:=by rw [hX4];exact kR (n:=X3.next) w3 (by omega) (Nat.le_refl _)
  have g4:∀ z,z≠a→X4.heap.get z=X3.heap.get z:=fun z hz=>by rw [hX4];exact Tr.get_put_neB _ _ _ _ trivial hz
  have kp:∀ z,z<S.next→z≠a→AM.blkOf u≠some z→X4.heap.get z=S.heap.get z:=fun z hz hza hzu=>by
   rw [g4 z hza,g3 z (by omega),g2 z hza,g1 z hza]
   exact keep z hz hzu
  have nx4:S.next≤X4.next:=by rw [hX4];show S.next≤X3.next;omega
  simp only [List.map_cons,List.map_nil,cM] at hX3
  simp only [↓cw,↓reduceIte,Nat.reduceLT,kk,Int.lt_irrefl,if_false,c1,t1,c2,t2,l5,l6,aIq,←hX3,c3,t4]
  have hr:nP q.total=lG st:=by rw [lN,←H]
  unfold lG at hr
  rw [hA,hB,hG] at hr
  by_cases a1:A.2=true
  rotate_left
  ·simp only [a1,if_false] at hr ⊢
   exact H2 _ hr w4 nx4 kp
  by_cases a2:B.2=true
  rotate_left
  ·simp only [a1,a2,if_true,if_false] at hr ⊢
   exact H2 _ hr w4 nx4 kp
  by_cases a3:G.2=true
  rotate_left
  ·simp only [a1,a2,a3,if_true,if_false] at hr ⊢
   exact H2 _ hr w4 nx4 kp
  simp only [a1,a2,a3,if_true] at hr ⊢
  refine H1 _ _ hr w4 nx4 ?_ ?_ kp
  ·rw [hX4]
   refine (Tr.get_put_sameB _ _ _ trivial).trans ?_
   rw [List.set_set,List.set_set];rfl
  ·exact oU.same (by rw [hX4];show X.next≤X3.next;omega) fun z hz=>by
    have:=bu z hz
    rw [g4 z (fun e=>hua (by rw [←e];exact hz)),g3 z (by omega),g2 z (fun e=>hua (by rw [←e];exact hz)),g1 z (fun e=>hua (by rw [←e];exact hz))]
end Go.Proofs.YtoaibmbldmckaaaGreat
end
section
namespace Go.Proofs.YtoaibmbldmckaaaGreat
open Go.AM Tryz
theorem bFp:cP prog 153=some none:=by kernel_rfl
theorem bFq:cP prog 156=some none:=by kernel_rfl
theorem bKk {X:St} (w:WF X) {r b vb i:Nat} (hr:X.heap.get r=some (.row 0 1 [[.ptr b vb i 0]])) {n:Nat} {els:List (List V)} (hb:X.heap.get b=some (.row vb n els)) {row:List V} {name:List UInt8} (hi:els[i]?=some (.str name::row)) (s:Ser) {K:KW}
  (H:∀ X',Ext X X'→K (.bool (s.name == name)) X'):C 153 [.agg s.enc,.ptr r 0 0 0] X K:=by
 refine bGp ?_
 have x1:Ext X ⟨X.next+1,X.heap.put X.next (.row 0 4 [s.enc])⟩:=Ext.new w _
 have l1:=ldR (x1.old _ _ hr) (i:=0) rfl none 0
 have l2:=ldR (x1.old _ _ hb) hi none 0
 simp only [Ser.enc] at l1 l2
 simp only [gO,List.getElem?_cons_zero] at l1 l2
 delta Tryz.f153;simp only [↓cw,↓reduceIte,Nat.reduceLT,kk,Ser.enc,l1,l2]
 exact H _ (x1.bump 9)
theorem bKl {X:St} (w:WF X) {r b vb i:Nat} (hr:X.heap.get r=some (.row 0 1 [[.ptr b vb i 0]])) {n:Nat} {els:List (List V)} (hb:X.heap.get b=some (.row vb n els)) {u:V} {p:Posted} (hi:els[i]?=some (p.encW u)) (u':V) (h1:aI [u']=true) (q:Posted) {K:KW}
  (H:∀ X',Ext X X'→K (.bool (decide (q.ref=p.of))) X'):C 156 [.agg (q.encW u'),.ptr r 0 0 0] X K:=by
 refine bGr ?_
 have x1:Ext X ⟨X.next+1,X.heap.put X.next (.row 0 12 [q.encW u'])⟩:=Ext.new w _
 have l1:=ldR (x1.old _ _ hr) (i:=0) rfl none 0
 have l2:=ldR (x1.old _ _ hb) hi (some 2) 9
 simp only [Posted.encW] at l1 l2
 simp only [kk] at l1 l2
 simp only [aI,List.all_cons,List.all_nil,Bool.and_true] at h1
 delta Tryz.f156;simp only [↓cw,↓reduceIte,Nat.reduceLT,kk,Posted.encW,h1,l1,l2]
 rw [show (q.ref.ser == p.of.ser&&decide (q.ref.num=p.of.num))=decide (q.ref=p.of) by rw [Bool.eq_iff_iff];simp [Ref.ext_iff]]
 exact H _ (x1.bump 8)
theorem bKm {S:St} (w:WF S) {v:V} {l:List Ser} (os:Sl S 4 v (l.map Ser.enc)) (hl:l.length<1000000) {fk:Nat} (ht:cP prog fk=some none) {cap:V} {p:Ser→Bool}
  (hf:∀ (s:Ser) X,Ext S X→∀ K:KW,(∀ X',Ext X X'→K (.bool (p s)) X')→C fk [.agg s.enc,cap] X K) {K:KW} (H:∀ X,Ext S X→K (.int .i64 (vR p l)) X):C 152 [v,.func fk [] [cap]] S K:=by
 refine bA5 ?_
 delta Tryz.f152;simp only [↓cw,↓reduceIte,Nat.reduceLT,kk,os.lenI]
 refine aG l (step:=cN p) (fin:=fun _=>-1) (fun i k vs X=>k=i∧vs=[.int .i64 0,.int .i64 (i:Int)]∧Ext S X) (fun r=>r=vR p l) ?_ ?_ ⟨rfl,rfl,Ext.refl _⟩ rfl
 ·rintro i s k vs X hi ⟨rfl,rfl,x⟩ aF H'
  have hil:=(List.getElem?_eq_some_iff.1 hi).1
  obtain ⟨q,e1,e2,e3,_⟩:=(os.ext x).elem (enc:=Ser.enc) hi
  have e4:fN (some 4) q X=.ok (.agg s.enc):=by rw [e2.load0,wM _ _ e3]
  simp only [↓cw,↓reduceIte,Nat.reduceLT,kk,bG hi,e1,e4,↓nI prog C ht,List.nil_append,List.cons_append]
  refine hf s X x _ fun X' x'=>?_
  simp only [cN] at H'
  cases hp:p s<;>simp only [↓cw,↓reduceIte,Nat.reduceLT,hp,kk,gJ (show k<1000000000 by omega)] at H' ⊢
  ·exact H' _ _ ⟨rfl,x.trans x'⟩
  ·rw [H'];exact H _ (x.trans x')
 ·rintro k vs X ⟨rfl,rfl,x⟩ aF H'
  simp only [↓cw,↓reduceIte,Nat.reduceLT,kk,Int.lt_irrefl]
  rw [show (-1:Int)=vR p l from H'];exact H _ x
theorem bKn {S:St} (w:WF S) {v:V} {es:List (List V)} {l:List Posted} (os:Sl S 12 v es) (hes:∀ (i:Nat) (q:Posted),l[i]?=some q→∃ u,es[i]?=some (q.encW u)∧aI [u]=true) (hel:es.length=l.length) (hl:l.length<1000000) {fk:Nat} (ht:cP prog fk=some none) {cap:V} {p:Posted→Bool}
  (hf:∀ (s:Posted) (u:V) X,aI [u]=true→Ext S X→∀ K:KW,(∀ X',Ext X X'→K (.bool (p s)) X')→C fk [.agg (s.encW u),cap] X K) {K:KW} (H:∀ X,Ext S X→K (.int .i64 (vR p l)) X):C 155 [v,.func fk [] [cap]] S K:=by
 refine bA6 ?_
 have hlen:lenW v=.ok (.int .i64 (l.length:Int)):=by rw [os.lenW,hel]
 delta Tryz.f155;simp only [↓cw,↓reduceIte,Nat.reduceLT,kk,hlen]
 refine aG l (step:=cN p) (fin:=fun _=>-1) (fun i k vs X=>k=i∧vs=[.int .i64 0,.int .i64 (i:Int)]∧Ext S X) (fun r=>r=vR p l) ?_ ?_ ⟨rfl,rfl,Ext.refl _⟩ rfl
 ·rintro i s k vs X hi ⟨rfl,rfl,x⟩ aF H'
  have hil:=(List.getElem?_eq_some_iff.1 hi).1
  obtain ⟨u,hu,h1⟩:=hes _ _ hi
  obtain ⟨q,e1,e2⟩:=(os.ext x).idx hu .i64
  have e4:fN (some 12) q X=.ok (.agg (s.encW u)):=by rw [e2.load0,wM _ _ (show (s.encW u).length=12 from rfl)]
  simp only [↓cw,↓reduceIte,Nat.reduceLT,kk,bG hi,e1,e4,↓nI prog C ht,List.nil_append,List.cons_append]
  refine hf s u X h1 x _ fun X' x'=>?_
  simp only [cN] at H'
  cases hp:p s<;>simp only [↓cw,↓reduceIte,Nat.reduceLT,hp,kk,gJ (show k<1000000000 by omega)] at H' ⊢
  ·exact H' _ _ ⟨rfl,x.trans x'⟩
  ·rw [H'];exact H _ (x.trans x')
 ·rintro k vs X ⟨rfl,rfl,x⟩ aF H'
  simp only [↓cw,↓reduceIte,Nat.reduceLT,kk,Int.lt_irrefl]
  rw [show (-1:Int)=vR p l from H'];exact H _ x
section
structure FL (S X:St) (q:Nat) (tv sv pv cv:V) (nx:Int) (us:List V) (ser:List Ser) (l:List Posted) (bv:V):Prop where
 wf:WF X
 nxt:S.next≤X.next
 row:X.heap.get q=some (.row 0 6 [[tv,sv,pv,bv,cv,.int .i64 nx]])
 os:Own E0 X 4 sv (ser.map Ser.enc)
 op:Own E0 X 12 pv (List.zipWith Posted.encW us l)
 pl:PL E0 X us l
 sep:∀ (i:Nat) (u:V) (y:Nat),us[i]?=some u→AM.blkOf u=some y→AM.blkOf sv≠some y
 keep:∀ (y:Nat) (b:Blk),S.heap.get y=some b→y≠q→AM.blkOf sv≠some y→AM.blkOf pv≠some y→(∀ (i:Nat) (u:V),us[i]?=some u→AM.blkOf u≠some y)→X.heap.get y=some b
structure FK (S X:St) (q:Nat) (sv pv:V) (us:List V):Prop where
 wf:WF X
 nxt:S.next≤X.next
 keep:∀ (y:Nat) (b:Blk),S.heap.get y=some b→y≠q→AM.blkOf sv≠some y→AM.blkOf pv≠some y→(∀ (i:Nat) (u:V),us[i]?=some u→AM.blkOf u≠some y)→X.heap.get y=some b
theorem FL.fk {S X:St} {q:Nat} {tv sv pv cv:V} {nx:Int} {us:List V} {ser:List Ser} {l:List Posted} {bv:V} (h:FL S X q tv sv pv cv nx us ser l bv):FK S X q sv pv us:=⟨h.wf,h.nxt,h.keep⟩
theorem Own.wide {S0 X:St} {n m:Nat} {v:V} {es:List (List V)} (o:Own S0 X n v es) {y ver:Nat} {el:List (List V)} (hy:X.heap.get y=some (.row ver m el)) (hne:m≠n):AM.blkOf v≠some y:=by
 intro e
 rcases o.is with ⟨rfl,_⟩ | ⟨a,ver',tl,rfl,_,_,hg⟩
 ·cases e
 ·cases e
  rw [hy] at hg
  injection hg with hg
  injection hg with _ h2
  exact hne h2
theorem Own.blk {S0 X:St} {n:Nat} {v:V} {es:List (List V)} (o:Own S0 X n v es) {y:Nat} (hy:AM.blkOf v=some y):∃ ver tl,v=.sl y ver n 0 es.length∧X.heap.get y=some (.row ver n (es++tl)):=by
 rcases o.is with ⟨rfl,_⟩ | ⟨a,ver,tl,rfl,_,_,hg⟩
 ·cases hy
 ·cases hy;exact ⟨ver,tl,rfl,hg⟩
section
variable {S X:St} {q:Nat} {tv sv pv cv:V} {nx:Int} {us:List V} {ser:List Ser} {l:List Posted} {bv:V}
theorem PL.cong {S0:St} {l':List Posted} (h:PL S0 X us l) (hl:l'.map (·.total.parts)=l.map (·.total.parts)):PL S0 X us l':=by
 have hlen:l'.length=l.length:=by have:=congrArg List.length hl;simpa using this
 refine PL.mk (h.len.trans hlen.symm) (fun i u p h1 h2=>?_) h.sep
 have hi:i<l.length:=by rw [←hlen];exact (List.getElem?_eq_some_iff.1 h2).1
 have e:(l'.map (·.total.parts))[i]?=(l.map (·.total.parts))[i]?:=by rw [hl]
 rw [List.getElem?_map,List.getElem?_map,h2,List.getElem?_eq_getElem hi] at e
 have e:p.total.parts=l[i].total.parts:=Option.some.inj e
 rw [e]
 exact h.own i u _ h1 (List.getElem?_eq_getElem hi)
theorem FL.ext (h:FL S X q tv sv pv cv nx us ser l bv) {X':St} (x:Ext X X'):FL S X' q tv sv pv cv nx us ser l bv:=
 ⟨x.wf h.wf,Nat.le_trans h.nxt x.next,x.old _ _ h.row,h.os.ext x,h.op.ext x,h.pl.move fun _ _ _ _ _ o=>o.ext x,h.sep,fun y b h1 h2 h3 h4 h5=>x.old _ _ (h.keep y b h1 h2 h3 h4 h5)⟩
theorem FL.bump (h:FL S X q tv sv pv cv nx us ser l bv) (c:Nat):FL S ⟨X.next+c,X.heap⟩ q tv sv pv cv nx us ser l bv:=h.ext ((Ext.refl X).bump c)
theorem FL.pu (h:FL S X q tv sv pv cv nx us ser l bv) {i:Nat} {u:V} (hu:us[i]?=some u) {y:Nat} (hy:AM.blkOf u=some y):AM.blkOf pv≠some y:=by
 have hi:i<l.length:=by rw [←h.pl.len];exact (List.getElem?_eq_some_iff.1 hu).1
 exact Own.apart (by decide) (h.pl.own i u _ hu (List.getElem?_eq_getElem hi)) h.op hy
theorem FL.qu (h:FL S X q tv sv pv cv nx us ser l bv) {i:Nat} {u:V} (hu:us[i]?=some u):AM.blkOf u≠some q:=by
 have hi:i<l.length:=by rw [←h.pl.len];exact (List.getElem?_eq_some_iff.1 hu).1
 exact Own.wide (h.pl.own i u _ hu (List.getElem?_eq_getElem hi)) h.row (by decide)
theorem FL.qs (h:FL S X q tv sv pv cv nx us ser l bv):AM.blkOf sv≠some q:=Own.wide h.os h.row (by decide)
theorem FL.qp (h:FL S X q tv sv pv cv nx us ser l bv):AM.blkOf pv≠some q:=Own.wide h.op h.row (by decide)
theorem FL.sp (h:FL S X q tv sv pv cv nx us ser l bv) {y:Nat} (hy:AM.blkOf sv=some y):AM.blkOf pv≠some y:=Own.apart (by decide) h.os h.op hy
theorem FL.turnP (h:FL S X q tv sv pv cv nx us ser l bv) {X':St} {l':List Posted} {b:Nat} (hb:AM.blkOf pv=some b) (hn:X'.next=X.next) (w':WF X') (ho:∀ y,y≠b→X'.heap.get y=X.heap.get y) (op':Own E0 X' 12 pv (List.zipWith Posted.encW us l')) (hl:l'.map (·.total.parts)=l.map (·.total.parts)):
  FL S X' q tv sv pv cv nx us ser l' bv:=by
 refine FL.mk w' (by rw [hn];exact h.nxt) ?_ ?_ op' ?_ h.sep fun y c h1 h2 h3 h4 h5=>?_
 ·rw [ho q fun e=>h.qp (e▸hb)];exact h.row
 ·exact h.os.same (by omega) fun y hy=>ho y fun e=>h.sp hy (e▸hb)
 ·exact (h.pl.move fun i u p hu _ o=>o.same (by omega) fun y hy=>ho y fun e=>h.pu hu hy (e▸hb)).cong hl
 ·rw [ho y fun e=>h4 (e▸hb)];exact h.keep y c h1 h2 h3 h4 h5
theorem FL.turnS (h:FL S X q tv sv pv cv nx us ser l bv) {X':St} {ser':List Ser} {b:Nat} (hb:AM.blkOf sv=some b) (hn:X'.next=X.next) (w':WF X') (ho:∀ y,y≠b→X'.heap.get y=X.heap.get y) (os':Own E0 X' 4 sv (ser'.map Ser.enc)):
  FL S X' q tv sv pv cv nx us ser' l bv:=by
 refine FL.mk w' (by rw [hn];exact h.nxt) ?_ os' ?_ ?_ h.sep fun y c h1 h2 h3 h4 h5=>?_
 ·rw [ho q fun e=>h.qs (e▸hb)];exact h.row
 ·exact h.op.same (by omega) fun y hy=>ho y fun e=>h.sp (e▸hb) hy
 ·exact h.pl.move fun i u p hu _ o=>o.same (by omega) fun y hy=>ho y fun e=>h.sep i u y hu hy (e▸hb)
 ·rw [ho y fun e=>h3 (e▸hb)];exact h.keep y c h1 h2 h3 h4 h5
theorem FL.turnQ (h:FL S X q tv sv pv cv nx us ser l bv) {m:Nat} (hm:X.next≤m) (bv':V):FL S ⟨m,X.heap.put q (.row 0 6 [[tv,sv,pv,bv',cv,.int .i64 nx]])⟩ q tv sv pv cv nx us ser l bv':=by
 have ho:∀ y,y≠q→(X.heap.put q (.row 0 6 [[tv,sv,pv,bv',cv,.int .i64 nx]])).get y=X.heap.get y:=fun y hy=>Tr.get_put_neB _ _ _ _ trivial hy
 refine FL.mk (kR (n:=X.next) h.wf (by have:=h.wf _ _ h.row;omega) hm) (Nat.le_trans h.nxt hm) (Tr.get_put_sameB _ _ _ trivial) ?_ ?_ ?_ h.sep fun y c h1 h2 h3 h4 h5=>?_
 ·exact h.os.same hm fun y hy=>ho y fun e=>h.qs (e▸hy)
 ·exact h.op.same hm fun y hy=>ho y fun e=>h.qp (e▸hy)
 ·exact h.pl.move fun i u p hu _ o=>o.same hm fun y hy=>ho y fun e=>h.qu hu (e▸hy)
 ·exact (ho y h2).trans (h.keep y c h1 h2 h3 h4 h5)
theorem vP (us:List V):∀ (l:List Posted) (i:Nat) (u:V) (p':Posted),us[i]?=some u→(List.zipWith Posted.encW us l).set i (p'.encW u)=List.zipWith Posted.encW us (l.set i p'):=by
 induction us with
 | nil=>intro l i u p' h;simp at h
 | cons a us ih=>
  intro l i u p' h
  cases l with
  | nil=>simp
  | cons p l=>
   cases i with
   | zero=>simp at h;subst h;simp
   | succ i=>simp at h;simp [ih l i u p' h]
theorem zO {us:List V} {l:List Posted} {i:Nat} {u:V} {p:Posted} (hu:us[i]?=some u) (hp:l[i]?=some p):(List.zipWith Posted.encW us l)[i]?=some (p.encW u):=by
 rw [List.getElem?_zipWith,hu,hp]
theorem FL.at (h:FL S X q tv sv pv cv nx us ser l bv) {i:Nat} {p:Posted} (hp:l[i]?=some p):∃ u b vb tl,us[i]?=some u∧pv=.sl b vb 12 0 l.length∧X.heap.get b=some (.row vb 12 (List.zipWith Posted.encW us l++tl))∧(List.zipWith Posted.encW us l++tl)[i]?=some (p.encW u):=by
 have hil:=(List.getElem?_eq_some_iff.1 hp).1
 obtain ⟨u,hu⟩:∃ u,us[i]?=some u:=⟨_,List.getElem?_eq_getElem (by rw [h.pl.len];exact hil)⟩
 have hz:=zO hu hp
 have hzl:(List.zipWith Posted.encW us l).length=l.length:=by rw [List.length_zipWith,h.pl.len,Nat.min_self]
 rcases h.op.is with ⟨_,e⟩ | ⟨a,ver,tl,e1,_,_,e2⟩
 ·rw [e] at hz;simp at hz
 ·exact ⟨u,a,ver,tl,hu,by rw [e1,hzl],e2,by rw [List.getElem?_append_left (by rw [hzl];exact hil)];exact hz⟩
theorem FL.reck (h:FL S X q tv sv pv cv nx us ser l bv) {i:Nat} {p:Posted} (hp:l[i]?=some p) (h12:p.total.parts.length≤12) {b vb m:Nat} (hpv:pv=.sl b vb 12 0 m) {K:KW}
  (H1:∀ t X',nP p.total=some t→X.next≤X'.next→(∀ y c,X.heap.get y=some c→y≠b→(∀ (j:Nat) (u:V),us[j]?=some u→AM.blkOf u≠some y)→X'.heap.get y=some c)→FL S X' q tv sv pv cv nx us ser (l.set i { p with total:=t }) bv→K (.bool true) X') (H2:∀ X',nP p.total=none→WF X'→X.next≤X'.next→(∀ y c,X.heap.get y=some c→y≠b→(∀ (j:Nat) (u:V),us[j]?=some u→AM.blkOf u≠some y)→X'.heap.get y=some c)→K (.bool false) X'):C 154 [.ptr b vb i 5] X K:=by
 obtain ⟨u,b',vb',tl,hu,e1,e2,e3⟩:=h.at hp
 rw [hpv] at e1
 injection e1 with e1 e4
 subst e1 e4
 have hil:=(List.getElem?_eq_some_iff.1 hp).1
 have hbv:AM.blkOf pv=some b:=by rw [hpv];rfl
 have hub:AM.blkOf u≠some b:=fun e=>h.pu hu e hbv
 have hlen:=h.pl.len
 have ho:=h.pl.own i u p hu hp
 refine bKj h.wf e2 e3 ho hub h12 (fun t X' ht w' hn hb' o' hk=>H1 t X' ht hn (fun y c hy hyb hyu=>?_) ?_) fun X' ht w' hn hk=>H2 X' ht w' hn fun y c hy hyb hyu=>by rw [hk y (h.wf _ _ hy) hyb (hyu i u hu)];exact hy
 ·rw [hk y (h.wf _ _ hy) hyb (hyu i u hu)];exact hy
 ·have hzl:(List.zipWith Posted.encW us l).length=l.length:=by rw [List.length_zipWith,hlen,Nat.min_self]
  have kk':∀ y,AM.blkOf pv≠some y→AM.blkOf u≠some y→y<X.next→X'.heap.get y=X.heap.get y:=fun y h1 h2 h3=>hk y h3 (fun e=>h1 (e▸hbv)) h2
  refine FL.mk w' (Nat.le_trans h.nxt hn) ?_ ?_ ?_ ?_ h.sep fun y c h1 h2 h3 h4 h5=>?_
  ·rw [kk' q h.qp (h.qu hu) (h.wf _ _ h.row)];exact h.row
  ·exact h.os.same hn fun y hy=>kk' y (h.sp hy) (fun e=>h.sep i u y hu e hy) (cS h.os hy).2
  ·refine ⟨.inr ⟨b,vb,tl,?_,Nat.zero_le _,Nat.lt_of_lt_of_le (h.wf _ _ e2) hn,?_⟩,?_⟩
   ·rw [hpv,←vP us l i u _ hu,List.length_set,hzl]
    rcases h.op.is with ⟨e,_⟩ | ⟨a,ver,tl',e,_⟩
    ·rw [hpv] at e;cases e
    ·rw [hpv] at e;injection e with _ _ _ _ e;rw [e,hzl]
   ·rw [hb',List.set_append_left _ _ (by rw [hzl];exact hil),vP us l i u _ hu]
   ·intro cs hc
    rw [←vP us l i u _ hu] at hc
    rcases List.mem_or_eq_of_mem_set hc with hc | rfl
    ·exact h.op.len cs hc
    ·exact aBj ho _
  ·refine PL.mk (by rw [List.length_set];exact hlen) (fun j v r h1 h2=>?_) h.pl.sep
   by_cases e:i=j
   ·subst e
    rw [hu] at h1;cases h1
    rw [List.getElem?_set_self hil] at h2;cases h2
    exact o'
   ·rw [List.getElem?_set_ne e] at h2
    exact (h.pl.own j v r h1 h2).same hn fun y hy=>kk' y (h.pu h1 hy) (fun e'=>e (h.pl.sep i j u v y hu h1 e' hy)) (cS (h.pl.own j v r h1 h2) hy).2
  ·rw [kk' y h4 (h5 i u hu) (h.wf _ _ (h.keep y c h1 h2 h3 h4 h5))];exact h.keep y c h1 h2 h3 h4 h5
theorem FL.setP (h:FL S X q tv sv pv cv nx us ser l bv) {i:Nat} {p p':Posted} (hp:l[i]?=some p) {b vb m:Nat} (hpv:pv=.sl b vb 12 0 m) {j:Nat} {x:V} (hx:x.cells=[x]) (hx1:x.one=true) (hj:j<12) (he:∀ u,splice (p.encW u) j [x]=p'.encW u) (ht:p'.total.parts=p.total.parts):
  ∃ X',dT 1 (.ptr b vb i j) x X=.ok X'∧X'.next=X.next∧(∀ y,y≠b→X'.heap.get y=X.heap.get y)∧FL S X' q tv sv pv cv nx us ser (l.set i p') bv:=by
 obtain ⟨u,b',vb',tl,hu,e1,e2,e3⟩:=h.at hp
 have hil:=(List.getElem?_eq_some_iff.1 hp).1
 obtain ⟨a,ver,q1,_,_,_,_,q2⟩:=h.op.setK (rZ h.wf) rC (zO hu hp) .i64
 have e:a=b∧ver=vb:=by rw [hpv] at q1;injection q1 with q1 q3;exact ⟨q1.symm,q3.symm⟩
 obtain ⟨rfl,rfl⟩:=e
 obtain ⟨X',r1,_,r3,r4,r5,r6⟩:=q2 j 1 x (by rw [hx];rfl) (by rw [hx];simp only [aI,List.all_cons,List.all_nil,hx1,Bool.and_self]) (by omega)
 rw [hx,he,vP us l i u p' hu] at r4
 refine ⟨X',r1,r3,r5,h.turnP (by rw [hpv];rfl) r3 (r6 h.wf) r5 r4 ?_⟩
 rw [List.map_set,ht]
 apply List.ext_getElem?
 intro k
 rw [List.getElem?_set]
 split
 ·rename_i e;subst e
  rw [List.length_map,if_pos hil,List.getElem?_map,hp];rfl
 ·rfl
end
end
theorem aY6:V.nilp.cells=[V.nilp]:=rfl
theorem nX (s:State):nQ s=(match aD bN some s.posted (s.ser,[]) with
 | none=>none
 | some r=>if (cK r.2).2=0 then some { s with ser:=r.1,posted:=r.2,book:=(cK r.2).1 } else none):=rfl
theorem FL.atS {S X:St} {q:Nat} {tv sv pv cv:V} {nx:Int} {us:List V} {ser:List Ser} {l:List Posted} {bv:V} (h:FL S X q tv sv pv cv nx us ser l bv):lenW pv=.ok (.int .i64 (l.length:Int)):=by
 rw [h.op.sl.lenW,List.length_zipWith,h.pl.len,Nat.min_self]
theorem tS:∀ (l acc ps:List Part),aD gY some l acc=some ps→ps=acc++l.map pG
 | [],acc,ps,h=>by simp only [aD,Option.some.injEq] at h;simp [h]
 | p::l,acc,ps,h=>by
  simp only [aD,gY] at h
  by_cases c:(cH p.net p.bp).2=0
  ·rw [if_pos c] at h
   have:=tS l _ ps h
   rw [this];simp
  ·rw [if_neg c] at h;cases h
theorem aH8 {t0 t:Total} (h:nP t0=some t) (hf:nN t0):nN t:=by
 rw [lN] at h
 split at h
 ·cases h
 ·rename_i ps hps
  have e:=tS _ _ _ hps
  have ht:t.parts=ps:=by
   unfold lG at h
   repeat' split at h
   all_goals first | (cases h;done) | (cases h;rfl)
  unfold nN
  rw [ht,e]
  refine ⟨by simpa using hf.1,fun q hq=>?_⟩
  simp only [List.nil_append,List.mem_map] at hq
  obtain ⟨p,hp,rfl⟩:=hq
  exact hf.2 p hp
theorem aH9 {l:List Posted} {k:Nat} (h:∀ p∈l,nN p.total):∀ p∈hM l k,nN p.total:=by
 intro p hp
 unfold hM at hp
 split at hp
 ·exact h p hp
 ·rename_i r hr
  rcases List.mem_or_eq_of_mem_set hp with hp | rfl
  ·exact h p hp
  ·exact h r (List.mem_of_getElem? hr)
theorem aHa:∀ (us:List V) (a b:List Posted),a.length≤us.length→(List.zipWith Posted.encW us (a++b)).take a.length=List.zipWith Posted.encW us a
 | us,[],b,_=>by simp
 | [],p::a,b,h=>by simp at h
 | u::us,p::a,b,h=>by
  simp only [List.length_cons,Nat.add_le_add_iff_right] at h
  simp [aHa us a b h]
theorem g71 {S:St} {q:Nat} {tv sv pv cv:V} {us:List V} {s:State} (f0:FL S S q tv sv pv cv s.next us s.ser s.posted .nils) (h8:s.ser.length≤8) (h40:s.posted.length≤40) (h12:∀ p∈s.posted,nN p.total) {K:KW}
  (H1:∀ s' bv X,nQ s=some s'→FL S X q tv sv pv cv s.next us s'.ser s'.posted bv→(bv=.imm (s'.book.map Bal.enc)∨(bv=.nils∧s'.book=[]))→K (.bool true) X) (H2:∀ X,nQ s=none→FK S X q sv pv us→K (.bool false) X):C 71 [.ptr q 0 0 0] S K:=by
 refine v71 ?_
 have r0:=aE f0.row
 delta Tryz.f71;simp only [↓cw,↓reduceIte,Nat.reduceLT,kk,r0,f0.atS]
 refine aG s.posted (step:=bN) (fin:=some) (fun i st vs X=>vs=[.bool false,.int .i64 (i:Int)]∧FL S X q tv sv pv cv s.next us st.1 (st.2++s.posted.drop i) .nils∧st.2.length=i∧st.1.length=s.ser.length∧∀ p∈st.2,nN p.total) (fun r=>r=aD bN some s.posted (s.ser,[])) ?_ ?_ (s:=(s.ser,[])) ⟨rfl,f0,rfl,rfl,fun _ h=>by cases h⟩ rfl
 ·rintro i p ⟨ser,done⟩ vs X hi ⟨rfl,f,hdl,hsl,hfit⟩ aF H
  have hdl:done.length=i:=hdl
  have hsl:ser.length=s.ser.length:=hsl
  have f:FL S X q tv sv pv cv s.next us ser (done++s.posted.drop i) .nils:=f
  have hil:=(List.getElem?_eq_some_iff.1 hi).1
  have hp:(done++s.posted.drop i)[i]?=some p:=by rw [List.getElem?_append_right (by omega),List.getElem?_drop,hdl,Nat.sub_self,Nat.add_zero,hi]
  obtain ⟨u,b,vb,tl,hu,hpv,hb,hrow⟩:=f.at hp
  have r1:=aE f.row
  have x1:Ext X (X.var 1 [.nilp] [.ptr b vb i 0]):=Ext.var f.wf 1 _ _
  have ix:fK 12 pv (.int .i64 (i:Int))=.ok (.ptr b vb i 0):=by
   rw [hpv];simp only [fK,fF (show i<(done++s.posted.drop i).length from (List.getElem?_eq_some_iff.1 hp).1),if_true,Nat.zero_add]
  obtain ⟨X1,hX1⟩:∃ X1:St,X1=X.var 1 [.nilp] [.ptr b vb i 0]:=⟨_,rfl⟩
  rw [←hX1] at x1
  have f1:=f.ext x1
  have q1:=aE f1.row
  have c7:X1.heap.get X.next=some (.row 0 1 [[.ptr b vb i 0]]):=by rw [hX1];exact Tr.get_put_sameB _ _ _ trivial
  simp only [St.var] at hX1
  simp only [↓cw,↓reduceIte,Nat.reduceLT,kk,bG hi,r1,ix,aY6,←hX1,q1]
  refine bKm f1.wf f1.os.sl (by omega) bFp (p:=fun t=>t.name == p.ref.ser) (fun t Y y K' hK=>bKk (y.wf f1.wf) (y.old _ _ c7) (y.old _ _ (x1.old _ _ hb)) hrow t hK) fun X2 x2=>?_
  have hx:vR (fun t:Ser=>t.name == p.ref.ser) ser=cE ser p.ref.ser:=rfl
  rw [hx]
  have f2:=f1.ext x2
  have c72:=aE (x2.old _ _ c7)
  simp only [bN] at H
  rcases mN ser p.ref.ser with h | ⟨k,z,h,h2,h3⟩
  ·simp only [h,show ((-1:Int)<0)=True by simp,if_true] at H
   simp only [↓cw,↓reduceIte,Nat.reduceLT,kk,h,show ((-1:Int)<0)=True by simp,if_true]
   exact H2 _ (by rw [nX,←H]) f2.fk
  have k0:((k:Int)<0)=False:=by simp
  simp only [h,k0,if_false,Int.toNat_natCast,h2] at H
  simp only [↓cw,↓reduceIte,Nat.reduceLT,kk,h,k0,if_false,c72]
  have hkl:=(List.getElem?_eq_some_iff.1 h2).1
  refine f2.reck hp (h12 p (List.mem_of_getElem? hi)).1 hpv (fun t X3 ht hn3 k3 f3=>?_) fun X3 ht w3 hn3 hk3=>?_
  rotate_left
  ·simp only [ht] at H
   simp only [↓cw,↓reduceIte,Nat.reduceLT,kk]
   exact H2 _ (by rw [nX,←H]) ⟨w3,Nat.le_trans f2.nxt hn3,fun y c h1 h2 h3 h4 h5=>hk3 y c (f2.keep y c h1 h2 h3 h4 h5) (fun e=>h4 (by rw [e,hpv];rfl)) h5⟩
  simp only [ht] at H
  have hnX:∀ (j:Nat) (w:V),us[j]?=some w→AM.blkOf w≠some X.next:=fun j w hw e=>by
   have hj:j<(done++s.posted.drop i).length:=by rw [←f.pl.len];exact (List.getElem?_eq_some_iff.1 hw).1
   have:=(cS (f.pl.own j w _ hw (List.getElem?_eq_getElem hj)) e).2
   omega
  have hbX:=f.wf _ _ hb
  have c73:=k3 _ _ (x2.old _ _ c7) (by omega) hnX
  have g73:=aE (S:=⟨X3.next+13,X3.heap⟩) c73
  have f3:=f3.bump 13
  have g3:=aE f3.row
  have hil3:i<(done++s.posted.drop i).length:=(List.getElem?_eq_some_iff.1 hp).1
  have hz:(ser.map Ser.enc)[k]?=some z.enc:=by rw [List.getElem?_map,h2];rfl
  obtain ⟨sa,sver,hsv,_,hsaX,e4,_,_⟩:=f3.os.setK (rZ f3.wf) rC hz .i64
  have l3:=f3.os.ld hsv hz none 1
  have hp3:((done++s.posted.drop i).set i { p with total:=t })[i]?=some { p with total:=t }:=List.getElem?_set_self hil3
  obtain ⟨X4,st4,n4,o4,f4⟩:=f3.setP (p':={ p with ref:=⟨p.ref.ser,z.next⟩,total:=t }) hp3 hpv (j:=1) (x:=.int .i64 z.next) rfl rfl (by decide) (fun _=>rfl) rfl
  rw [List.set_set] at f4
  have g4:=aE f4.row
  have l4:=f4.os.ld hsv hz none 1
  simp only [Ser.enc,kk] at l3 l4
  obtain ⟨sa',sver',hsv',_,_,_,_,set5⟩:=f4.os.setK (rZ f4.wf) rC hz .i64
  obtain ⟨rfl,rfl⟩:sa'=sa∧sver'=sver:=by rw [hsv] at hsv';injection hsv' with h1 h2;exact ⟨h1.symm,h2.symm⟩
  obtain ⟨X5,st5,_,n5,os5,o5,w5⟩:=set5 1 1 (.int .i64 (wr .i64 (z.next+1))) rfl rfl (by decide)
  have hser:(ser.map Ser.enc).set k (splice z.enc 1 [.int .i64 (wr .i64 (z.next+1))])=(ser.set k { z with next:=wr .i64 (z.next+1) }).map Ser.enc:=by rw [List.map_set];rfl
  simp only [V.cells] at os5
  rw [hser] at os5
  have f5:=f4.turnS (by rw [hsv];rfl) n5 (w5 f4.wf) o5 os5
  have hsX:sa'<X.next:=(cS f.os (by rw [hsv];rfl)).2
  have c75:X5.heap.get X.next=some (.row 0 1 [[.ptr b vb i 0]]):=by
   rw [o5 X.next (by omega),o4 X.next (by omega)];exact c73
  have g75:=aE c75
  have g5:=aE f5.row
  have hp5:((done++s.posted.drop i).set i { p with ref:=⟨p.ref.ser,z.next⟩,total:=t })[i]?=some { p with ref:=⟨p.ref.ser,z.next⟩,total:=t }:=List.getElem?_set_self hil3
  obtain ⟨u5,b5,vb5,tl5,hu5,hpv5,hb5,hrow5⟩:=f5.at hp5
  obtain ⟨rfl,rfl⟩:b5=b∧vb5=vb:=by rw [hpv] at hpv5;injection hpv5 with h1 h2;exact ⟨h1.symm,h2.symm⟩
  have l9:=ldR hb5 hrow5 (some 2) 9 X5.next
  simp only [Posted.encW,kk] at l9
  have e9:(⟨X5.next,X5.heap⟩:St)=X5:=rfl
  rw [e9] at l9
  simp only [↓cw,↓reduceIte,Nat.reduceLT,kk,g73,g3,e4,l3,st4,g4,l4,st5,g75,l9]
  rw [show (p.of.ser == []&&decide (p.of.num=0))=decide (p.of=Ref.zero) by rw [Bool.eq_iff_iff];simp [Ref.ext_iff,Ref.zero],gJ (show i<1000000000 by omega)]
  have hl5:(done++s.posted.drop i).set i { p with ref:=⟨p.ref.ser,z.next⟩,total:=t }=(done++[{ p with ref:=⟨p.ref.ser,z.next⟩,total:=t }])++s.posted.drop (i+1):=by
   have hd:s.posted.drop i=p::s.posted.drop (i+1):=by
    have:=(List.getElem?_eq_some_iff.1 hi).2
    rw [←this];exact (List.getElem_cons_drop hil).symm
   rw [hd,List.set_append_right _ _ (by omega),hdl,Nat.sub_self,List.set_cons_zero,List.append_assoc];rfl
  rw [hl5] at f5 hp5 hb5 hrow5
  by_cases hof:p.of=Ref.zero
  ·rw [if_pos hof] at H
   rw [decide_eq_true hof,if_pos rfl]
   exact H _ _ ⟨rfl,f5,by simp [hdl],by rw [List.length_set];exact hsl,fun x hx=>(List.mem_append.1 hx).elim (hfit x) fun hx=>by rw [List.mem_singleton.1 hx];exact aH8 ht (h12 p (List.mem_of_getElem? hi))⟩
  simp only [hof,if_false] at H
  simp only [hof,decide_false,Bool.false_eq_true,if_false]
  generalize hp':({ p with ref:=⟨p.ref.ser,z.next⟩,total:=t }:Posted)=p' at f5 hp5 hb5 hrow5 H
  have hof':p'.of=p.of:=by rw [←hp']
  rw [hpv] at g5
  simp only [↓cw,↓reduceIte,Nat.reduceLT,kk,g5]
  have hbd:dR (done++s.posted.drop i).length none (some (.int .i64 (i:Int)))=.ok (0,i):=by
   have h1:decide ((0:Int)≤(i:Int))=true:=by simp
   have h2:decide ((i:Int)≤((done++s.posted.drop i).length:Int))=true:=by simp;omega
   simp only [dR,h1,h2,Bool.and_self,cond_true,Int.toNat_natCast]
  simp only [↓cw,↓reduceIte,Nat.reduceLT,kk,hbd,Nat.sub_zero]
  have hul:done.length≤us.length:=by rw [f5.pl.len];simp
  have hzt:=aHa us done ([p']++s.posted.drop (i+1)) hul
  rw [←List.append_assoc,hdl] at hzt
  have hzd:(List.zipWith Posted.encW us done).length=i:=by rw [List.length_zipWith];omega
  have hsl':Sl X5 12 (.sl b5 vb5 12 0 i) (List.zipWith Posted.encW us done):=by
   refine ⟨.inr (.inr ⟨b5,vb5,0,_,by rw [hzd],aE hb5,?_,?_⟩),?_⟩
   ·rw [List.length_append,Nat.zero_add,hzd]
    have:=congrArg List.length hzt
    rw [List.length_take,hzd] at this
    omega
   ·rw [List.drop_zero,List.take_append_of_le_length (by
     have:=congrArg List.length hzt
     rw [List.length_take] at this
     omega),hzd]
    exact hzt
   ·intro cs hc
    rw [←hzt] at hc
    exact f5.op.len cs (List.mem_of_mem_take hc)
  have hes:∀ (j:Nat) (r:Posted),done[j]?=some r→∃ v,(List.zipWith Posted.encW us done)[j]?=some (r.encW v)∧aI [v]=true:=by
   intro j r hr
   have hjl:=(List.getElem?_eq_some_iff.1 hr).1
   obtain ⟨v,hv⟩:∃ v,us[j]?=some v:=⟨_,List.getElem?_eq_getElem (by omega)⟩
   have hr':(done++[p']++s.posted.drop (i+1))[j]?=some r:=by rw [List.append_assoc,List.getElem?_append_left hjl];exact hr
   refine ⟨v,zO hv hr,?_⟩
   have:=(f5.pl.own j v r hv hr').one
   simp only [aI,List.all_cons,List.all_nil,this,Bool.and_self]
  refine bKn f5.wf hsl' hes (by rw [hzd,hdl]) (by omega) bFq (p:=fun r=>decide (r.ref=p'.of)) (fun r v Y hv y K' hK=>bKl (y.wf f5.wf) (y.old _ _ c75) (y.old _ _ hb5) hrow5 v hv r hK) fun X6 x6=>?_
  have hx:vR (fun r:Posted=>decide (r.ref=p'.of)) done=cC done p.of:=by rw [hof'];rfl
  rw [hx]
  have f6:=f5.ext x6
  have g6:=aE f6.row
  rw [hpv] at g6
  rcases iZ done p.of with h | ⟨j,r,h,hj,hj3⟩
  ·simp only [h,show ((-1:Int)<0)=True by simp,if_true] at H
   simp only [↓cw,↓reduceIte,Nat.reduceLT,kk,h,show ((-1:Int)<0)=True by simp,if_true]
   exact H2 _ (by rw [nX,←H]) f6.fk
  have j0:((j:Int)<0)=False:=by simp
  simp only [h,j0,if_false,Int.toNat_natCast] at H
  have hjl:=(List.getElem?_eq_some_iff.1 hj).1
  have hj':(done++[p']++s.posted.drop (i+1))[j]?=some r:=by rw [List.append_assoc,List.getElem?_append_left hjl];exact hj
  obtain ⟨X7,st7,n7,o7,f7⟩:=f6.setP (p':={ r with back:=true }) hj' hpv (j:=11) (x:=.bool true) rfl rfl (by decide) (fun _=>rfl) rfl
  have ix7:fK 12 (.sl b5 vb5 12 0 (done++s.posted.drop i).length) (.int .i64 (j:Int))=.ok (.ptr b5 vb5 j 0):=by
   simp only [fK,fF (show j<(done++s.posted.drop i).length by simp;omega),if_true,Nat.zero_add]
  have hl7:(done++[p']++s.posted.drop (i+1)).set j { r with back:=true }=(hM done j++[p'])++s.posted.drop (i+1):=by
   simp only [hM,hj]
   rw [List.append_assoc,List.set_append_left _ _ hjl,List.append_assoc]
  rw [hl7] at f7
  simp only [↓cw,↓reduceIte,Nat.reduceLT,kk,h,j0,if_false,g6,ix7,st7]
  refine H _ _ ⟨rfl,f7,?_,by rw [List.length_set];exact hsl,fun x hx=>(List.mem_append.1 hx).elim (aH9 hfit x) fun hx=>by rw [List.mem_singleton.1 hx,←hp'];exact aH8 ht (h12 p (List.mem_of_getElem? hi))⟩
  have:(hM done j).length=done.length:=by unfold hM;split<;>simp
  simp [this,hdl]
 ·rintro ⟨ser,done⟩ vs X ⟨rfl,f,hdl,hsl,hfit⟩ aF H
  have f:FL S X q tv sv pv cv s.next us ser (done++s.posted.drop s.posted.length) .nils:=f
  rw [List.drop_length,List.append_nil] at f
  have q1:=aE f.row
  have hdl:done.length=s.posted.length:=hdl
  simp only [↓cw,↓reduceIte,Nat.reduceLT,kk,Int.lt_irrefl,if_false,q1,f.atS]
  have hr:nQ s=if (cK done).2=0 then some { s with ser:=ser,posted:=done,book:=(cK done).1 } else none:=by rw [nX,←H]
  have hfit:∀ p∈done,nN p.total:=hfit
  refine aG done (step:=aP) (fin:=fun b=>(b,0)) (fun i b vs X=>vs=[.bool false,.int .i64 (i:Int)]∧∃ bv,FL S X q tv sv pv cv s.next us ser done bv∧(bv=.imm (b.map Bal.enc)∨(bv=.nils∧b=[]))∧b.length≤25*i) (fun r=>r=cK done) ?_ ?_ (s:=[]) ⟨rfl,_,f,.inr ⟨rfl,rfl⟩,Nat.zero_le _⟩ rfl
  ·rintro i p b vs X hi ⟨rfl,bv,f,hbv,hbl⟩ aF H
   have hil:=(List.getElem?_eq_some_iff.1 hi).1
   have hfp:=hfit p (List.mem_of_getElem? hi)
   obtain ⟨u,a,va,tl,hu,hpv,ha,hrow⟩:=f.at hi
   have ix:fK 12 pv (.int .i64 (i:Int))=.ok (.ptr a va i 0):=by
    rw [hpv];simp only [fK,fF hil,if_true,Nat.zero_add]
   have ou:=f.pl.own i u p hu hi
   have l12:=ldR ha hrow (some 12) 0 X.next
   have e12:(⟨X.next,X.heap⟩:St)=X:=rfl
   rw [e12,wM _ _ (show (p.encW u).length=12 from rfl)] at l12
   obtain ⟨X1,hX1⟩:∃ X1:St,X1=X.var 12 [.str [],.int .i64 0,.int .i64 0,.int .i64 0,.int .i64 0,.int .i64 0,.int .i64 0,.int .i64 0,.nils,.str [],.int .i64 0,.bool false] (p.encW u):=⟨_,rfl⟩
   have x1:Ext X X1:=by rw [hX1];exact Ext.var f.wf 12 _ _
   have f1:=f.ext x1
   have c1:X1.heap.get X.next=some (.row 0 12 [p.encW u]):=by rw [hX1];exact Tr.get_put_sameB _ _ _ trivial
   have g1:=aE c1
   have q1:=aE f1.row
   simp only [Posted.encW] at g1 hX1 l12
   simp only [St.var] at hX1
   have o1:=ou.one
   have o2:=ou.cells
   simp only [aP] at H
   have h157:=fun K':KW=>(bEe p.total hfp).frz (S:=X1) (args:=[.agg [.int .i64 p.total.net,.int .i64 p.total.tax,.int .i64 p.total.gross,u]]) (by simp only [frzVs,cZ,(ou.ext x1).frz (bM (fun _=>rfl) _)]) K'
   have hfp1:=hfp.1
   have hel:=qT p.total
   have hle:=lY b (cG p.total).1
   simp only [↓cw,↓reduceIte,Nat.reduceLT,kk,bG hi,ix,l12,o1,o2,aY6,←hX1,q1,g1,h157]
   by_cases c1:(cG p.total).2=0
   rotate_left
   ·simp only [↓cw,↓reduceIte,Nat.reduceLT,kk,c1,not_false_eq_true,if_true] at H ⊢
    exact H2 _ (by rw [hr,if_neg (by rw [←H];exact c1)]) f1.fk
   have hel:=hel.resolve_right (not_not_intro c1)
   have h158:=fun K':KW=>bEr b (cG p.total).1 hbv (by omega) X1 K'
   by_cases c2:(bY b (cG p.total).1).2=0
   rotate_left
   ·simp only [↓cw,↓reduceIte,Nat.reduceLT,kk,c1,c2,h158,q1,not_true_eq_false,not_false_eq_true,if_false,if_true] at H ⊢
    exact H2 _ (by rw [hr,if_neg (by rw [←H];exact c2)]) (f1.turnQ (Nat.le_refl _) _).fk
   simp only [↓cw,↓reduceIte,Nat.reduceLT,kk,c1,c2,h158,q1,not_true_eq_false,if_false,if_true,gJ (show i<1000000000 by omega)] at H ⊢
   exact H _ _ ⟨rfl,_,f1.turnQ (Nat.le_refl _) _,.inl rfl,by omega⟩
  ·rintro b vs X ⟨rfl,bv,f,hbv,hbl⟩ aF H
   have hb:cK done=(b,0):=H.symm
   rw [hb] at hr
   simp only [↓cw,↓reduceIte,Nat.reduceLT,kk,Int.lt_irrefl,if_false]
   exact H1 _ bv X hr f hbv
theorem Own.wput {S0 X:St} {n:Nat} {v:V} {es:List (List V)} (o:Own S0 X n v es) {y ver m k:Nat} {el:List (List V)} (hy:X.heap.get y=some (.row ver m el)) (hne:m≠n) (hk:X.next≤k) (bl:Blk):Own S0 ⟨k,X.heap.put y bl⟩ n v es:=
 o.same hk fun z hz=>Tr.get_put_neB _ _ _ _ trivial (fun e=>Own.wide o hy hne (e▸hz))
theorem PL.wput {S0 X:St} {us:List V} {l:List Posted} (o:PL S0 X us l) {y ver m k:Nat} {el:List (List V)} (hy:X.heap.get y=some (.row ver m el)) (hne:m≠4) (hk:X.next≤k) (bl:Blk):PL S0 ⟨k,X.heap.put y bl⟩ us l:=
 o.move fun _ _ _ _ _ q=>Own.wput q hy hne hk bl
theorem bKo {b:List UInt8} (hb:b.length<1000000000) {S:St} (w:WF S) {v:V} (he:aL S v=.ok (b.map eN)) {K:KW}
  (H:∀ a T,Ext S T→S.next≤a→a<T.next→(∃ z,T.heap.get a=some (.row 0 3 [z]))→(∀ T',Ext T T'→∃ Y:St,Y.next=T'.next∧WF Y∧(∀ y,y<S.next∨T.next≤y→Y.heap.get y=T'.heap.get y)∧∀ most (K':KW),C 145 [.ptr a 0 0 0,.int .i64 most] T' K'=K' (.int .i64 (bF b most ⟨0,0⟩).1) (St.at Y a ((bF b most ⟨0,0⟩).2.cells b)))→K (.ptr a 0 0 0) T):C 60 [v] S K:=by
 refine v60 ?_
 by_cases hne:b=[]
 ·subst hne
  have q:eW 1 1 .nils v none S=.ok (.nils,S):=by simp only [eW,he];rfl
  delta Tryz.f60;simp only [↓cw,↓reduceIte,Nat.reduceLT,kk,q]
  refine H _ _ (Ext.new w _) (Nat.le_refl _) (Nat.lt_succ_self _) ⟨_,Tr.get_put_sameB _ _ _ trivial⟩ fun T' x=>⟨T',rfl,x.wf ((Ext.new w _).wf w),fun _ _=>rfl,fun most K'=>?_⟩
  exact bKh (r:=⟨0,0⟩) (Nat.le_refl _) most (x.old _ _ (Tr.get_put_sameB _ _ _ trivial)) K'
 ·have h1:b.length*1≤35184372088832:=by omega
  have h2:b.length<fL:=by unfold fL;omega
  obtain ⟨a1,a2⟩:=cX (n:=1) (es:=b.map eN) (fun c hc=>by obtain ⟨x,_,rfl⟩:=List.mem_map.1 hc;exact u81 x)
  have q:eW 1 1 .nils v none S=.ok (.sl S.next 0 1 0 b.length,⟨S.next+1,S.heap.put S.next (.row 0 1 (b.map eN))⟩):=by
   obtain ⟨x,t,rfl⟩:=List.exists_cons_of_ne_nil hne
   simp only [List.map_cons,List.length_cons,List.length_map] at h1 h2 a1 a2 he ⊢
   simp only [eW,he,a1,a2,and_self,if_true,h1,h2,dK,List.length_cons,List.length_map]
  delta Tryz.f60;simp only [↓cw,↓reduceIte,Nat.reduceLT,kk,q]
  have x1:=Ext.new w (.row 0 1 (b.map eN))
  have x2:=Ext.new (x1.wf w) (.row 0 3 [[.sl S.next 0 1 0 b.length,.int .i64 0,.int .i64 0]])
  refine H _ _ (x1.trans x2) (Nat.le_succ _) (Nat.lt_succ_self _) ⟨_,Tr.get_put_sameB _ _ _ trivial⟩ fun T' x=>⟨⟨T'.next,T'.heap.cut S.next⟩,rfl,?_,fun y hy=>?_,fun most K'=>?_⟩
  ·intro y d hy
   have hy:(T'.heap.cut S.next).get y=some d:=hy
   rw [Tr.get_cut] at hy
   split at hy
   ·cases hy
   ·exact x.wf (x2.wf (x1.wf w)) y d hy
  ·show (T'.heap.cut S.next).get y=_
   rw [Tr.get_cut,if_neg]
   rcases hy with hy | hy
   ·omega
   ·have hy:S.next+1+1≤y:=hy
    omega
  ·have hc:T'.heap.get S.next=some (.row 0 1 (b.map eN)):=x.old _ _ (x2.old _ _ (Tr.get_put_sameB _ _ _ trivial))
   have hS:T'.heap.get (S.next+1)=some (.row 0 3 [[.sl S.next 0 1 0 b.length,.int .i64 (((⟨0,0⟩:Rd).pos:Nat):Int),.int .i64 (⟨0,0⟩:Rd).err]]):=x.old _ _ (Tr.get_put_sameB _ _ _ trivial)
   exact bKf (n:=0) hb (r:=⟨0,0⟩) (Nat.zero_le _) most hc hS (by omega) hne K'
structure Got (X:St) (v:V) (s:State):Prop where
 is:∃ tv sv pv bv cv us,v=.agg [tv,sv,pv,bv,cv,.int .i64 s.next]∧Own E0 X 5 tv (s.table.map Rate.enc)∧Own E0 X 4 sv (s.ser.map Ser.enc)∧Own E0 X 12 pv (List.zipWith Posted.encW us s.posted)∧PL E0 X us s.posted∧(bv=.imm (s.book.map Bal.enc)∨(bv=.nils∧s.book=[]))∧Own E0 X 5 cv (s.sess.map Sess.enc)
theorem Got.ext {X Y:St} {v:V} {s:State} (h:Got X v s) (x:Ext X Y):Got Y v s:=by
 obtain ⟨tv,sv,pv,bv,cv,us,h1,h2,h3,h4,h5,h6,h7⟩:=h.is
 exact ⟨tv,sv,pv,bv,cv,us,h1,h2.ext x,h3.ext x,h4.ext x,h5.move fun _ _ _ _ _ o=>o.ext x,h6,h7.ext x⟩
theorem Got.zero (X:St):Got X (.agg [.nils,.nils,.nils,.nils,.nils,.int .i64 0]) State.zero:=
 ⟨.nils,.nils,.nils,.nils,.nils,[],rfl,Own.nil _ _ _,Own.nil _ _ _,Own.nil _ _ _,PL.nil _ _,.inr ⟨rfl,rfl⟩,Own.nil _ _ _⟩
theorem aHb {X:St} {us:List V}:∀ {l:List Posted},PL E0 X us l→jG (iP X 3) (List.zipWith Posted.encW us l)=.ok (l.map Posted.enc):=by
 induction us with
 | nil=>intro l h;have:=h.len;cases l with | nil=>rfl | cons p l=>simp at this
 | cons u us ih=>
  intro l h
  cases l with
  | nil=>rfl
  | cons p l=>
   have ou:=h.own 0 u p rfl rfl
   have h':PL E0 X us l:=PL.mk (by have:=h.len;simpa using this) (fun i v q h1 h2=>h.own (i+1) v q h1 h2) (fun i j v v' y h1 h2 h3 h4=>by have:=h.sep (i+1) (j+1) v v' y h1 h2 h3 h4;omega)
   have e1:iP X 3 (p.encW u)=.ok p.enc:=by
    have e0:=ou.frzN (bM (fun _=>rfl) _) 1
    show frzVs lH (lR (iP X 2) X) [_,_,_,_,_,_,_,_,_,_,_,_]=_
    simp only [frzVs,cZ,e0];rfl
   simp only [List.zipWith_cons_cons,jG,e1,ih h',List.map_cons]
theorem Got.frz {X:St} {v:V} {s:State} (h:Got X v s):cZ lH (lR (iP X 3) X) v=.ok (.agg [.imm (s.table.map Rate.enc),.imm (s.ser.map Ser.enc),.imm (s.posted.map Posted.enc),.imm (s.book.map Bal.enc),.imm (s.sess.map Sess.enc),.int .i64 s.next]):=by
 obtain ⟨tv,sv,pv,bv,cv,us,rfl,h2,h3,h4,h5,h6,h7⟩:=h.is
 have e4:cZ lH (lR (iP X 3) X) pv=.ok (.imm (s.posted.map Posted.enc)):=by
  have he:=h4.sl.elems
  rcases h4.is with ⟨rfl,hz⟩ | ⟨a,ver,tl,rfl,_⟩
  ·have hm:=aHb h5
   rw [hz] at hm
   have:s.posted.map Posted.enc=[]:=(Except.ok.inj hm).symm
   rw [this];rfl
  ·show lR (iP X 3) X _=_
   simp only [lR,he,aHb h5]
 have e6:cZ lH (lR (iP X 3) X) bv=.ok (.imm (s.book.map Bal.enc)):=by
  rcases h6 with rfl | ⟨rfl,hq⟩
  ·rfl
  ·rw [hq];rfl
 simp only [cZ,frzVs,h2.frz (bM (fun _=>rfl) _),h3.frz (bM (fun _=>rfl) _),e4,e6,h7.frz (bM (fun _=>rfl) _)]
theorem Got.ptr {X:St} {v:V} {s:State} (h:Got X v s):pR v=[]:=by
 obtain ⟨tv,sv,pv,bv,cv,us,rfl,h2,h3,h4,h5,h6,h7⟩:=h.is
 have e6:pR bv=[]:=by rcases h6 with rfl | ⟨rfl,_⟩<;>rfl
 simp only [pR,ptrsVs,h2.ptrs,h3.ptrs,h4.ptrs,e6,h7.ptrs];rfl
end Go.Proofs.YtoaibmbldmckaaaGreat
end
section
namespace Go.AM
set_option linter.unusedVariables false
set_option linter.unusedSimpArgs false
set_option maxRecDepth 100000
section
variable {P:Program} {pl:gX}
theorem FnR.cutU {f:FuncId} {p:Nat→Option (List bH)} (hpl:pl f=some (.val p)) {lv:Nat→List Nat} {mk:Nat→List V} (hm:Pt mk) {ver n:Nat} {pre0 pre post:List (List V)} {v:V} {c:Nat}
  (h:fD P (W P pl) p lv f (mk 0) ⟨1,Tr.nil.put 0 (.row ver n pre)⟩ fun v0 S0=>v0=v∧S0.heap.get 0=some (.row ver n post)) (hv:lE v=true) (hq:post.all cloVs=true) {S:St} {a:Nat} (hS:S.heap.get a=some (.row ver n pre0))
  (h1:jG (iP S 3) pre0=.ok pre) (h2:kW (iN S 3) pre0=[c]) (hca:c≠a):∃ h',(h'=S.heap∨h'=S.heap.cut c)∧∀ K,W P pl f (mk a) S K=K v ⟨S.next,h'.put a (.row ver n post)⟩:=by
 obtain ⟨v0,S0,g1,rfl,g2⟩:=gE aGc h
 refine ⟨bif gV v0&&nD [(ver,n,post)] then S.heap else S.heap.cut c,by cases gV v0&&nD [(ver,n,post)]<;>simp,fun K=>aC4 (iW (g1.one fun k g1=>?_)) K⟩
 simp only [eO,hpl]
 obtain ⟨q1,q2⟩:=gF (S:=S0) (n:=2) hq
 unfold sP
 rw [hm.ptr,hm.sls]
 have hA:([]++cV S [a])=[c]:=by simp only [cV,hS,h2,List.append_nil,List.nil_append]
 have hB:(jH (kX (iN S0 3) S0) v0++cV S0 (mX 0 1)).any (fun a=>Nat.blt a 1)=false:=by
  simp only [mX,cV,g2,q2,tF v0 hv,List.append_nil,List.any_nil]
 have hC:([c].any fun x=>iM x [a])=false:=by
  simp only [List.any_cons,List.any_nil,iM,Bool.or_false]
  exact Bool.eq_false_iff.2 fun h=>hca (Nat.eq_of_beq_eq_true h)
 rw [hA]
 simp only [hm.frz,gK,hS,h1,hC,cond_false,List.length_cons,List.length_nil,Nat.zero_add,sO,g1,mK v0 hv,hB,lS]
 have:gK S0 (mX 0 1)=.ok [(ver,n,post)]:=by simp only [mX,gK,g2,q1]
 rw [this]
 simp only [pJ,lS]
end
end Go.AM
namespace Go.Proofs.YtoaibmbldmckaaaGreat
open Go.AM Tryz
set_option linter.unusedVariables false
set_option linter.unusedSimpArgs false
set_option maxRecDepth 100000
theorem c73 {b:List UInt8} (hb:b.length<1000000000) {r:Rd} (hr:r.pos≤b.length) (most:Int) {S:St} {a c ver:Nat} (hc:S.heap.get c=some (.row ver 1 (b.map eN))) (hS:S.heap.get a=some (.row 0 3 [[.sl c ver 1 0 b.length,.int .i64 (r.pos:Int),.int .i64 r.err]])) (hca:c≠a):
  ∃ h',(h'=S.heap∨h'=S.heap.cut c)∧∀ K:KW,C 73 [.ptr a 0 0 0,.int .i64 most] S K=K (.int .i64 (bF b most r).1) (St.at ⟨S.next,h'⟩ a ((bF b most r).2.cells b)):=by
 have f1:cZ lH (lR (iP S 2) S) (.sl c ver 1 0 b.length)=.ok (.imm (b.map eN)):=by
  have he:aL S (.sl c ver 1 0 b.length)=.ok (b.map eN):=by
   have:=aBh hc (i:=b.length) (by rw [List.length_map];omega)
   rw [this,List.take_of_length_le (by rw [List.length_map];omega)]
  simp only [cZ,lR,he,(gF (S:=S) (n:=1) (bM (enc:=eN) (fun _=>rfl) b)).1]
 have f2:jH (kX (iN S 2) S) (.sl c ver 1 0 b.length)=[c]:=by
  have he:aL S (.sl c ver 1 0 b.length)=.ok (b.map eN):=by
   have:=aBh hc (i:=b.length) (by rw [List.length_map];omega)
   rw [this,List.take_of_length_le (by rw [List.length_map];omega)]
  simp only [jH,kX,he,(gF (S:=S) (n:=1) (bM (enc:=eN) (fun _=>rfl) b)).2]
 have e1:iP S 3 [.sl c ver 1 0 b.length,.int .i64 (r.pos:Int),.int .i64 r.err]=.ok (r.cells b):=by
  show frzVs lH (lR (iP S 2) S) [_,_,_]=_
  simp only [frzVs,f1];rfl
 have e2:iN S 3 [.sl c ver 1 0 b.length,.int .i64 (r.pos:Int),.int .i64 r.err]=[c]:=by
  show slsVs (kX (iN S 2) S) [_,_,_]=_
  simp only [slsVs,f2];rfl
 exact FnR.cutU (mk:=fun a=>[.ptr a 0 0 0,.int .i64 most]) bFn (lv:=eG []) (Pt.head rfl) (pre:=[r.cells b]) (b73 hb hr most) rfl (Rd.clo b _) hS (by simp only [jG,e1]) (by simp only [kW,e2];rfl) hca
theorem bKp {b:List UInt8} (hb:b.length<1000000000) {S:St} (w:WF S) {K:KW}
  (H:∀ a T,Ext S T→S.next≤a→a<T.next→(∃ z,T.heap.get a=some (.row 0 3 [z]))→(∀ T',Ext T T'→∀ most,∃ Y:St,Y.next=T'.next∧WF Y∧(∀ y,y<S.next∨T.next≤y→Y.heap.get y=T'.heap.get y)∧∀ (K':KW),C 73 [.ptr a 0 0 0,.int .i64 most] T' K'=K' (.int .i64 (bF b most ⟨0,0⟩).1) (St.at Y a ((bF b most ⟨0,0⟩).2.cells b)))→K (.ptr a 0 0 0) T):C 72 [.imm (b.map eN)] S K:=by
 refine v72 ?_
 have h1:(0+b.length)*1≤35184372088832:=by omega
 have h2:0+b.length<fL:=by unfold fL;omega
 obtain ⟨a1,a2⟩:=cX (n:=1) (es:=b.map eN) (fun c hc=>by obtain ⟨x,_,rfl⟩:=List.mem_map.1 hc;exact u81 x)
 have q0:cW 1 [V.int IntKind.u8 0] 0 [] none S=.ok (.sl S.next 0 1 0 0,⟨S.next+1,S.heap.put S.next (.row 0 1 [])⟩):=by
  unfold cW
  rw [if_pos (by decide)]
  simp only [List.replicate,tW,dK]
 have q:eW 1 1 (.sl S.next 0 1 0 0) (.imm (b.map eN)) none ⟨S.next+1,S.heap.put S.next (.row 0 1 [])⟩=.ok (.sl S.next 1 1 0 b.length,⟨S.next+1,(S.heap.put S.next (.row 0 1 [])).put S.next (.row 1 1 (b.map eN))⟩):=by
  have he:aL ⟨S.next+1,S.heap.put S.next (.row 0 1 [])⟩ (.imm (b.map eN))=.ok (b.map eN):=rfl
  simp only [eW,he,a1,a2,and_self,if_true,aA,List.length_nil,List.length_map,Nat.add_zero,Nat.le_refl,h1,h2,true_and,List.drop_nil,List.take_nil,List.nil_append,Nat.zero_add]
  rw [if_pos ⟨by omega,by omega⟩]
 delta Tryz.f72;simp only [↓cw,↓reduceIte,Nat.reduceLT,kk,q0,q]
 have x1:Ext S ⟨S.next+1,(S.heap.put S.next (.row 0 1 [])).put S.next (.row 1 1 (b.map eN))⟩:=(Ext.new w _).put (Nat.le_refl _) (Nat.lt_succ_self _) (Nat.le_refl _) w _
 have x2:=Ext.new (x1.wf w) (.row 0 3 [[.sl S.next 1 1 0 b.length,.int .i64 0,.int .i64 0]])
 refine H _ _ (x1.trans x2) (Nat.le_succ _) (Nat.lt_succ_self _) ⟨_,Tr.get_put_sameB _ _ _ trivial⟩ fun T' x most=>?_
 have hc:T'.heap.get S.next=some (.row 1 1 (b.map eN)):=x.old _ _ (x2.old _ _ (Tr.get_put_sameB _ _ _ trivial))
 have hS:T'.heap.get (S.next+1)=some (.row 0 3 [[.sl S.next 1 1 0 b.length,.int .i64 (((⟨0,0⟩:Rd).pos:Nat):Int),.int .i64 (⟨0,0⟩:Rd).err]]):=x.old _ _ (Tr.get_put_sameB _ _ _ trivial)
 obtain ⟨h',hh,hK⟩:=c73 hb (r:=⟨0,0⟩) (Nat.zero_le _) most hc hS (by omega)
 have hg:∀ y,y≠S.next→h'.get y=T'.heap.get y:=by
  intro y hy
  rcases hh with rfl | rfl
  ·rfl
  ·rw [Tr.get_cut,if_neg hy]
 refine ⟨⟨T'.next,h'⟩,rfl,?_,fun y hy=>hg y ?_,hK⟩
 ·intro y d hy
  have wT:=x.wf (x2.wf (x1.wf w))
  rcases hh with rfl | rfl
  ·exact wT y d hy
  ·have hy:(T'.heap.cut S.next).get y=some d:=hy
   rw [Tr.get_cut] at hy
   split at hy
   ·cases hy
   ·exact wT y d hy
 ·rcases hy with hy | hy
  ·omega
  ·have hy:S.next+1+1≤y:=hy
   omega
end Go.Proofs.YtoaibmbldmckaaaGreat
end
section
namespace Go.Proofs.YtoaibmbldmckaaaGreat
open Go.AM Tryz
section
structure Stg (S X:St) (q a:Nat) (row cs:List V):Prop where
 w:WF S
 ext:Ext S X
 lq:S.next≤q
 la:S.next≤a
 ne:a≠q
 rq:X.heap.get q=some (.row 0 6 [row])
 ra:X.heap.get a=some (.row 0 3 [cs])
section
variable {S X:St} {q a:Nat} {row cs:List V}
theorem Stg.wf (h:Stg S X q a row cs):WF X:=h.ext.wf h.w
theorem Stg.qlt (h:Stg S X q a row cs):q<X.next:=h.wf _ _ h.rq
theorem Stg.alt (h:Stg S X q a row cs):a<X.next:=h.wf _ _ h.ra
theorem Stg.put (h:Stg S X q a row cs) (row':List V):Stg S ⟨X.next,X.heap.put q (.row 0 6 [row'])⟩ q a row' cs:=
 ⟨h.w,h.ext.put h.lq h.qlt (Nat.le_refl _) h.w _,h.lq,h.la,h.ne,Tr.get_put_sameB _ _ _ trivial,(Tr.get_put_neB _ _ _ _ trivial h.ne).trans h.ra⟩
theorem Stg.at (h:Stg S X q a row cs) {cs':List V} {X':St} (e:Ext (St.at X a cs') X'):Stg S X' q a row cs':=
 ⟨h.w,(h.ext.put h.la h.alt (Nat.le_refl _) h.w _).trans e,h.lq,h.la,h.ne,e.old _ _ ((Tr.get_put_neB _ _ _ _ trivial h.ne.symm).trans h.rq),e.old _ _ (St.at_get _ _ _)⟩
theorem Stg.ownP (h:Stg S X q a row cs) {n:Nat} {v:V} {es:List (List V)} {S0:St} (o:Own S0 X n v es) (hn:6≠n) (row':List V):Own S0 ⟨X.next,X.heap.put q (.row 0 6 [row'])⟩ n v es:=Own.wput o h.rq hn (Nat.le_refl _) _
theorem Stg.ownA (h:Stg S X q a row cs) {n:Nat} {v:V} {es:List (List V)} {S0:St} (o:Own S0 X n v es) (hn:3≠n) {cs':List V} {X':St} (e:Ext (St.at X a cs') X'):Own S0 X' n v es:=(Own.wput o h.ra hn (Nat.le_refl _) _).ext e
theorem Stg.plP (h:Stg S X q a row cs) {us:List V} {l:List Posted} {S0:St} (o:PL S0 X us l) (row':List V):PL S0 ⟨X.next,X.heap.put q (.row 0 6 [row'])⟩ us l:=o.wput h.rq (by decide) (Nat.le_refl _) _
theorem Stg.plA (h:Stg S X q a row cs) {us:List V} {l:List Posted} {S0:St} (o:PL S0 X us l) {cs':List V} {X':St} (e:Ext (St.at X a cs') X'):PL S0 X' us l:=(o.wput h.ra (by decide) (Nat.le_refl _) _).move fun _ _ _ _ _ o=>o.ext e
end
theorem PL.weak {S0 X A:St} {us:List V} {l:List Posted} (h:PL S0 X us l) (hA:A.next≤S0.next):PL A X us l:=h.move fun _ _ _ _ _ o=>o.weaken hA
theorem Got.put {X:St} {v:V} {s:State} (h:Got X v s) {y ver:Nat} {el:List (List V)} (hy:X.heap.get y=some (.row ver 6 el)) (bl:Blk):Got ⟨X.next,X.heap.put y bl⟩ v s:=by
 obtain ⟨tv,sv,pv,bv,cv,us,h1,h2,h3,h4,h5,h6,h7⟩:=h.is
 exact ⟨tv,sv,pv,bv,cv,us,h1,Own.wput h2 hy (by decide) (Nat.le_refl _) _,Own.wput h3 hy (by decide) (Nat.le_refl _) _,Own.wput h4 hy (by decide) (Nat.le_refl _) _,h5.wput hy (by decide) (Nat.le_refl _) _,h6,Own.wput h7 hy (by decide) (Nat.le_refl _) _⟩
theorem aNc (b:List UInt8) (r:Rd):(fA b 64 r).1.length≤64:=by
 unfold fA
 split
 ·rename_i h
  have:=vO h
  split
  ·exact Nat.zero_le _
  ·rw [List.length_take];omega
 ·exact Nat.zero_le _
theorem aBk {α:Type} (f:Rd→α×Rd):∀ (n:Nat) (r:Rd),(aH f n r).1.length≤n
 | 0,r=>Nat.le_refl _
 | n+1,r=>by
  unfold aH
  split
  ·simpa using aBk f n (f r).2
  ·exact Nat.zero_le _
theorem iF {α:Type} (f:Rd→α×Rd):∀ (n:Nat) (r:Rd) (a:α),a∈(aH f n r).1→∃ r',a=(f r').1
 | 0,r,a,h=>by cases h
 | n+1,r,a,h=>by
  unfold aH at h
  split at h
  ·rcases List.mem_cons.1 h with h | h
   ·exact ⟨r,h⟩
   ·exact iF f n _ a h
  ·cases h
theorem jQ {α:Type} (b:List UInt8) (f:Rd→α×Rd) (most:Nat) (r:Rd):(aO b f most r).1.length≤most:=by
 unfold aO
 have:=(fJ (b:=b) (r:=r) (most:=most) (by omega) eJ).2
 have:=aBk f (bF b most r).1.toNat (bF b most r).2
 omega
theorem aLh (b:List UInt8) (r:Rd):nN (cJ b r).1.total:=by
 refine ⟨jQ b (eB b) 12 _,fun q hq=>?_⟩
 obtain ⟨r',rfl⟩:=iF _ _ _ _ hq
 have:(eB b r').1.cat.length≤64:=aNc b r'
 omega
theorem bKq {b:List UInt8} (hb:b.length<1000000000) {r:Rd} (hr:r.pos≤b.length) {X:St} {a:Nat} (hX:X.heap.get a=some (.row 0 3 [r.cells b])) (K:KW):C 69 [.ptr a 0 0 0] X K=K (.int .i64 (aR b r).1) (St.at X a ((aR b r).2.cells b)):=(r69 hb hr).eq hX K
theorem bKr {b:List UInt8} {r:Rd} {X:St} {a:Nat} (hX:X.heap.get a=some (.row 0 3 [r.cells b])) (K:KW):C 70 [.ptr a 0 0 0] X K=K (.int .i64 (iL b r).err) (St.at X a ((iL b r).cells b)):=r70.eq hX K
theorem g20 {b:List UInt8} (hb:b.length<1000000000) {S:St} (w:WF S) {v:V} (he:aL S v=.ok (b.map eN)) {K:KW}
  (H:∀ X u,Ext S X→Got X u (eY b).1→K (.tup [u,.int .i64 (eY b).2]) X):C 20 [v] S K:=by
 refine v20 ?_
 obtain ⟨S1,hS1⟩:∃ S1:St,S1=⟨S.next+1,S.heap.put S.next (.row 0 6 [[.nils,.nils,.nils,.nils,.nils,.int .i64 0]])⟩:=⟨_,rfl⟩
 have x1:Ext S S1:=by rw [hS1];exact Ext.new w _
 delta Tryz.f20;simp only [↓cw,↓reduceIte,Nat.reduceLT,kk,←hS1]
 refine bKo hb (x1.wf w) (x1.elems he) fun a T xT ha haT hz h145=>?_
 obtain ⟨T',hT'⟩:∃ T':St,T'=⟨T.next+1,T.heap.put T.next (.row 0 6 [[.nils,.nils,.nils,.nils,.nils,.int .i64 0]])⟩:=⟨_,rfl⟩
 have xT':Ext T T':=by rw [hT'];exact Ext.new (xT.wf (x1.wf w)) _
 simp only [←hT']
 obtain ⟨Y,hYn,wY,hY,h145⟩:=h145 T' xT'
 obtain ⟨q,hq⟩:∃ q,q=T.next:=⟨_,rfl⟩
 have n1:S1.next=S.next+1:=by rw [hS1]
 have nT:T'.next=T.next+1:=by rw [hT']
 have nx:=xT.next
 have w1:=x1.wf w
 have xS:Ext S1 T':=xT.trans xT'
 have xY:Ext S1 Y:=⟨fun y c hy=>by have:=w1 y c hy;rw [hY y (.inl (by omega))];exact xS.old y c hy,by omega,fun _=>wY⟩
 have qY:Y.heap.get q=some (.row 0 6 [[.nils,.nils,.nils,.nils,.nils,.int .i64 0]]):=by rw [hq,hY T.next (.inr (Nat.le_refl _)),hT'];exact Tr.get_put_sameB _ _ _ trivial
 rw [←hq]
 have gI:eY b=(if (pI b ⟨0,0⟩).2.err=0 then (if (pI b ⟨0,0⟩).2.pos<b.length then (State.zero,(5:Int)) else match nQ (pI b ⟨0,0⟩).1 with
  | none=>(State.zero,4)
  | some s=>if fX s=true then (s,0) else (State.zero,4)) else (State.zero,(pI b ⟨0,0⟩).2.err)):=aDt b
 unfold pI at gI
 refine bKg hb (S:=Y) (by omega) (Nat.zero_le _:(⟨0,0⟩:Rd).pos≤b.length) wY (h145 24) fun tv X1 e1 o1 p1=>?_
 generalize aO b (dD b) 24 ⟨0,0⟩=m1 at e1 o1 p1 gI ⊢
 obtain ⟨tab,r1⟩:=m1
 simp only at e1 o1 p1 gI ⊢
 have s1:Stg S1 X1 q a [.nils,.nils,.nils,.nils,.nils,.int .i64 0] (r1.cells b):=by
  have hya:q≠a:=by omega
  exact ⟨w1,(xY.put (a:=a) (m:=Y.next) (by omega) (by omega) (Nat.le_refl _) w1 _).trans e1,by omega,by omega,by omega,e1.old _ _ ((Tr.get_put_neB _ _ _ _ trivial hya).trans qY),e1.old _ _ (St.at_get _ _ _)⟩
 have t1:=o1.weaken (A:=S1) (by show S1.next≤Y.next;omega)
 have t1c:=t1.cells
 have t1o:=t1.one
 have q1:=aE s1.rq
 simp only [↓cw,↓reduceIte,Nat.reduceLT,kk,q1,t1c,t1o]
 have s1':=s1.put [tv,.nils,.nils,.nils,.nils,.int .i64 0]
 have t1':=s1.ownP t1 (by decide) [tv,.nils,.nils,.nils,.nils,.int .i64 0]
 generalize (⟨X1.next,X1.heap.put q (.row 0 6 [[tv,.nils,.nils,.nils,.nils,.int .i64 0]])⟩:St)=X1' at s1' t1' ⊢
 refine g63 hb s1'.alt p1 s1'.wf s1'.ra fun sv X2 e2 o2 p2=>?_
 have hl2:=jQ b (dE b) 8 r1
 rw [show ((8:Nat):Int)=8 from rfl] at hl2
 generalize aO b (dE b) 8 r1=m2 at e2 o2 p2 gI hl2 ⊢
 obtain ⟨ser,r2⟩:=m2
 simp only at e2 o2 p2 gI hl2 ⊢
 have s2:=s1'.at e2
 have t2:=s1'.ownA t1' (by decide) e2
 have v2:=o2.weaken (A:=S1) s1'.ext.next
 have v2c:=v2.cells
 have v2o:=v2.one
 have q2:=aE s2.rq
 simp only [↓cw,↓reduceIte,Nat.reduceLT,kk,q2,v2c,v2o]
 have s2':=s2.put [tv,sv,.nils,.nils,.nils,.int .i64 0]
 have t2':=s2.ownP t2 (by decide) [tv,sv,.nils,.nils,.nils,.int .i64 0]
 have v2':=s2.ownP v2 (by decide) [tv,sv,.nils,.nils,.nils,.int .i64 0]
 generalize (⟨X2.next,X2.heap.put q (.row 0 6 [[tv,sv,.nils,.nils,.nils,.int .i64 0]])⟩:St)=X2' at s2' t2' v2' ⊢
 have hl3:=jQ b (cJ b) 40 r2
 have hm3:∀ p∈(aO b (cJ b) 40 r2).1,nN p.total:=fun p hp=>by
  obtain ⟨r',rfl⟩:=iF _ _ _ _ hp
  exact aLh b r'
 rw [show ((40:Nat):Int)=40 from rfl] at hl3
 refine g65 hb s2'.alt p2 s2'.wf s2'.ra fun pv us X3 e3 o3 pl3 p3=>?_
 generalize aO b (cJ b) 40 r2=m3 at e3 o3 pl3 p3 gI hl3 hm3 ⊢
 obtain ⟨pst,r3⟩:=m3
 simp only at e3 o3 pl3 p3 gI hl3 hm3 ⊢
 have s3:=s2'.at e3
 have t3:=s2'.ownA t2' (by decide) e3
 have v3:=s2'.ownA v2' (by decide) e3
 have u3:=o3.weaken (A:=S1) s2'.ext.next
 have sep:∀ (i:Nat) (u:V) (y:Nat),us[i]?=some u→AM.blkOf u=some y→AM.blkOf sv≠some y:=by
  intro i u y hu hy e
  have hi:i<pst.length:=by rw [←pl3.len];exact (List.getElem?_eq_some_iff.1 hu).1
  have h1:X2'.next≤y:=(cS (pl3.own i u _ hu (List.getElem?_eq_getElem hi)) hy).1
  have h2:=(cS v2' e).2
  omega
 have l3:=pl3.weak (A:=S1) s2'.ext.next
 have u3c:=u3.cells
 have u3o:=u3.one
 have q3:=aE s3.rq
 simp only [↓cw,↓reduceIte,Nat.reduceLT,kk,q3,u3c,u3o]
 have s3':=s3.put [tv,sv,pv,.nils,.nils,.int .i64 0]
 have t3':=s3.ownP t3 (by decide) [tv,sv,pv,.nils,.nils,.int .i64 0]
 have v3':=s3.ownP v3 (by decide) [tv,sv,pv,.nils,.nils,.int .i64 0]
 have u3':=s3.ownP u3 (by decide) [tv,sv,pv,.nils,.nils,.int .i64 0]
 have l3':=s3.plP l3 [tv,sv,pv,.nils,.nils,.int .i64 0]
 generalize (⟨X3.next,X3.heap.put q (.row 0 6 [[tv,sv,pv,.nils,.nils,.int .i64 0]])⟩:St)=X3' at s3' t3' v3' u3' l3' ⊢
 refine g67 hb s3'.alt p3 s3'.wf s3'.ra fun cv X4 e4 o4 p4=>?_
 generalize aO b (dX b) 8 r3=m4 at e4 o4 p4 gI ⊢
 obtain ⟨ses,r4⟩:=m4
 simp only at e4 o4 p4 gI ⊢
 have s4:=s3'.at e4
 have t4:=s3'.ownA t3' (by decide) e4
 have v4:=s3'.ownA v3' (by decide) e4
 have u4:=s3'.ownA u3' (by decide) e4
 have l4:=s3'.plA l3' e4
 have c4:=o4.weaken (A:=S1) s3'.ext.next
 have c4c:=c4.cells
 have c4o:=c4.one
 have q4:=aE s4.rq
 simp only [↓cw,↓reduceIte,Nat.reduceLT,kk,q4,c4c,c4o]
 have s4':=s4.put [tv,sv,pv,.nils,cv,.int .i64 0]
 have t4':=s4.ownP t4 (by decide) [tv,sv,pv,.nils,cv,.int .i64 0]
 have v4':=s4.ownP v4 (by decide) [tv,sv,pv,.nils,cv,.int .i64 0]
 have u4':=s4.ownP u4 (by decide) [tv,sv,pv,.nils,cv,.int .i64 0]
 have c4':=s4.ownP c4 (by decide) [tv,sv,pv,.nils,cv,.int .i64 0]
 have l4':=s4.plP l4 [tv,sv,pv,.nils,cv,.int .i64 0]
 generalize (⟨X4.next,X4.heap.put q (.row 0 6 [[tv,sv,pv,.nils,cv,.int .i64 0]])⟩:St)=X4' at s4' t4' v4' u4' c4' l4' ⊢
 have p5:=aK p4
 simp only [bKq hb p4 s4'.ra]
 generalize aR b r4=m5 at gI p5 ⊢
 obtain ⟨nx,r5⟩:=m5
 simp only at gI p5 ⊢
 have e5:=Ext.refl (St.at X4' a (r5.cells b))
 have s5:=s4'.at e5
 have t5:=s4'.ownA t4' (by decide) e5
 have v5:=s4'.ownA v4' (by decide) e5
 have u5:=s4'.ownA u4' (by decide) e5
 have c5:=s4'.ownA c4' (by decide) e5
 have l5:=s4'.plA l4' e5
 generalize St.at X4' a (r5.cells b)=X5 at s5 t5 v5 u5 c5 l5 ⊢
 have q5:=aE s5.rq
 simp only [↓cw,↓reduceIte,Nat.reduceLT,kk,q5]
 have s5':=s5.put [tv,sv,pv,.nils,cv,.int .i64 nx]
 have t5':=s5.ownP t5 (by decide) [tv,sv,pv,.nils,cv,.int .i64 nx]
 have v5':=s5.ownP v5 (by decide) [tv,sv,pv,.nils,cv,.int .i64 nx]
 have u5':=s5.ownP u5 (by decide) [tv,sv,pv,.nils,cv,.int .i64 nx]
 have c5':=s5.ownP c5 (by decide) [tv,sv,pv,.nils,cv,.int .i64 nx]
 have l5':=s5.plP l5 [tv,sv,pv,.nils,cv,.int .i64 nx]
 generalize (⟨X5.next,X5.heap.put q (.row 0 6 [[tv,sv,pv,.nils,cv,.int .i64 nx]])⟩:St)=X5' at s5' t5' v5' u5' c5' l5' ⊢
 simp only [bKr s5'.ra]
 have e6:=Ext.refl (St.at X5' a ((iL b r5).cells b))
 have s6:=s5'.at e6
 have t6:=s5'.ownA t5' (by decide) e6
 have v6:=s5'.ownA v5' (by decide) e6
 have u6:=s5'.ownA u5' (by decide) e6
 have c6:=s5'.ownA c5' (by decide) e6
 have l6:=s5'.plA l5' e6
 generalize St.at X5' a ((iL b r5).cells b)=X6 at s6 t6 v6 u6 c6 l6 ⊢
 have hE:(iL b r5).err=if r5.err=0 then (if r5.pos<b.length then 5 else 0) else r5.err:=by
  unfold iL
  split
  ·split
   ·rfl
   ·assumption
  ·rfl
 rw [hE]
 have rS:X6.heap.get S.next=some (.row 0 6 [[.nils,.nils,.nils,.nils,.nils,.int .i64 0]]):=s6.ext.old _ _ (by rw [hS1];exact Tr.get_put_sameB _ _ _ trivial)
 have hSq:S.next≠q:=by omega
 have fail:∀ (X:St) (e:Int),Ext S1 X→X.heap.get S.next=some (.row 0 6 [[.nils,.nils,.nils,.nils,.nils,.int .i64 0]])→eY b=(State.zero,e)→K (.tup [.agg [.nils,.nils,.nils,.nils,.nils,.int .i64 0],.int .i64 e]) ⟨X.next,X.heap.put S.next (.row 0 6 [[.nils,.nils,.nils,.nils,.nils,.int .i64 0]])⟩:=by
  intro X e x hr hg
  have:=H ⟨X.next,X.heap.put S.next (.row 0 6 [[.nils,.nils,.nils,.nils,.nils,.int .i64 0]])⟩ _ ((x1.trans x).put (Nat.le_refl _) (by have:=x.next;omega) (Nat.le_refl _) w _) (by rw [hg];exact Got.zero _)
  rw [hg] at this
  exact this
 by_cases h5:r5.err=0
 rotate_left
 ·rw [if_neg h5] at gI ⊢
  simp only [↓cw,↓reduceIte,Nat.reduceLT,kk,h5,not_false_eq_true,if_true,aE rS,aA]
  exact fail X6 _ s6.ext rS gI
 rw [if_pos h5] at gI ⊢
 by_cases h6:r5.pos<b.length
 ·rw [if_pos h6] at gI ⊢
  simp only [↓cw,↓reduceIte,Nat.reduceLT,kk,show ¬ ((5:Int)=0) by decide,not_false_eq_true,if_true,aE rS,aA]
  exact fail X6 _ s6.ext rS gI
 rw [if_neg h6] at gI ⊢
 simp only [↓cw,↓reduceIte,Nat.reduceLT,kk,not_true_eq_false,if_false]
 have f0:FL X6 X6 q tv sv pv cv nx us ser pst .nils:=⟨s6.wf,Nat.le_refl _,s6.rq,v6.weaken (Nat.zero_le _),u6.weaken (Nat.zero_le _),l6.weak (Nat.zero_le _),sep,fun y b h _ _ _ _=>h⟩
 have z6:S.next<S1.next:=by omega
 have bV:∀ y,AM.blkOf sv=some y→S1.next≤y:=fun y hy=>(cS v6 hy).1
 have bU:∀ y,AM.blkOf pv=some y→S1.next≤y:=fun y hy=>(cS u6 hy).1
 have bL:∀ (i:Nat) (u:V) (y:Nat),us[i]?=some u→AM.blkOf u=some y→S1.next≤y:=fun i u y hu hy=>by
  have hi:i<pst.length:=by rw [←l6.len];exact (List.getElem?_eq_some_iff.1 hu).1
  exact (cS (l6.own i u _ hu (List.getElem?_eq_getElem hi)) hy).1
 have kS:∀ {X:St},FK X6 X q sv pv us→Ext S1 X∧X.heap.get S.next=some (.row 0 6 [[.nils,.nils,.nils,.nils,.nils,.int .i64 0]]):=by
  intro X k
  have kk':∀ y c,y<S1.next→X6.heap.get y=some c→X.heap.get y=some c:=fun y c hy hc=>k.keep y c hc (by omega) (fun e=>by have:=bV y e;omega) (fun e=>by have:=bU y e;omega) (fun i u hu e=>by have:=bL i u y hu e;omega)
  exact ⟨⟨fun y c hy=>kk' y c (w1 y c hy) (s6.ext.old y c hy),Nat.le_trans s6.ext.next k.nxt,fun _=>k.wf⟩,kk' _ _ z6 rS⟩
 refine g71 (s:=⟨tab,ser,pst,[],ses,nx⟩) f0 hl2 hl3 hm3 (fun s' bv X hf f hbv=>?_) fun X hf k=>?_
 rotate_left
 ·obtain ⟨xX,rX⟩:=kS k
  rw [hf] at gI
  simp only [↓cw,↓reduceIte,Nat.reduceLT,kk,aE rX,aA]
  exact fail X 4 xX rX gI
 rw [hf] at gI
 simp only at gI
 obtain ⟨xX,rX⟩:=kS f.fk
 have hs':s'.table=tab∧s'.sess=ses∧s'.next=nx:=by
  rw [nX] at hf
  split at hf
  ·cases hf
  ·split at hf
   ·cases hf;exact ⟨rfl,rfl,rfl⟩
   ·cases hf
 have o5:∀ {v:V} {es:List (List V)},Own S1 X6 5 v es→Own E0 X 5 v es:=by
  intro v es o
  refine (o.weaken (A:=E0) (Nat.zero_le _)).same f.nxt fun y hy=>?_
  obtain ⟨ver,tl,_,hg⟩:=Own.blk o hy
  rw [hg]
  exact f.keep y _ hg (fun e=>Own.wide o s6.rq (by decide) (e▸hy)) (fun e=>Own.apart (by decide) o v6 hy e) (fun e=>Own.apart (by decide) o u6 hy e) fun i u hu e=>by
   have hi:i<pst.length:=by rw [←l6.len];exact (List.getElem?_eq_some_iff.1 hu).1
   exact Own.apart (by decide) o (l6.own i u _ hu (List.getElem?_eq_getElem hi)) hy e
 have got:Got X (.agg [tv,sv,pv,bv,cv,.int .i64 nx]) s':=⟨tv,sv,pv,bv,cv,us,by rw [hs'.2.2],by rw [hs'.1];exact o5 t6,f.os,f.op,f.pl,hbv,by rw [hs'.2.1];exact o5 c6⟩
 have h24:=fun K':KW=>(Fn.back (fun S K=>g24 s' S K)).frz bA4 (by simp only [cloVs,lE,bM (enc:=Rate.enc) (fun _=>rfl),bM (enc:=Ser.enc) (fun _=>rfl),bM (enc:=Posted.enc) (fun _=>rfl),bM (enc:=Bal.enc) (fun _=>rfl),bM (enc:=Sess.enc) (fun _=>rfl),Bool.and_self]) (args:=[.agg [tv,sv,pv,bv,cv,.int .i64 nx]]) (S:=X) (by simp only [frzVs,got.frz]) (by simp only [ptrsVs,got.ptr,List.append_nil]) (.inl rfl) K'
 simp only [↓cw,↓reduceIte,Nat.reduceLT,kk,aE f.row,h24]
 cases hr:fX s'
 ·simp only [hr,Bool.false_eq_true,if_false] at gI
  simp only [↓cw,↓reduceIte,Nat.reduceLT,kk,hr,aE rX,aA]
  exact fail X 4 xX rX gI
 ·simp only [hr,if_true] at gI
  simp only [↓cw,↓reduceIte,Nat.reduceLT,kk,hr,aE rX,aE f.row,aA]
  have b1:bv.one=true:=by rcases hbv with rfl | ⟨rfl,_⟩<;>rfl
  have b2:=(o5 t6).one
  have b3:=f.os.one
  have b4:=f.op.one
  have b5:=(o5 c6).one
  simp only [↓cw,↓reduceIte,Nat.reduceLT,kk,b1,b2,b3,b4,b5,aA]
  have:=H ⟨X.next,X.heap.put S.next (.row 0 6 [[tv,sv,pv,bv,cv,.int .i64 nx]])⟩ (.agg [tv,sv,pv,bv,cv,.int .i64 nx]) ((x1.trans xX).put (Nat.le_refl _) (by have:=xX.next;omega) (Nat.le_refl _) w _) (by rw [gI];exact got.put rX _)
  rw [gI] at this
  exact this
end
theorem bKs:mE 25=some (.spec (Sp.told.run prog)):=by kernel_rfl
theorem g25 (S:St) (K:KW):C 25 [] S K=K (.bool true) S:=aOf bKs rfl K
theorem State.clo (s:State):cloVs [.agg [.imm (s.table.map Rate.enc),.imm (s.ser.map Ser.enc),.imm (s.posted.map Posted.enc),.imm (s.book.map Bal.enc),.imm (s.sess.map Sess.enc),.int .i64 s.next]]=true:=by
 simp only [cloVs,lE,bM (enc:=Rate.enc) (fun _=>rfl),bM (enc:=Ser.enc) (fun _=>rfl),bM (enc:=Posted.enc) (fun _=>rfl),bM (enc:=Bal.enc) (fun _=>rfl),bM (enc:=Sess.enc) (fun _=>rfl),Bool.and_self]
theorem bKt {ρ:Nat→Option Nat} {σ:V→R V} {a b a' b':V} (h:cZ ρ σ a=.ok a') (k:cZ ρ σ b=.ok b'):frzVs ρ σ [a,b]=.ok [a',b']:=by simp only [frzVs,h,k]
theorem bFr {a b:V} (h:pR a=[]) (k:pR b=[]):ptrsVs [a,b]=[]:=by simp only [ptrsVs,h,k,List.append_nil]
theorem State.clo' (s:State):lE (.agg [.imm (s.table.map Rate.enc),.imm (s.ser.map Ser.enc),.imm (s.posted.map Posted.enc),.imm (s.book.map Bal.enc),.imm (s.sess.map Sess.enc),.int .i64 s.next])=true:=by
 have:=State.clo s
 simpa only [cloVs,Bool.and_true] using this
theorem bKu:mE 22=some (.val (dI [])):=by kernel_rfl
end Go.Proofs.YtoaibmbldmckaaaGreat
end
section
namespace Go.Proofs.YtoaibmbldmckaaaGreat
open Go.AM Go.Pack Tryz
def hJ (l:List Posted) (r:Ref):List Posted:=l.map fun q=>if q.ref=r then { q with back:=true } else q
structure FillD where
 ser:List Ser
 done:List Posted
 book:List Bal
def bC (st:FillD) (p:Posted):Option FillD⊕FillD:=
 if cE st.ser p.ref.ser<0 then .inl none else match nP p.total with
 | none=>.inl none
 | some t=>match st.ser[(cE st.ser p.ref.ser).toNat]? with
  | none=>.inl none
  | some x=>if (cG t).2≠0 then .inl none else if (bY st.book (cG t).1).2≠0 then .inl none else
   .inr ⟨st.ser.set (cE st.ser p.ref.ser).toNat { x with next:=wr .i64 (x.next+1) },hJ st.done p.of++[{ p with ref:=⟨p.ref.ser,x.next⟩,total:=t }],(bY st.book (cG t).1).1⟩
def rH (s:State):Option State:=match aD bC some s.posted ⟨s.ser,[],[]⟩ with
 | none=>none
 | some r=>some { s with ser:=r.ser,posted:=r.done,book:=r.book }
theorem aS1 (l:List Posted) (r:Ref):(hJ l r).map mQ=l.map mQ:=by
 unfold hJ
 rw [List.map_map]
 refine List.map_congr_left fun q _=>?_
 show mQ (if q.ref=r then { q with back:=true } else q)=mQ q
 split<;>rfl
theorem aBl {l:List Posted} {r:Ref} (h:cC l r<0):hJ l r=l:=by
 unfold hJ
 conv=>rhs;rw [←List.map_id l]
 refine List.map_congr_left fun q hq=>?_
 have:=aL6 h q hq
 rw [if_neg (by simpa using this)];rfl
theorem aNd {l:List Posted} {r:Ref} (hp:l.Pairwise fun a b=>a.ref≠b.ref) (h:0≤cC l r):hJ l r=hM l (cC l r).toNat:=by
 rcases iZ l r with e | ⟨i,s,e,hi,hs⟩
 ·omega
 rw [e,Int.toNat_natCast]
 unfold hM hJ
 rw [hi]
 apply List.ext_getElem?
 intro j
 rw [List.getElem?_map,List.getElem?_set]
 by_cases c:i=j
 ·subst c
  rw [if_pos rfl,if_pos (List.getElem?_eq_some_iff.1 hi).1,hi,Option.map_some,if_pos hs]
 ·rw [if_neg c]
  cases hj:l[j]? with
  | none=>rfl
  | some q=>
   rw [Option.map_some,if_neg]
   obtain ⟨li,ei⟩:=List.getElem?_eq_some_iff.1 hi
   obtain ⟨lj,ej⟩:=List.getElem?_eq_some_iff.1 hj
   rcases Nat.lt_or_gt_of_ne c with h' | h'
   ·have:=List.pairwise_iff_getElem.1 hp i j li lj h'
    rw [ei,ej,hs] at this
    exact fun e=>this e.symm
   ·have:=List.pairwise_iff_getElem.1 hp j i lj li h'
    rw [ei,ej,hs] at this
    exact this
theorem xE {l:List Ser} {k:Nat} {x:Ser} (hk:l[k]?=some x) (n:Int) (nm:List UInt8):cE (l.set k { x with next:=n }) nm=cE l nm:=by
 have h:∀ l:List Ser,cE l nm=vR (fun a:List UInt8=>a == nm) (l.map (·.name)):=fun l=>by
  unfold cE
  rw [←aKv]
 rw [h,h]
 congr 1
 apply List.ext_getElem?
 intro j
 rw [List.getElem?_map,List.getElem?_map,List.getElem?_set]
 split
 ·rename_i e;subst e
  rw [if_pos (List.getElem?_eq_some_iff.1 hk).1,hk];rfl
 ·rfl
structure FInv (ser:List Ser) (done:List Posted):Prop where
 nx:∀ (k:Nat) (s:Ser),ser[k]?=some s→1≤s.next∧s.next≤(done.length:Int)+1
 ge:∀ q∈done.map mQ,1≤q.ref.num∧∃ (k:Nat) (s:Ser),cE ser q.ref.ser=(k:Int)∧ser[k]?=some s∧q.ref.num<s.next
 ne:(done.map mQ).Pairwise fun a b=>a.ref≠b.ref
theorem FInv.pw {ser:List Ser} {done:List Posted} (h:FInv ser done):done.Pairwise fun a b=>a.ref≠b.ref:=by
 have:=h.ne
 rw [List.pairwise_map] at this
 exact this
theorem FInv.nz {ser:List Ser} {done:List Posted} (h:FInv ser done):cC done Ref.zero<0:=by
 rcases iZ done Ref.zero with e | ⟨i,s,e,hi,hs⟩
 ·omega
 ·have:=(h.ge (mQ s) (List.mem_map.2 ⟨s,List.mem_of_getElem? hi,rfl⟩)).1
  have e':(mQ s).ref=Ref.zero:=hs
  rw [e'] at this
  exact absurd this (by decide)
theorem FInv.step {ser:List Ser} {done done':List Posted} (h:FInv ser done) (hn:done.length<1000) {p q:Posted} {x:Ser} (h0:¬ cE ser p.ref.ser<0) (hx:ser[(cE ser p.ref.ser).toNat]?=some x) (hd:done'.map mQ=done.map mQ) (hq:q.ref=⟨p.ref.ser,x.next⟩):
  FInv (ser.set (cE ser p.ref.ser).toNat { x with next:=wr .i64 (x.next+1) }) (done'++[q]):=by
 obtain ⟨b1,b2⟩:=h.nx _ _ hx
 have hl:done'.length=done.length:=by have:=congrArg List.length hd;simpa using this
 have hw:wr .i64 (x.next+1)=x.next+1:=eX (by omega) (by omega)
 rw [hw]
 obtain ⟨k,hk⟩:∃ k:Nat,cE ser p.ref.ser=(k:Int):=⟨(cE ser p.ref.ser).toNat,by omega⟩
 rw [hk,Int.toNat_natCast] at hx ⊢
 have hkl:=(List.getElem?_eq_some_iff.1 hx).1
 have hge:∀ r∈done.map mQ,r.ref≠⟨p.ref.ser,x.next⟩:=by
  intro r hr e
  obtain ⟨g1,k',s',g2,g3,g4⟩:=h.ge r hr
  rw [e] at g2 g4
  have g2:cE ser p.ref.ser=(k':Int):=g2
  have:k=k':=by omega
  subst this
  rw [hx] at g3
  cases g3
  exact absurd g4 (Int.lt_irrefl _)
 refine ⟨fun j s hj=>?_,fun r hr=>?_,?_⟩
 ·rw [List.length_append,hl]
  show _∧_≤(((done.length+1:Nat)):Int)+1
  rw [List.getElem?_set] at hj
  split at hj
  ·cases hj
   simp only
   omega
  ·have:=h.nx _ _ hj
   omega
 ·rw [List.map_append,List.mem_append,hd] at hr
  rcases hr with hr | hr
  ·obtain ⟨g1,k',s',g2,g3,g4⟩:=h.ge r hr
   refine ⟨g1,k',?_⟩
   by_cases c:k=k'
   ·subst c
    rw [hx] at g3
    cases g3
    refine ⟨_,?_,by rw [List.getElem?_set,if_pos rfl,if_pos hkl],?_⟩
    ·rw [xE hx];exact g2
    ·simp only;omega
   ·refine ⟨s',?_,by rw [List.getElem?_set,if_neg c];exact g3,g4⟩
    rw [xE hx];exact g2
  ·rcases List.mem_singleton.1 hr with rfl
   have e:(mQ q).ref=⟨p.ref.ser,x.next⟩:=hq
   rw [e]
   refine ⟨b1,k,_,?_,by rw [List.getElem?_set,if_pos rfl,if_pos hkl],?_⟩
   ·rw [xE hx];exact hk
   ·simp only;omega
 ·rw [List.map_append,hd,List.pairwise_append]
  refine ⟨h.ne,List.pairwise_singleton _ _,fun a ha b hb=>?_⟩
  rcases List.mem_singleton.1 hb with rfl
  have e:(mQ q).ref=⟨p.ref.ser,x.next⟩:=hq
  rw [e]
  exact hge a ha
theorem aIy (l l':List Posted) (b:List Bal) (h:l.map mQ=l'.map mQ):aD aP (fun b=>(b,(0:Int))) l b=aD aP (fun b=>(b,(0:Int))) l' b:=by
 rw [←mC l,h,mC]
theorem yF:∀ (l m:List Posted) (b c:List Bal),aD aP (fun b=>(b,(0:Int))) l b=(c,0)→aD aP (fun b=>(b,(0:Int))) (l++m) b=aD aP (fun b=>(b,(0:Int))) m c
 | [],m,b,c,h=>by cases h;rfl
 | p::l,m,b,c,h=>by
  simp only [List.cons_append,aD] at h ⊢
  cases e:aP b p with
  | inl r=>
   rw [e] at h
   have h:r=(c,0):=h
   subst h
   unfold aP at e
   split at e
   ·rename_i h1
    injection e with e
    injection e with _ e
    exact absurd e h1
   ·split at e
    ·rename_i h1
     injection e with e
     injection e with _ e
     exact absurd e h1
    ·cases e
  | inr s=>rw [e] at h;exact yF l m s c h
theorem yG:∀ (l m:List Posted) (b:List Bal),(aD aP (fun b=>(b,(0:Int))) (l++m) b).2=0→(aD aP (fun b=>(b,(0:Int))) l b).2=0
 | [],m,b,h=>rfl
 | p::l,m,b,h=>by
  simp only [List.cons_append,aD] at h ⊢
  cases e:aP b p with
  | inl r=>rw [e] at h;exact h
  | inr s=>rw [e] at h;exact yG l m s h
theorem aDu:∀ (l:List Posted) (st r:List Ser×List Posted),aD bN some l st=some r→∃ t,r.2.map mQ=st.2.map mQ++t
 | [],st,r,h=>by cases h;exact ⟨[],by simp⟩
 | p::l,st,r,h=>by
  simp only [aD] at h
  have key:∀ st',bN st p=.inr st'→∃ q,st'.2.map mQ=st.2.map mQ++[q]:=by
   intro st' he
   unfold bN at he
   repeat' split at he
   all_goals first | (cases he;done) | skip
   ·cases he
    exact ⟨_,by rw [List.map_append];rfl⟩
   ·cases he
    exact ⟨_,by rw [List.map_append,aB8];rfl⟩
  cases he:bN st p with
  | inl r'=>
   rw [he] at h
   have:r'=none:=by
    unfold bN at he
    repeat' split at he
    all_goals first | cases he;rfl | cases he
   rw [this] at h;cases h
  | inr st'=>
   rw [he] at h
   obtain ⟨q,hq⟩:=key st' he
   obtain ⟨t,ht⟩:=aDu l st' r h
   exact ⟨q::t,by rw [ht,hq,List.append_assoc];rfl⟩
theorem aBm:∀ (l:List Posted) (st r:FillD),aD bC some l st=some r→∃ t,r.done.map mQ=st.done.map mQ++t
 | [],st,r,h=>by cases h;exact ⟨[],by simp⟩
 | p::l,st,r,h=>by
  simp only [aD] at h
  cases he:bC st p with
  | inl r'=>
   rw [he] at h
   have:r'=none:=by
    unfold bC at he
    repeat' split at he
    all_goals first | cases he;rfl | cases he
   rw [this] at h;cases h
  | inr st'=>
   rw [he] at h
   have hq:∃ q,st'.done.map mQ=st.done.map mQ++[q]:=by
    unfold bC at he
    repeat' split at he
    all_goals first | (cases he;done) | skip
    cases he
    exact ⟨_,by rw [List.map_append,aS1];rfl⟩
   obtain ⟨q,hq⟩:=hq
   obtain ⟨t,ht⟩:=aBm l st' r h
   exact ⟨q::t,by rw [ht,hq,List.append_assoc];rfl⟩
def Lost (l:List Posted):Prop:=∃ i p,l[i]?=some p∧p.of≠Ref.zero∧cC (l.take i) p.of<0
theorem Lost.nb {l m:List Posted} (h:Lost l) {t:List Posted} (e:m.map mQ=l.map mQ++t):Lost m:=by
 obtain ⟨i,p,h1,h2,h3⟩:=h
 obtain ⟨hi,he⟩:=List.getElem?_eq_some_iff.1 h1
 have hm:(m.map mQ)[i]?=some (mQ p):=by
  rw [e,List.getElem?_append_left (by rw [List.length_map];exact hi),List.getElem?_map,h1];rfl
 rw [List.getElem?_map] at hm
 cases hq:m[i]? with
 | none=>rw [hq] at hm;cases hm
 | some q=>
  rw [hq] at hm
  have hm:mQ q=mQ p:=Option.some.inj hm
  have ho:(mQ q).of=(mQ p).of:=congrArg Posted.of hm
  have ho:q.of=p.of:=ho
  refine ⟨i,q,hq,by rw [ho];exact h2,?_⟩
  have et:(m.take i).map mQ=(l.take i).map mQ:=by
   rw [List.map_take,List.map_take,e,List.take_append_of_le_length (by rw [List.length_map];omega)]
  rw [ho,←aDj,et,aDj]
  exact h3
theorem Lost.wrong {s:State} (h:Lost s.posted):fX s=false:=by
 cases hr:fX s with
 | false=>rfl
 | true=>
  obtain ⟨_,_,_,h4,_,_⟩:=(aB9 s).1 hr
  obtain ⟨_,hO,_⟩:=(mR _).1 h4
  obtain ⟨i,p,h1,h2,h3⟩:=h
  rcases (hO i p h1).2.2 with c | ⟨c,_⟩
  ·exact absurd c h2
  ·omega
def aF8 (r:Option (List Ser×List Posted)):Option FillD:=match r with
 | none=>none
 | some r=>if (cK r.2).2=0 then some ⟨r.1,r.2,(cK r.2).1⟩ else none
theorem aHc {done:List Posted} (hb:(cK done).2≠0) {l:List Posted} {st:List Ser×List Posted} (hd:st.2.map mQ=done.map mQ):aF8 (aD bN some l st)=none:=by
 cases h:aD bN some l st with
 | none=>rfl
 | some r=>
  obtain ⟨t,ht⟩:=aDu l st r h
  unfold aF8
  simp only
  rw [if_neg]
  intro h0
  refine hb ?_
  unfold cK at h0 ⊢
  rw [←mC r.2,ht,hd] at h0
  rw [←mC done]
  exact yG _ _ _ h0
theorem aDv:∀ (l:List Posted) (ser:List Ser) (done:List Posted) (book:List Bal),FInv ser done→done.length+l.length≤1000→cK done=(book,0)→
  aF8 (aD bN some l (ser,done))=aD bC some l ⟨ser,done,book⟩∨(aF8 (aD bN some l (ser,done))=none∧∃ r,aD bC some l ⟨ser,done,book⟩=some r∧Lost r.done)
 | [],ser,done,book,hI,hn,hb=>by
  left
  simp only [aD,aF8,hb,if_true]
 | p::l,ser,done,book,hI,hn,hb=>by
  have hn':done.length<1000:=by simp only [List.length_cons] at hn;omega
  by_cases c1:cE ser p.ref.ser<0
  ·have e1:bN (ser,done) p=.inl none:=by unfold bN;rw [if_pos c1]
   have e2:bC ⟨ser,done,book⟩ p=.inl none:=by unfold bC;rw [if_pos c1]
   simp only [aD,e1,e2];left;rfl
  cases c2:nP p.total with
  | none=>
   have e1:bN (ser,done) p=.inl none:=by unfold bN;simp only [if_neg c1,c2]
   have e2:bC ⟨ser,done,book⟩ p=.inl none:=by unfold bC;simp only [if_neg c1,c2]
   simp only [aD,e1,e2];left;rfl
  | some t=>
  cases c3:ser[(cE ser p.ref.ser).toNat]? with
  | none=>
   have e1:bN (ser,done) p=.inl none:=by unfold bN;simp only [if_neg c1,c2,c3]
   have e2:bC ⟨ser,done,book⟩ p=.inl none:=by unfold bC;simp only [if_neg c1,c2,c3]
   simp only [aD,e1,e2];left;rfl
  | some x=>
  obtain ⟨q,hq⟩:∃ q:Posted,q={ p with ref:=⟨p.ref.ser,x.next⟩,total:=t }:=⟨_,rfl⟩
  have hqr:q.ref=⟨p.ref.ser,x.next⟩:=by rw [hq]
  have hqt:q.total=t:=by rw [hq]
  have hqo:q.of=p.of:=by rw [hq]
  have hbk:∀ done':List Posted,done'.map mQ=done.map mQ→cK (done'++[q])=aD aP (fun b=>(b,(0:Int))) [q] book:=by
   intro done' hd
   unfold cK at hb ⊢
   rw [←yF done [q] [] book hb]
   exact aIy _ _ _ (by rw [List.map_append,List.map_append,hd])
  have hone:aD aP (fun b=>(b,(0:Int))) [q] book=if (cG t).2≠0 then ([],(cG t).2) else if (bY book (cG t).1).2≠0 then ([],(bY book (cG t).1).2) else ((bY book (cG t).1).1,0):=by
   simp only [aD,aP,hqt]
   by_cases d1:(cG t).2≠0
   ·rw [if_pos d1,if_pos d1]
   ·rw [if_neg d1,if_neg d1]
    by_cases d2:(bY book (cG t).1).2≠0
    ·rw [if_pos d2,if_pos d2]
    ·rw [if_neg d2,if_neg d2]
  have e2:bC ⟨ser,done,book⟩ p=if (cG t).2≠0 then .inl none else if (bY book (cG t).1).2≠0 then .inl none else
   .inr ⟨ser.set (cE ser p.ref.ser).toNat { x with next:=wr .i64 (x.next+1) },hJ done p.of++[q],(bY book (cG t).1).1⟩:=by
   unfold bC;simp only [if_neg c1,c2,c3,hq]
  have go:∀ done':List Posted,done'.map mQ=done.map mQ→hJ done p.of=done'→bN (ser,done) p=.inr (ser.set (cE ser p.ref.ser).toNat { x with next:=wr .i64 (x.next+1) },done'++[q])→
    aF8 (aD bN some (p::l) (ser,done))=aD bC some (p::l) ⟨ser,done,book⟩∨(aF8 (aD bN some (p::l) (ser,done))=none∧∃ r,aD bC some (p::l) ⟨ser,done,book⟩=some r∧Lost r.done):=by
   intro done' hd hm e1
   have hbk':=hbk done' hd
   rw [hone] at hbk'
   have hlen:done'.length=done.length:=by have:=congrArg List.length hd;simpa using this
   simp only [aD,e1,e2]
   by_cases d1:(cG t).2≠0
   ·rw [if_pos d1] at hbk' ⊢
    left
    exact aHc (done:=done'++[q]) (by rw [hbk'];exact d1) rfl
   ·rw [if_neg d1] at hbk' ⊢
    by_cases d2:(bY book (cG t).1).2≠0
    ·rw [if_pos d2] at hbk' ⊢
     left
     exact aHc (done:=done'++[q]) (by rw [hbk'];exact d2) rfl
    ·rw [if_neg d2] at hbk' ⊢
     simp only [hm]
     exact aDv l _ _ _ (hI.step hn' c1 c3 hd hqr) (by simp only [List.length_append,List.length_cons,List.length_nil,hlen] at hn ⊢;omega) hbk'
  by_cases c4:p.of=Ref.zero
  ·have hm:hJ done p.of=done:=aBl (by rw [c4];exact hI.nz)
   exact go done rfl hm (by unfold bN;simp only [if_neg c1,c2,c3,if_pos c4,hq])
  by_cases c5:cC done p.of<0
  ·have hm:hJ done p.of=done:=aBl c5
   have e1:bN (ser,done) p=.inl none:=by unfold bN;simp only [if_neg c1,c2,c3,if_neg c4,if_pos c5]
   simp only [aD,e1,e2,hm]
   have hL:Lost (done++[q]):=by
    refine ⟨done.length,q,by simp,by rw [hqo];exact c4,?_⟩
    rw [hqo]
    simpa using c5
   by_cases d1:(cG t).2≠0
   ·rw [if_pos d1];left;rfl
   rw [if_neg d1]
   by_cases d2:(bY book (cG t).1).2≠0
   ·rw [if_pos d2];left;rfl
   rw [if_neg d2]
   simp only
   cases hr:aD bC some l ⟨ser.set (cE ser p.ref.ser).toNat { x with next:=wr .i64 (x.next+1) },done++[q],(bY book (cG t).1).1⟩ with
   | none=>left;rfl
   | some r=>
    right
    obtain ⟨tl,ht⟩:=aBm _ _ _ hr
    exact ⟨rfl,r,rfl,hL.nb ht⟩
  ·have hm:hJ done p.of=hM done (cC done p.of).toNat:=aNd hI.pw (by omega)
   exact go _ (aB8 _ _) hm (by unfold bN;simp only [if_neg c1,c2,c3,if_neg c4,if_neg c5,hq])
end Go.Proofs.YtoaibmbldmckaaaGreat
end
section
namespace Go.Proofs.YtoaibmbldmckaaaGreat
open Go.AM Tryz
section
section
variable {S X:St} {q:Nat} {tv sv pv cv:V} {nx:Int} {us:List V} {ser:List Ser} {l:List Posted} {bv:V}
theorem aHd {α:Type}:∀ (l:List α) (i:Nat) (a:α),l[i]?=some a→l.set i a=l
 | [],i,a,h=>by simp at h
 | b::l,0,a,h=>by simp at h;simp [h]
 | b::l,i+1,a,h=>by simp at h;simp [aHd l i a h]
theorem FL.setU (h:FL S X q tv sv pv cv nx us ser l bv) {i:Nat} {p:Posted} (hp:l[i]?=some p) {u:V} (hu:us[i]?=some u) {k:Nat} {x:Part} (hk:p.total.parts[k]?=some x) (t:Int):
  ∃ a ver,u=.sl a ver 4 0 p.total.parts.length∧fK 4 u (.int .i64 (k:Int))=.ok (.ptr a ver k 0)∧(∀ c j m,fN c (.ptr a ver k j) ⟨m,X.heap⟩=gO c x.enc j)∧∃ X',dT 1 (.ptr a ver k 3) (.int .i64 t) X=.ok X'∧X'.next=X.next∧(∀ y,y≠a→X'.heap.get y=X.heap.get y) ∧
   FL S X' q tv sv pv cv nx us ser (l.set i { p with total:={ p.total with parts:=p.total.parts.set k { x with tax:=t } } }) bv:=by
 have ho:=h.pl.own i u p hu hp
 have hil:=(List.getElem?_eq_some_iff.1 hp).1
 have hk':(p.total.parts.map Part.enc)[k]?=some x.enc:=by rw [List.getElem?_map,hk];rfl
 obtain ⟨a,ver,q1,q2,q3,q4,q5,q6⟩:=ho.setK (rZ h.wf) rC hk' .i64
 obtain ⟨X',r1,_,r3,r4,r5,r6⟩:=q6 3 1 (.int .i64 t) rfl rfl (by decide)
 have hua:AM.blkOf u=some a:=by rw [q1];rfl
 have e4:(p.total.parts.map Part.enc).set k (splice x.enc 3 (V.int .i64 t).cells)=(p.total.parts.set k { x with tax:=t }).map Part.enc:=by rw [List.map_set];rfl
 rw [e4] at r4
 refine ⟨a,ver,by rw [q1,List.length_map],q4,fun c j m=>?_,X',r1,r3,r5,FL.mk (r6 h.wf) (by rw [r3];exact h.nxt) ?_ ?_ ?_ ?_ h.sep fun y c h1 h2 h3 h4 h5=>?_⟩
 ·obtain ⟨ver',tl,e1,e2⟩:=Own.blk ho hua
  rw [q1] at e1
  injection e1 with _ e1
  subst e1
  exact ldR e2 (by rw [List.getElem?_append_left (List.getElem?_eq_some_iff.1 hk').1];exact hk') c j m
 ·rw [r5 q fun e=>h.qu hu (e▸hua)];exact h.row
 ·exact h.os.same (by omega) fun y hy=>r5 y fun e=>h.sep i u y hu (e▸hua) hy
 ·have hz:List.zipWith Posted.encW us (l.set i { p with total:={ p.total with parts:=p.total.parts.set k { x with tax:=t } } })=List.zipWith Posted.encW us l:=by
   rw [←vP us l i u _ hu]
   have hz:(List.zipWith Posted.encW us l)[i]?=some (p.encW u):=zO hu hp
   exact aHd (List.zipWith Posted.encW us l) i (p.encW u) hz
  rw [hz]
  exact h.op.same (by omega) fun y hy=>r5 y fun e=>h.pu hu (e▸hua) hy
 ·refine PL.mk (by rw [List.length_set];exact h.pl.len) (fun j v r h1 h2=>?_) h.pl.sep
  by_cases e:i=j
  ·subst e
   rw [hu] at h1;cases h1
   rw [List.getElem?_set_self hil] at h2;cases h2
   exact r4
  ·rw [List.getElem?_set_ne e] at h2
   exact (h.pl.own j v r h1 h2).same (by omega) fun y hy=>r5 y fun e'=>e (h.pl.sep i j u v y hu h1 (e'▸hua) hy)
 ·rw [r5 y fun e=>h5 i u hu (e▸hua)];exact h.keep y c h1 h2 h3 h4 h5
end
end
section
theorem bFs:mE 117=some (.val (dI [])):=by kernel_rfl
theorem bFt:mE 161=some (.val (dI [(5,[(0,[]),(1,[]),(2,[]),(3,[]),(4,[]),(5,[]),(8,[]),(9,[]),(10,[]),(11,[]),(12,[]),(13,[]),(6,[]),(7,[13]),(14,[]),(15,[]),(16,[]),(17,[])])])):=by kernel_rfl
theorem bKv {S0 X:St} {v:V} {l:List Ser} (o:Own S0 X 4 v (l.map Ser.enc)) (hb:l.length<1000000) (name:List UInt8) (K:KW):C 117 [v,.str name] X K=K (.int .i64 (cE l name)) X:=
 (Fn.back fun S K=>aZ6 l name hb S K).frz bFs (by simp only [cloVs,lE,bM (enc:=Ser.enc) (fun _=>rfl),Bool.and_self]) (by simp only [frzVs,cZ,o.frz (bM (fun _=>rfl) _)]) (by simp only [ptrsVs,o.ptrs];rfl) (.inl rfl) K
theorem bKw {S0 X:St} {v:V} {l:List Part} (o:Own S0 X 4 v (l.map Part.enc)) (hl:l.length<100000) (K:KW):C 161 [v] X K=K (.tup [.int .i64 (dO l).1,.int .i64 (dO l).2.1,.bool (dO l).2.2]) X:=o.arg bFt (bM (fun _=>rfl) _) (fun S K=>bF3 l hl S K) rfl K
theorem aNe {ps:List Part} (hi:∀ p∈ps,dY p.net∧dY p.tax) (hl:ps.length≤1000000):lG ps=if (dO ps).2.2=true then (if (iX (dO ps).1 (dO ps).2.1).2=0 then some ⟨(dO ps).1,(dO ps).2.1,(iX (dO ps).1 (dO ps).2.1).1,ps⟩ else none) else none:=by
 have h1:∀ n∈ps.map (·.net),dY n:=fun n h=>by obtain ⟨p,hp,rfl⟩:=List.mem_map.1 h;exact (hi p hp).1
 have h2:∀ n∈ps.map (·.tax),dY n:=fun n h=>by obtain ⟨p,hp,rfl⟩:=List.mem_map.1 h;exact (hi p hp).2
 unfold dO lG
 simp only
 rw [zM h1 (by rw [List.length_map];exact hl),zM h2 (by rw [List.length_map];exact hl)]
 by_cases c1:(bO (ps.map (·.net))).2=true
 ·by_cases c2:(bO (ps.map (·.tax))).2=true
  ·simp only [c1,c2,Bool.and_self,if_true]
   have i1:dY (bO (ps.map (·.net))).1:=by rw [(dN h1 (by rw [List.length_map];exact hl)).1];exact rD _
   have i2:dY (bO (ps.map (·.tax))).1:=by rw [(dN h2 (by rw [List.length_map];exact hl)).1];exact rD _
   generalize (bO (ps.map (·.net))).1=a at i1 ⊢
   generalize (bO (ps.map (·.tax))).1=b at i2 ⊢
   rw [aDc i1 i2]
   have hx:=dN (l:=[a,b]) (fun n hn=>by simp at hn;rcases hn with rfl | rfl<;>assumption) (by simp)
   have hs:[a,b].sum=a+b:=by simp
   rw [hs] at hx
   by_cases c5:dY (a+b)
   ·rw [if_pos c5,if_pos (hx.2.2 c5),hx.1,mB c5];rfl
   ·rw [if_neg c5,if_neg (fun h=>c5 (hx.2.1 h))];rfl
  ·simp only [c1,c2,Bool.and_false,if_true,if_false,Bool.false_eq_true,Bool.true_and]
 ·simp only [c1,Bool.false_and,if_false,Bool.false_eq_true]
theorem fQ (s:State):rH s=(match aD bC some s.posted ⟨s.ser,[],[]⟩ with
 | none=>none
 | some r=>some { s with ser:=r.ser,posted:=r.done,book:=r.book }):=rfl
theorem nY {α:Type} {l:List α} {i:Nat} {a:α} (h:l[i]?=some a):l.drop i=a::l.drop (i+1):=by
 obtain ⟨h1,h2⟩:=List.getElem?_eq_some_iff.1 h
 rw [←h2];exact (List.getElem_cons_drop h1).symm
section
variable {S S0 X:St} {q:Nat} {tv sv pv cv:V} {nx:Int} {us:List V} {ser:List Ser} {l:List Posted} {bv:V}
theorem FL.base (h:FL S X q tv sv pv cv nx us ser l bv) (x:Ext S0 S):FL S0 X q tv sv pv cv nx us ser l bv:=
 ⟨h.wf,Nat.le_trans x.next h.nxt,h.row,h.os,h.op,h.pl,h.sep,fun y b hb h2 h3 h4 h5=>h.keep y b (x.old _ _ hb) h2 h3 h4 h5⟩
theorem FK.base (h:FK S X q sv pv us) (x:Ext S0 S):FK S0 X q sv pv us:=
 ⟨h.wf,Nat.le_trans x.next h.nxt,fun y b hb h2 h3 h4 h5=>h.keep y b (x.old _ _ hb) h2 h3 h4 h5⟩
theorem FK.put (h:FK S X q sv pv us) (w:WF S) {y:Nat} (hy:y<X.next) (hS:S.next≤y) (bl:Blk):FK S ⟨X.next,X.heap.put y bl⟩ q sv pv us:=
 ⟨kR (n:=X.next) h.wf hy (Nat.le_refl _),h.nxt,fun z b hb h2 h3 h4 h5=>(Tr.get_put_neB _ _ _ _ trivial (by have:=w _ _ hb;omega)).trans (h.keep z b hb h2 h3 h4 h5)⟩
theorem FL.put (h:FL S X q tv sv pv cv nx us ser l bv) (w:WF S) {y ver:Nat} {el:List (List V)} (hy:X.heap.get y=some (.row ver 6 el)) (hyq:y≠q) (hS:S.next≤y) (bl:Blk):FL S ⟨X.next,X.heap.put y bl⟩ q tv sv pv cv nx us ser l bv:=
 ⟨(h.fk.put w (h.wf _ _ hy) hS bl).wf,h.nxt,(Tr.get_put_neB _ _ _ _ trivial (Ne.symm hyq)).trans h.row,Own.wput h.os hy (by decide) (Nat.le_refl _) _,Own.wput h.op hy (by decide) (Nat.le_refl _) _,h.pl.wput hy (by decide) (Nat.le_refl _) _,h.sep,(h.fk.put w (h.wf _ _ hy) hS bl).keep⟩
end
def Posted.made (p:Posted) (n:Int) (t:Total):Posted:=⟨⟨p.ref.ser,n⟩,p.day,t,p.of,p.back⟩
set_option maxHeartbeats 2000000 in
theorem g79 {S:St} {tv sv pv cv:V} {us:List V} {s:State} (w:WF S) (os:Own E0 S 4 sv (s.ser.map Ser.enc)) (op:Own E0 S 12 pv (List.zipWith Posted.encW us s.posted)) (pl:PL E0 S us s.posted) (sep:∀ (i:Nat) (u:V) (y:Nat),us[i]?=some u→AM.blkOf u=some y→AM.blkOf sv≠some y)
  (t1:tv.one=true) (v1:cv.one=true) (h8:s.ser.length≤8) (h40:s.posted.length≤40) (h12:∀ p∈s.posted,nN p.total) (hI:∀ p∈s.posted,∀ x∈p.total.parts,dY x.net) {K:KW}
  (H1:∀ s' bv X q,S.next≤q→rH s=some s'→FL S X q tv sv pv cv s.next us s'.ser s'.posted bv→(bv=.imm (s'.book.map Bal.enc)∨(bv=.nils∧s'.book=[]))→K (.tup [.agg [tv,sv,pv,bv,cv,.int .i64 s.next],.bool true]) X)
  (H2:∀ X q bv,S.next≤q→rH s=none→bv.one=true→FK S X q sv pv us→K (.tup [.agg [tv,sv,pv,bv,cv,.int .i64 s.next],.bool false]) X):C 79 [.agg [tv,sv,pv,.nils,cv,.int .i64 s.next]] S K:=by
 refine v79 ?_
 have o1:=os.one
 have o2:=op.one
 have n0:V.nils.one=true:=rfl
 obtain ⟨S1,hS1⟩:∃ S1:St,S1=⟨S.next+1,S.heap.put S.next (.row 0 6 [[tv,sv,pv,.nils,cv,.int .i64 s.next]])⟩:=⟨_,rfl⟩
 have x1:Ext S S1:=by rw [hS1];exact Ext.new w _
 have n1:S1.next=S.next+1:=by rw [hS1]
 obtain ⟨S2,hS2⟩:∃ S2:St,S2=⟨S1.next+1,S1.heap.put S1.next (.row 0 6 [[.nils,.nils,.nils,.nils,.nils,.int .i64 0]])⟩:=⟨_,rfl⟩
 have x2:Ext S1 S2:=by rw [hS2];exact Ext.new (x1.wf w) _
 have x12:=x1.trans x2
 have w2:WF S2:=x12.wf w
 have g1:S2.heap.get S.next=some (.row 0 6 [[tv,sv,pv,.nils,cv,.int .i64 s.next]]):=x2.old _ _ (by rw [hS1];exact Tr.get_put_sameB _ _ _ trivial)
 have g2:S2.heap.get (S.next+1)=some (.row 0 6 [[.nils,.nils,.nils,.nils,.nils,.int .i64 0]]):=by rw [←n1,hS2];exact Tr.get_put_sameB _ _ _ trivial
 have f0:FL S2 S2 S.next tv sv pv cv s.next us s.ser s.posted .nils:=⟨w2,Nat.le_refl _,g1,os.ext x12,op.ext x12,pl.move fun _ _ _ _ _ o=>o.ext x12,sep,fun y b h _ _ _ _=>h⟩
 have bS:∀ y,AM.blkOf sv=some y→y<S.next:=fun y hy=>(cS os hy).2
 have bP:∀ y,AM.blkOf pv=some y→y<S.next:=fun y hy=>(cS op hy).2
 have bU:∀ (i:Nat) (u:V) (y:Nat),us[i]?=some u→AM.blkOf u=some y→y<S.next:=fun i u y hu hy=>by
  have hi:i<s.posted.length:=by rw [←pl.len];exact (List.getElem?_eq_some_iff.1 hu).1
  exact (cS (pl.own i u _ hu (List.getElem?_eq_getElem hi)) hy).2
 have rK:∀ {X:St},FK S2 X S.next sv pv us→X.heap.get (S.next+1)=some (.row 0 6 [[.nils,.nils,.nils,.nils,.nils,.int .i64 0]]):=fun {X} k=>
  k.keep _ _ g2 (by omega) (fun e=>by have:=bS _ e;omega) (fun e=>by have:=bP _ e;omega) fun i u hu e=>by have:=bU i u _ hu e;omega
 have fail:∀ (Y:St) (bv:V),FK S2 Y S.next sv pv us→bv.one=true→rH s=none→K (.tup [.agg [tv,sv,pv,bv,cv,.int .i64 s.next],.bool false]) ⟨Y.next,Y.heap.put (S.next+1) (.row 0 6 [[tv,sv,pv,bv,cv,.int .i64 s.next]])⟩:=fun Y bv k hbv hn=>
  H2 _ S.next bv (Nat.le_refl _) hn hbv (FK.put (k.base x12) w (k.wf _ _ (rK k)) (Nat.le_succ _) _)
 delta Tryz.f79;simp only [↓cw,↓reduceIte,Nat.reduceLT,kk,o1,o2,t1,v1,←hS1,←hS2]
 rw [n1]
 refine aG s.posted (step:=bC) (fin:=some) (fun i st vs X=>vs=[.bool false,.int .i64 (i:Int)]∧∃ bv,FL S2 X S.next tv sv pv cv s.next us st.ser (st.done++s.posted.drop i) bv∧(bv=.imm (st.book.map Bal.enc)∨(bv=.nils∧st.book=[]))∧st.book.length≤25*i∧st.done.length=i∧st.ser.length=s.ser.length) (fun r=>r=aD bC some s.posted ⟨s.ser,[],[]⟩) ?_ ?_ (s:=⟨s.ser,[],[]⟩) ⟨rfl,_,f0,.inr ⟨rfl,rfl⟩,Nat.zero_le _,rfl,rfl⟩ rfl
 ·rintro i p ⟨ser,done,book⟩ vs X hi ⟨rfl,bv,f,hbv,hbl,hdl,hsl⟩ aF H
  have hdl:done.length=i:=hdl
  have hsl:ser.length=s.ser.length:=hsl
  have hbl:book.length≤25*i:=hbl
  have f:FL S2 X S.next tv sv pv cv s.next us ser (done++s.posted.drop i) bv:=f
  have hbv:bv=.imm (book.map Bal.enc)∨(bv=.nils∧book=[]):=hbv
  have hb1:bv.one=true:=by rcases hbv with rfl | ⟨rfl,_⟩<;>rfl
  have hil:=(List.getElem?_eq_some_iff.1 hi).1
  have hpm:=List.mem_of_getElem? hi
  have hp:(done++s.posted.drop i)[i]?=some p:=by rw [List.getElem?_append_right (by omega),List.getElem?_drop,hdl,Nat.sub_self,Nat.add_zero,hi]
  have hil2:=(List.getElem?_eq_some_iff.1 hp).1
  obtain ⟨u,b,vb,tl,hu,hpv,hb,hrow⟩:=f.at hp
  have r1:=aE f.row
  have ix:fK 12 pv (.int .i64 (i:Int))=.ok (.ptr b vb i 0):=by
   rw [hpv];simp only [fK,fF hil2,if_true,Nat.zero_add]
  have hlen:lenW pv=.ok (.int .i64 (s.posted.length:Int)):=by
   rw [f.atS,List.length_append,List.length_drop,hdl,Nat.add_sub_cancel' (Nat.le_of_lt hil)]
  have f1:=f.bump 9
  have q1:=aE f1.row
  have l0:=ldR hb hrow none 0 (X.next+9)
  have h117:=fun K=>bKv f1.os (by omega) p.ref.ser K
  simp only [Posted.encW] at l0
  simp only [↓cw,↓reduceIte,Nat.reduceLT,kk,bG hi,r1,hlen,ix,q1,l0,h117]
  have rp:=fun {Y:St} (k:FK S2 Y S.next sv pv us)=>aE (rK k)
  simp only [bC] at H
  rcases mN ser p.ref.ser with h | ⟨k,z,h,h2,h3⟩
  ·simp only [h,show ((-1:Int)<0)=True by simp,if_true] at H
   simp only [↓cw,↓reduceIte,Nat.reduceLT,kk,h,show ((-1:Int)<0)=True by simp,if_true,o1,o2,t1,v1,hb1,rp f1.fk,aA]
   exact fail _ _ f1.fk hb1 (by rw [fQ,←H])
  have k0:((k:Int)<0)=False:=by simp
  simp only [h,k0,if_false,Int.toNat_natCast,h2] at H
  simp only [↓cw,↓reduceIte,Nat.reduceLT,kk,h,k0,if_false]
  have hz:(ser.map Ser.enc)[k]?=some z.enc:=by rw [List.getElem?_map,h2];rfl
  obtain ⟨sa,sver,hsv,_,hsaX,e4,_,_⟩:=f1.os.setK (rZ f1.wf) rC hz .i64
  have l3:=f1.os.ld hsv hz none 1
  obtain ⟨X2,st2,nX2,oX2,f2⟩:=f1.setP (p':=p.made z.next p.total) hp hpv (j:=1) (x:=.int .i64 z.next) rfl rfl (by decide) (fun _=>rfl) rfl
  have q2:=aE f2.row
  have l4:=f2.os.ld hsv hz none 1
  simp only [Ser.enc,kk] at l3 l4
  obtain ⟨sa',sver',hsv',_,_,_,_,set3⟩:=f2.os.setK (rZ f2.wf) rC hz .i64
  obtain ⟨rfl,rfl⟩:sa'=sa∧sver'=sver:=by rw [hsv] at hsv';injection hsv' with h1 h2;exact ⟨h1.symm,h2.symm⟩
  obtain ⟨X3,st3,_,nX3,os3,oX3,w3⟩:=set3 1 1 (.int .i64 (wr .i64 (z.next+1))) rfl rfl (by decide)
  have hser:(ser.map Ser.enc).set k (splice z.enc 1 [.int .i64 (wr .i64 (z.next+1))])=(ser.set k { z with next:=wr .i64 (z.next+1) }).map Ser.enc:=by rw [List.map_set];rfl
  simp only [V.cells] at os3
  rw [hser] at os3
  have f3:=f2.turnS (by rw [hsv];rfl) nX3 (w3 f2.wf) oX3 os3
  simp only [↓cw,↓reduceIte,Nat.reduceLT,kk,e4,l3,st2,q2,l4,st3]
  have hl1:∀ p':Posted,(done++s.posted.drop i).set i p'=done++[p']++s.posted.drop (i+1):=fun p'=>by
   rw [nY hi,List.set_append_right _ _ (by omega),hdl,Nat.sub_self,List.set_cons_zero,List.append_assoc];rfl
  have hat:∀ p':Posted,(done++[p']++s.posted.drop (i+1))[i]?=some p':=fun p'=>by
   rw [List.append_assoc,List.getElem?_append_right (by omega),hdl,Nat.sub_self];rfl
  have hst:∀ p' p'':Posted,(done++[p']++s.posted.drop (i+1)).set i p''=done++[p'']++s.posted.drop (i+1):=fun p' p''=>by
   rw [List.append_assoc,List.set_append_right _ _ (by omega),hdl,Nat.sub_self,List.append_assoc];rfl
  rw [hl1] at f3
  have hser':(ser.set k { z with next:=wr .i64 (z.next+1) }).length=s.ser.length:=by rw [List.length_set];exact hsl
  generalize ser.set k { z with next:=wr .i64 (z.next+1) }=ser' at f3 hser' H
  have ptr:∀ {Y:St} {p':Posted},FL S2 Y S.next tv sv pv cv s.next us ser' (done++[p']++s.posted.drop (i+1)) bv→∃ tl,Y.heap.get b=some (.row vb 12 (List.zipWith Posted.encW us (done++[p']++s.posted.drop (i+1))++tl))∧(List.zipWith Posted.encW us (done++[p']++s.posted.drop (i+1))++tl)[i]?=some (p'.encW u):=by
   intro Y p' g
   obtain ⟨u',b',vb',tl',hu',hpv',hb',hrow'⟩:=g.at (hat p')
   obtain ⟨rfl,rfl⟩:b'=b∧vb'=vb:=by rw [hpv] at hpv';injection hpv' with h1 h2;exact ⟨h1.symm,h2.symm⟩
   rw [hu] at hu';cases hu'
   exact ⟨tl',hb',hrow'⟩
  have hfp:=h12 p hpm
  have hfp1:=hfp.1
  refine aG p.total.parts (step:=gY) (fin:=some) (fun k st vs Y=>vs=[.bool false,.int .i64 (k:Int)]∧FL S2 Y S.next tv sv pv cv s.next us ser' (done++[p.made z.next ⟨p.total.net,p.total.tax,p.total.gross,st++p.total.parts.drop k⟩]++s.posted.drop (i+1)) bv∧st.length=k∧st=(p.total.parts.take k).map pG) (fun r=>r=aD gY some p.total.parts []) ?_ ?_ (s:=[]) ⟨rfl,f3,rfl,rfl⟩ rfl
  ·rintro k x st vs Y hk ⟨rfl,g,hsk,hst1⟩ aF H'
   have hkl:=(List.getElem?_eq_some_iff.1 hk).1
   have gb:=g.bump 22
   obtain ⟨tl1,hb1',hr1'⟩:=ptr gb
   have l8:=fun m=>ldR (S:=⟨Y.next+22,Y.heap⟩) hb1' hr1' none 8 m
   simp only [Posted.encW,kk] at l8
   have hkx:(st++p.total.parts.drop k)[k]?=some x:=by rw [List.getElem?_append_right (by omega),List.getElem?_drop,hsk,Nat.sub_self,Nat.add_zero,hk]
   obtain ⟨ua,uver,hua,eua,lua,Y',stU,nU,oU,gU⟩:=gb.setU (hat _) hu hkx (cH x.net x.bp).1
   have hlen:lenW u=.ok (.int .i64 (p.total.parts.length:Int)):=by
    rw [hua]
    have:(st++p.total.parts.drop k).length=p.total.parts.length:=by rw [List.length_append,List.length_drop,hsk];omega
    exact congrArg (fun n:Nat=>(Except.ok (V.int .i64 (n:Int)):R V)) this
   have q3:=aE g.row
   have qb:=aE gb.row
   have lu1:=fun c j=>lua c j (Y.next+22)
   have m1:=lu1 none 1
   have m2:=lu1 none 2
   simp only [Part.enc,kk] at m1 m2
   have h3:=aLc (n:=x.net) (bp:=x.bp) (hI p hpm x (List.mem_of_getElem? hk))
   obtain ⟨tl0,hb0',hr0'⟩:=ptr g
   have l7:=ldR (S:=Y) hb0' hr0' none 8 Y.next
   simp only [Posted.encW,kk] at l7
   simp only [gY] at H'
   simp only [↓cw,↓reduceIte,Nat.reduceLT,kk,bG hk,l7,l8,hlen,eua,m1,m2,bE8,h3,eQ,stU]
   have e5:(st++p.total.parts.drop k).set k { x with tax:=(cH x.net x.bp).1 }=st++[pG x]++p.total.parts.drop (k+1):=by
    rw [nY hk,List.set_append_right _ _ (by omega),hsk,Nat.sub_self,List.append_assoc];rfl
   have gU:FL S2 Y' S.next tv sv pv cv s.next us ser' ((done++[p.made z.next ⟨p.total.net,p.total.tax,p.total.gross,st++p.total.parts.drop k⟩]++s.posted.drop (i+1)).set i (p.made z.next ⟨p.total.net,p.total.tax,p.total.gross,(st++p.total.parts.drop k).set k { x with tax:=(cH x.net x.bp).1 }⟩)) bv:=gU
   rw [hst,e5] at gU
   by_cases he:(cH x.net x.bp).2=0
   rotate_left
   ·simp only [he,if_false] at H'
    have hr:nP p.total=none:=by rw [lN,←H']
    simp only [hr] at H
    simp only [↓cw,↓reduceIte,Nat.reduceLT,kk,he,not_false_eq_true,if_true,o1,o2,t1,v1,hb1,qb,rp gb.fk,aA]
    exact fail _ _ gb.fk hb1 (by rw [fQ,←H])
   simp only [he,if_true] at H'
   simp only [he,not_true_eq_false,if_false,gJ (show k<1000000000 by omega)]
   exact H' _ _ ⟨rfl,gU,by rw [List.length_append,hsk];rfl,by rw [hst1,List.take_add_one,hk];simp⟩
  ·rintro st vs Y ⟨rfl,g,hsk,hst1⟩ aF H'
   rw [List.take_length] at hst1
   rw [List.drop_length,List.append_nil] at g
   have hr:nP p.total=lG st:=by rw [lN,←H']
   have hI2:∀ y∈st,dY y.net∧dY y.tax:=fun y hy=>by
    rw [hst1] at hy
    obtain ⟨x,hx,rfl⟩:=List.mem_map.1 hy
    exact ⟨hI p hpm x hx,aB3 _ _⟩
   rw [aNe hI2 (by omega)] at hr
   have ou:Own E0 Y 4 u (st.map Part.enc):=g.pl.own i u _ hu (hat _)
   have c1:=fun K=>bKw ou (by omega) K
   have hlen:lenW u=.ok (.int .i64 (p.total.parts.length:Int)):=by rw [ou.sl.lenI,hsk]
   obtain ⟨tl0,hb0',hr0'⟩:=ptr g
   have l7:=ldR (S:=Y) hb0' hr0' none 8 Y.next
   have rq:=aE g.row
   simp only [Posted.encW,kk] at l7
   simp only [↓cw,↓reduceIte,Nat.reduceLT,kk,Int.lt_irrefl,if_false,l7,hlen,c1,aYt,eQ]
   by_cases a1:(iX (dO st).1 (dO st).2.1).2=0
   rotate_left
   ·rw [if_neg a1] at hr
    have hr:nP p.total=none:=by rw [hr];split<;>rfl
    simp only [hr] at H
    simp only [↓cw,↓reduceIte,Nat.reduceLT,kk,a1,not_false_eq_true,if_true,o1,o2,t1,v1,hb1,rq,rp g.fk,aA]
    exact fail _ _ g.fk hb1 (by rw [fQ,←H])
   by_cases a2:(dO st).2.2=true
   rotate_left
   ·rw [if_neg a2] at hr
    simp only [hr] at H
    have a2:(dO st).2.2=false:=by simpa using a2
    simp only [↓cw,↓reduceIte,Nat.reduceLT,kk,a1,a2,not_true_eq_false,if_false,Bool.not_false,if_true,o1,o2,t1,v1,hb1,rq,rp g.fk,aA]
    exact fail _ _ g.fk hb1 (by rw [fQ,←H])
   rw [if_pos a1,if_pos a2] at hr
   simp only [hr] at H
   generalize (dO st).1=A at H a1 ⊢
   generalize (dO st).2.1=B at H a1 ⊢
   generalize iX A B=GG at H a1 ⊢
   obtain ⟨G,e0⟩:=GG
   simp only at H a1 ⊢
   obtain ⟨Y1,y1,n1',k1,g1'⟩:=g.setP (p':=p.made z.next ⟨A,p.total.tax,p.total.gross,st⟩) (hat _) hpv (j:=5) (x:=.int .i64 A) rfl rfl (by decide) (fun _=>rfl) rfl
   rw [hst] at g1'
   obtain ⟨Y2,y2,n2',k2,g2'⟩:=g1'.setP (p':=p.made z.next ⟨A,B,p.total.gross,st⟩) (hat _) hpv (j:=6) (x:=.int .i64 B) rfl rfl (by decide) (fun _=>rfl) rfl
   rw [hst] at g2'
   obtain ⟨Y3,y3,n3',k3,g3'⟩:=g2'.setP (p':=p.made z.next ⟨A,B,G,st⟩) (hat _) hpv (j:=7) (x:=.int .i64 G) rfl rfl (by decide) (fun _=>rfl) rfl
   rw [hst] at g3'
   simp only [↓cw,↓reduceIte,Nat.reduceLT,kk,a1,a2,not_true_eq_false,if_false,Bool.not_true,Bool.false_eq_true,y1,y2,y3]
   clear y1 y2 y3 g1' g2' k1 k2 k3 n1' n2' n3' hb0' hr0' l7 rq c1 hlen ou
   obtain ⟨p2,hp2⟩:∃ p2,p2=p.made z.next ⟨A,B,G,st⟩:=⟨_,rfl⟩
   have hp2o:p2.of=p.of:=by rw [hp2];rfl
   have hp2t:p2.total=⟨A,B,G,st⟩:=by rw [hp2];rfl
   rw [←hp2] at g3'
   have hp2':({ p with ref:=⟨p.ref.ser,z.next⟩,total:=⟨A,B,G,st⟩ }:Posted)=p2:=by rw [hp2];rfl
   simp only [hp2'] at H
   subst hdl
   have hll:(done++[p2]++s.posted.drop (done.length+1)).length=s.posted.length:=by simp only [List.length_append,List.length_cons,List.length_nil,List.length_drop];omega
   refine aG done (step:=fun (acc:List Posted) q=>(.inr (acc++[if q.ref=p.of then { q with back:=true } else q]):List Posted⊕List Posted)) (fin:=id) (fun j acc vs Z=>vs=[.int .i64 (j:Int)]∧FL S2 Z S.next tv sv pv cv s.next us ser' ((acc++done.drop j)++[p2]++s.posted.drop (done.length+1)) bv∧acc.length=j) (fun r=>r=hJ done p.of) ?_ ?_ (s:=[]) ⟨rfl,g3',rfl⟩ ?_
   ·rintro j x acc vs Z hj ⟨rfl,m,hal⟩ again2 H2'
    have hjl:=(List.getElem?_eq_some_iff.1 hj).1
    have mb:=m.bump 11
    have hl2:∀ z,(acc++done.drop j++[p2]++s.posted.drop (done.length+1)).set j z=acc++[z]++done.drop (j+1)++[p2]++s.posted.drop (done.length+1):=fun z=>by
     rw [nY hj,List.append_assoc,List.append_assoc,List.set_append_right _ _ (by omega),hal,Nat.sub_self]
     simp
    have hjx:(acc++done.drop j++[p2]++s.posted.drop (done.length+1))[j]?=some x:=by
     rw [List.append_assoc,List.append_assoc,List.getElem?_append_right (by omega),hal,Nat.sub_self,nY hj];rfl
    have hip:(acc++done.drop j++[p2]++s.posted.drop (done.length+1))[done.length]?=some p2:=by
     rw [List.append_assoc,List.getElem?_append_right (by simp;omega)]
     have:done.length - (acc++done.drop j).length=0:=by simp;omega
     rw [this];rfl
    obtain ⟨u5,b5,vb5,tl5,hu5,hpv5,hb5,hrow5⟩:=mb.at hjx
    obtain ⟨u6,b6,vb6,tl6,hu6,hpv6,hb6,hrow6⟩:=mb.at hip
    obtain ⟨rfl,rfl⟩:b5=b∧vb5=vb:=by rw [hpv] at hpv5;injection hpv5 with h1 h2;exact ⟨h1.symm,h2.symm⟩
    obtain ⟨rfl,rfl⟩:b6=b5∧vb6=vb5:=by rw [hpv5] at hpv6;injection hpv6 with h1 h2;exact ⟨h1.symm,h2.symm⟩
    have r5:=aE mb.row
    have l57:=ldR hb5 hrow5 (some 2) 0 (Z.next+11)
    have l59:=ldR hb6 hrow6 (some 2) 9 (Z.next+11)
    simp only [Posted.encW,kk] at l57 l59
    have ixj:fK 12 pv (.int .i64 (j:Int))=.ok (.ptr b6 vb6 j 0):=by
     rw [hpv5];simp only [fK,fF (List.getElem?_eq_some_iff.1 hjx).1,if_true,Nat.zero_add]
    obtain ⟨Z2,z2,nz2,kz2,m2⟩:=mb.setP (p':={ x with back:=true }) hjx hpv (j:=11) (x:=.bool true) rfl rfl (by decide) (fun _=>rfl) rfl
    simp only [↓cw,↓reduceIte,Nat.reduceLT,kk,bG hj,r5,ixj,l57,l59,z2,hp2o,gJ (show j<1000000000 by omega)]
    rw [show (x.ref.ser == p.of.ser&&decide (x.ref.num=p.of.num))=decide (x.ref=p.of) by rw [Bool.eq_iff_iff];simp [Ref.ext_iff]]
    rw [hl2] at m2
    by_cases c:x.ref=p.of
    ·simp only [c,decide_true,if_true] at H2' ⊢
     rw [c] at m2
     exact H2' _ _ ⟨rfl,m2,by rw [List.length_append,hal];rfl⟩
    ·simp only [c,decide_false,Bool.false_eq_true,if_false] at H2' ⊢
     exact H2' _ _ ⟨rfl,by rw [nY hj] at mb;simpa using mb,by rw [List.length_append,hal];rfl⟩
   ·rintro acc vs Z ⟨rfl,m,hal⟩ again2 H2'
    have H2':acc=hJ done p.of:=H2'
    rw [List.drop_length,List.append_nil] at m
    have hip:(acc++[p2]++s.posted.drop (done.length+1))[done.length]?=some p2:=by
     rw [List.append_assoc,List.getElem?_append_right (by omega),hal,Nat.sub_self];rfl
    obtain ⟨u6,b6,vb6,tl6,hu6,hpv6,hb6,hrow6⟩:=m.at hip
    obtain ⟨rfl,rfl⟩:b6=b∧vb6=vb:=by rw [hpv] at hpv6;injection hpv6 with h1 h2;exact ⟨h1.symm,h2.symm⟩
    have l5:=ldR (S:=Z) hb6 hrow6 (some 4) 5 Z.next
    simp only [Posted.encW,kk] at l5
    have ou:=m.pl.own _ u6 _ hu6 hip
    rw [hp2t] at ou l5
    have o6:=ou.one
    have o7:=ou.cells
    have hft:nN ⟨A,B,G,st⟩:=by
     refine ⟨by show st.length≤12;omega,fun y hy=>?_⟩
     have hy:y∈st:=hy
     rw [hst1] at hy
     obtain ⟨x,hx,rfl⟩:=List.mem_map.1 hy
     exact hfp.2 x hx
    have h121:=fun K':KW=>(bF5 ⟨A,B,G,st⟩ hft).frz (S:=Z) (args:=[.agg [.int .i64 A,.int .i64 B,.int .i64 G,u6]]) (by simp only [frzVs,cZ,ou.frz (bM (fun _=>rfl) _)]) K'
    have rq:=aE m.row
    have hel:=qT ⟨A,B,G,st⟩
    have hle:=lY book (cG ⟨A,B,G,st⟩).1
    simp only [↓cw,↓reduceIte,Nat.reduceLT,kk,Int.lt_irrefl,if_false,l5,h121]
    by_cases d1:(cG ⟨A,B,G,st⟩).2=0
    rotate_left
    ·simp only [d1,not_false_eq_true,ne_eq,if_true] at H
     simp only [↓cw,↓reduceIte,Nat.reduceLT,kk,d1,not_false_eq_true,if_true,o1,o2,t1,v1,hb1,rq,rp m.fk,aA]
     exact fail _ _ m.fk hb1 (by rw [fQ,←H])
    have hel:=hel.resolve_right (not_not_intro d1)
    have h122:=fun (K':KW)=>bF7 book (cG ⟨A,B,G,st⟩).1 hbv (by simp only at hel;omega) Z K'
    have mq:=m.turnQ (Nat.le_refl _) (.imm ((bY book (cG ⟨A,B,G,st⟩).1).1.map Bal.enc))
    by_cases d2:(bY book (cG ⟨A,B,G,st⟩).1).2=0
    rotate_left
    ·simp only [d1,d2,not_false_eq_true,not_true_eq_false,ne_eq,if_true,if_false] at H
     simp only [↓cw,↓reduceIte,Nat.reduceLT,kk,d1,d2,h122,not_false_eq_true,not_true_eq_false,if_true,if_false,o1,o2,t1,v1,hb1,rq,rp m.fk,rp mq.fk,aA]
     exact fail _ _ mq.fk rfl (by rw [fQ,←H])
    simp only [d1,d2,not_true_eq_false,ne_eq,if_false] at H
    simp only [↓cw,↓reduceIte,Nat.reduceLT,kk,d1,d2,h122,not_true_eq_false,if_false,o1,o2,t1,v1,hb1,rq,aA,gJ (show done.length<1000000000 by omega)]
    rw [H2'] at mq hal
    exact H _ _ ⟨rfl,_,mq,.inl rfl,by simp only at hel hle ⊢;omega,by simp [hal],hser'⟩
   ·have:∀ (l a:List Posted),aD (fun (acc:List Posted) q=>(.inr (acc++[if q.ref=p.of then { q with back:=true } else q]):List Posted⊕List Posted)) id l a=a++hJ l p.of:=by
     intro l
     induction l with
     | nil=>intro a;simp [aD,hJ]
     | cons x l ih=>intro a;simp only [aD];rw [ih];simp [hJ]
    exact this _ _
 ·rintro ⟨ser,done,book⟩ vs X ⟨rfl,bv,f,hbv,hbl,hdl,hsl⟩ aF H
  have hdl:done.length=s.posted.length:=hdl
  have f:FL S2 X S.next tv sv pv cv s.next us ser (done++s.posted.drop s.posted.length) bv:=f
  have hbv:bv=.imm (book.map Bal.enc)∨(bv=.nils∧book=[]):=hbv
  have hb1:bv.one=true:=by rcases hbv with rfl | ⟨rfl,_⟩<;>rfl
  rw [List.drop_length,List.append_nil] at f
  have r1:=aE f.row
  have r2:=aE (rK f.fk)
  have hlen:lenW pv=.ok (.int .i64 (s.posted.length:Int)):=by rw [f.atS,hdl]
  simp only [↓cw,↓reduceIte,Nat.reduceLT,kk,r1,r2,hlen,Int.lt_irrefl,if_false,o1,o2,t1,v1,hb1,aA]
  refine H1 ⟨s.table,ser,done,book,s.sess,s.next⟩ bv _ S.next (Nat.le_refl _) (by rw [fQ,←H]) ((f.base x12).put w (rK f.fk) (by omega) (Nat.le_succ _) _) hbv
end
section
structure RB (B:St) (b:List UInt8) (a q n:Nat) (r:Rd) (row:List V) (X:St):Prop where
 wf:WF X
 nx:B.next≤X.next
 la:a<B.next
 lq:q<B.next
 aq:a≠q
 ra:X.heap.get a=some (.row 0 3 [r.cells b])
 rq:X.heap.get q=some (.row 0 n [row])
 old:∀ y,y<B.next→y≠a→y≠q→X.heap.get y=B.heap.get y
structure RT (B:St) (b:List UInt8) (a q n t m:Nat) (r:Rd) (row tv:List V) (X:St):Prop extends RB B b a q n r row X where
 lt:t<X.next
 ge:B.next≤t
 rt:X.heap.get t=some (.row 0 m [tv])
section
variable {B X:St} {b:List UInt8} {a q n t m:Nat} {r:Rd} {row tv:List V}
theorem RB.refl (w:WF X) (ra:X.heap.get a=some (.row 0 3 [r.cells b])) (rq:X.heap.get q=some (.row 0 n [row])) (aq:a≠q):RB X b a q n r row X:=
 ⟨w,Nat.le_refl _,w _ _ ra,w _ _ rq,aq,ra,rq,fun _ _ _ _=>rfl⟩
theorem RB.trans {Y:St} {r':Rd} {row':List V} (h:RB B b a q n r row X) (k:RB X b a q n r' row' Y):RB B b a q n r' row' Y:=
 ⟨k.wf,Nat.le_trans h.nx k.nx,h.la,h.lq,h.aq,k.ra,k.rq,fun y h1 h2 h3=>(k.old y (Nat.lt_of_lt_of_le h1 h.nx) h2 h3).trans (h.old y h1 h2 h3)⟩
theorem RB.rd (h:RB B b a q n r row X) (r':Rd):RB B b a q n r' row ⟨X.next,X.heap.put a (.row 0 3 [r'.cells b])⟩:=
 ⟨kR (n:=X.next) h.wf (h.wf _ _ h.ra) (Nat.le_refl _),h.nx,h.la,h.lq,h.aq,Tr.get_put_sameB _ _ _ trivial,(Tr.get_put_neB _ _ _ _ trivial (Ne.symm h.aq)).trans h.rq,fun y h1 h2 h3=>(Tr.get_put_neB _ _ _ _ trivial h2).trans (h.old y h1 h2 h3)⟩
theorem RB.qset (h:RB B b a q n r row X) (row':List V):RB B b a q n r row' ⟨X.next,X.heap.put q (.row 0 n [row'])⟩:=
 ⟨kR (n:=X.next) h.wf (h.wf _ _ h.rq) (Nat.le_refl _),h.nx,h.la,h.lq,h.aq,(Tr.get_put_neB _ _ _ _ trivial h.aq).trans h.ra,Tr.get_put_sameB _ _ _ trivial,fun y h1 h2 h3=>(Tr.get_put_neB _ _ _ _ trivial h3).trans (h.old y h1 h2 h3)⟩
theorem RB.new (h:RB B b a q n r row X) (m:Nat) (tv:List V):RT B b a q n X.next m r row tv ⟨X.next+1,X.heap.put X.next (.row 0 m [tv])⟩:=
 have na:a≠X.next:=by have:=h.la;have:=h.nx;omega
 have nq:q≠X.next:=by have:=h.lq;have:=h.nx;omega
 ⟨⟨kR (n:=X.next) h.wf (Nat.lt_succ_self _) (Nat.le_succ _),Nat.le_succ_of_le h.nx,h.la,h.lq,h.aq,(Tr.get_put_neB _ _ _ _ trivial na).trans h.ra,(Tr.get_put_neB _ _ _ _ trivial nq).trans h.rq,fun y h1 h2 h3=>(Tr.get_put_neB _ _ _ _ trivial (by have:=h.nx;omega)).trans (h.old y h1 h2 h3)⟩,Nat.lt_succ_self _,h.nx,Tr.get_put_sameB _ _ _ trivial⟩
theorem RT.tmp (h:RT B b a q n t m r row tv X) (tv':List V):RT B b a q n t m r row tv' ⟨X.next,X.heap.put t (.row 0 m [tv'])⟩:=
 have na:a≠t:=by have:=h.la;have:=h.ge;omega
 have nq:q≠t:=by have:=h.lq;have:=h.ge;omega
 ⟨⟨kR (n:=X.next) h.wf h.lt (Nat.le_refl _),h.nx,h.la,h.lq,h.aq,(Tr.get_put_neB _ _ _ _ trivial na).trans h.ra,(Tr.get_put_neB _ _ _ _ trivial nq).trans h.rq,fun y h1 h2 h3=>(Tr.get_put_neB _ _ _ _ trivial (by have:=h.ge;omega)).trans (h.old y h1 h2 h3)⟩,h.lt,h.ge,Tr.get_put_sameB _ _ _ trivial⟩
theorem RT.rdT (h:RT B b a q n t m r row tv X) (r':Rd):RT B b a q n t m r' row tv ⟨X.next,X.heap.put a (.row 0 3 [r'.cells b])⟩:=
 ⟨h.toRB.rd r',h.lt,h.ge,(Tr.get_put_neB _ _ _ _ trivial (by have:=h.la;have:=h.ge;omega)).trans h.rt⟩
theorem RB.keep (h:RB B b a q n r row X) {r0:Rd} {row0:List V} (ra:B.heap.get a=some (.row 0 3 [r0.cells b])) (rq:B.heap.get q=some (.row 0 n [row0])) {S0:St} {w:Nat} {v:V} {es:List (List V)} (o:Own S0 B w v es) (hw:3≠w) (hn:n≠w):Own S0 X w v es:=
 o.same h.nx fun y hy=>h.old y (cS o hy).2 (fun e=>Own.wide o ra hw (e▸hy)) fun e=>Own.wide o rq hn (e▸hy)
theorem RB.app (h:RB B b a q n r row X) {w bb:Nat} {v:V} {es:List (List V)} (o:Own E0 X w v es) (lb:∀ y,AM.blkOf v=some y→B.next≤y) {c:List V} (hc:c.length=w∧aI c=true) (h1:(es.length+1)*bb≤35184372088832) (h2:es.length+1<fL):
  ∃ v' X',eW w bb v (.sl X.next 0 w 0 1) none ⟨X.next+1,X.heap.put X.next (.row 0 w [c])⟩=.ok (v',X')∧RB B b a q n r row X'∧Own E0 X' w v' (es++[c])∧(∀ y,AM.blkOf v'=some y→B.next≤y)∧(∀ y,y<X.next→AM.blkOf v≠some y→X'.heap.get y=X.heap.get y)∧X.next≤X'.next∧(∀ y,AM.blkOf v'=some y→AM.blkOf v=some y∨X.next≤y):=by
 have x:Ext X ⟨X.next+1,X.heap.put X.next (.row 0 w [c])⟩:=Ext.new h.wf _
 obtain ⟨v',X',q1,q2,q3,q4,q5,q6⟩:=(o.ext x).pushG (b:=bb) (rZ (x.wf h.wf)) rC (u:=.sl X.next 0 w 0 1) (cs:=[c]) (by simp only [aL,aA];rfl) (fun d hd=>by rcases List.mem_singleton.1 hd with rfl;exact hc) (by simp) h1 h2
 have q5:∀ y,y<X.next→AM.blkOf v≠some y→X'.heap.get y=X.heap.get y:=fun y hy hv=>by
  rw [q5 y (Nat.lt_succ_of_lt hy) hv]
  exact Tr.get_put_neB _ _ _ _ trivial (by omega)
 have q6:X.next≤X'.next:=Nat.le_trans (Nat.le_succ _) q6
 have ob:∀ y,y<B.next→AM.blkOf v≠some y:=fun y hy e=>by have:=lb y e;omega
 have hnx:=h.nx
 have keep:∀ y,y<B.next→X'.heap.get y=X.heap.get y:=fun y hy=>q5 y (by omega) (ob y hy)
 refine ⟨v',X',q1,⟨q2.wf rC,by omega,h.la,h.lq,h.aq,(keep a h.la).trans h.ra,(keep q h.lq).trans h.rq,fun y h1 h2 h3=>(keep y h1).trans (h.old y h1 h2 h3)⟩,q3,fun y hy=>?_,q5,q6,fun y hy=>?_⟩
 ·rcases q4 with e | e
  ·rw [e] at hy;cases hy;show B.next≤X.next+1;omega
  ·rw [e] at hy;exact lb y hy
 ·rcases q4 with e | e
  ·rw [e] at hy;cases hy;exact .inr (Nat.le_succ _)
  ·rw [e] at hy;exact .inl hy
end
end
abbrev aS2:Nat→Option (List bH):=dI []
abbrev aS3:Nat→List Nat:=eG [(5,[7]),(13,[9]),(29,[14]),(21,[11]),(38,[16])]
def aBn (C:aT) (K:KW) (p2 p5 p204:V) (S:St):Prop:=
aV p204 (qD 30 [] fun t28=>
qS 30 p2 t28 S fun S29=>
qL 30 p2 S29 fun t30=>
K (.tup [t30,(jI 4)]) S29) (qL 30 p5 S fun t31=>
qS 30 p2 t31 S fun S32=>
qL 30 p2 S32 fun t33=>
K (.tup [t33,(jI 0)]) S32)
def aBo (C:aT) (K:KW) (p2 p4 p5:V) (S:St):Prop:=
C 76 [p4] S fun t12 S13=>
qF 30 p5 5 fun t14=>
qS 3 t14 t12 S13 fun S15=>
C 78 [p4] S15 fun t16 S17=>
(qG .neq 3 t16 (jI 0) fun t18=>
aV t18 (qD 30 [] fun t19=>
qS 30 p2 t19 S17 fun S20=>
qL 30 p2 S20 fun t21=>
K (.tup [t21,t16]) S20) (qL 30 p5 S17 fun t22=>
C 79 [t22] S17 fun t23 S24=>
lD t23 0 fun t25=>
lD t23 1 fun t26=>
qS 30 p5 t25 S24 fun S27=>
wR (unV .not t26) fun t34=>
aV t34 (aBn C K p2 p5 (.bool true) S27) (qL 30 p5 S27 fun t35=>
C 38 [t35] S27 fun t36 S37=>
wR (unV .not t36) fun t38=>
aBn C K p2 p5 t38 S37)))
def aS4 (C:aT) (K:KW) (p2 p4 p5 p6:V) (vs:List V) (S:St) (again0:List V→St→Prop):Prop:=
uX vs fun x16 vs=>
qB .lss 3 x16 p6 fun t39=>
aV t39 (wJ p4 (qE 142 p4 2 3 S fun t41=>
(qG .eql 3 t41 (jI 0) fun t42=>
aV t42 (C 76 [p4] S fun t43 S44=>
qD 132 [(0,t43)] fun t45=>
qN S44 5 [jI 0,jI 0,jI 0,jI 0,jI 0] fun r46=>
qS 132 (pt r46) t45 r46.2 fun S47=>
C 76 [p4] S47 fun t48 S49=>
qF 132 (pt r46) 1 fun t50=>
qS 3 t50 t48 S49 fun S51=>
C 76 [p4] S51 fun t52 S53=>
qF 132 (pt r46) 2 fun t54=>
qF 48 t54 0 fun t55=>
qS 31 t55 t52 S53 fun S56=>
C 76 [p4] S56 fun t57 S58=>
qF 132 (pt r46) 2 fun t59=>
qF 48 t59 1 fun t60=>
qS 3 t60 t57 S58 fun S61=>
C 76 [p4] S61 fun t62 S63=>
qF 132 (pt r46) 2 fun t64=>
qF 48 t64 2 fun t65=>
qS 3 t65 t62 S63 fun S66=>
qE 30 p5 4 28 S66 fun t68=>
qL 132 (pt r46) S66 fun t69=>
qQ 28 1 [(0,t69)] none S66 fun r70=>
qP 28 t68 r70.1 none r70.2 fun r71=>
qF 30 p5 4 fun t72=>
qS 28 t72 r71.1 r71.2 fun S73=>
qB .add 3 x16 (jI 1) fun t74=>
again0 [t74] S73) (aBo C K p2 p4 p5 S)))) (aBo C K p2 p4 p5 S)
def aBp (C:aT) (K:KW) (p2 p4 p5:V) (S:St):Prop:=
C 73 [p4,(jI 8)] S fun t10 S11=>
iJ [(jI 0)] S11 (aS4 C K p2 p4 p5 t10)
def aF9 (C:aT) (K:KW) (again1:List V→St→Prop) (p2 p4 p5 p6 p11 p12:V) (S:St):Prop:=
qE 30 p5 2 26 S fun t102=>
qL 84 p12 S fun t103=>
qQ 26 1 [(0,t103)] none S fun r104=>
qP 26 t102 r104.1 none r104.2 fun r105=>
qF 30 p5 2 fun t106=>
qS 26 t106 r105.1 r105.2 fun S107=>
qB .add 3 p11 (jI 1) fun t108=>
again1 [t108] S107
def aS5 (C:aT) (K:KW) (again1:List V→St→Prop) (p2 p4 p5 p6 p11 p12 p13:V) (vs:List V) (S:St) (again2:List V→St→Prop):Prop:=
uX vs fun x14 vs=>
qB .lss 3 x14 p13 fun t109=>
aV t109 (wJ p4 (qE 142 p4 2 3 S fun t111=>
(qG .eql 3 t111 (jI 0) fun t112=>
aV t112 (C 74 [p4,(jI 64)] S fun t113 S114=>
qD 145 [(0,t113)] fun t115=>
qN S114 4 [.str [],jI 0,jI 0,jI 0] fun r116=>
qS 145 (pt r116) t115 r116.2 fun S117=>
C 76 [p4] S117 fun t118 S119=>
qF 145 (pt r116) 1 fun t120=>
qS 3 t120 t118 S119 fun S121=>
C 76 [p4] S121 fun t122 S123=>
qF 145 (pt r116) 2 fun t124=>
qS 3 t124 t122 S123 fun S125=>
qF 84 p12 2 fun t126=>
qE 82 t126 3 80 S125 fun t128=>
qL 145 (pt r116) S125 fun t129=>
qQ 80 1 [(0,t129)] none S125 fun r130=>
qP 80 t128 r130.1 none r130.2 fun r131=>
qF 84 p12 2 fun t132=>
qF 82 t132 3 fun t133=>
qS 80 t133 r131.1 r131.2 fun S134=>
qB .add 3 x14 (jI 1) fun t135=>
again2 [t135] S134) (aF9 C K again1 p2 p4 p5 p6 p11 p12 S)))) (aF9 C K again1 p2 p4 p5 p6 p11 p12 S)
def aS6 (C:aT) (K:KW) (p2 p4 p5 p6:V) (vs:List V) (S:St) (again1:List V→St→Prop):Prop:=
uX vs fun x11 vs=>
qB .lss 3 x11 p6 fun t75=>
aV t75 (wJ p4 (qE 142 p4 2 3 S fun t77=>
(qG .eql 3 t77 (jI 0) fun t78=>
aV t78 (C 74 [p4,(jI 64)] S fun t79 S80=>
qD 57 [(0,t79)] fun t81=>
qD 84 [(0,t81)] fun t82=>
qN S80 12 [.str [],jI 0,jI 0,jI 0,jI 0,jI 0,jI 0,jI 0,.nils,.str [],jI 0,.bool false] fun r83=>
qS 84 (pt r83) t82 r83.2 fun S84=>
C 75 [p4] S84 fun t85 S86=>
qF 84 (pt r83) 1 fun t87=>
qS 52 t87 t85 S86 fun S88=>
C 74 [p4,(jI 64)] S88 fun t89 S90=>
qF 84 (pt r83) 3 fun t91=>
qF 57 t91 0 fun t92=>
qS 9 t92 t89 S90 fun S93=>
C 76 [p4] S93 fun t94 S95=>
qF 84 (pt r83) 3 fun t96=>
qF 57 t96 1 fun t97=>
qS 3 t97 t94 S95 fun S98=>
C 73 [p4,(jI 12)] S98 fun t99 S100=>
iJ [(jI 0)] S100 (aS5 C K again1 p2 p4 p5 p6 x11 (pt r83) t99)) (aBp C K p2 p4 p5 S)))) (aBp C K p2 p4 p5 S)
def aBq (C:aT) (K:KW) (p2 p4 p5:V) (S:St):Prop:=
C 73 [p4,(jI 40)] S fun t8 S9=>
iJ [(jI 0)] S9 (aS6 C K p2 p4 p5 t8)
def aS7 (C:aT) (K:KW) (p2 p4 p5 p6:V) (vs:List V) (S:St) (again3:List V→St→Prop):Prop:=
uX vs fun x9 vs=>
qB .lss 3 x9 p6 fun t136=>
aV t136 (wJ p4 (qE 142 p4 2 3 S fun t138=>
(qG .eql 3 t138 (jI 0) fun aZd=>
aV aZd (C 74 [p4,(jI 64)] S fun t140 S141=>
qD 126 [(0,t140),(1,(jI 1))] fun t142=>
qN S141 4 [.str [],jI 0,jI 0,.bool false] fun r143=>
qS 126 (pt r143) t142 r143.2 fun S144=>
C 76 [p4] S144 fun aRw S146=>
qF 126 (pt r143) 2 fun aZe=>
qS 3 aZe aRw S146 fun S148=>
C 77 [p4] S148 fun t149 S150=>
qF 126 (pt r143) 3 fun aZc=>
qS 4 aZc t149 S150 fun S152=>
qE 30 p5 1 25 S152 fun t154=>
qL 126 (pt r143) S152 fun t155=>
qQ 25 1 [(0,t155)] none S152 fun r156=>
qP 25 t154 r156.1 none r156.2 fun r157=>
qF 30 p5 1 fun aYi=>
qS 25 aYi r157.1 r157.2 fun S159=>
qB .add 3 x9 (jI 1) fun t160=>
again3 [t160] S159) (aBq C K p2 p4 p5 S)))) (aBq C K p2 p4 p5 S)
def aBr (C:aT) (K:KW) (p2 p4 p5:V) (S:St):Prop:=
C 73 [p4,(jI 8)] S fun t6 S7=>
iJ [(jI 0)] S7 (aS7 C K p2 p4 p5 t6)
def aS8 (C:aT) (K:KW) (p2 p4 p5 p6:V) (vs:List V) (S:St) (again4:List V→St→Prop):Prop:=
uX vs fun x7 vs=>
qB .lss 3 x7 p6 fun t161=>
aV t161 (wJ p4 (qE 142 p4 2 3 S fun t163=>
(qG .eql 3 t163 (jI 0) fun t164=>
aV t164 (C 74 [p4,(jI 64)] S fun t165 S166=>
qD 54 [(0,t165)] fun t167=>
qN S166 5 [.str [],jI 0,jI 0,jI 0,jI 0] fun r168=>
qS 54 (pt r168) t167 r168.2 fun S169=>
C 75 [p4] S169 fun aYg S171=>
qF 54 (pt r168) 1 fun t172=>
qS 52 t172 aYg S171 fun S173=>
C 76 [p4] S173 fun t174 S175=>
qF 54 (pt r168) 2 fun t176=>
qS 3 t176 t174 S175 fun S177=>
qE 30 p5 0 24 S177 fun t179=>
qL 54 (pt r168) S177 fun t180=>
qQ 24 1 [(0,t180)] none S177 fun r181=>
qP 24 t179 r181.1 none r181.2 fun r182=>
qF 30 p5 0 fun t183=>
qS 24 t183 r182.1 r182.2 fun S184=>
qB .add 3 x7 (jI 1) fun t185=>
again4 [t185] S184) (aBr C K p2 p4 p5 S)))) (aBr C K p2 p4 p5 S)
def m21 (C:aT) (a0:V) (S:St) (K:KW):Prop:=
qN S 6 [.nils,.nils,.nils,.nils,.nils,jI 0] fun r0=>
C 72 [a0] r0.2 fun t1 S2=>
qN S2 6 [.nils,.nils,.nils,.nils,.nils,jI 0] fun r3=>
C 73 [t1,(jI 24)] r3.2 fun t4 S5=>
iJ [(jI 0)] S5 (aS8 C K (pt r0) t1 (pt r3) t4)
theorem aZg:(fun (C:aT) (a0:V) (S:St) (K:KW)=>fD prog C aS2 aS3 21 [a0] S K)=fun C a0 S K=>m21 C a0 S K:=by kernel_rfl
theorem t21 (C:aT) (a0:V) (S:St) (K:KW):fD prog C aS2 aS3 21 [a0] S K=m21 C a0 S K:=congrFun (congrFun (congrFun (congrFun aZg C) a0) S) K
theorem u21 {a0:V} {v:V} (hc:cloVs [a0]=true) (h:m21 C a0 ⟨0,.nil⟩ fun v0 S0=>fW S0 v0=.ok v):Fv 21 [a0] v:=Go.AM.Fn.of (p:=aS2) (lv:=aS3) (by kernel_rfl) hc (by rw [t21];exact h)
section
section
variable {b:List UInt8} {r:Rd} {X:St} {a:Nat}
theorem aBs (hb:b.length<1000000000) (hr:r.pos≤b.length) (hX:X.heap.get a=some (.row 0 3 [r.cells b])) (K:KW):C 76 [.ptr a 0 0 0] X K=K (.int .i64 (aR b r).1) ⟨X.next,X.heap.put a (.row 0 3 [(aR b r).2.cells b])⟩:=(r76 hb hr).eq hX K
theorem aS9 (hb:b.length<1000000000) (hr:r.pos≤b.length) (hX:X.heap.get a=some (.row 0 3 [r.cells b])) (K:KW):C 74 [.ptr a 0 0 0,.int .i64 64] X K=K (.str (fA b 64 r).1) ⟨X.next,X.heap.put a (.row 0 3 [(fA b 64 r).2.cells b])⟩:=(r74 hb hr 64).eq hX K
theorem bFu (hb:b.length<1000000000) (hr:r.pos≤b.length) (hX:X.heap.get a=some (.row 0 3 [r.cells b])) (K:KW):C 75 [.ptr a 0 0 0] X K=K (.agg [.int .i64 (mU b r).1.y,.int .i64 (mU b r).1.m,.int .i64 (mU b r).1.d]) ⟨X.next,X.heap.put a (.row 0 3 [(mU b r).2.cells b])⟩:=(r75 hb hr).eq hX K
theorem bKx (hb:b.length<1000000000) (hr:r.pos≤b.length) (hX:X.heap.get a=some (.row 0 3 [r.cells b])) (K:KW):C 77 [.ptr a 0 0 0] X K=K (.bool (jE b r).1) ⟨X.next,X.heap.put a (.row 0 3 [(jE b r).2.cells b])⟩:=(r77 hb hr).eq hX K
theorem bKy (hX:X.heap.get a=some (.row 0 3 [r.cells b])) (K:KW):C 78 [.ptr a 0 0 0] X K=K (.int .i64 (iL b r).err) ⟨X.next,X.heap.put a (.row 0 3 [(iL b r).cells b])⟩:=r78.eq hX K
theorem aU1 (hb:b.length<1000000000) (hr:r.pos≤b.length) (most:Int) (hX:X.heap.get a=some (.row 0 3 [r.cells b])) (K:KW):C 73 [.ptr a 0 0 0,.int .i64 most] X K=K (.int .i64 (bF b most r).1) ⟨X.next,X.heap.put a (.row 0 3 [(bF b most r).2.cells b])⟩:=(r73 hb hr most).eq hX K
end
def aU2 (b:List UInt8) (tab:List Rate) (ser:List Ser) (pst:List Posted) (ses:List Sess) (r:Rd):State×Int:=
 if (iL b (aR b r).2).err=0 then (match rH ⟨tab,ser,pst,[],ses,(aR b r).1⟩ with
  | none=>(State.zero,4)
  | some s=>if fX s=true then (s,0) else (State.zero,4)) else (State.zero,(iL b (aR b r).2).err)
def xF (x:State×Int):V:=.tup [.agg [.imm (x.1.table.map Rate.enc),.imm (x.1.ser.map Ser.enc),.imm (x.1.posted.map Posted.enc),.imm (x.1.book.map Bal.enc),.imm (x.1.sess.map Sess.enc),.int .i64 x.1.next],.int .i64 x.2]
theorem aFa {s:FillD} {p:Posted} {s':FillD} (h:bC s p=.inr s'):∃ q:Posted,s'.done=hJ s.done p.of++[q]∧(∀ x∈q.total.parts,∃ y∈p.total.parts,x=pG y)∧q.total.parts.length=p.total.parts.length∧s'.ser.length=s.ser.length∧((∀ x∈s.ser,dY x.next)→∀ x∈s'.ser,dY x.next):=by
 unfold bC at h
 split at h
 ·cases h
 split at h
 ·cases h
 rename_i t ht
 split at h
 ·cases h
 rename_i x hx
 split at h
 ·cases h
 split at h
 ·cases h
 cases h
 have hte:t.parts=p.total.parts.map pG:=by
  rw [lN] at ht
  split at ht
  ·cases ht
  ·rename_i ps hps
   have e:=tS _ _ _ hps
   have:t.parts=ps:=by
    unfold lG at ht
    repeat' split at ht
    all_goals first | (cases ht;done) | (cases ht;rfl)
   rw [this,e];rfl
 refine ⟨_,rfl,fun y hy=>?_,by show t.parts.length=_;rw [hte,List.length_map],by simp,fun hI y hy=>?_⟩
 ·have hy:y∈t.parts:=hy
  rw [hte] at hy
  obtain ⟨z,hz,rfl⟩:=List.mem_map.1 hy
  exact ⟨z,hz,rfl⟩
 ·rcases List.mem_or_eq_of_mem_set hy with hy | rfl
  ·exact hI y hy
  ·exact rD _
theorem aDw:∀ (l:List Posted) (s r:FillD),aD bC some l s=some r→(∀ p∈s.done,∀ x∈p.total.parts,dY x.net∧dY x.tax)→(∀ p∈l,∀ x∈p.total.parts,dY x.net)→(∀ x∈s.ser,dY x.next)→(∀ p∈s.done,p.total.parts.length≤12)→(∀ p∈l,p.total.parts.length≤12)→
  (∀ p∈r.done,∀ x∈p.total.parts,dY x.net∧dY x.tax)∧(∀ x∈r.ser,dY x.next)∧r.done.length=s.done.length+l.length∧∀ p∈r.done,p.total.parts.length≤12
 | [],s,r,h,h1,_,h3,h4,_=>by cases h;exact ⟨h1,h3,rfl,h4⟩
 | p::l,s,r,h,h1,h2,h3,h4,h5=>by
  simp only [aD] at h
  cases e:bC s p with
  | inl z=>
   rw [e] at h
   have:z=none:=by
    unfold bC at e
    repeat' split at e
    all_goals first | cases e;rfl | cases e
   rw [this] at h;cases h
  | inr s'=>
   rw [e] at h
   obtain ⟨q,q1,q2,q5,q3,q4⟩:=aFa e
   have mk:∀ z∈hJ s.done p.of,∃ y∈s.done,z.total=y.total:=fun z hz=>by
    obtain ⟨y,hy,rfl⟩:=List.mem_map.1 hz
    exact ⟨y,hy,by split<;>rfl⟩
   obtain ⟨r1,r2,r3,r4⟩:=aDw l s' r h (fun z hz x hx=>by
    rw [q1] at hz
    rcases List.mem_append.1 hz with hz | hz
    ·obtain ⟨y,hy,e⟩:=mk z hz
     rw [e] at hx
     exact h1 y hy x hx
    ·rw [List.mem_singleton.1 hz] at hx
     obtain ⟨y,hy,rfl⟩:=q2 x hx
     exact ⟨h2 p (List.mem_cons_self ..) y hy,aB3 _ _⟩) (fun z hz=>h2 z (List.mem_cons_of_mem _ hz)) (q4 h3) (fun z hz=>by
    rw [q1] at hz
    rcases List.mem_append.1 hz with hz | hz
    ·obtain ⟨y,hy,e⟩:=mk z hz
     rw [e];exact h4 y hy
    ·rw [List.mem_singleton.1 hz,q5];exact h5 p (List.mem_cons_self ..)) (fun z hz=>h5 z (List.mem_cons_of_mem _ hz))
   refine ⟨r1,r2,?_,r4⟩
   rw [r3,q1]
   have:(hJ s.done p.of).length=s.done.length:=by unfold hJ;rw [List.length_map]
   simp [this];omega
end
theorem bKz:mE 38=some (.val (dI [])):=by kernel_rfl
theorem aNf {S:St} {v v':V} (h:cZ lH (lR (iP S 3) S) v=.ok v') (e:Int):fW S (.tup [v,.int .i64 e])=.ok (.tup [v',.int .i64 e]):=by
 unfold fW
 simp only [cZ,frzVs,h]
structure GL (X:St) (tv sv pv cv:V) (us:List V) (tab:List Rate) (ser:List Ser) (pst:List Posted) (ses:List Sess):Prop where
 ot:Own E0 X 5 tv (tab.map Rate.enc)
 os:Own E0 X 4 sv (ser.map Ser.enc)
 op:Own E0 X 12 pv (List.zipWith Posted.encW us pst)
 pl:PL E0 X us pst
 oc:Own E0 X 5 cv (ses.map Sess.enc)
 sep:∀ (i:Nat) (u:V) (y:Nat),us[i]?=some u→AM.blkOf u=some y→AM.blkOf sv≠some y
theorem GL.move {X Y:St} {tv sv pv cv:V} {us:List V} {tab:List Rate} {ser:List Ser} {pst:List Posted} {ses:List Sess} (h:GL X tv sv pv cv us tab ser pst ses) (hm:∀ {w:Nat} {v:V} {es:List (List V)},w≠3→w≠6→Own E0 X w v es→Own E0 Y w v es):GL Y tv sv pv cv us tab ser pst ses:=
 ⟨hm (by decide) (by decide) h.ot,hm (by decide) (by decide) h.os,hm (by decide) (by decide) h.op,h.pl.move fun _ _ _ _ _ o=>hm (by decide) (by decide) o,hm (by decide) (by decide) h.oc,h.sep⟩
set_option maxHeartbeats 2000000 in
theorem bFv {b:List UInt8} (hb:b.length<1000000000) {K:KW} {X:St} {a q:Nat} {r:Rd} (hr:r.pos≤b.length) {tv sv pv cv:V} {us:List V} {tab:List Rate} {ser:List Ser} {pst:List Posted} {ses:List Sess} (w:WF X) (ra:X.heap.get a=some (.row 0 3 [r.cells b])) (rq:X.heap.get q=some (.row 0 6 [[tv,sv,pv,.nils,cv,.int .i64 0]])) (haq:a≠q) (h0a:0≠a) (h0q:0≠q)
  (r0:X.heap.get 0=some (.row 0 6 [[.nils,.nils,.nils,.nils,.nils,.int .i64 0]])) (g:GL X tv sv pv cv us tab ser pst ses) (h8:ser.length≤8) (h40:pst.length≤40) (h12:∀ p∈pst,nN p.total) (hI:∀ p∈pst,∀ x∈p.total.parts,dY x.net) (hS:∀ x∈ser,dY x.next)
  (H:∀ v S0,fW S0 v=.ok (xF (aU2 b tab ser pst ses r))→K v S0):aBo C K (.ptr 0 0 0 0) (.ptr a 0 0 0) (.ptr q 0 0 0) X:=by
 simp only [aBo,kk,aBs hb hr ra]
 unfold aU2 at H
 have hp:=aK hr
 generalize aR b r=y at H hp ⊢
 obtain ⟨nx,r5⟩:=y
 simp only at H hp ⊢
 obtain ⟨X1,hX1⟩:∃ X1:St,X1=⟨X.next,X.heap.put a (.row 0 3 [r5.cells b])⟩:=⟨_,rfl⟩
 have g1:GL X1 tv sv pv cv us tab ser pst ses:=by rw [hX1];exact g.move fun h3 h6 o=>Own.wput o ra (Ne.symm h3) (Nat.le_refl _) _
 have w1:WF X1:=by rw [hX1];exact kR (n:=X.next) w (w _ _ ra) (Nat.le_refl _)
 have ra1:X1.heap.get a=some (.row 0 3 [r5.cells b]):=by rw [hX1];exact Tr.get_put_sameB _ _ _ trivial
 have rq1:X1.heap.get q=some (.row 0 6 [[tv,sv,pv,.nils,cv,.int .i64 0]]):=by rw [hX1];exact (Tr.get_put_neB _ _ _ _ trivial haq.symm).trans rq
 have r01:X1.heap.get 0=some (.row 0 6 [[.nils,.nils,.nils,.nils,.nils,.int .i64 0]]):=by rw [hX1];exact (Tr.get_put_neB _ _ _ _ trivial h0a).trans r0
 have q1:=aE rq1
 have q1':=q1
 rw [hX1] at q1'
 simp only [↓cw,↓reduceIte,Nat.reduceLT,kk,q1']
 clear q1'
 obtain ⟨X2,hX2⟩:∃ X2:St,X2=⟨X.next,(X.heap.put a (.row 0 3 [r5.cells b])).put q (.row 0 6 [[tv,sv,pv,.nils,cv,.int .i64 nx]])⟩:=⟨_,rfl⟩
 have e2:X2=⟨X1.next,X1.heap.put q (.row 0 6 [[tv,sv,pv,.nils,cv,.int .i64 nx]])⟩:=by rw [hX2,hX1]
 have g2:GL X2 tv sv pv cv us tab ser pst ses:=by rw [e2];exact g1.move fun h3 h6 o=>Own.wput o rq1 (Ne.symm h6) (Nat.le_refl _) _
 have w2:WF X2:=by rw [e2];exact kR (n:=X1.next) w1 (w1 _ _ rq1) (Nat.le_refl _)
 have ra2:X2.heap.get a=some (.row 0 3 [r5.cells b]):=by rw [e2];exact (Tr.get_put_neB _ _ _ _ trivial haq).trans ra1
 have rq2:X2.heap.get q=some (.row 0 6 [[tv,sv,pv,.nils,cv,.int .i64 nx]]):=by rw [e2];exact Tr.get_put_sameB _ _ _ trivial
 have r02:X2.heap.get 0=some (.row 0 6 [[.nils,.nils,.nils,.nils,.nils,.int .i64 0]]):=by rw [e2];exact (Tr.get_put_neB _ _ _ _ trivial h0q).trans r01
 simp only [←hX2,bKy ra2]
 clear hX2 e2 hX1
 obtain ⟨X3,hX3⟩:∃ X3:St,X3=⟨X2.next,X2.heap.put a (.row 0 3 [(iL b r5).cells b])⟩:=⟨_,rfl⟩
 have g3:GL X3 tv sv pv cv us tab ser pst ses:=by rw [hX3];exact g2.move fun h3 h6 o=>Own.wput o ra2 (Ne.symm h3) (Nat.le_refl _) _
 have w3:WF X3:=by rw [hX3];exact kR (n:=X2.next) w2 (w2 _ _ ra2) (Nat.le_refl _)
 have rq3:X3.heap.get q=some (.row 0 6 [[tv,sv,pv,.nils,cv,.int .i64 nx]]):=by rw [hX3];exact (Tr.get_put_neB _ _ _ _ trivial haq.symm).trans rq2
 have r03:X3.heap.get 0=some (.row 0 6 [[.nils,.nils,.nils,.nils,.nils,.int .i64 0]]):=by rw [hX3];exact (Tr.get_put_neB _ _ _ _ trivial h0a).trans r02
 simp only [←hX3]
 clear hX3
 have s0:=aE r03
 have q3:=aE rq3
 by_cases he:(iL b r5).err=0
 rotate_left
 ·rw [if_neg he] at H
  simp only [↓cw,↓reduceIte,Nat.reduceLT,kk,he,not_false_eq_true,if_true,s0,aA]
  exact H _ _ (by simp only [oo,xF,State.zero,List.map_nil])
 rw [if_pos he] at H
 have o1:=g3.ot.one
 have o2:=g3.os.one
 have o3:=g3.op.one
 have o4:=g3.oc.one
 simp only [↓cw,↓reduceIte,Nat.reduceLT,kk,he,not_true_eq_false,if_false,q3,o1,o2,o3,o4]
 have keepR:∀ {Z:St} {q':Nat} {y:Nat} {row:List V},FK X3 Z q' sv pv us→X3.next≤q'→X3.heap.get y=some (.row 0 6 [row])→Z.heap.get y=some (.row 0 6 [row]):=fun {Z q' y row} k hq' hy=>
  k.keep y _ hy (by have:=w3 _ _ hy;omega) (Own.wide g3.os hy (by decide)) (Own.wide g3.op hy (by decide)) fun i u hu=>by
   have hi:i<pst.length:=by rw [←g3.pl.len];exact (List.getElem?_eq_some_iff.1 hu).1
   exact Own.wide (g3.pl.own i u _ hu (List.getElem?_eq_getElem hi)) hy (by decide)
 have hgg:∀ {h:Tr Blk} {n:Nat} {row row':List V},aC ⟨n,h.put q (.row 0 6 [row'])⟩ q 0=.ok (6,[row']):=aA _ _ _ _ _ _
 refine g79 (s:=⟨tab,ser,pst,[],ses,nx⟩) w3 g3.os g3.op g3.pl g3.sep o1 o4 h8 h40 h12 hI (fun s' bv Z q' hq' hf f hbv=>?_) fun Z q' bv hq' hf hb1 k=>?_
 rotate_left
 ·rw [hf] at H
  have t1:=aE (keepR k hq' rq3)
  have t2:=aE (S:=⟨Z.next,Z.heap.put q (.row 0 6 [[tv,sv,pv,bv,cv,.int .i64 nx]])⟩) ((Tr.get_put_neB _ _ _ _ trivial h0q).trans (keepR k hq' r03))
  simp only [↓cw,↓reduceIte,Nat.reduceLT,kk,t1,o1,o2,o3,o4,hb1]
  simp only [aBn]
  simp only [↓cw,↓reduceIte,Nat.reduceLT,kk,t2,aA]
  exact H _ _ (by simp only [oo,xF,State.zero,List.map_nil])
 ·rw [hf] at H
  simp only at H
  have b1:bv.one=true:=by rcases hbv with rfl | ⟨rfl,_⟩<;>rfl
  have t1:=aE (keepR f.fk hq' rq3)
  have hs':s'.table=tab∧s'.sess=ses∧s'.next=nx:=by
   rw [fQ] at hf
   split at hf
   ·cases hf
   ·cases hf;exact ⟨rfl,rfl,rfl⟩
  have o5:∀ {v:V} {es:List (List V)},Own E0 X3 5 v es→Own E0 Z 5 v es:=by
   intro v es o
   refine o.same f.nxt fun y hy=>?_
   obtain ⟨ver,tl,_,hg⟩:=Own.blk o hy
   rw [hg]
   exact f.keep y _ hg (by have:=w3 _ _ hg;omega) (fun e=>Own.apart (by decide) o g3.os hy e) (fun e=>Own.apart (by decide) o g3.op hy e) fun i u hu e=>by
    have hi:i<pst.length:=by rw [←g3.pl.len];exact (List.getElem?_eq_some_iff.1 hu).1
    exact Own.apart (by decide) o (g3.pl.own i u _ hu (List.getElem?_eq_getElem hi)) hy e
  have got:Got Z (.agg [tv,sv,pv,bv,cv,.int .i64 nx]) s':=⟨tv,sv,pv,bv,cv,us,by rw [hs'.2.2],by rw [hs'.1];exact o5 g3.ot,f.os,f.op,f.pl,hbv,by rw [hs'.2.1];exact o5 g3.oc⟩
  have got1:=got.put (keepR f.fk hq' rq3) (.row 0 6 [[tv,sv,pv,bv,cv,.int .i64 nx]])
  have hds:(∀ p∈s'.posted,∀ x∈p.total.parts,dY x.net∧dY x.tax)∧(∀ x∈s'.ser,dY x.next)∧s'.posted.length=pst.length∧∀ p∈s'.posted,p.total.parts.length≤12:=by
   rw [fQ] at hf
   split at hf
   ·cases hf
   ·rename_i rr hrr
    cases hf
    obtain ⟨q1,q2,q3,q4⟩:=aDw _ _ _ hrr (fun p hp=>by cases hp) hI hS (fun p hp=>by cases hp) fun p hp=>(h12 p hp).1
    exact ⟨q1,q2,by rw [q3];simp,q4⟩
  have hpl:∀ p∈s'.posted,p.total.parts.length≤1100000:=fun p hp=>by
   have:=hds.2.2.2 p hp
   omega
  have h38:=fun K':KW=>(Fn.back (fun S K=>g38 s' hds.1 (by rw [hds.2.2.1];omega) hpl S K)).frz bKz (State.clo s') (args:=[.agg [tv,sv,pv,bv,cv,.int .i64 nx]]) (S:=⟨Z.next,Z.heap.put q (.row 0 6 [[tv,sv,pv,bv,cv,.int .i64 nx]])⟩) (by simp only [frzVs,got1.frz]) (by simp only [ptrsVs,got1.ptr,List.append_nil]) (.inl rfl) K'
  rw [aN1 hds.1 hds.2.1] at h38
  have t2:=aE (S:=⟨Z.next,Z.heap.put q (.row 0 6 [[tv,sv,pv,bv,cv,.int .i64 nx]])⟩) ((Tr.get_put_neB _ _ _ _ trivial h0q).trans (keepR f.fk hq' r03))
  simp only [↓cw,↓reduceIte,Nat.reduceLT,kk,t1,o1,o2,o3,o4,b1,aA,h38]
  cases hr:fX s'
  ·simp only [hr,Bool.false_eq_true,if_false] at H
   simp only [aBn]
   simp only [↓cw,↓reduceIte,Nat.reduceLT,kk,t2,aA]
   exact H _ _ (by simp only [oo,xF,State.zero,List.map_nil])
  ·simp only [hr,if_true] at H
   simp only [aBn]
   simp only [↓cw,↓reduceIte,Nat.reduceLT,kk,t2,aA,o1,o2,o3,o4,b1]
   have got2:=got1.put ((Tr.get_put_neB _ _ _ _ trivial h0q).trans (keepR f.fk hq' r03)) (.row 0 6 [[tv,sv,pv,bv,cv,.int .i64 nx]])
   exact H _ _ (aNf got2.frz 0)
end Go.Proofs.YtoaibmbldmckaaaGreat
end
