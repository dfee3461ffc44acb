import Derived.Test.YtoaibmbldmckaaaGreatX3
set_option linter.unusedSimpArgs false
set_option linter.unusedVariables false
set_option linter.unusedSectionVars false
set_option maxRecDepth 100000
section
namespace Go.Proofs.YtoaibmbldmckaaaGreat
open Go.AM Tryz
theorem iQ {P:Program} {n:Nat} {t:TypeId} {fs:Array Field} {xs:List V} (ht:P.underlying t=some (.struct fs)) (h:aN P n t xs):
  ∃ m,xs.length=P.cellsOf t∧∀ (i:Nat) (f:Field),fs[i]?=some f→aN P m f.type ((xs.drop f.offset).take (P.cellsOf f.type)):=by
 cases n with
 | zero=>cases h
 | succ m=>
  simp only [aN,ht] at h
  exact ⟨m,h.1,fun i f hf=>h.2 f (List.mem_of_getElem? (by rw [Array.getElem?_toList];exact hf))⟩
theorem aDo {P:Program} {n:Nat} {t e:TypeId} {xs:List V} (ht:P.underlying t=some (.slice e)) (h:aN P n t xs):
  ∃ m es,xs=[.imm es]∧∀ c,c∈es→c.length=P.cellsOf e∧aN P m e c:=by
 cases n with
 | zero=>cases h
 | succ m=>
  simp only [aN,ht] at h
  obtain ⟨es,h1,_,h2⟩:=h
  exact ⟨m,es,h1,h2⟩
theorem c3:prog.cellsOf 3=1:=by kernel_rfl
theorem c9:prog.cellsOf 9=1:=by kernel_rfl
theorem mF {n:Nat} {xs:List V} (h:aN prog n 3 xs):∃ i,xs=[.int .i64 i]:=by
 cases n with
 | zero=>cases h
 | succ m=>
  simp only [aN,Tryz.underlying3] at h
  obtain ⟨i,h,_⟩:=h
  exact ⟨i,h⟩
theorem aDp {n:Nat} {xs:List V} (h:aN prog n 9 xs):∃ s,xs=[.str s]:=by
 cases n with
 | zero=>cases h
 | succ m=>
  simp only [aN,Tryz.underlying9] at h
  obtain ⟨s,h,_⟩:=h
  exact ⟨s,h⟩
theorem cut (xs:List V) (o k:Nat):xs.drop o=(xs.drop o).take k++xs.drop (o+k):=by
 rw [←List.drop_drop,List.take_append_drop]
theorem aDq {α:Type} {enc:α→List V}:∀ {es:List (List V)},(∀ c,c∈es→∃ a:α,c=enc a)→∃ l:List α,es=l.map enc
 | [],_=>⟨[],rfl⟩
 | c::es,h=>by
  obtain ⟨a,ha⟩:=h c (List.mem_cons_self ..)
  obtain ⟨l,hl⟩:=aDq fun d hd=>h d (List.mem_cons_of_mem _ hd)
  exact ⟨a::l,by rw [ha,hl];rfl⟩
theorem c52:prog.cellsOf 52=3:=by kernel_rfl
theorem aOq {n:Nat} {xs:List V} (h:aN prog n 52 xs):∃ d:Date,xs=d.enc:=by
 obtain ⟨m,hl,hf⟩:=iQ Tryz.underlying52 h
 rw [c52] at hl
 have h0:aN prog m 3 ((xs.drop 0).take (prog.cellsOf 3)):=hf 0 _ rfl
 rw [c3] at h0
 obtain ⟨x0,e0⟩:=mF h0
 have q0:=cut xs 0 1
 rw [e0] at q0
 have h1:aN prog m 3 ((xs.drop 1).take (prog.cellsOf 3)):=hf 1 _ rfl
 rw [c3] at h1
 obtain ⟨x1,e1⟩:=mF h1
 have q1:=cut xs 1 1
 rw [e1] at q1
 have h2:aN prog m 3 ((xs.drop 2).take (prog.cellsOf 3)):=hf 2 _ rfl
 rw [c3] at h2
 obtain ⟨x2,e2⟩:=mF h2
 have q2:=cut xs 2 1
 rw [e2] at q2
 have hend:xs.drop 3=[]:=List.drop_eq_nil_of_le (by omega)
 have hx:xs=[.int .i64 x0]++([.int .i64 x1]++([.int .i64 x2]++[])):=by
  have z:xs=xs.drop 0:=rfl
  rw [z,q0,q1,q2]
  show _=_
  rw [show (2+1:Nat)=3 from rfl,hend]
 rw [hx]
 exact ⟨⟨x0,x1,x2⟩,rfl⟩
theorem c57:prog.cellsOf 57=2:=by kernel_rfl
theorem bD4 {n:Nat} {xs:List V} (h:aN prog n 57 xs):∃ d:Ref,xs=d.enc:=by
 obtain ⟨m,hl,hf⟩:=iQ Tryz.underlying57 h
 rw [c57] at hl
 have h0:aN prog m 9 ((xs.drop 0).take (prog.cellsOf 9)):=hf 0 _ rfl
 rw [c9] at h0
 obtain ⟨x0,e0⟩:=aDp h0
 have q0:=cut xs 0 1
 rw [e0] at q0
 have h1:aN prog m 3 ((xs.drop 1).take (prog.cellsOf 3)):=hf 1 _ rfl
 rw [c3] at h1
 obtain ⟨x1,e1⟩:=mF h1
 have q1:=cut xs 1 1
 rw [e1] at q1
 have hend:xs.drop 2=[]:=List.drop_eq_nil_of_le (by omega)
 have hx:xs=[.str x0]++([.int .i64 x1]++[]):=by
  have z:xs=xs.drop 0:=rfl
  rw [z,q0,q1]
  show _=_
  rw [show (1+1:Nat)=2 from rfl,hend]
 rw [hx]
 exact ⟨⟨x0,x1⟩,rfl⟩
theorem c54:prog.cellsOf 54=5:=by kernel_rfl
theorem aXy {n:Nat} {xs:List V} (h:aN prog n 54 xs):∃ d:Rate,xs=d.enc:=by
 obtain ⟨m,hl,hf⟩:=iQ Tryz.underlying54 h
 rw [c54] at hl
 have h0:aN prog m 9 ((xs.drop 0).take (prog.cellsOf 9)):=hf 0 _ rfl
 rw [c9] at h0
 obtain ⟨x0,e0⟩:=aDp h0
 have q0:=cut xs 0 1
 rw [e0] at q0
 have h1:aN prog m 52 ((xs.drop 1).take (prog.cellsOf 52)):=hf 1 _ rfl
 rw [c52] at h1
 obtain ⟨x1,e1⟩:=aOq h1
 have q1:=cut xs 1 3
 rw [e1] at q1
 have h2:aN prog m 3 ((xs.drop 4).take (prog.cellsOf 3)):=hf 2 _ rfl
 rw [c3] at h2
 obtain ⟨x2,e2⟩:=mF h2
 have q2:=cut xs 4 1
 rw [e2] at q2
 have hend:xs.drop 5=[]:=List.drop_eq_nil_of_le (by omega)
 have hx:xs=[.str x0]++(x1.enc++([.int .i64 x2]++[])):=by
  have z:xs=xs.drop 0:=rfl
  rw [z,q0,q1,q2]
  show _=_
  rw [show (4+1:Nat)=5 from rfl,hend]
 rw [hx]
 exact ⟨⟨x0,x1,x2⟩,rfl⟩
theorem bPb:prog.cellsOf 201=4:=by kernel_rfl
theorem aXz {n:Nat} {xs:List V} (h:aN prog n 201 xs):∃ d:Line,xs=d.enc:=by
 obtain ⟨m,hl,hf⟩:=iQ Tryz.underlying201 h
 rw [bPb] at hl
 have h0:aN prog m 9 ((xs.drop 0).take (prog.cellsOf 9)):=hf 0 _ rfl
 rw [c9] at h0
 obtain ⟨x0,e0⟩:=aDp h0
 have q0:=cut xs 0 1
 rw [e0] at q0
 have h1:aN prog m 9 ((xs.drop 1).take (prog.cellsOf 9)):=hf 1 _ rfl
 rw [c9] at h1
 obtain ⟨x1,e1⟩:=aDp h1
 have q1:=cut xs 1 1
 rw [e1] at q1
 have h2:aN prog m 3 ((xs.drop 2).take (prog.cellsOf 3)):=hf 2 _ rfl
 rw [c3] at h2
 obtain ⟨x2,e2⟩:=mF h2
 have q2:=cut xs 2 1
 rw [e2] at q2
 have h3:aN prog m 3 ((xs.drop 3).take (prog.cellsOf 3)):=hf 3 _ rfl
 rw [c3] at h3
 obtain ⟨x3,e3⟩:=mF h3
 have q3:=cut xs 3 1
 rw [e3] at q3
 have hend:xs.drop 4=[]:=List.drop_eq_nil_of_le (by omega)
 have hx:xs=[.str x0]++([.str x1]++([.int .i64 x2]++([.int .i64 x3]++[]))):=by
  have z:xs=xs.drop 0:=rfl
  rw [z,q0,q1,q2,q3]
  show _=_
  rw [show (3+1:Nat)=4 from rfl,hend]
 rw [hx]
 exact ⟨⟨x0,x1,x2,x3⟩,rfl⟩
theorem c55:prog.cellsOf 55=1:=by kernel_rfl
theorem aUz {n:Nat} {xs:List V} (h:aN prog n 55 xs):∃ l:List Line,xs=[.imm (l.map Line.enc)]:=by
 obtain ⟨m,es,h,hes⟩:=aDo Tryz.underlying55 h
 obtain ⟨l,hl⟩:=aDq (enc:=Line.enc) fun c hc=>aXz (hes c hc).2
 exact ⟨l,by rw [h,hl]⟩
def Cmd.enc (c:Cmd):List V:=[.int .i64 c.kind,.str c.series,.int .i64 c.limit,.str c.row.cat,.int .i64 c.row.day.y,.int .i64 c.row.day.m,.int .i64 c.row.day.d,.int .i64 c.row.bp,.int .i64 c.day.y,.int .i64 c.day.m,.int .i64 c.day.d,.imm (c.lines.map Line.enc),.str c.of.ser,.int .i64 c.of.num,.int .i64 c.session]
theorem c59:prog.cellsOf 59=15:=by kernel_rfl
theorem bD5 {n:Nat} {xs:List V} (h:aN prog n 59 xs):∃ c:Cmd,xs=c.enc:=by
 obtain ⟨m,hl,hf⟩:=iQ Tryz.underlying59 h
 rw [c59] at hl
 have h0:aN prog m 3 ((xs.drop 0).take (prog.cellsOf 3)):=hf 0 _ rfl
 rw [c3] at h0
 obtain ⟨x0,e0⟩:=mF h0
 have q0:=cut xs 0 1
 rw [e0] at q0
 have h1:aN prog m 9 ((xs.drop 1).take (prog.cellsOf 9)):=hf 1 _ rfl
 rw [c9] at h1
 obtain ⟨x1,e1⟩:=aDp h1
 have q1:=cut xs 1 1
 rw [e1] at q1
 have h2:aN prog m 3 ((xs.drop 2).take (prog.cellsOf 3)):=hf 2 _ rfl
 rw [c3] at h2
 obtain ⟨x2,e2⟩:=mF h2
 have q2:=cut xs 2 1
 rw [e2] at q2
 have h3:aN prog m 54 ((xs.drop 3).take (prog.cellsOf 54)):=hf 3 _ rfl
 rw [c54] at h3
 obtain ⟨x3,e3⟩:=aXy h3
 have q3:=cut xs 3 5
 rw [e3] at q3
 have h4:aN prog m 52 ((xs.drop 8).take (prog.cellsOf 52)):=hf 4 _ rfl
 rw [c52] at h4
 obtain ⟨x4,e4⟩:=aOq h4
 have q4:=cut xs 8 3
 rw [e4] at q4
 have h5:aN prog m 55 ((xs.drop 11).take (prog.cellsOf 55)):=hf 5 _ rfl
 rw [c55] at h5
 obtain ⟨x5,e5⟩:=aUz h5
 have q5:=cut xs 11 1
 rw [e5] at q5
 have h6:aN prog m 57 ((xs.drop 12).take (prog.cellsOf 57)):=hf 6 _ rfl
 rw [c57] at h6
 obtain ⟨x6,e6⟩:=bD4 h6
 have q6:=cut xs 12 2
 rw [e6] at q6
 have h7:aN prog m 3 ((xs.drop 14).take (prog.cellsOf 3)):=hf 7 _ rfl
 rw [c3] at h7
 obtain ⟨x7,e7⟩:=mF h7
 have q7:=cut xs 14 1
 rw [e7] at q7
 have hend:xs.drop 15=[]:=List.drop_eq_nil_of_le (by omega)
 have hx:xs=[.int .i64 x0]++([.str x1]++([.int .i64 x2]++(x3.enc++(x4.enc++([.imm (x5.map Line.enc)]++(x6.enc++([.int .i64 x7]++[]))))))):=by
  have z:xs=xs.drop 0:=rfl
  rw [z,q0,q1,q2,q3,q4,q5,q6,q7]
  show _=_
  rw [show (14+1:Nat)=15 from rfl,hend]
 rw [hx]
 exact ⟨⟨x0,x1,x2,x3,x4,x5,x6,x7⟩,rfl⟩
theorem c61:prog.cellsOf 61=17:=by kernel_rfl
theorem aY0 {n:Nat} {xs:List V} (h:aN prog n 61 xs):∃ c:Call,xs=c.enc:=by
 obtain ⟨m,hl,hf⟩:=iQ Tryz.underlying61 h
 rw [c61] at hl
 have h0:aN prog m 3 ((xs.drop 0).take (prog.cellsOf 3)):=hf 0 _ rfl
 rw [c3] at h0
 obtain ⟨x0,e0⟩:=mF h0
 have q0:=cut xs 0 1
 rw [e0] at q0
 have h1:aN prog m 3 ((xs.drop 1).take (prog.cellsOf 3)):=hf 1 _ rfl
 rw [c3] at h1
 obtain ⟨x1,e1⟩:=mF h1
 have q1:=cut xs 1 1
 rw [e1] at q1
 have h2:aN prog m 59 ((xs.drop 2).take (prog.cellsOf 59)):=hf 2 _ rfl
 rw [c59] at h2
 obtain ⟨x2,e2⟩:=bD5 h2
 have q2:=cut xs 2 15
 rw [e2] at q2
 have hend:xs.drop 17=[]:=List.drop_eq_nil_of_le (by omega)
 have hx:xs=[.int .i64 x0]++([.int .i64 x1]++(x2.enc++[])):=by
  have z:xs=xs.drop 0:=rfl
  rw [z,q0,q1,q2]
  show _=_
  rw [show (2+15:Nat)=17 from rfl,hend]
 rw [hx]
 exact ⟨⟨x0,x1,x2⟩,rfl⟩
theorem aV0 {n:Nat} {xs:List V} (h:aN prog n 44 xs):∃ l:List Call,xs=[.imm (l.map Call.enc)]:=by
 obtain ⟨m,es,h,hes⟩:=aDo Tryz.underlying44 h
 obtain ⟨l,hl⟩:=aDq (enc:=Call.enc) fun c hc=>aY0 (hes c hc).2
 exact ⟨l,by rw [h,hl]⟩
abbrev eF (n:Int):Prop:=-9223372036854775808≤n∧n≤9223372036854775807
theorem eX {n:Int} (h:eF n):wr .i64 n=n:=nM h.1 h.2
theorem aAi (n:Int):eF (wr .i64 n):=by
 unfold wr lo hi
 simp only
 split
 ·omega
 ·rw [IntKind.wrap_i64];omega
theorem dG {n:Int} (h1:0≤n) (h2:n<18446744073709551616):wr .u64 n=n:=by
 unfold wr lo hi
 simp only
 rw [if_pos (by omega)]
theorem zV (n:Int):wr .u64 n=n % 18446744073709551616:=by
 unfold wr lo hi
 simp only
 split
 ·omega
 ·rfl
theorem uY {a b:Int} (ha:eF a) (hb:eF b):cF a b=if eF (a+b) then (a+b,0) else (0,7):=by
 unfold cF at *
 have e1:0<b→wr .i64 (9223372036854775807 - b)=9223372036854775807 - b:=fun h=>nM (by omega) (by omega)
 have e2:b<0→wr .i64 (-9223372036854775808 - b)=-9223372036854775808 - b:=fun h=>nM (by omega) (by omega)
 by_cases h:-9223372036854775808≤a+b∧a+b≤9223372036854775807
 ·rw [if_pos h,nM h.1 h.2,if_neg]
  rintro (⟨h1,h2⟩ | ⟨h1,h2⟩)
  ·rw [e1 h1] at h2;omega
  ·rw [e2 h1] at h2;omega
 ·rw [if_neg h,if_pos]
  by_cases h0:0<b
  ·exact .inl ⟨h0,by rw [e1 h0];omega⟩
  ·exact .inr ⟨by omega,by rw [e2 (by omega)];omega⟩
theorem aQo {b:Int} (hb:eF b):bU 0 b=if b=-9223372036854775808 then (0,7) else (-b,0):=by
 unfold bU at *
 have e1:b<0→wr .i64 (9223372036854775807+b)=9223372036854775807+b:=fun h=>nM (by omega) (by omega)
 have e2:0<b→wr .i64 (-9223372036854775808+b)=-9223372036854775808+b:=fun h=>nM (by omega) (by omega)
 by_cases h:b=-9223372036854775808
 ·rw [if_pos h,if_pos]
  exact .inl ⟨by omega,by rw [e1 (by omega)];omega⟩
 ·rw [if_neg h,if_neg,Int.zero_sub,nM (by omega) (by omega)]
  rintro (⟨h1,h2⟩ | ⟨h1,h2⟩)
  ·rw [e1 h1] at h2;omega
  ·rw [e2 h1] at h2;omega
theorem aV1 (a b:Int):eF (cF a b).1:=by
 unfold cF
 split
 ·show eF 0;omega
 ·exact aAi _
theorem aDr (n bp:Int):eF (aU n bp).1:=by
 unfold aU
 have h0:eF 0:=by omega
 split
 ·exact h0
 ·simp only
  split
  ·exact h0
  ·split
   ·exact h0
   ·split
    ·exact aAi _
    ·exact aAi _
theorem aV2:∀ (l:List Int) (h w s:Int),(∀ n∈l,eF n)→0≤h→h<18446744073709551616→0≤w→w<18446744073709551616→(h*18446744073709551616+w - s) % 340282366920938463463374607431768211456=0→
  ∃ h' w',aE uR tR l (h,w)=tR (h',w')∧0≤h'∧h'<18446744073709551616∧0≤w'∧w'<18446744073709551616∧(h'*18446744073709551616+w' - (s+l.sum)) % 340282366920938463463374607431768211456=0
 | [],h,w,s,_,a,b,c,d,e=>⟨h,w,rfl,a,b,c,d,by simpa using e⟩
 | n::l,h,w,s,hl,a,b,c,d,e=>by
  have hn:=hl n (List.mem_cons_self ..)
  have hstep:∃ h2 w2,uR (h,w) n=.inr (h2,w2)∧0≤h2∧h2<18446744073709551616∧0≤w2∧w2<18446744073709551616∧(h2*18446744073709551616+w2 - (s+n)) % 340282366920938463463374607431768211456=0:=by
   refine ⟨_,_,rfl,?_,?_,?_,?_,?_⟩
   ·simp only;omega
   ·simp only;omega
   ·simp only;omega
   ·simp only;omega
   ·simp only [zV]
    split<;>omega
  obtain ⟨h2,w2,e1,a2,b2,c2,d2,e2⟩:=hstep
  obtain ⟨h',w',r1,r2⟩:=aV2 l h2 w2 (s+n) (fun m hm=>hl m (List.mem_cons_of_mem _ hm)) a2 b2 c2 d2 e2
  refine ⟨h',w',?_,?_⟩
  ·simp only [aE,e1];exact r1
  ·rw [List.sum_cons,←Int.add_assoc];exact r2
theorem aFr:∀ (l:List Int),(∀ n∈l,eF n)→-9223372036854775808*(l.length:Int)≤l.sum∧l.sum≤9223372036854775808*(l.length:Int)
 | [],_=>by simp
 | n::l,h=>by
  have h1:=h n (List.mem_cons_self ..)
  have h2:=aFr l fun m hm=>h m (List.mem_cons_of_mem _ hm)
  simp only [List.sum_cons,List.length_cons]
  omega
theorem gI {l:List Int} (h:∀ n∈l,eF n) (hl:l.length≤1000000):(eL l).1=wr .i64 l.sum∧((eL l).2=true↔eF l.sum):=by
 obtain ⟨h',w',e,a,b,c,d,m⟩:=aV2 l 0 0 0 h (by decide) (by decide) (by decide) (by decide) (by decide)
 have hs:=aFr l h
 unfold eL
 rw [e]
 have hb1:-9223372036854775808000000≤l.sum:=by omega
 have hb2:l.sum≤9223372036854775808000000:=by omega
 have key:w'=l.sum % 18446744073709551616∧h'=(l.sum / 18446744073709551616) % 18446744073709551616:=by
  rw [Int.zero_add] at m
  omega
 constructor
 ·show wr .i64 w'=wr .i64 l.sum
  unfold wr lo hi
  simp only [IntKind.wrap_i64]
  split<;>split<;>omega
 ·show (if w'.fdiv (2 ^ 63)=0 then decide (h'=0) else decide (h'=18446744073709551615))=true↔_
  have hf:w'.fdiv (2 ^ 63)=w' / 9223372036854775808:=by
   rw [Int.fdiv_eq_ediv_of_nonneg _ (by decide)]
   rfl
  rw [hf]
  split
  ·simp only [decide_eq_true_eq];omega
  ·simp only [decide_eq_true_eq];omega
theorem aAj {l:List Int} (h:∀ n∈l,eF n) (hl:l.length≤1000000) (hs:eF l.sum):eL l=(l.sum,true):=by
 obtain ⟨h1,h2⟩:=gI h hl
 exact Prod.ext (by rw [h1,eX hs]) (h2.2 hs)
theorem rY:∀ a,fN a a=false
 | []=>rfl
 | x::a=>by
  simp only [fN,cond_eq_ite]
  rw [if_neg (by simp [Nat.blt]),if_pos (by simp)]
  exact rY a
theorem aDs (x y:UInt8) (a b:List UInt8):fN (x::a) (y::b)=true↔x.toNat<y.toNat∨x.toNat=y.toNat∧fN a b=true:=by
 simp only [fN,cond_eq_ite,Nat.blt_eq,Nat.beq_eq]
 split
 ·rename_i h;simp [h]
 ·rename_i h
  split
  ·rename_i h2;simp [h2]
  ·rename_i h2;simp [h,h2]
theorem jK:∀ {a b c:List UInt8},fN a b=true→fN b c=true→fN a c=true
 | [],[],c,h,_=>by cases h
 | x::a,[],c,h,_=>by cases h
 | a,y::b,[],_,h=>by cases h
 | [],y::b,z::c,_,_=>rfl
 | x::a,y::b,z::c,h1,h2=>by
  rw [aDs] at *
  rcases h1 with h1 | ⟨h1,h3⟩<;>rcases h2 with h2 | ⟨h2,h4⟩
  ·exact .inl (by omega)
  ·exact .inl (by omega)
  ·exact .inl (by omega)
  ·exact .inr ⟨by omega,jK h3 h4⟩
theorem zW:∀ a b:List UInt8,fN a b=true∨a=b∨fN b a=true
 | [],[]=>.inr (.inl rfl)
 | [],y::b=>.inl rfl
 | x::a,[]=>.inr (.inr rfl)
 | x::a,y::b=>by
  rw [aDs,aDs]
  rcases Nat.lt_trichotomy x.toNat y.toNat with h | h | h
  ·exact .inl (.inl h)
  ·have hxy:x=y:=UInt8.toNat_inj.1 h
   rcases zW a b with h2 | h2 | h2
   ·exact .inl (.inr ⟨h,h2⟩)
   ·exact .inr (.inl (by rw [hxy,h2]))
   ·exact .inr (.inr (.inr ⟨h.symm,h2⟩))
  ·exact .inr (.inr (.inl h))
theorem bD6 {a b:List UInt8} (h:fN a b=true):a≠b:=fun e=>by subst e;rw [rY] at h;cases h
theorem aBb {σ ρ α:Type} {step:σ→α→ρ⊕σ} {fin:σ→ρ}:∀ (a b:List α) (s:σ),aE step fin (a++b) s=aE step (fun s=>aE step fin b s) a s
 | [],b,s=>rfl
 | x::a,b,s=>by
  simp only [List.cons_append,aE]
  split
  ·rfl
  ·exact aBb a b _
theorem aBc {α:Type} {step:Option α→α→Bool⊕Option α} {good:α→Prop} {R:α→α→Prop}
  (h2:∀ a p,¬ good a→step p a=.inl false) (h3:∀ p a,good a→R p a→step (some p) a=.inr (some a)) (h4:∀ p a,good a→¬ R p a→step (some p) a=.inl false)
  (tr:∀ a b c,R a b→R b c→R a c):∀ (l:List α) (p:α),aE step (fun _=>true) l (some p)=true↔(∀ a∈l,good a)∧(∀ a∈l,R p a)∧l.Pairwise R
 | [],p=>by simp [aE]
 | a::l,p=>by
  by_cases g:good a
  ·by_cases r:R p a
   ·simp only [aE,h3 p a g r]
    rw [aBc h2 h3 h4 tr l a]
    simp only [List.mem_cons,List.pairwise_cons]
    constructor
    ·rintro ⟨q1,q2,q3⟩
     exact ⟨fun b hb=>hb.elim (fun e=>e▸g) (q1 b),fun b hb=>hb.elim (fun e=>e▸r) (fun hb=>tr _ _ _ r (q2 b hb)),q2,q3⟩
    ·rintro ⟨q1,q2,q3,q4⟩
     exact ⟨fun b hb=>q1 b (.inr hb),q3,q4⟩
   ·simp only [aE,h4 p a g r]
    constructor
    ·intro h;cases h
    ·rintro ⟨_,q2,_⟩;exact absurd (q2 a (List.mem_cons_self ..)) r
  ·simp only [aE,h2 a (some p) g]
   constructor
   ·intro h;cases h
   ·rintro ⟨q1,_,_⟩;exact absurd (q1 a (List.mem_cons_self ..)) g
theorem xB {α:Type} {step:Option α→α→Bool⊕Option α} {good:α→Prop} {R:α→α→Prop} (h1:∀ a,good a→step none a=.inr (some a))
  (h2:∀ a p,¬ good a→step p a=.inl false) (h3:∀ p a,good a→R p a→step (some p) a=.inr (some a)) (h4:∀ p a,good a→¬ R p a→step (some p) a=.inl false)
  (tr:∀ a b c,R a b→R b c→R a c):∀ (l:List α),aE step (fun _=>true) l none=true↔(∀ a∈l,good a)∧l.Pairwise R
 | []=>by simp [aE]
 | a::l=>by
  by_cases g:good a
  ·simp only [aE,h1 a g]
   rw [aBc h2 h3 h4 tr l a]
   simp only [List.mem_cons,List.pairwise_cons]
   constructor
   ·rintro ⟨q1,q2,q3⟩
    exact ⟨fun b hb=>hb.elim (fun e=>e▸g) (q1 b),q2,q3⟩
   ·rintro ⟨q1,q3,q4⟩
    exact ⟨fun b hb=>q1 b (.inr hb),q3,q4⟩
  ·simp only [aE,h2 a none g]
   constructor
   ·intro h;cases h
   ·rintro ⟨q1,_⟩;exact absurd (q1 a (List.mem_cons_self ..)) g
theorem aHw {a b c:Date} (h1:a.before b=true) (h2:b.before c=true):a.before c=true:=by
 unfold Date.before at *
 simp only [Bool.and_eq_true,decide_eq_true_eq] at *
 exact ⟨h1.1,h2.2.1,by omega⟩
theorem nU (a b:Rate):bE a b=true↔fN a.cat b.cat=true∨a.cat=b.cat∧a.day.before b.day=true:=by
 unfold bE
 split
 ·rename_i h;simp [h]
 ·rename_i h
  split
  ·rename_i h2;simp only [beq_iff_eq] at h2;exact ⟨fun q=>.inr ⟨h2,q⟩,fun q=>q.elim (fun q=>absurd q h) (·.2)⟩
  ·rename_i h2;simp only [beq_iff_eq] at h2;simp [h,h2]
theorem mS {a b c:Rate} (h1:bE a b=true) (h2:bE b c=true):bE a c=true:=by
 rw [nU] at *
 rcases h1 with h1 | ⟨e1,h1⟩<;>rcases h2 with h2 | ⟨e2,h2⟩
 ·exact .inl (jK h1 h2)
 ·exact .inl (e2▸h1)
 ·exact .inl (e1▸h2)
 ·exact .inr ⟨e1.trans e2,aHw h1 h2⟩
theorem lC (l:List Rate):dK l=true↔l.length≤24∧(∀ r∈l,sS r=0)∧l.Pairwise (fun a b=>bE a b=true):=by
 unfold dK
 split
 ·rename_i h;simp;omega
 ·rename_i h
  rw [xB (good:=fun r=>sS r=0) (R:=fun a b=>bE a b=true)]
  ·constructor
   ·intro q;exact ⟨by omega,q⟩
   ·intro q;exact q.2
  ·intro a g;simp only [fZ,g,ne_eq,not_true_eq_false,if_false]
  ·intro a p g;simp only [fZ,ne_eq,g,not_false_eq_true,if_true]
  ·intro p a g r;simp only [fZ,g,ne_eq,not_true_eq_false,if_false,r,if_true]
  ·intro p a g r;simp only [fZ,g,ne_eq,not_true_eq_false,if_false,r];rfl
  ·intro a b c;exact mS
theorem gC (l:List Ser):jP l=true↔l.length≤8∧(∀ s∈l,dT s.name=true∧mB s=false)∧l.Pairwise (fun a b=>fN a.name b.name=true):=by
 unfold jP
 split
 ·rename_i h;simp;omega
 ·rename_i h
  rw [xB (good:=fun s:Ser=>dT s.name=true∧mB s=false) (R:=fun a b=>fN a.name b.name=true)]
  ·constructor
   ·intro q;exact ⟨by omega,q⟩
   ·intro q;exact q.2
  ·intro a g;simp [jZ,lQ,g.1,g.2]
  ·intro a p g
   unfold jZ
   split
   ·rfl
   ·split
    ·rfl
    ·split
     ·rfl
     ·rename_i h1 h2 h3
      exact absurd ⟨by simpa using h1,by simpa using h3⟩ g
  ·intro p a g r;simp [jZ,lQ,g.1,g.2,r]
  ·intro p a g r;simp [jZ,lQ,g.1,g.2,r]
  ·intro a b c;exact jK
theorem bC2:∀ (l:List Sess) (last:Int),aE fK (fun _=>true) l last=true↔(∀ s∈l,last<s.id∧0≤s.last∧s.last≤1099511627776∧(s.last=0→s.reply=Rep.zero))∧l.Pairwise (fun a b=>a.id<b.id)
 | [],last=>by simp [aE]
 | s::l,last=>by
  by_cases g:last<s.id∧0≤s.last∧s.last≤1099511627776∧(s.last=0→s.reply=Rep.zero)
  ·have e:fK last s=.inr s.id:=by
    unfold fK
    rw [if_neg (by omega),if_neg (by omega),if_neg (by omega),if_neg (fun h=>h.2 (g.2.2.2 h.1))]
   simp only [aE,e]
   rw [bC2 l s.id]
   simp only [List.mem_cons,List.pairwise_cons]
   constructor
   ·rintro ⟨q1,q2⟩
    exact ⟨fun b hb=>hb.elim (fun e=>e▸g) (fun hb=>⟨by have:=(q1 b hb).1;omega,(q1 b hb).2⟩),fun b hb=>(q1 b hb).1,q2⟩
   ·rintro ⟨q1,q2,q3⟩
    exact ⟨fun b hb=>⟨q2 b hb,(q1 b (.inr hb)).2⟩,q3⟩
  ·have e:fK last s=.inl false:=by
    unfold fK
    repeat' split
    all_goals first | rfl | skip
    rename_i h1 h2 h3 h4
    refine absurd ⟨by omega,by omega,by omega,fun h=>?_⟩ g
    by_cases c:s.reply=Rep.zero
    ·exact c
    ·exact absurd ⟨h,c⟩ h4
   simp only [aE,e]
   constructor
   ·intro h;cases h
   ·rintro ⟨q1,_⟩;exact absurd (q1 s (List.mem_cons_self ..)) g
theorem mZ (l:List Sess):eG l=true↔l.length≤8∧(∀ s∈l,0<s.id∧0≤s.last∧s.last≤1099511627776∧(s.last=0→s.reply=Rep.zero))∧l.Pairwise (fun a b=>a.id<b.id):=by
 unfold eG
 split
 ·rename_i h;simp;omega
 ·rename_i h
  rw [bC2]
  exact ⟨fun q=>⟨by omega,q⟩,fun q=>q.2⟩
theorem gW {α:Type} (p:α→Bool):∀ (l:List α) (n:Nat),aE (dM p) id l n=n+(l.takeWhile p).length
 | [],n=>rfl
 | a::l,n=>by
  by_cases c:p a=true
  ·simp only [aE,dM,c,if_true,List.takeWhile_cons]
   rw [gW p l (n+1),List.length_cons];omega
  ·simp only [aE,dM,c,if_false,List.takeWhile_cons];rfl
theorem uZ {α:Type} (p:α→Bool) (l:List α) (a:α):cY l (fE p l) a=l.takeWhile p++a::l.dropWhile p:=by
 unfold cY fE
 rw [gW,Nat.zero_add]
 have h1:l.take (l.takeWhile p).length=l.takeWhile p:=by
  have:=congrArg (List.take (l.takeWhile p).length) (List.takeWhile_append_dropWhile (p:=p) (l:=l)).symm
  rw [List.take_left'] at this
  ·exact this
  ·rfl
 have h2:l.drop (l.takeWhile p).length=l.dropWhile p:=by
  have:=congrArg (List.drop (l.takeWhile p).length) (List.takeWhile_append_dropWhile (p:=p) (l:=l)).symm
  rw [List.drop_left'] at this
  ·exact this
  ·rfl
 rw [h1,h2]
theorem lI {α:Type} {p:α→Bool}:∀ {l:List α} {a:α},a∈l.takeWhile p→p a=true∧a∈l
 | [],a,h=>by cases h
 | x::l,a,h=>by
  rw [List.takeWhile_cons] at h
  split at h
  ·rename_i c
   rcases List.mem_cons.1 h with rfl | h
   ·exact ⟨c,List.mem_cons_self ..⟩
   ·exact ⟨(lI h).1,List.mem_cons_of_mem _ (lI h).2⟩
  ·cases h
theorem rZ {α:Type} {R:α→α→Prop} {p:α→Bool} {l:List α} {a:α} (hl:l.Pairwise R) (tr:∀ a b c,R a b→R b c→R a c) (h1:∀ x∈l,p x=true→R x a) (h2:∀ x∈l,p x=false→R a x):
  (l.takeWhile p++a::l.dropWhile p).Pairwise R:=by
 induction l with
 | nil=>simp
 | cons x l ih=>
  rw [List.pairwise_cons] at hl
  by_cases c:p x=true
  ·simp only [List.takeWhile_cons,List.dropWhile_cons,c,if_true,List.cons_append,List.pairwise_cons]
   refine ⟨fun b hb=>?_,ih hl.2 (fun y hy=>h1 y (List.mem_cons_of_mem _ hy)) (fun y hy=>h2 y (List.mem_cons_of_mem _ hy))⟩
   rcases List.mem_append.1 hb with hb | hb
   ·exact hl.1 b (lI hb).2
   ·rcases List.mem_cons.1 hb with rfl | hb
    ·exact h1 x (List.mem_cons_self ..) c
    ·exact hl.1 b (List.dropWhile_suffix p |>.mem hb)
  ·have c:p x=false:=by simpa using c
   simp only [List.takeWhile_cons,List.dropWhile_cons,c,Bool.false_eq_true,if_false,List.nil_append,List.pairwise_cons]
   refine ⟨fun b hb=>?_,hl⟩
   have hx:=h2 x (List.mem_cons_self ..) (by simpa using c)
   rcases List.mem_cons.1 hb with rfl | hb
   ·exact hx
   ·exact tr _ _ _ hx (hl.1 b hb)
theorem nC {α:Type} (l:List α) (i:Nat) (a x:α):x∈cY l i a↔x=a∨x∈l:=by
 unfold cY
 rw [List.mem_append,List.mem_cons]
 constructor
 ·rintro (h | h | h)
  ·exact .inr (List.mem_of_mem_take h)
  ·exact .inl h
  ·exact .inr (List.mem_of_mem_drop h)
 ·rintro (h | h)
  ·exact .inr (.inl h)
  ·rw [←List.take_append_drop i l,List.mem_append] at h
   exact h.elim .inl (fun h=>.inr (.inr h))
theorem aAk {n:Int} (h:eF n):pO n=if n<0 then -n else n:=by
 unfold pO
 split
 ·rename_i c
  have h1:wr .u64 n=18446744073709551616+n:=by rw [zV];omega
  rw [h1]
  have h2:aJa (18446744073709551616+n)=-n - 1:=by
   unfold aJa
   simp only [IntKind.signed,Bool.false_eq_true,if_false]
   have hm:(IntKind.u64.max:Int)=18446744073709551615:=by decide
   rw [hm]
   have hb:IntKind.u64.bits=64:=rfl
   rw [hb]
   have:(BitVec.ofInt 64 18446744073709551615 ^^^ BitVec.ofInt 64 (18446744073709551616+n)) = ~~~ (BitVec.ofInt 64 (18446744073709551616+n)):=by
    rw [show (BitVec.ofInt 64 18446744073709551615)=BitVec.allOnes 64 from by decide,BitVec.allOnes_xor]
   rw [this,BitVec.toNat_not]
   have hv:(BitVec.ofInt 64 (18446744073709551616+n)).toNat=(18446744073709551616+n).toNat:=by
    rw [BitVec.toNat_ofInt]
    omega
   rw [hv,dG (by omega) (by omega)]
   omega
  rw [h2,dG (by omega) (by omega)]
  omega
 ·exact dG (by omega) (by omega)
def xC (u bp:Int):Option Int:=
 if 0<bp∧9223372036854775807 / bp<u / 10000 then none else
  if 9223372036854775807<u / 10000*bp+(2*(u % 10000)*bp+10000) / 20000 then none else some (u / 10000*bp+(2*(u % 10000)*bp+10000) / 20000)
theorem aHx {u bp t:Int} (hu:0≤u) (hb:0≤bp) (h:xC u bp=some t):0≤t∧t≤9223372036854775807:=by
 unfold xC at h
 split at h
 ·cases h
 ·split at h
  ·cases h
  ·rename_i h2
   cases h
   have h3:0≤u / 10000*bp:=Int.mul_nonneg (by omega) hb
   have h4:0≤2*(u % 10000)*bp:=Int.mul_nonneg (by omega) hb
   exact ⟨by omega,by omega⟩
theorem vA {n bp:Int} (h:eF n) (h1:0≤bp) (h2:bp≤100000):aU n bp=match xC (if n<0 then -n else n) bp with
  | none=>(0,7)
  | some t=>(if n<0 then -t else t,0):=by
 unfold aU
 rw [if_neg (by omega)]
 simp only [aAk h]
 have hp:wr .u64 bp=bp:=dG h1 (by omega)
 rw [hp]
 obtain ⟨u,hu⟩:∃ u,u=(if n<0 then -n else n):=⟨_,rfl⟩
 rw [←hu]
 have hu0:0≤u∧u≤9223372036854775808:=by subst hu;split<;>omega
 have hq:u.tdiv 10000=u / 10000:=Int.tdiv_eq_ediv_of_nonneg hu0.1
 have hr:u.tmod 10000=u % 10000:=Int.tmod_eq_emod_of_nonneg hu0.1
 have hmax:(9223372036854775807:Int).tdiv bp=9223372036854775807 / bp:=Int.tdiv_eq_ediv_of_nonneg (by decide)
 rw [hq,hr,hmax,dG (n:=u / 10000) (by omega) (by omega)]
 have hdiv:0<bp→0≤9223372036854775807 / bp∧9223372036854775807 / bp<18446744073709551616:=by
  intro hb
  constructor
  ·exact Int.ediv_nonneg (by decide) (by omega)
  ·have:=Int.ediv_le_self bp (a:=9223372036854775807) (by decide);omega
 unfold xC
 by_cases c:0<bp∧9223372036854775807 / bp<u / 10000
 ·rw [if_pos c,if_pos ⟨c.1,by rw [dG (hdiv c.1).1 (hdiv c.1).2];exact c.2⟩]
 ·rw [if_neg c,if_neg (fun q=>c ⟨q.1,by have:=q.2;rwa [dG (hdiv q.1).1 (hdiv q.1).2] at this⟩)]
  have hm1:0≤u / 10000*bp:=Int.mul_nonneg (by omega) h1
  have hm2:u / 10000*bp≤9223372036854775807:=by
   by_cases hb:0<bp
   ·have hle:u / 10000≤9223372036854775807 / bp:=by
     by_cases q:u / 10000≤9223372036854775807 / bp
     ·exact q
     ·exact absurd ⟨hb,by omega⟩ c
    calc u / 10000*bp≤9223372036854775807 / bp*bp:=Int.mul_le_mul_of_nonneg_right hle h1
     _≤9223372036854775807:=Int.ediv_mul_le _ (by omega)
   ·have:bp=0:=by omega
    subst this;simp
  have hr1:0≤2*(u % 10000)*bp:=Int.mul_nonneg (by omega) h1
  have hr2:2*(u % 10000)*bp≤2*10000*100000:=Int.mul_le_mul (by omega) h2 h1 (by decide)
  rw [dG hm1 (by omega),dG (n:=2*(u % 10000)) (by omega) (by omega),dG hr1 (by omega),dG (n:=2*(u % 10000)*bp+10000) (by omega) (by omega),aDe]
  have ht:(2*(u % 10000)*bp+10000).tdiv 20000=(2*(u % 10000)*bp+10000) / 20000:=Int.tdiv_eq_ediv_of_nonneg (by omega)
  rw [ht,dG (n:=(2*(u % 10000)*bp+10000) / 20000) (by omega) (by omega),dG (n:=u / 10000*bp+(2*(u % 10000)*bp+10000) / 20000) (by omega) (by omega)]
  obtain ⟨t,htt⟩:∃ t,t=u / 10000*bp+(2*(u % 10000)*bp+10000) / 20000:=⟨_,rfl⟩
  have ht0:0≤t:=by omega
  rw [←htt]
  split
  ·rfl
  ·rename_i hle
   rw [nM (n:=t) (by omega) (by omega)]
   split
   ·rw [nM (by omega) (by omega)];simp
   ·rfl
theorem aM3 {n bp t:Int} (h:eF n) (h1:0≤bp) (h2:bp≤100000) (hn:n≠-9223372036854775808) (hs:aU n bp=(t,0)):aU (-n) bp=(-t,0)∧t≠-9223372036854775808:=by
 rw [vA h h1 h2] at hs
 rw [vA (by omega) h1 h2]
 have hu:(if -n<0 then - -n else -n)=if n<0 then -n else n:=by split<;>split<;>omega
 rw [hu]
 cases hx:xC (if n<0 then -n else n) bp with
 | none=>rw [hx] at hs;cases hs
 | some x=>
  rw [hx] at hs
  obtain ⟨a,b⟩:=aHx (by split<;>omega) h1 hx
  simp only [Prod.mk.injEq,and_true] at hs ⊢
  by_cases c0:n=0
  ·subst c0
   have:x=0:=by
    simp only [Int.lt_irrefl,if_false] at hx
    unfold xC at hx
    simp only [Int.zero_ediv,Int.zero_emod,Int.zero_mul,Int.mul_zero] at hx
    split at hx
    ·cases hx
    ·split at hx
     ·cases hx
     ·cases hx;decide
   subst this
   simp at hs ⊢
   omega
  ·constructor
   ·rw [←hs];split<;>split<;>omega
   ·rw [←hs];split<;>omega
theorem aJr {σ α:Type} {step:σ→α→Bool⊕σ} (hs:∀ s a r,step s a=.inl r→r=false) (c:Bool):∀ (l:List α) (s:σ),aE step (fun _=>c) l s=(aE step (fun _=>true) l s&&c)
 | [],s=>by simp [aE]
 | a::l,s=>by
  simp only [aE]
  split
  ·rename_i r he;rw [hs _ _ _ he,Bool.false_and]
  ·exact aJr hs c l _
structure PG (p:Part):Prop where
 name:dT p.cat=true
 lo:0≤p.bp
 hi:p.bp≤100000
 tax:aU p.net p.bp=(p.tax,0)
theorem aHy (p:Part):PG p↔dT p.cat=true∧uU p=false∧uV p=false:=by
 unfold uU uV
 simp only [Bool.or_eq_false_iff,decide_eq_false_iff_not,Bool.not_eq_false',decide_eq_true_eq]
 constructor
 ·rintro ⟨a,b,c,d⟩
  exact ⟨a,⟨by omega,by omega⟩,by rw [d],by rw [d]⟩
 ·rintro ⟨a,⟨b,c⟩,d,e⟩
  exact ⟨a,by omega,by omega,Prod.ext e d⟩
theorem aDt:∀ s a r,cJ s a=.inl r→r=false:=by
 intro s a r h
 unfold cJ at h
 repeat' split at h
 all_goals first | (cases h;done) | (cases h;rfl)
theorem oU (t:Total):bY t=true↔1≤t.parts.length∧t.parts.length≤12∧(∀ p∈t.parts,PG p)∧t.parts.Pairwise (fun a b=>fN a.cat b.cat=true)∧iU t=true:=by
 unfold bY
 split
 ·rename_i h;simp;omega
 ·rename_i h
  split
  ·rename_i h2;simp;omega
  ·rename_i h2
   rw [aJr aDt,Bool.and_eq_true,xB (good:=PG) (R:=fun a b=>fN a.cat b.cat=true)]
   ·constructor
    ·rintro ⟨⟨a,b⟩,c⟩;exact ⟨by omega,by omega,a,b,c⟩
    ·rintro ⟨_,_,a,b,c⟩;exact ⟨⟨a,b⟩,c⟩
   ·intro a g
    obtain ⟨g1,g2,g3⟩:=(aHy a).1 g
    simp [cJ,gV,g1,g2,g3]
   ·intro a p g
    rw [aHy] at g
    unfold cJ
    split
    ·rfl
    ·split
     ·rfl
     ·split
      ·rfl
      ·split
       ·rfl
       ·rename_i h1 _ h3 h4
        exact absurd ⟨by simpa using h1,by simpa using h3,by simpa using h4⟩ g
   ·intro p a g r
    obtain ⟨g1,g2,g3⟩:=(aHy a).1 g
    simp [cJ,gV,g1,g2,g3,r]
   ·intro p a g r
    obtain ⟨g1,g2,g3⟩:=(aHy a).1 g
    simp [cJ,gV,g1,g2,g3,r]
   ·intro a b c;exact jK
theorem aAl {t:Total} (hn:∀ p∈t.parts,eF p.net) (ht:∀ p∈t.parts,eF p.tax) (hl:t.parts.length≤1000000):
  iU t=true↔eF t.net∧eF t.tax∧eF t.gross∧t.net=(t.parts.map (·.net)).sum∧t.tax=(t.parts.map (·.tax)).sum∧t.gross=t.net+t.tax:=by
 have h1:∀ n∈t.parts.map (·.net),eF n:=fun n h=>by obtain ⟨p,hp,rfl⟩:=List.mem_map.1 h;exact hn p hp
 have h2:∀ n∈t.parts.map (·.tax),eF n:=fun n h=>by obtain ⟨p,hp,rfl⟩:=List.mem_map.1 h;exact ht p hp
 obtain ⟨a1,a2⟩:=gI h1 (by rw [List.length_map];exact hl)
 obtain ⟨b1,b2⟩:=gI h2 (by rw [List.length_map];exact hl)
 unfold iU
 constructor
 ·intro h
  repeat' split at h
  all_goals first | cases h;done | skip
  rename_i c1 c2 c3 c4 c5
  have d:=of_decide_eq_true h
  have i1:=a2.1 c1
  have i2:=b2.1 c2
  rw [a1,eX i1] at c4
  rw [b1,eX i2] at c5
  have j:∀ n∈[t.net,t.tax],eF n:=by
   intro n hn
   simp only [List.mem_cons,List.not_mem_nil,or_false] at hn
   rcases hn with rfl | rfl
   ·rw [←c4];exact i1
   ·rw [←c5];exact i2
  obtain ⟨e1,e2⟩:=gI j (by simp)
  have i3:=e2.1 c3
  rw [e1,eX i3] at d
  have hs:[t.net,t.tax].sum=t.net+t.tax:=by simp
  rw [hs] at d i3
  exact ⟨by rw [←c4];exact i1,by rw [←c5];exact i2,by rw [←d];exact i3,c4.symm,c5.symm,d.symm⟩
 ·rintro ⟨i1,i2,i3,e1,e2,e3⟩
  have j:∀ n∈[t.net,t.tax],eF n:=by
   intro n hn
   simp only [List.mem_cons,List.not_mem_nil,or_false] at hn
   rcases hn with rfl | rfl
   ·exact i1
   ·exact i2
  have hs:[t.net,t.tax].sum=t.net+t.tax:=by simp
  have k3:=aAj j (by simp) (by rw [hs,←e3];exact i3)
  have k1:=aAj h1 (by rw [List.length_map];exact hl) (by rw [←e1];exact i1)
  have k2:=aAj h2 (by rw [List.length_map];exact hl) (by rw [←e2];exact i2)
  rw [k1,k2,k3]
  simp only [if_true,←e1,←e2,hs,←e3,decide_true]
theorem aOr {α:Type} (p:α→Bool) (l:List α):l[fE p l]?=(l.dropWhile p)[0]?:=by
 unfold fE
 rw [gW,Nat.zero_add]
 have h:l[(l.takeWhile p).length]?=(l.takeWhile p++l.dropWhile p)[(l.takeWhile p).length]?:=by rw [List.takeWhile_append_dropWhile]
 rw [h,List.getElem?_append_right (Nat.le_refl _),Nat.sub_self]
theorem aAm {α:Type} {p:α→Bool}:∀ {l:List α} {a:α},(l.dropWhile p)[0]?=some a→p a=false
 | [],a,h=>by cases h
 | x::l,a,h=>by
  rw [List.dropWhile_cons] at h
  split at h
  ·exact aAm h
  ·rename_i c;cases h;simpa using c
theorem aBd {α:Type} {p:α→Bool} {R:α→α→Prop}:∀ {l:List α},l.Pairwise R→(∀ a b,R a b→p a=false→p b=false)→∀ {x:α},x∈l→p x=false→x∈l.dropWhile p
 | a::l,hl,hp,x,hx,h=>by
  rw [List.dropWhile_cons]
  rw [List.pairwise_cons] at hl
  split
  ·rename_i c
   rcases List.mem_cons.1 hx with rfl | hx
   ·rw [h] at c;cases c
   ·exact aBd hl.2 hp hx h
  ·exact hx
theorem aV3 {α:Type} {key:α→List UInt8} {l:List α} (hs:l.Pairwise (fun a b=>fN (key a) (key b)=true)) (k:List UInt8) (h:∀ b,l[fE (fun x=>fN (key x) k) l]?=some b→key b≠k):
  ∀ x∈l,fN (key x) k=false→fN k (key x)=true:=by
 intro x hx hk
 have hd:=aBd (p:=fun x=>fN (key x) k) hs (fun a b r ha=>by
  cases c:fN (key b) k with
  | false=>rfl
  | true=>rw [jK r c] at ha;cases ha) hx hk
 rw [aOr] at h
 have hsd:(l.dropWhile fun x=>fN (key x) k).Pairwise (fun a b=>fN (key a) (key b)=true):=hs.sublist (List.dropWhile_sublist _)
 cases hc:l.dropWhile (fun x=>fN (key x) k) with
 | nil=>rw [hc] at hd;cases hd
 | cons q r=>
  rw [hc] at hd hsd
  have hq:fN (key q) k=false:=aAm (p:=fun x=>fN (key x) k) (l:=l) (by rw [hc];rfl)
  have hne:=h q (by rw [hc];rfl)
  have hkq:fN k (key q)=true:=by
   rcases zW (key q) k with h1 | h1 | h1
   ·rw [hq] at h1;cases h1
   ·exact absurd h1 hne
   ·exact h1
  rcases List.mem_cons.1 hd with rfl | hd
  ·exact hkq
  ·exact jK hkq ((List.pairwise_cons.1 hsd).1 x hd)
theorem xD {α:Type} {key:α→List UInt8} {l:List α} (hs:l.Pairwise (fun a b=>fN (key a) (key b)=true)) {i:Nat} {a b:α} (hi:l[i]?=some a) (he:key b=key a):(l.set i b).Pairwise (fun a b=>fN (key a) (key b)=true):=by
 have hm:∀ l:List α,l.Pairwise (fun a b=>fN (key a) (key b)=true)↔(l.map key).Pairwise (fun a b=>fN a b=true):=fun l=>(List.pairwise_map (f:=key) (R:=fun a b=>fN a b=true)).symm
 rw [hm] at hs ⊢
 have:(l.set i b).map key=l.map key:=by
  rw [List.map_set,he]
  apply List.ext_getElem?
  intro j
  rw [List.getElem?_set]
  split
  ·rename_i hj
   subst hj
   rw [List.getElem?_map,hi,List.length_map]
   rw [if_pos (List.getElem?_eq_some_iff.1 hi).1];rfl
  ·rfl
 rw [this];exact hs
structure PInv (l:List Part):Prop where
 name:∀ p∈l,dT p.cat=true
 bp:∀ p∈l,0≤p.bp∧p.bp≤100000
 net:∀ p∈l,eF p.net
 srt:l.Pairwise (fun a b=>fN a.cat b.cat=true)
theorem PInv.nil:PInv []:=⟨fun _ h=>(by cases h),fun _ h=>(by cases h),fun _ h=>(by cases h),.nil⟩
theorem PInv.room {l:List Part} (h:PInv l) {cat:List UInt8} {bp:Int} (hc:dT cat=true) (h1:0≤bp) (h2:bp≤100000):PInv (bM l cat bp):=by
 unfold bM
 split
 ·rename_i hm
  have hmem:∀ p,p∈cY l (aM l cat) ⟨cat,bp,0,0⟩→p=⟨cat,bp,0,0⟩∨p∈l:=fun p hp=>(nC _ _ _ _).1 hp
  refine ⟨fun p hp=>?_,fun p hp=>?_,fun p hp=>?_,?_⟩
  ·rcases hmem p hp with rfl | hp
   ·exact hc
   ·exact h.name p hp
  ·rcases hmem p hp with rfl | hp
   ·exact ⟨h1,h2⟩
   ·exact h.bp p hp
  ·rcases hmem p hp with rfl | hp
   ·show eF 0;omega
   ·exact h.net p hp
  ·unfold aM
   rw [uZ]
   refine rZ h.srt (fun a b c=>jK) (fun x hx hp=>hp) (fun x hx hp=>?_)
   refine aV3 (key:=fun p:Part=>p.cat) h.srt cat (fun b hb=>?_) x hx hp
   unfold dX aM at hm
   rw [hb] at hm
   simpa using hm
 ·exact h
theorem PInv.put {l:List Part} (h:PInv l) {cat:List UInt8} {bp n:Int} (hc:dT cat=true) (h1:0≤bp) (h2:bp≤100000):PInv (tS l cat bp n).1∧(tS l cat bp n).1≠[]:=by
 obtain ⟨b,hb⟩:=rQ l cat bp
 have hr:=h.room hc h1 h2
 unfold tS
 rw [hb]
 have hbm:=List.mem_of_getElem? hb
 constructor
 ·refine ⟨fun p hp=>?_,fun p hp=>?_,fun p hp=>?_,xD (key:=fun p:Part=>p.cat) hr.srt hb rfl⟩
  ·rcases List.mem_or_eq_of_mem_set hp with hp | rfl
   ·exact hr.name p hp
   ·exact hr.name b hbm
  ·rcases List.mem_or_eq_of_mem_set hp with hp | rfl
   ·exact hr.bp p hp
   ·exact hr.bp b hbm
  ·rcases List.mem_or_eq_of_mem_set hp with hp | rfl
   ·exact hr.net p hp
   ·exact aV1 _ _
 ·intro e
  have:=congrArg List.length e
  rw [List.length_set,List.length_nil] at this
  have:=(List.getElem?_eq_some_iff.1 hb).1
  omega
theorem mT {r:Rate} (h:sS r=0):dT r.cat=true∧r.day.right=true∧0≤r.bp∧r.bp≤100000:=by
 unfold sS at h
 split at h
 ·omega
 ·rename_i h1
  split at h
  ·omega
  ·rename_i h2
   split at h
   ·omega
   ·split at h
    ·omega
    ·exact ⟨by simpa using h1,by simpa using h2,by omega,by omega⟩
theorem bC3 {cat:List UInt8} {d:Date}:∀ (l:List Rate) (st:Int×Bool),(st.2=true→0≤st.1∧st.1≤100000)→(∀ r∈l,0≤r.bp∧r.bp≤100000)→(aE (gA cat d) id l st).2=true→0≤(aE (gA cat d) id l st).1∧(aE (gA cat d) id l st).1≤100000
 | [],st,h,_,h2=>h h2
 | r::l,st,h,hl,h2=>by
  simp only [aE,gA] at h2 ⊢
  refine bC3 l _ ?_ (fun x hx=>hl x (List.mem_cons_of_mem _ hx)) h2
  split
  ·intro _;exact hl r (List.mem_cons_self ..)
  ·exact h
theorem aBe {l:List Rate} {cat:List UInt8} {d:Date} (h:(eU l cat d).2=true):0≤(eU l cat d).1∧(eU l cat d).1≤100000:=by
 unfold eU at h ⊢
 split at h
 ·cases h
 ·rename_i h1
  split at h
  ·cases h
  ·rename_i h2
   rw [if_neg h1,if_neg h2]
   have ht:=(lC l).1 (by simpa using h1)
   exact bC3 l _ (fun h=>by cases h) (fun r hr=>(mT (ht.2.1 r hr)).2.2) h
theorem aV4 {tab:List Rate} {d:Date} {l:Line} (h:(gO tab d l).2.2=0):dT l.cat=true∧0≤(gO tab d l).1∧(gO tab d l).1≤100000:=by
 unfold gO at h ⊢
 split at h
 ·simp at h
 ·rename_i h1
  split at h
  ·simp at h
  ·rename_i h2
   split at h
   ·simp at h
   ·rename_i h3
    split at h
    ·simp at h
    ·rename_i h4
     rw [if_neg h1,if_neg h2,if_neg h3,if_neg h4]
     exact ⟨by simpa using h2,aBe (by simpa using h4)⟩
theorem bJd {tab:List Rate} {d:Date}:∀ (lines:List Line) (parts:List Part) (r:Total×Int),PInv parts→aE (hN tab d) eV lines parts=r→r.2=0→∃ ps,PInv ps∧eV ps=r∧(parts≠[]∨lines≠[]→ps≠[])
 | [],parts,r,hp,h,_=>⟨parts,hp,h,fun h=>h.elim id (fun h=>absurd rfl h)⟩
 | l::lines,parts,r,hp,h,h0=>by
  simp only [aE] at h
  split at h
  ·rename_i r' he
   subst h
   unfold hN at he
   split at he
   ·rename_i hc;cases he;exact absurd h0 hc
   ·split at he
    ·rename_i hc;cases he;exact absurd h0 hc
    ·cases he
  ·rename_i s' he
   unfold hN at he
   split at he
   ·cases he
   ·rename_i hl
    split at he
    ·cases he
    ·cases he
     obtain ⟨a,b,c⟩:=aV4 (Decidable.not_not.1 hl)
     obtain ⟨q1,q2⟩:=hp.put (n:=(gO tab d l).2.1) a b c
     obtain ⟨ps,i1,i2,i3⟩:=bJd lines _ r q1 h h0
     exact ⟨ps,i1,i2,fun _=>i3 (.inl q2)⟩
def bC4 (p:Part):Part:={ p with tax:=(aU p.net p.bp).1 }
theorem aV5:∀ (l:List Part) (n x:Int) (ps:List Part) (r:Total×Int),eF n→eF x→(∀ p∈l,eF p.net)→aE gB kC l (n,x,ps)=r→r.2=0→
  r.1.parts=ps++l.map bC4∧(∀ p∈l,(aU p.net p.bp).2=0)∧r.1.net=n+(l.map (·.net)).sum∧r.1.tax=x+(l.map fun p=>(aU p.net p.bp).1).sum∧r.1.gross=r.1.net+r.1.tax∧eF r.1.net∧eF r.1.tax∧eF r.1.gross
 | [],n,x,ps,r,hn,hx,_,h,h0=>by
  simp only [aE,kC] at h
  split at h
  ·rename_i hc;subst h;exact absurd h0 hc
  ·rename_i hc
   have hc:=Decidable.not_not.1 hc
   subst h
   simp only at hc ⊢
   rw [uY hn hx] at hc ⊢
   split at hc
   ·rename_i hi;rw [if_pos hi];refine ⟨by simp,by simp,by simp,by simp,rfl,hn,hx,hi⟩
   ·simp at hc
 | p::l,n,x,ps,r,hn,hx,hl,h,h0=>by
  simp only [aE] at h
  split at h
  ·rename_i r' he
   subst h
   unfold gB at he
   split at he
   ·cases he;simp at h0
   ·cases he
  ·rename_i s' he
   unfold gB at he
   split at he
   ·cases he
   ·rename_i hc
    cases he
    have hp:=hl p (List.mem_cons_self ..)
    have c1:(aU p.net p.bp).2=0:=by by_cases q:(aU p.net p.bp).2=0;exact q;exact absurd (.inl q) hc
    have c2:(cF n p.net).2=0:=by by_cases q:(cF n p.net).2=0;exact q;exact absurd (.inr (.inl q)) hc
    have c3:(cF x (aU p.net p.bp).1).2=0:=by by_cases q:(cF x (aU p.net p.bp).1).2=0;exact q;exact absurd (.inr (.inr q)) hc
    have e2:(cF n p.net).1=n+p.net∧eF (n+p.net):=by
     rw [uY hn hp] at c2 ⊢
     split at c2
     ·rename_i hi;rw [if_pos hi];exact ⟨rfl,hi⟩
     ·simp at c2
    have e3:(cF x (aU p.net p.bp).1).1=x+(aU p.net p.bp).1∧eF (x+(aU p.net p.bp).1):=by
     rw [uY hx (aDr _ _)] at c3 ⊢
     split at c3
     ·rename_i hi;rw [if_pos hi];exact ⟨rfl,hi⟩
     ·simp at c3
    simp only [e2.1,e3.1] at h
    obtain ⟨a1,a2,a3,a4,a5⟩:=aV5 l _ _ _ r e2.2 e3.2 (fun q hq=>hl q (List.mem_cons_of_mem _ hq)) h h0
    refine ⟨by rw [a1,List.map_cons,List.append_assoc];rfl,fun q hq=>?_,?_,?_,a5⟩
    ·rcases List.mem_cons.1 hq with rfl | hq
     ·exact c1
     ·exact a2 q hq
    ·rw [a3,List.map_cons,List.sum_cons];omega
    ·rw [a4,List.map_cons,List.sum_cons];omega
theorem aV6 {ps:List Part} (h:PInv ps) (h0:ps≠[]) {t:Total} (hl:t.parts.length≤12) (hw:eV ps=(t,0)):bY t=true∧(∀ p∈t.parts,eF p.net∧eF p.tax):=by
 obtain ⟨a1,a2,a3,a4,a5,a6,a7,a8⟩:=aV5 ps 0 0 [] (t,0) (by omega) (by omega) h.net hw rfl
 simp only [List.nil_append,Int.zero_add] at a1 a2 a3 a4 a5 a6 a7 a8
 have hm:∀ p∈t.parts,∃ q∈ps,p=bC4 q:=fun p hp=>by rw [a1] at hp;obtain ⟨q,hq,rfl⟩:=List.mem_map.1 hp;exact ⟨q,hq,rfl⟩
 have hi:∀ p∈t.parts,eF p.net∧eF p.tax:=fun p hp=>by
  obtain ⟨q,hq,rfl⟩:=hm p hp
  exact ⟨h.net q hq,aDr _ _⟩
 refine ⟨(oU t).2 ⟨?_,hl,fun p hp=>?_,?_,?_⟩,hi⟩
 ·rw [a1,List.length_map]
  cases ps with
  | nil=>exact absurd rfl h0
  | cons a l=>simp
 ·obtain ⟨q,hq,rfl⟩:=hm p hp
  exact ⟨h.name q hq,(h.bp q hq).1,(h.bp q hq).2,Prod.ext rfl (a2 q hq)⟩
 ·rw [a1,List.pairwise_map]
  exact h.srt
 ·rw [aAl (fun p hp=>(hi p hp).1) (fun p hp=>(hi p hp).2) (by omega)]
  refine ⟨a6,a7,a8,?_,?_,a5⟩
  ·rw [a3,a1,List.map_map];rfl
  ·rw [a4,a1,List.map_map];rfl
theorem aHz {tab:List Rate} {d:Date} {lines:List Line} (h:(dN tab d lines).2=0):d.right=true∧bY (dN tab d lines).1=true∧∀ p∈(dN tab d lines).1.parts,eF p.net∧eF p.tax:=by
 have hf:=(rV h).1
 unfold dN at h hf ⊢
 split at h
 ·simp at h
 ·rename_i h1
  split at h
  ·simp at h
  ·rename_i h2
   split at h
   ·simp at h
   ·rename_i h3
    split at h
    ·simp at h
    ·rename_i h4
     rw [if_neg h1,if_neg h2,if_neg h3,if_neg h4] at hf ⊢
     obtain ⟨ps,i1,i2,i3⟩:=bJd lines [] _ PInv.nil rfl h
     have hne:ps≠[]:=i3 (.inr (fun e=>h3 (by rw [e];rfl)))
     exact ⟨by simpa using h2,aV6 i1 hne hf (by rw [i2];exact Prod.ext rfl h)⟩
def aI0 (p:Part):Part:={ p with net:=-p.net,tax:=-p.tax }
def aEq:Int:=-9223372036854775808
theorem aFs:∀ (l d:List Int) (r:List Int×Int),(∀ n∈l,eF n)→aE rR (fun l=>(l,0)) l d=r→r.2=0→r.1=d++l.map (fun n=>-n)∧∀ n∈l,n≠aEq
 | [],d,r,_,h,_=>by subst h;simp [aE]
 | n::l,d,r,hl,h,h0=>by
  simp only [aE,rR,aQo (hl n (List.mem_cons_self ..))] at h
  by_cases c:n=-9223372036854775808
  ·simp only [c,if_true] at h
   subst h;simp at h0
  ·simp only [c,if_false] at h
   obtain ⟨a,b⟩:=aFs l _ r (fun m hm=>hl m (List.mem_cons_of_mem _ hm)) h h0
   refine ⟨by rw [a,List.map_cons,List.append_assoc];rfl,fun m hm=>?_⟩
   rcases List.mem_cons.1 hm with rfl | hm
   ·exact c
   ·exact b m hm
theorem aFt {l:List Int} (hl:∀ n∈l,eF n) (h:(gM l).2=0):(gM l).1=l.map (fun n=>-n)∧∀ n∈l,n≠aEq:=by
 have:=aFs l [] (gM l) hl rfl h
 exact this
theorem aDu:∀ (l a:List Part) (r:List Part×Int),(∀ p∈l,eF p.net∧eF p.tax)→aE dU (fun l=>(l,0)) l a=r→r.2=0→r.1=a++l.map aI0∧∀ p∈l,p.net≠aEq∧p.tax≠aEq
 | [],a,r,_,h,_=>by subst h;simp [aE]
 | p::l,a,r,hl,h,h0=>by
  simp only [aE,dU] at h
  split at h
  ·rename_i r' he
   split at he
   ·rename_i hc;cases he;subst h;exact absurd h0 hc
   ·cases he
  ·rename_i s' he
   split at he
   ·cases he
   ·rename_i hc
    cases he
    have hp:=hl p (List.mem_cons_self ..)
    obtain ⟨e1,e2⟩:=aFt (l:=[p.net,p.tax]) (fun n hn=>by
     simp only [List.mem_cons,List.not_mem_nil,or_false] at hn
     rcases hn with rfl | rfl
     ·exact hp.1
     ·exact hp.2) (Decidable.not_not.1 hc)
    rw [e1] at h
    obtain ⟨q1,q2⟩:=aDu l _ r (fun m hm=>hl m (List.mem_cons_of_mem _ hm)) h h0
    refine ⟨by rw [q1,List.map_cons,List.append_assoc];rfl,fun m hm=>?_⟩
    rcases List.mem_cons.1 hm with rfl | hm
    ·exact ⟨e2 _ (List.mem_cons_self ..),e2 _ (List.mem_cons_of_mem _ (List.mem_cons_self ..))⟩
    ·exact q2 m hm
theorem aM4 {t:Total} (ht:∀ p∈t.parts,eF p.net∧eF p.tax) (h1:eF t.net) (h2:eF t.tax) (h3:eF t.gross) (h:(aV t).2=0):
  (aV t).1=⟨-t.net,-t.tax,-t.gross,t.parts.map aI0⟩∧t.net≠aEq∧t.tax≠aEq∧t.gross≠aEq∧∀ p∈t.parts,p.net≠aEq∧p.tax≠aEq:=by
 unfold aV at h ⊢
 split at h
 ·rename_i hc;exact absurd h hc
 ·rename_i hc
  split at h
  ·rename_i hc2;exact absurd h hc2
  ·rename_i hc2
   rw [if_neg hc,if_neg hc2]
   obtain ⟨e1,e2⟩:=aFt (l:=[t.net,t.tax,t.gross]) (fun n hn=>by
    simp only [List.mem_cons,List.not_mem_nil,or_false] at hn
    rcases hn with rfl | rfl | rfl
    ·exact h1
    ·exact h2
    ·exact h3) (Decidable.not_not.1 hc)
   obtain ⟨q1,q2⟩:=aDu t.parts [] _ ht rfl (Decidable.not_not.1 hc2)
   rw [e1,q1]
   exact ⟨rfl,e2 _ (by simp),e2 _ (by simp),e2 _ (by simp),q2⟩
theorem aOs:∀ l:List Int,(l.map fun n=>-n).sum=-l.sum
 | []=>rfl
 | n::l=>by rw [List.map_cons,List.sum_cons,List.sum_cons,aOs l];omega
theorem aDv {t:Total} (ht:∀ p∈t.parts,eF p.net∧eF p.tax) (ho:bY t=true) (h:(aV t).2=0):bY (aV t).1=true∧(∀ p∈(aV t).1.parts,eF p.net∧eF p.tax)∧(aV t).1=⟨-t.net,-t.tax,-t.gross,t.parts.map aI0⟩:=by
 obtain ⟨o1,o2,o3,o4,o5⟩:=(oU t).1 ho
 obtain ⟨s1,s2,s3,s4,s5,s6⟩:=(aAl (fun p hp=>(ht p hp).1) (fun p hp=>(ht p hp).2) (by omega)).1 o5
 obtain ⟨b1,b2,b3,b4,b5⟩:=aM4 ht s1 s2 s3 h
 unfold aEq at b2 b3 b4 b5
 have hm:∀ p∈t.parts.map aI0,∃ q∈t.parts,p=aI0 q:=fun p hp=>by obtain ⟨q,hq,rfl⟩:=List.mem_map.1 hp;exact ⟨q,hq,rfl⟩
 have hi:∀ p∈t.parts.map aI0,eF p.net∧eF p.tax:=fun p hp=>by
  obtain ⟨q,hq,rfl⟩:=hm p hp
  have:=ht q hq
  have:=b5 q hq
  show eF (-q.net)∧eF (-q.tax)
  omega
 refine ⟨?_,by rw [b1];exact hi,b1⟩
 rw [b1,oU]
 refine ⟨by simpa using o1,by simpa using o2,fun p hp=>?_,?_,?_⟩
 ·obtain ⟨q,hq,rfl⟩:=hm p hp
  have g:=o3 q hq
  exact ⟨g.name,g.lo,g.hi,(aM3 (ht q hq).1 g.lo g.hi (b5 q hq).1 g.tax).1⟩
 ·show (t.parts.map aI0).Pairwise _
  rw [List.pairwise_map];exact o4
 ·rw [aAl (fun p hp=>(hi p hp).1) (fun p hp=>(hi p hp).2) (by simp;omega)]
  have e1:(t.parts.map aI0).map (·.net)=(t.parts.map (·.net)).map fun n=>-n:=by rw [List.map_map,List.map_map];rfl
  have e2:(t.parts.map aI0).map (·.tax)=(t.parts.map (·.tax)).map fun n=>-n:=by rw [List.map_map,List.map_map];rfl
  simp only [e1,e2,aOs]
  refine ⟨?_,?_,?_,?_,?_,?_⟩
  ·show eF (-t.net);omega
  ·show eF (-t.tax);omega
  ·show eF (-t.gross);omega
  ·show -t.net=_;omega
  ·show -t.tax=_;omega
  ·show -t.gross=-t.net+-t.tax;omega
theorem aV7 {y:Int} (h1:1≤y) (h2:y≤9999):Go.Proofs.YtoaibmbldmckaaaGreat.ahead y=365*(y - 1)+(y - 1) / 4 - (y - 1) / 100+(y - 1) / 400:=by
 unfold Go.Proofs.YtoaibmbldmckaaaGreat.ahead
 have a1:wr .i64 (y - 1)=y - 1:=eX (by omega)
 rw [a1]
 have a2:(y - 1).tdiv 4=(y - 1) / 4:=Int.tdiv_eq_ediv_of_nonneg (by omega)
 have a3:(y - 1).tdiv 100=(y - 1) / 100:=Int.tdiv_eq_ediv_of_nonneg (by omega)
 have a4:(y - 1).tdiv 400=(y - 1) / 400:=Int.tdiv_eq_ediv_of_nonneg (by omega)
 rw [a2,a3,a4]
 rw [eX (n:=365*(y - 1)) (by omega),eX (n:=(y - 1) / 4) (by omega),eX (n:=(y - 1) / 100) (by omega),eX (n:=(y - 1) / 400) (by omega)]
 rw [eX (n:=365*(y - 1)+(y - 1) / 4) (by omega),eX (n:=365*(y - 1)+(y - 1) / 4 - (y - 1) / 100) (by omega),eX (by omega)]
theorem kK (y m:Int):28≤fJ y m∧fJ y m≤31:=by
 unfold fJ
 repeat' split
 all_goals omega
def gD (y:Int):Nat→Int
 | 0=>0
 | n+1=>gD y n+fJ y ((n:Int)+1)
theorem mU (y:Int):∀ n:Nat,28*(n:Int)≤gD y n∧gD y n≤31*(n:Int)
 | 0=>by simp [gD]
 | n+1=>by
  have:=mU y n
  have:=kK y ((n:Int)+1)
  simp only [gD]
  omega
theorem aOt (y:Int):∀ (n k:Nat) (a:Int),-1000000000≤a→a≤1000000000→k+n≤1000→aE (iL y) id (List.range' k n) (a+gD y k)=a+gD y (k+n)
 | 0,k,a,_,_,_=>rfl
 | n+1,k,a,h1,h2,h3=>by
  have m1:=mU y k
  have m2:=kK y ((k:Int)+1)
  rw [List.range'_succ]
  simp only [aE,iL]
  rw [eX (by omega),Int.add_assoc]
  have:=aOt y n (k+1) a h1 h2 (by omega)
  rw [show k+(n+1)=k+1+n from by omega]
  exact this
theorem aAn (d:Date):d.right=true↔1≤d.y∧d.y≤9999∧1≤d.m∧d.m≤12∧1≤d.d∧d.d≤fJ d.y d.m:=by
 unfold Date.right
 simp only [Bool.and_eq_true,decide_eq_true_eq]
theorem aOu {d:Date} (h:d.right=true):d.days=365*(d.y - 1)+(d.y - 1) / 4 - (d.y - 1) / 100+(d.y - 1) / 400+gD d.y (d.m - 1).toNat+d.d - 1:=by
 obtain ⟨h1,h2,h3,h4,h5,h6⟩:=(aAn d).1 h
 unfold Date.days
 rw [if_pos h]
 have e:=aV7 h1 h2
 have hr:=kK d.y d.m
 have hm:=mU d.y (d.m - 1).toNat
 have hl:=aOt d.y (d.m - 1).toNat 0 (Go.Proofs.YtoaibmbldmckaaaGreat.ahead d.y) (by rw [e];omega) (by rw [e];omega) (by omega)
 simp only [gD,Int.add_zero,Nat.zero_add] at hl
 rw [List.range_eq_range',hl,e,eX (n:=365*(d.y - 1)+(d.y - 1) / 4 - (d.y - 1) / 100+(d.y - 1) / 400+gD d.y (d.m - 1).toNat+d.d) (by omega),eX (by omega)]
theorem aV8 (y:Int):gD y 12=365+(if aHr y=true then 1 else 0):=by
 simp only [gD,fJ]
 by_cases c:aHr y=true<;>simp [c]
theorem aY1 {y:Int} (h:0≤y):aHr y=decide (y % 4=0∧(y % 100≠0∨y % 400=0)):=by
 unfold aHr
 have a:y.tmod 4=y % 4:=Int.tmod_eq_emod_of_nonneg h
 have b:y.tmod 100=y % 100:=Int.tmod_eq_emod_of_nonneg h
 have c:y.tmod 400=y % 400:=Int.tmod_eq_emod_of_nonneg h
 rw [a,b,c]
 split
 ·rename_i h1
  split
  ·rename_i h2;simp [h1,h2]
  ·rename_i h2;simp [h1,h2]
 ·rename_i h1;simp [h1]
theorem aBf (y:Int):∀ (n k:Nat),gD y n+28*(k:Int)≤gD y (n+k)
 | n,0=>by simp
 | n,k+1=>by
  have:=aBf y n k
  have:=kK y (((n+k:Nat):Int)+1)
  show _≤gD y (n+k)+fJ y (((n+k:Nat):Int)+1)
  omega
theorem aFu (y:Int) {n k:Nat} (h:n<k):gD y n+fJ y ((n:Int)+1)≤gD y k:=by
 have:=aBf y (n+1) (k - (n+1))
 rw [show n+1+(k - (n+1))=k from by omega] at this
 simp only [gD] at this
 omega
theorem aOv {a b:Date} (ha:a.right=true) (hb:b.right=true) (h:a.y<b.y∨a.y=b.y∧(a.m<b.m∨a.m=b.m∧a.d<b.d)):a.days<b.days:=by
 rw [aOu ha,aOu hb]
 obtain ⟨a1,a2,a3,a4,a5,a6⟩:=(aAn a).1 ha
 obtain ⟨b1,b2,b3,b4,b5,b6⟩:=(aAn b).1 hb
 have hma:∀ {d:Date},1≤d.m→(((d.m - 1).toNat:Nat):Int)+1=d.m:=fun h=>by omega
 rcases h with h | ⟨hy,h | ⟨h2,h⟩⟩
 ·
  have h12:gD a.y (a.m - 1).toNat+a.d≤gD a.y 12:=by
   have:=aFu a.y (n:=(a.m - 1).toNat) (k:=12) (by omega)
   rw [hma a3] at this
   omega
  rw [aV8,aY1 (by omega)] at h12
  have h0:=(mU b.y (b.m - 1).toNat).1
  by_cases c:a.y % 4=0∧(a.y % 100≠0∨a.y % 400=0)
  ·rw [if_pos (by simpa using c)] at h12
   omega
  ·rw [if_neg (by simpa using c)] at h12
   omega
 ·have:=aFu a.y (n:=(a.m - 1).toNat) (k:=(b.m - 1).toNat) (by omega)
  rw [hma a3] at this
  rw [hy] at this ⊢
  rw [hy] at a6
  omega
 ·rw [hy,h2];omega
theorem aJs {a b:Date} (ha:a.right=true) (hb:b.right=true) (h:a.days=b.days):a=b:=by
 have h1:¬ (a.y<b.y∨a.y=b.y∧(a.m<b.m∨a.m=b.m∧a.d<b.d)):=fun q=>by have:=aOv ha hb q;omega
 have h2:¬ (b.y<a.y∨b.y=a.y∧(b.m<a.m∨b.m=a.m∧b.d<a.d)):=fun q=>by have:=aOv hb ha q;omega
 have e1:a.y=b.y:=by omega
 have e2:a.m=b.m:=by omega
 have e3:a.d=b.d:=by omega
 cases a;cases b
 simp only at e1 e2 e3
 rw [e1,e2,e3]
theorem aOw {α:Type} (p:α→Bool):∀ (l:List α) (n:Nat),aE (cR p) (fun _=>-1) l n=-1→∀ a∈l,p a=false
 | [],n,_,a,h=>by cases h
 | x::l,n,h,a,ha=>by
  by_cases c:p x=true
  ·simp only [aE,cR,c,if_true] at h
   omega
  ·simp only [aE,cR,c,if_false] at h
   rcases List.mem_cons.1 ha with rfl | ha
   ·simpa using c
   ·exact aOw p l (n+1) h a ha
theorem aY2 {α:Type} {p:α→Bool} {l:List α} (h:ixM p l<0):∀ a∈l,p a=false:=by
 rcases gR p l with e | ⟨i,a,e,_⟩
 ·exact aOw p l 0 e
 ·rw [e] at h;omega
theorem aFv {α:Type} (p:α→Bool):∀ (l:List α) (n i:Nat) (a:α),l[i]?=some a→p a=true→(∀ j b,j<i→l[j]?=some b→p b=false)→aE (cR p) (fun _=>-1) l n=((n+i:Nat):Int)
 | x::l,n,0,a,h,hp,_=>by
  cases h
  simp only [aE,cR,hp,if_true];rfl
 | x::l,n,i+1,a,h,hp,hj=>by
  have c:p x=false:=hj 0 x (by omega) rfl
  simp only [aE,cR,c,Bool.false_eq_true,if_false]
  rw [aFv p l (n+1) i a h hp (fun j b hji hb=>hj (j+1) b (by omega) hb)]
  omega
theorem aFw {α:Type} {p:α→Bool} {l:List α} {i:Nat} {a:α} (h:l[i]?=some a) (hp:p a=true) (hj:∀ j b,j<i→l[j]?=some b→p b=false):ixM p l=(i:Int):=by
 have:=aFv p l 0 i a h hp hj
 rw [Nat.zero_add] at this
 exact this
theorem pU {l:List Ser} (hs:l.Pairwise (fun a b=>fN a.name b.name=true)) {i:Nat} {s:Ser} (h:l[i]?=some s):dH l s.name=(i:Int):=by
 refine aFw h (by simp) (fun j b hj hb=>?_)
 have h1:=List.pairwise_iff_getElem.1 hs j i (List.getElem?_eq_some_iff.1 hb).1 (List.getElem?_eq_some_iff.1 h).1 hj
 rw [(List.getElem?_eq_some_iff.1 hb).2,(List.getElem?_eq_some_iff.1 h).2] at h1
 have:=bD6 h1
 simpa using this
theorem xE {l:List Ser} {name:List UInt8} (h:dH l name<0):∀ s∈l,s.name≠name:=fun s hs=>by
 have:=aY2 h s hs
 simpa using this
def sU (l:List Posted) (name:List UInt8):Int:=((l.filter fun p=>p.ref.ser == name).length:Int)
theorem iH (a b:List Posted) (name:List UInt8):sU (a++b) name=sU a name+sU b name:=by
 unfold sU;rw [List.filter_append,List.length_append];omega
theorem sA (p:Posted) (name:List UInt8):sU [p] name=if p.ref.ser=name then 1 else 0:=by
 unfold sU
 by_cases c:p.ref.ser=name
 ·simp [c]
 ·simp [c]
theorem sB (l:List Posted) (name:List UInt8):0≤sU l name:=by unfold sU;omega
structure Nums (ser:List Ser) (l:List Posted):Prop where
 num:∀ i p,l[i]?=some p→(∃ s∈ser,s.name=p.ref.ser)∧p.ref.num=sU (l.take i) p.ref.ser+1
 next:∀ s∈ser,s.next=sU l s.name+1
def mJ (ser:List Ser) (l:List Posted):List Int:=ser.map (fun s=>sU l s.name)++List.replicate (8 - ser.length) 0
theorem lD {ser:List Ser} {l:List Posted} {i:Nat} {s:Ser} (h:ser[i]?=some s):(mJ ser l)[i]?=some (sU l s.name):=by
 unfold mJ
 rw [List.getElem?_append_left (by rw [List.length_map];exact (List.getElem?_eq_some_iff.1 h).1),List.getElem?_map,h]
 rfl
theorem aM5 {ser:List Ser} (hs:ser.Pairwise (fun a b=>fN a.name b.name=true)) {l:List Posted} {p:Posted} {i:Nat} {s:Ser} (h:ser[i]?=some s) (hn:s.name=p.ref.ser):bump (mJ ser l) i=mJ ser (l++[p]):=by
 unfold bump
 rw [List.getD_eq_getElem?_getD,lD h]
 apply List.ext_getElem?
 intro j
 rw [List.getElem?_set]
 have hlen:ser.length≤(mJ ser l).length:=by unfold mJ;rw [List.length_append,List.length_map];omega
 have hi:=(List.getElem?_eq_some_iff.1 h).1
 split
 ·rename_i e
  subst e
  rw [if_pos (by omega),lD h,iH,sA,if_pos hn.symm]
  rfl
 ·rename_i e
  by_cases hj:j<ser.length
  ·have hjs:ser[j]?=some ser[j]:=List.getElem?_eq_getElem hj
   rw [lD hjs,lD hjs,iH,sA,if_neg,Int.add_zero]
   intro hc
   have e1:=pU hs hjs
   have e2:=pU hs h
   rw [hn,hc] at e2
   rw [e2] at e1
   exact e (by omega)
  ·unfold mJ
   rw [List.getElem?_append_right (by rw [List.length_map];omega),List.getElem?_append_right (by rw [List.length_map];omega),List.length_map,List.length_map]
theorem bJe {ser:List Ser} (hs:ser.Pairwise (fun a b=>fN a.name b.name=true)) (h8:ser.length≤8) {fin:List Int→Bool}:∀ (l done:List Posted),aE (lG ser) fin l (mJ ser done)=true ↔
  (∀ i p,l[i]?=some p→(∃ s∈ser,s.name=p.ref.ser)∧p.ref.num=sU (done++l.take i) p.ref.ser+1)∧fin (mJ ser (done++l))=true
 | [],done=>by simp [aE]
 | p::l,done=>by
  by_cases c:dH ser p.ref.ser<0
  ·have e:lG ser (mJ ser done) p=.inl false:=by unfold lG;rw [if_pos c]
   simp only [aE,e]
   constructor
   ·intro h;cases h
   ·rintro ⟨h,_⟩
    obtain ⟨⟨s,h1,h2⟩,_⟩:=h 0 p rfl
    exact absurd h2 (xE c s h1)
  ·rcases lP ser p.ref.ser with e | ⟨i,s,e,hi,hn⟩
   ·exact absurd (by rw [e];decide) c
   ·have hb:=aM5 hs (l:=done) hi hn
    have hg:(mJ ser (done++[p])).getD i 0=sU done p.ref.ser+1:=by
     rw [List.getD_eq_getElem?_getD,lD hi,iH,sA,if_pos hn.symm,hn];rfl
    by_cases q:p.ref.num=sU done p.ref.ser+1
    ·have es:lG ser (mJ ser done) p=.inr (mJ ser (done++[p])):=by
      unfold lG
      rw [if_neg c,e]
      simp only [Int.toNat_natCast]
      rw [hb,hg,if_pos q]
     simp only [aE,es]
     rw [bJe hs h8 l (done++[p])]
     constructor
     ·rintro ⟨h1,h2⟩
      refine ⟨fun j x hj=>?_,by rw [List.append_assoc] at h2;exact h2⟩
      cases j with
      | zero=>cases hj;exact ⟨⟨s,List.mem_of_getElem? hi,hn⟩,by simpa using q⟩
      | succ j=>have:=h1 j x hj;rw [List.append_assoc] at this;exact this
     ·rintro ⟨h1,h2⟩
      refine ⟨fun j x hj=>?_,by rw [List.append_assoc];exact h2⟩
      have:=h1 (j+1) x hj
      rw [List.append_assoc];exact this
    ·have es:lG ser (mJ ser done) p=.inl false:=by
      unfold lG
      rw [if_neg c,e]
      simp only [Int.toNat_natCast]
      rw [hb,hg,if_neg q]
     simp only [aE,es]
     constructor
     ·intro h;cases h
     ·rintro ⟨h,_⟩
      have:=(h 0 p rfl).2
      simp only [List.take_zero,List.append_nil] at this
      exact absurd this q
theorem bJf:∀ (ser:List Ser) (is:List Int),aE kI (fun _=>true) ser is=true↔∀ i s,ser[i]?=some s→s.next=is.getD i 0+1
 | [],is=>by simp [aE]
 | s::l,is=>by
  have hh:is.headD 0=is.getD 0 0:=by cases is<;>rfl
  have ht:∀ j,is.tail.getD j 0=is.getD (j+1) 0:=fun j=>by cases is<;>simp
  by_cases c:s.next=is.getD 0 0+1
  ·have e:kI is s=.inr is.tail:=by unfold kI;rw [hh,if_pos c]
   simp only [aE,e]
   rw [bJf l is.tail]
   constructor
   ·intro h i x hx
    cases i with
    | zero=>cases hx;exact c
    | succ i=>have:=h i x hx;rwa [ht] at this
   ·intro h i x hx
    have:=h (i+1) x hx
    rwa [ht]
  ·have e:kI is s=.inl false:=by unfold kI;rw [hh,if_neg c]
   simp only [aE,e]
   constructor
   ·intro h;cases h
   ·intro h;exact absurd (h 0 s rfl) c
theorem zX {ser:List Ser} (hs:ser.Pairwise (fun a b=>fN a.name b.name=true)) (h8:ser.length≤8) (l:List Posted):nP ser l=true↔Nums ser l:=by
 unfold nP
 have h0:List.replicate 8 (0:Int)=mJ ser []:=by
  unfold mJ
  apply List.ext_getElem?
  intro j
  by_cases hj:j<ser.length
  ·rw [List.getElem?_append_left (by rw [List.length_map];exact hj),List.getElem?_map,List.getElem?_eq_getElem hj,List.getElem?_replicate,if_pos (by omega)];rfl
  ·rw [List.getElem?_append_right (by rw [List.length_map];omega),List.length_map,List.getElem?_replicate,List.getElem?_replicate]
   by_cases hj8:j<8
   ·rw [if_pos hj8,if_pos (by omega)]
   ·rw [if_neg hj8,if_neg (by omega)]
 rw [h0,bJe hs h8 l [],bJf]
 simp only [List.nil_append]
 constructor
 ·rintro ⟨h1,h2⟩
  refine ⟨h1,fun s hm=>?_⟩
  obtain ⟨i,hi⟩:=List.mem_iff_getElem?.1 hm
  have:=h2 i s hi
  rwa [List.getD_eq_getElem?_getD,lD hi] at this
 ·rintro ⟨h1,h2⟩
  refine ⟨h1,fun i s hi=>?_⟩
  rw [List.getD_eq_getElem?_getD,lD hi]
  exact h2 s (List.mem_of_getElem? hi)
def aJt:Posted:=⟨Ref.zero,⟨0,0,0⟩,Total.zero,Ref.zero,false⟩
def sC (p:Posted):Posted:={ p with back:=false }
def oG (done:List Posted) (p:Posted):Prop:=p.day.right=true∧bY p.total=true∧(p.of=Ref.zero∨0≤aW done p.of∧kH p (done.getD (aW done p.of).toNat aJt)=true)
def fC (done:List Posted) (is:List Int) (p:Posted):List Int:=if p.of=Ref.zero then is else bump is (aW done p.of).toNat
def cP:List Posted→List Posted→List Int→List Int
 | _,[],is=>is
 | done,p::l,is=>cP (done++[p]) l (fC done is p)
def dQ (l:List Posted):List Int:=cP [] l (List.replicate 40 0)
theorem aJu {done:List Posted} {is:List Int} {p:Posted} (h:oG done p):gP (done,is) p=.inr (done++[p],fC done is p):=by
 obtain ⟨h1,h2,h3⟩:=h
 unfold gP fC
 rw [if_neg (by rw [h1];simp),if_neg (by rw [h2];simp)]
 by_cases c:p.of=Ref.zero
 ·rw [if_pos c,if_pos c]
 ·rw [if_neg c,if_neg c]
  rcases h3 with h3 | ⟨h3,h4⟩
  ·exact absurd h3 c
  ·simp only
   rw [if_neg (by omega)]
   unfold aJt at h4
   rw [h4]
   simp
theorem aJv {done:List Posted} {is:List Int} {p:Posted} (h:¬ oG done p):gP (done,is) p=.inl false:=by
 unfold gP
 split
 ·rfl
 ·rename_i h1
  split
  ·rfl
  ·rename_i h2
   have h1:p.day.right=true:=by simpa using h1
   have h2:bY p.total=true:=by simpa using h2
   split
   ·rename_i h3;exact absurd ⟨h1,h2,.inl h3⟩ h
   ·split
    ·rfl
    ·rename_i h4
     split
     ·rfl
     ·rename_i h5
      exact absurd ⟨h1,h2,.inr ⟨by simp only at h4;omega,(Bool.not_eq_false _).mp h5⟩⟩ h
theorem bC5 {fin:List Posted×List Int→Bool}:∀ (l done:List Posted) (is:List Int),aE gP fin l (done,is)=true↔(∀ i p,l[i]?=some p→oG (done++l.take i) p)∧fin (done++l,cP done l is)=true
 | [],done,is=>by simp [aE,cP]
 | p::l,done,is=>by
  by_cases c:oG done p
  ·simp only [aE,aJu c]
   rw [bC5 l (done++[p]) _]
   simp only [cP]
   constructor
   ·rintro ⟨h1,h2⟩
    refine ⟨fun j x hj=>?_,by rw [List.append_assoc] at h2;exact h2⟩
    cases j with
    | zero=>cases hj;simpa using c
    | succ j=>have:=h1 j x hj;rw [List.append_assoc] at this;exact this
   ·rintro ⟨h1,h2⟩
    refine ⟨fun j x hj=>?_,by rw [List.append_assoc];exact h2⟩
    have:=h1 (j+1) x hj
    rw [List.append_assoc];exact this
  ·simp only [aE,aJv c]
   constructor
   ·intro h;cases h
   ·rintro ⟨h,_⟩
    have:=h 0 p rfl
    simp only [List.take_zero,List.append_nil] at this
    exact absurd this c
theorem bJg:∀ (l:List Posted) (is:List Int),aE iN (fun _=>true) l is=true↔∀ i p,l[i]?=some p→is.getD i 0≤1∧p.back=decide (is.getD i 0=1)
 | [],is=>by simp [aE]
 | s::l,is=>by
  have hh:is.headD 0=is.getD 0 0:=by cases is<;>rfl
  have ht:∀ j,is.tail.getD j 0=is.getD (j+1) 0:=fun j=>by cases is<;>simp
  by_cases c:is.getD 0 0≤1∧s.back=decide (is.getD 0 0=1)
  ·have e:iN is s=.inr is.tail:=by unfold iN;rw [hh,if_neg (by omega),if_pos c.2]
   simp only [aE,e]
   rw [bJg l is.tail]
   constructor
   ·intro h i x hx
    cases i with
    | zero=>cases hx;exact c
    | succ i=>have:=h i x hx;rwa [ht] at this
   ·intro h i x hx
    have:=h (i+1) x hx
    rwa [ht]
  ·have e:iN is s=.inl false:=by
    unfold iN
    rw [hh]
    split
    ·rfl
    ·split
     ·rename_i h1 h2;exact absurd ⟨by omega,h2⟩ c
     ·rfl
   simp only [aE,e]
   constructor
   ·intro h;cases h
   ·intro h;exact absurd (h 0 s rfl) c
theorem jL (l:List Posted):jA l=true↔l.length≤40∧(∀ i p,l[i]?=some p→oG (l.take i) p)∧∀ i p,l[i]?=some p→(dQ l).getD i 0≤1∧p.back=decide ((dQ l).getD i 0=1):=by
 unfold jA
 split
 ·rename_i h;simp;omega
 ·rename_i h
  rw [bC5 l [] _,bJg]
  simp only [List.nil_append]
  exact ⟨fun ⟨a,b⟩=>⟨by omega,a,b⟩,fun ⟨_,a,b⟩=>⟨a,b⟩⟩
theorem oV:∀ (l done:List Posted) (is:List Int) (p:Posted),cP done (l++[p]) is=fC (done++l) (cP done l is) p
 | [],done,is,p=>by simp [cP]
 | x::l,done,is,p=>by
  simp only [List.cons_append,cP]
  rw [oV l]
  rw [List.append_assoc];rfl
theorem pC (l:List Posted) (p:Posted):dQ (l++[p])=fC l (dQ l) p:=by
 unfold dQ
 rw [oV,List.nil_append]
theorem pV:∀ (l done:List Posted) (is:List Int),(∀ i,0≤is.getD i 0)→(∀ i,done.length≤i→is.getD i 0=0)→(∀ i p,l[i]?=some p→oG (done++l.take i) p)→
  (∀ i,0≤(cP done l is).getD i 0)∧(∀ i,(done++l).length≤i→(cP done l is).getD i 0=0)∧(cP done l is).length=is.length
 | [],done,is,h1,h2,_=>⟨h1,by rw [List.append_nil];exact h2,rfl⟩
 | p::l,done,is,h1,h2,h3=>by
  simp only [cP]
  have hp:=h3 0 p rfl
  simp only [List.take_zero,List.append_nil] at hp
  have hb:∀ i,(fC done is p).getD i 0=is.getD i 0∨i<done.length∧(fC done is p).getD i 0=is.getD i 0+1:=by
   intro i
   unfold fC
   split
   ·exact .inl rfl
   ·rename_i hc
    obtain ⟨hp1,_⟩:=hp.2.2.resolve_left hc
    rcases kG done p.of with e | ⟨k,x,e,hk,_⟩
    ·omega
    ·have hkl:=(List.getElem?_eq_some_iff.1 hk).1
     rw [e,Int.toNat_natCast]
     unfold bump
     simp only [List.getD_eq_getElem?_getD,List.getElem?_set]
     by_cases q:k=i
     ·rw [if_pos q]
      subst q
      split
      ·exact .inr ⟨hkl,rfl⟩
      ·rename_i hn;left;rw [List.getElem?_eq_none (by omega)]
     ·rw [if_neg q];exact .inl rfl
  have hl:(fC done is p).length=is.length:=by
   unfold fC
   split
   ·rfl
   ·exact zL _ _
  obtain ⟨a,b,c⟩:=pV l (done++[p]) (fC done is p) (fun i=>by have:=h1 i;rcases hb i with h | ⟨_,h⟩<;>omega)
   (fun i hi=>by
    rw [List.length_append] at hi
    simp only [List.length_cons,List.length_nil] at hi
    have:=h2 i (by omega)
    rcases hb i with h | ⟨h0,h⟩<;>omega)
   (fun i x hx=>by have:=h3 (i+1) x hx;rw [List.append_assoc];exact this)
  refine ⟨a,fun i hi=>b i (by rw [List.append_assoc];exact hi),c.trans hl⟩
theorem sD {l:List Posted} (h:∀ i p,l[i]?=some p→oG (l.take i) p):(∀ i,0≤(dQ l).getD i 0)∧(∀ i,l.length≤i→(dQ l).getD i 0=0)∧(dQ l).length=40:=by
 have hz:∀ i,(List.replicate 40 (0:Int)).getD i 0=0:=fun i=>by
  rw [List.getD_eq_getElem?_getD,List.getElem?_replicate];split<;>rfl
 have:=pV l [] (List.replicate 40 0) (fun i=>by rw [hz];omega) (fun i _=>hz i) (by simpa using h)
 simp only [List.nil_append,List.length_replicate] at this
 exact this
theorem aAo (l:List Posted) (r:Ref):aW (l.map sC) r=aW l r:=by
 unfold aW
 rw [←aXh]
 rfl
theorem aQp (p q:Posted):kH (sC p) (sC q)=kH p q:=rfl
theorem aY3 (l:List Posted) (k:Nat):(l.map sC).getD k aJt=sC (l.getD k aJt):=by
 rw [List.getD_eq_getElem?_getD,List.getD_eq_getElem?_getD,List.getElem?_map]
 cases l[k]?<;>rfl
theorem aOx (done:List Posted) (p:Posted):oG (done.map sC) (sC p)↔oG done p:=by
 unfold oG
 rw [aY3,aQp]
 show _∧_∧(p.of=Ref.zero∨0≤aW (done.map sC) p.of∧_)↔_
 have e:aW (done.map sC) (sC p).of=aW done p.of:=aAo done p.of
 rw [e,aAo]
 exact Iff.rfl
theorem vP:∀ (l done:List Posted) (is:List Int),cP (done.map sC) (l.map sC) is=cP done l is
 | [],_,_=>rfl
 | p::l,done,is=>by
  simp only [List.map_cons,cP]
  have e:fC (done.map sC) is (sC p)=fC done is p:=by
   unfold fC
   show (if p.of=Ref.zero then is else bump is (aW (done.map sC) p.of).toNat)=_
   rw [aAo]
  rw [e]
  have:=vP l (done++[p]) (fC done is p)
  rw [List.map_append] at this
  exact this
theorem aFx (l:List Posted):dQ (l.map sC)=dQ l:=vP l [] _
theorem aM6 (l:List Posted) (k:Nat):(eA l k).map sC=l.map sC:=by
 unfold eA
 split
 ·rfl
 ·rename_i p hp
  apply List.ext_getElem?
  intro j
  rw [List.getElem?_map,List.getElem?_map,List.getElem?_set]
  split
  ·rename_i e;subst e;rw [if_pos (List.getElem?_eq_some_iff.1 hp).1,hp];rfl
  ·rfl
theorem aV9 {l m:List Posted} (e:l.map sC=m.map sC) (h:∀ i p,l[i]?=some p→oG (l.take i) p):∀ i p,m[i]?=some p→oG (m.take i) p:=by
 intro i p hp
 have h1:(l.map sC)[i]?=some (sC p):=by rw [e,List.getElem?_map,hp];rfl
 rw [List.getElem?_map] at h1
 cases hq:l[i]? with
 | none=>rw [hq] at h1;cases h1
 | some q=>
  rw [hq] at h1
  have hqp:sC q=sC p:=Option.some.inj h1
  have:=h i q hq
  rw [←aOx,List.map_take,hqp,e,←List.map_take,aOx] at this
  exact this
theorem aBg {fin:List Bal→List Bal×Int}:∀ (l:List Posted) (a b:List Bal),aE bN (fun b=>(b,0)) l a=(b,0)→aE bN fin l a=fin b
 | [],a,b,h=>by cases h;rfl
 | p::l,a,b,h=>by
  simp only [aE] at h ⊢
  split at h
  ·rename_i r he
   unfold bN at he
   split at he
   ·rename_i hc;cases he;exact absurd (congrArg Prod.snd h) hc
   ·split at he
    ·rename_i hc;cases he;exact absurd (congrArg Prod.snd h) hc
    ·cases he
  ·exact aBg l _ b h
theorem aI1 {l:List Posted} {b:List Bal} (h:eM l=(b,0)) {p:Posted} (h1:(cH p.total).2=0) (h2:(bL b (cH p.total).1).2=0):eM (l++[p])=((bL b (cH p.total).1).1,0):=by
 unfold eM at h ⊢
 rw [aBb,aBg l [] b h]
 simp only [aE,bN,h1,h2,ne_eq,not_true_eq_false,if_false]
theorem xF {fin:List Bal→List Bal×Int}:∀ (l:List Posted) (a:List Bal),aE bN fin (l.map sC) a=aE bN fin l a
 | [],_=>rfl
 | p::l,a=>by
  simp only [List.map_cons,aE]
  have e:bN a (sC p)=bN a p:=rfl
  rw [e]
  split
  ·rfl
  ·exact xF l _
theorem aM7 {l m:List Posted} (e:l.map sC=m.map sC):eM l=eM m:=by
 unfold eM
 rw [←xF l,e,xF]
theorem aI2 (l:List Posted) (name:List UInt8):sU (l.map sC) name=sU l name:=by
 unfold sU
 rw [List.filter_map,List.length_map]
 rfl
theorem aY4 {ser:List Ser} {l m:List Posted} (e:l.map sC=m.map sC) (h:Nums ser l):Nums ser m:=by
 refine ⟨fun i p hp=>?_,fun s hs=>by rw [h.next s hs,←aI2 l,e,aI2]⟩
 have h1:(l.map sC)[i]?=some (sC p):=by rw [e,List.getElem?_map,hp];rfl
 rw [List.getElem?_map] at h1
 cases hq:l[i]? with
 | none=>rw [hq] at h1;cases h1
 | some q=>
  rw [hq] at h1
  have hqp:sC q=sC p:=Option.some.inj h1
  have hr:(sC q).ref=(sC p).ref:=congrArg Posted.ref hqp
  have hr:q.ref=p.ref:=hr
  obtain ⟨a,b⟩:=h.num i q hq
  rw [hr] at a b
  refine ⟨a,?_⟩
  rw [b,←aI2,List.map_take,e,←List.map_take,aI2]
theorem aJw {l:List Sess} (hs:l.Pairwise (fun a b=>a.id<b.id)) (n:Int):rT l n=true↔∀ s∈l,s.id<n:=by
 unfold rT
 cases h:l[l.length - 1]? with
 | none=>
  have:l=[]:=by
   rw [List.getElem?_eq_none_iff] at h
   cases l with
   | nil=>rfl
   | cons a l=>simp only [List.length_cons] at h;omega
  subst this
  simp
 | some s=>
  simp only [decide_eq_true_eq]
  constructor
  ·intro hn x hx
   obtain ⟨i,hi⟩:=List.mem_iff_getElem?.1 hx
   have hil:=(List.getElem?_eq_some_iff.1 hi).1
   by_cases c:i=l.length - 1
   ·subst c;rw [h] at hi;cases hi;exact hn
   ·have h1:=List.pairwise_iff_getElem.1 hs i (l.length - 1) hil (by omega) (by omega)
    rw [(List.getElem?_eq_some_iff.1 h).2,(List.getElem?_eq_some_iff.1 hi).2] at h1
    omega
  ·intro q;exact q s (List.mem_of_getElem? h)
def pD (l:List Sess) (n:Int):Prop:=l.length≤8∧(∀ s∈l,0<s.id∧0≤s.last∧s.last≤1099511627776∧(s.last=0→s.reply=Rep.zero))∧l.Pairwise (fun a b=>a.id<b.id)∧1≤n∧n≤1099511627776∧∀ s∈l,s.id<n
theorem vQ (s:State):iO s=true↔pD s.sess s.next:=by
 unfold iO pD
 constructor
 ·intro h
  repeat' split at h
  all_goals first | (cases h;done) | skip
  rename_i h1 h2 h3
  obtain ⟨a,b,c⟩:=(mZ _).1 h1
  exact ⟨a,b,c,h2,h3,(aJw c _).1 h⟩
 ·rintro ⟨a,b,c,d,e,f⟩
  rw [if_pos ((mZ _).2 ⟨a,b,c⟩),if_pos d,if_pos e]
  exact (aJw c _).2 f
theorem bZ (s:State):bW s=true↔dK s.table=true∧jP s.ser=true∧pD s.sess s.next∧jA s.posted=true∧Nums s.ser s.posted∧eM s.posted=(s.book,0):=by
 rw [←vQ]
 unfold bW
 constructor
 ·intro h
  repeat' split at h
  all_goals first | (cases h;done) | skip
  rename_i h1 h2 h3 h4 h5 h6
  have h2':jP s.ser=true:=by simpa using h2
  obtain ⟨a,b,c⟩:=(gC _).1 h2'
  exact ⟨by simpa using h1,h2',by simpa using h3,by simpa using h4,(zX c a _).1 (by simpa using h5),Prod.ext (of_decide_eq_true h) h6⟩
 ·rintro ⟨h1,h2,h3,h4,h5,h6⟩
  obtain ⟨a,b,c⟩:=(gC _).1 h2
  rw [if_neg (by rw [h1];simp),if_neg (by rw [h2];simp),if_neg (by rw [h3];simp),if_neg (by rw [h4];simp),if_neg (by rw [(zX c a _).2 h5];simp),if_pos (by rw [h6])]
  rw [h6];simp
theorem aDw {l:List Ser} {name:List UInt8} {limit:Int} (h:(fL l name limit).2=0):jP (fL l name limit).1=true∧(∀ s,s∈(fL l name limit).1↔s=⟨name,1,limit,false⟩∨s∈l)∧(∀ s∈l,s.name≠name)∧l.length<8:=by
 unfold fL at h ⊢
 split at h
 ·simp at h
 ·rename_i h1
  split at h
  ·simp at h
  ·rename_i h2
   split at h
   ·simp at h
   ·rename_i h3
    split at h
    ·simp at h
    ·rename_i h4
     split at h
     ·simp at h
     ·rename_i h5
      rw [if_neg h1,if_neg h2,if_neg h3,if_neg h4,if_neg h5]
      obtain ⟨a,b,c⟩:=(gC l).1 (by simpa using h1)
      have hn:=xE (l:=l) (name:=name) (by omega)
      refine ⟨?_,fun s=>nC _ _ _ _,hn,by omega⟩
      simp only
      rw [gC]
      refine ⟨by have:=pS l (fE (fun s=>fN s.name name) l) ⟨name,1,limit,false⟩;omega,fun s hs=>?_,?_⟩
      ·rcases (nC _ _ _ _).1 hs with rfl | hs
       ·refine ⟨by simpa using h2,?_⟩
        unfold mB
        rw [eX (by simp only;omega)]
        simp;omega
       ·exact b s hs
      ·rw [uZ]
       refine rZ c (fun a b c=>jK) (fun x hx hp=>hp) (fun x hx hp=>?_)
       rcases zW x.name name with q | q | q
       ·rw [hp] at q;cases q
       ·exact absurd q (hn x hx)
       ·exact q
theorem aVa {l:List Ser} {name:List UInt8} (h:(oO l name).2=0):jP (oO l name).1=true∧∃ (i:Nat) (s:Ser),l[i]?=some s∧s.name=name∧(oO l name).1=l.set i { s with shut:=true }:=by
 unfold oO at h ⊢
 split at h
 ·rename_i hc;exact absurd h hc
 ·rename_i hc
  rw [if_neg hc]
  obtain ⟨h1,i,s,e1,e2,h3,h4,h5⟩:=zH (Decidable.not_not.1 hc)
  rw [e1]
  simp only [Int.toNat_natCast,h3]
  refine ⟨?_,i,s,h3,h4,rfl⟩
  obtain ⟨a,b,c⟩:=(gC l).1 h1
  rw [gC]
  refine ⟨by rw [List.length_set];exact a,fun x hx=>?_,xD (key:=fun s:Ser=>s.name) c h3 rfl⟩
  rcases List.mem_or_eq_of_mem_set hx with hx | rfl
  ·exact b x hx
  ·exact b s (List.mem_of_getElem? h3)
theorem aVb {l:List Ser} {name:List UInt8} (h:(cL l name).2.2=0):jP (cL l name).1=true∧∃ (i:Nat) (s:Ser),l[i]?=some s∧s.name=name∧s.shut=false∧s.next≤s.limit∧(cL l name)=(l.set i { s with next:=s.next+1 },s.next,0):=by
 unfold cL at h ⊢
 split at h
 ·rename_i hc;exact absurd h hc
 ·rename_i hc
  rw [if_neg hc]
  obtain ⟨h1,i,s,e1,e2,h3,h4,h5⟩:=zH (Decidable.not_not.1 hc)
  rw [e1] at h ⊢
  simp only [Int.toNat_natCast,h3] at h ⊢
  split at h
  ·simp at h
  ·rename_i h6
   rw [if_neg h6]
   obtain ⟨a,b,c⟩:=(gC l).1 h1
   have hb:=(b s (List.mem_of_getElem? h3)).2
   unfold mB at hb
   simp only [Bool.or_eq_false_iff,decide_eq_false_iff_not] at hb
   obtain ⟨b1,b2,b3,b4⟩:=hb
   rw [eX (by omega)] at b4
   rw [eX (n:=s.next+1) (by omega)]
   refine ⟨?_,i,s,h3,h4,h5,by omega,rfl⟩
   rw [gC]
   refine ⟨by rw [List.length_set];exact a,fun x hx=>?_,xD (key:=fun s:Ser=>s.name) c h3 rfl⟩
   rcases List.mem_or_eq_of_mem_set hx with hx | rfl
   ·exact b x hx
   ·refine ⟨(b s (List.mem_of_getElem? h3)).1,?_⟩
    unfold mB
    rw [eX (by simp only;omega)]
    simp only [Bool.or_eq_false_iff,decide_eq_false_iff_not]
    omega
theorem aQq {l:List Ser} {post:List Posted} {name:List UInt8} {limit:Int} (h:(fL l name limit).2=0) (hn:Nums l post):Nums (fL l name limit).1 post:=by
 obtain ⟨_,hm,hne,_⟩:=aDw h
 refine ⟨fun i p hp=>?_,fun s hs=>?_⟩
 ·obtain ⟨⟨s,h1,h2⟩,h3⟩:=hn.num i p hp
  exact ⟨⟨s,(hm s).2 (.inr h1),h2⟩,h3⟩
 ·rcases (hm s).1 hs with rfl | hs
  ·have:sU post name=0:=by
    unfold sU
    rw [List.filter_eq_nil_iff.2]
    ·rfl
    ·intro p hp hc
     obtain ⟨i,hi⟩:=List.mem_iff_getElem?.1 hp
     obtain ⟨⟨s,h1,h2⟩,_⟩:=hn.num i p hi
     exact hne s h1 (by rw [h2];simpa using hc)
   show (1:Int)=sU post name+1
   omega
  ·exact hn.next s hs
theorem aVc {l:List Ser} {post:List Posted} {i:Nat} {s:Ser} (hi:l[i]?=some s) (hn:Nums l post):Nums (l.set i { s with shut:=true }) post:=by
 have hmem:{ s with shut:=true }∈l.set i { s with shut:=true }:=List.mem_of_getElem? (i:=i) (by rw [List.getElem?_set,if_pos rfl,if_pos (List.getElem?_eq_some_iff.1 hi).1])
 refine ⟨fun j p hp=>?_,fun x hx=>?_⟩
 ·obtain ⟨⟨y,h1,h2⟩,h3⟩:=hn.num j p hp
  obtain ⟨k,hk⟩:=List.mem_iff_getElem?.1 h1
  refine ⟨?_,h3⟩
  by_cases c:i=k
  ·subst c;rw [hi] at hk;cases hk;exact ⟨_,hmem,h2⟩
  ·exact ⟨y,List.mem_of_getElem? (i:=k) (by rw [List.getElem?_set,if_neg c];exact hk),h2⟩
 ·rcases List.mem_or_eq_of_mem_set hx with hx | rfl
  ·exact hn.next x hx
  ·exact hn.next s (List.mem_of_getElem? hi)
theorem aQr {l:List Ser} (hs:l.Pairwise (fun a b=>fN a.name b.name=true)) {post:List Posted} {i:Nat} {s:Ser} (hi:l[i]?=some s) (hn:Nums l post) {p:Posted} (hp:p.ref=⟨s.name,s.next⟩):Nums (l.set i { s with next:=s.next+1 }) (post++[p]):=by
 have hmem:{ s with next:=s.next+1 }∈l.set i { s with next:=s.next+1 }:=List.mem_of_getElem? (i:=i) (by rw [List.getElem?_set,if_pos rfl,if_pos (List.getElem?_eq_some_iff.1 hi).1])
 have hrs:p.ref.ser=s.name:=by rw [hp]
 have hrn:p.ref.num=s.next:=by rw [hp]
 refine ⟨fun j q hq=>?_,fun x hx=>?_⟩
 ·by_cases hj:j<post.length
  ·rw [List.getElem?_append_left hj] at hq
   rw [List.take_append_of_le_length (by omega)]
   obtain ⟨⟨y,h1,h2⟩,h3⟩:=hn.num j q hq
   obtain ⟨k,hk⟩:=List.mem_iff_getElem?.1 h1
   refine ⟨?_,h3⟩
   by_cases c:i=k
   ·subst c;rw [hi] at hk;cases hk;exact ⟨_,hmem,h2⟩
   ·exact ⟨y,List.mem_of_getElem? (i:=k) (by rw [List.getElem?_set,if_neg c];exact hk),h2⟩
  ·have hjl:j=post.length:=by
    have:=(List.getElem?_eq_some_iff.1 hq).1
    simp only [List.length_append,List.length_cons,List.length_nil] at this
    omega
   subst hjl
   rw [List.getElem?_append_right (Nat.le_refl _),Nat.sub_self] at hq
   cases hq
   rw [List.take_append_of_le_length (Nat.le_refl _),List.take_length,hrs,hrn]
   exact ⟨⟨_,hmem,rfl⟩,hn.next s (List.mem_of_getElem? hi)⟩
 ·rw [iH,sA,hrs]
  obtain ⟨k,hk⟩:=List.mem_iff_getElem?.1 hx
  rw [List.getElem?_set] at hk
  by_cases c:i=k
  ·rw [if_pos c,if_pos (List.getElem?_eq_some_iff.1 hi).1] at hk
   cases hk
   have:=hn.next s (List.mem_of_getElem? hi)
   simp only [if_true]
   omega
  ·rw [if_neg c] at hk
   have e1:=pU hs hk
   have e2:=pU hs hi
   have hne:¬ s.name=x.name:=fun e=>by rw [e,e1] at e2;exact c (by omega)
   rw [if_neg hne,Int.add_zero]
   exact hn.next x (List.mem_of_getElem? hk)
theorem bD7 {r:Rate}:∀ (l:List Rate) (k n:Nat),aE (iM r) some l k=some n→(∀ x∈l,¬ (x.cat=r.cat∧x.day=r.day))∧n=k+(l.filter fun x=>bE x r).length
 | [],k,n,h=>by cases h;simp
 | x::l,k,n,h=>by
  simp only [aE] at h
  split at h
  ·rename_i r' he
   unfold iM at he
   split at he
   ·cases he;cases h
   ·cases he
  ·rename_i s' he
   unfold iM at he
   split at he
   ·cases he
   ·rename_i hc
    cases he
    obtain ⟨a,b⟩:=bD7 l _ n h
    refine ⟨fun y hy=>?_,?_⟩
    ·rcases List.mem_cons.1 hy with rfl | hy
     ·simpa using hc
     ·exact a y hy
    ·rw [b,List.filter_cons]
     split
     ·rw [List.length_cons];omega
     ·rfl
theorem pE {α:Type} {p:α→Bool} {R:α→α→Prop}:∀ {l:List α},l.Pairwise R→(∀ a b,R a b→p b=true→p a=true)→l.filter p=l.takeWhile p
 | [],_,_=>rfl
 | x::l,hl,hp=>by
  rw [List.pairwise_cons] at hl
  rw [List.filter_cons,List.takeWhile_cons]
  split
  ·rw [pE hl.2 hp]
  ·rename_i c
   rw [List.filter_eq_nil_iff]
   intro y hy hc
   exact c (hp x y (hl.1 y hy) hc)
theorem aM8 {l:List Rate} {r:Rate} (h:(dE l r).2=0):dK (dE l r).1=true∧(dE l r).1=cY l (fE (fun x=>bE x r) l) r∧(∀ x∈l,¬ (x.cat=r.cat∧x.day=r.day)):=by
 unfold dE at h ⊢
 split at h
 ·simp at h
 ·rename_i h1
  split at h
  ·rename_i h2;exact absurd h h2
  ·rename_i h2
   rw [if_neg h1,if_neg h2]
   cases hr:aE (iM r) some l 0 with
   | none=>rw [hr] at h;simp at h
   | some k=>
    rw [hr] at h
    simp only at h ⊢
    split at h
    ·simp at h
    ·rename_i h3
     rw [if_neg h3]
     obtain ⟨a,b,c⟩:=(lC l).1 (by simpa using h1)
     obtain ⟨hne,hk⟩:=bD7 l 0 k hr
     have hpre:=pE (p:=fun x=>bE x r) c (fun a b=>mS)
     have hk':k=fE (fun x=>bE x r) l:=by
      unfold fE
      rw [gW,hk,hpre]
     rw [hk']
     refine ⟨?_,rfl,hne⟩
     rw [lC]
     have hrow:sS r=0:=Decidable.not_not.1 h2
     refine ⟨by have:=pS l (fE (fun x=>bE x r) l) r;simp only;omega,fun x hx=>?_,?_⟩
     ·rcases (nC _ _ _ _).1 hx with rfl | hx
      ·exact hrow
      ·exact b x hx
     ·rw [uZ]
      refine rZ c (fun a b c=>mS) (fun x hx hp=>hp) (fun x hx hp=>?_)
      rw [nU]
      have hp':¬ (fN x.cat r.cat=true∨x.cat=r.cat∧x.day.before r.day=true):=fun q=>by rw [(nU x r).2 q] at hp;cases hp
      rcases zW x.cat r.cat with q | q | q
      ·exact absurd (.inl q) hp'
      ·refine .inr ⟨q.symm,?_⟩
       have hx1:=(mT (b x hx)).2.1
       have hr1:=(mT hrow).2.1
       unfold Date.before at hp' ⊢
       simp only [hx1,hr1,Bool.true_and,decide_eq_true_eq] at hp' ⊢
       have hd:x.day.days≠r.day.days:=fun e=>hne x hx ⟨q,aJs hx1 hr1 e⟩
       have:¬ x.day.days<r.day.days:=fun e=>hp' (.inr ⟨q,e⟩)
       omega
      ·exact .inl q
theorem aAp {s:State} {name:List UInt8} {p:Posted} (h:(aT s name p).2.why=0):
  (cL s.ser name).2.2=0∧s.posted.length<40∧(cH p.total).2=0∧(bL s.book (cH p.total).1).2=0 ∧
   aT s name p=({ s with ser:=(cL s.ser name).1,book:=(bL s.book (cH p.total).1).1,posted:=s.posted++[{ p with ref:=⟨name,(cL s.ser name).2.1⟩ }] },⟨0,(cL s.ser name).2.1,p.total.gross⟩):=by
 unfold aT at h ⊢
 split at h
 ·rename_i hc;exact absurd h hc
 ·rename_i h1
  split at h
  ·simp [why] at h
  ·rename_i h2
   split at h
   ·rename_i hc;exact absurd h hc
   ·rename_i h3
    split at h
    ·rename_i hc;exact absurd h hc
    ·rename_i h4
     rw [if_neg h1,if_neg h2,if_neg h3,if_neg h4]
     exact ⟨Decidable.not_not.1 h1,by omega,Decidable.not_not.1 h3,Decidable.not_not.1 h4,rfl⟩
theorem aFy {s:State} {name:List UInt8} {p:Posted} (h:(aT s name p).2.why≠0):(aT s name p).1=s∧(aT s name p).2=why (aT s name p).2.why:=by
 unfold aT at h ⊢
 split at h
 ·rename_i h1;rw [if_pos h1];exact ⟨rfl,rfl⟩
 ·rename_i h1
  rw [if_neg h1]
  split at h
  ·rename_i h2;rw [if_pos h2];exact ⟨rfl,rfl⟩
  ·rename_i h2
   rw [if_neg h2]
   split at h
   ·rename_i h3;rw [if_pos h3];exact ⟨rfl,rfl⟩
   ·rename_i h3
    rw [if_neg h3]
    split at h
    ·rename_i h4;rw [if_pos h4];exact ⟨rfl,rfl⟩
    ·exact absurd rfl h
theorem aBh {s:State} {name:List UInt8} {p:Posted} (hr:bW s=true) (h:(aT s name p).2.why=0) {X:List Posted} (hX:X.map sC=(s.posted++[{ p with ref:=⟨name,(cL s.ser name).2.1⟩ }]).map sC)
  (hok:oG s.posted p) (hback:∀ i q,X[i]?=some q→(dQ X).getD i 0≤1∧q.back=decide ((dQ X).getD i 0=1)):
  bW { (aT s name p).1 with posted:=X }=true:=by
 obtain ⟨h1,h2,h3,h4,h5⟩:=aAp h
 obtain ⟨r1,r2,r3,r4,r5,r6⟩:=(bZ s).1 hr
 obtain ⟨t1,i,ser,t2,t3,t4,t5,t6⟩:=aVb h1
 rw [h5,bZ]
 obtain ⟨c1,c2,c3⟩:=(gC s.ser).1 r2
 refine ⟨r1,t1,r3,?_,?_,?_⟩
 ·show jA X=true
  rw [jL] at r4 ⊢
  refine ⟨?_,aV9 hX.symm (fun j q hq=>?_),hback⟩
  ·have:=congrArg List.length hX
   simp only [List.length_map,List.length_append,List.length_cons,List.length_nil] at this
   omega
  ·by_cases hj:j<s.posted.length
   ·rw [List.getElem?_append_left hj] at hq
    rw [List.take_append_of_le_length (by omega)]
    exact r4.2.1 j q hq
   ·have hjl:j=s.posted.length:=by
     have:=(List.getElem?_eq_some_iff.1 hq).1
     simp only [List.length_append,List.length_cons,List.length_nil] at this
     omega
    subst hjl
    rw [List.getElem?_append_right (Nat.le_refl _),Nat.sub_self] at hq
    cases hq
    rw [List.take_append_of_le_length (Nat.le_refl _),List.take_length]
    exact hok
 ·show Nums (cL s.ser name).1 X
  refine aY4 hX.symm ?_
  rw [t6]
  exact aQr c3 t2 r5 (p:={ p with ref:=⟨name,ser.next⟩ }) (by rw [←t3])
 ·show eM X=_
  rw [aM7 hX]
  exact aI1 r6 h3 h4
def xG (s:State):Prop:=∀ p∈s.posted,∀ q∈p.total.parts,eF q.net∧eF q.tax
theorem aQs {l:List Posted} (hl:∀ i p,l[i]?=some p→oG (l.take i) p) {p:Posted} (hp:oG l p) (hb:p.back=false) (hof:p.of=Ref.zero) (h:∀ i q,l[i]?=some q→(dQ l).getD i 0≤1∧q.back=decide ((dQ l).getD i 0=1)) (r:Ref):
  ∀ i q,(l++[{ p with ref:=r }])[i]?=some q→(dQ (l++[{ p with ref:=r }])).getD i 0≤1∧q.back=decide ((dQ (l++[{ p with ref:=r }])).getD i 0=1):=by
 intro i q hq
 have e:dQ (l++[{ p with ref:=r }])=dQ l:=by rw [pC];unfold fC;rw [if_pos hof]
 rw [e]
 by_cases hi:i<l.length
 ·rw [List.getElem?_append_left hi] at hq
  exact h i q hq
 ·have hil:i=l.length:=by
   have:=(List.getElem?_eq_some_iff.1 hq).1
   simp only [List.length_append,List.length_cons,List.length_nil] at this
   omega
  subst hil
  rw [List.getElem?_append_right (Nat.le_refl _),Nat.sub_self] at hq
  cases hq
  rw [(sD hl).2.1 _ (Nat.le_refl _)]
  exact ⟨by omega,hb⟩
theorem aM9 {s:State} (hr:bW s=true) (hi:xG s) (c:Cmd):bW (lR s c).1=true∧xG (lR s c).1:=by
 unfold lR
 split
 ·exact ⟨hr,hi⟩
 ·rename_i h1
  obtain ⟨a1,a2,a3⟩:=aHz (Decidable.not_not.1 h1)
  by_cases hw:(aT s c.series ⟨Ref.zero,c.day,(dN s.table c.day c.lines).1,Ref.zero,false⟩).2.why=0
  ·obtain ⟨_,_,_,_,h5⟩:=aAp hw
   obtain ⟨r1,r2,r3,r4,r5,r6⟩:=(bZ s).1 hr
   obtain ⟨p1,p2,p3⟩:=(jL _).1 r4
   have hok:oG s.posted ⟨Ref.zero,c.day,(dN s.table c.day c.lines).1,Ref.zero,false⟩:=⟨a1,a2,.inl rfl⟩
   have:=aBh (X:=(aT s c.series ⟨Ref.zero,c.day,(dN s.table c.day c.lines).1,Ref.zero,false⟩).1.posted) hr hw (by rw [h5]) hok (by rw [h5];exact aQs p2 hok rfl rfl p3 _)
   refine ⟨this,fun p hp=>?_⟩
   rw [h5] at hp
   rcases List.mem_append.1 hp with hp | hp
   ·exact hi p hp
   ·rw [List.mem_singleton.1 hp];exact a3
  ·rw [(aFy hw).1];exact ⟨hr,hi⟩
theorem xH {ser:List Ser} {l:List Posted} (h:Nums ser l) {i j:Nat} {p q:Posted} (hi:l[i]?=some p) (hj:l[j]?=some q) (e:p.ref=q.ref):i=j:=by
 have key:∀ {i j:Nat} {p q:Posted},l[i]?=some p→l[j]?=some q→p.ref=q.ref→¬ i<j:=by
  intro i j p q hi hj e hlt
  have h1:=(h.num i p hi).2
  have h2:=(h.num j q hj).2
  have hjl:=(List.getElem?_eq_some_iff.1 hj).1
  have hpre:l.take j=l.take i++(l.take j).drop i:=by
   conv=>lhs;rw [←List.take_append_drop i (l.take j)]
   rw [List.take_take,Nat.min_eq_left (by omega)]
  have hmem:((l.take j).drop i)[0]?=some p:=by
   rw [List.getElem?_drop,List.getElem?_take,if_pos (by omega)];exact hi
  have hc:1≤sU ((l.take j).drop i) q.ref.ser:=by
   cases hd:(l.take j).drop i with
   | nil=>rw [hd] at hmem;cases hmem
   | cons a r=>
    rw [hd] at hmem
    cases hmem
    have:=iH [p] r q.ref.ser
    rw [sA,if_pos (by rw [e])] at this
    have:=sB r q.ref.ser
    show 1≤sU ([p]++r) q.ref.ser
    omega
  rw [hpre,iH] at h2
  rw [e] at h1
  omega
 have h1:=key hi hj e
 have h2:=key hj hi e.symm
 omega
theorem aOy {ser:List Ser} {l:List Posted} (h:Nums ser l) {p:Posted} (hp:p∈l):1≤p.ref.num:=by
 obtain ⟨i,hi⟩:=List.mem_iff_getElem?.1 hp
 have:=(h.num i p hi).2
 have:=sB (l.take i) p.ref.ser
 omega
theorem aI3 {s:State} (hr:bW s=true) (hi:xG s) (c:Cmd):bW (eN s c).1=true∧xG (eN s c).1:=by
 obtain ⟨r1,r2,r3,r4,r5,r6⟩:=(bZ s).1 hr
 obtain ⟨p1,p2,p3⟩:=(jL _).1 r4
 unfold eN
 split
 ·exact ⟨hr,hi⟩
 ·rename_i h0
  rcases kG s.posted c.of with e | ⟨k,x,e,hk,hx⟩
  ·exact absurd (by rw [e];decide) h0
  ·have hg:s.posted.getD (aW s.posted c.of).toNat Posted.zero=x:=by rw [e,Int.toNat_natCast,List.getD_eq_getElem?_getD,hk];rfl
   rw [hg]
   have hxm:=List.mem_of_getElem? hk
   unfold eW
   split
   ·exact ⟨hr,hi⟩
   ·rename_i h1
    split
    ·rename_i h2
     split
     ·exact ⟨hr,hi⟩
     ·rename_i h3
      split
      ·exact ⟨hr,hi⟩
      ·rename_i h4
       split
       ·exact ⟨hr,hi⟩
       ·rename_i h5
        have h5:=Decidable.not_not.1 h5
        have hxr:=p2 k x hk
        obtain ⟨b1,b2,b3⟩:=aDv (hi x hxm) hxr.2.1 h5
        split
        ·rename_i h6
         obtain ⟨_,_,_,_,h7⟩:=aAp h6
         have hofz:c.of≠Ref.zero:=by
          intro q
          have:=aOy r5 hxm
          rw [hx,q] at this
          exact absurd this (by decide)
         have htk:kH ⟨Ref.zero,c.day,(aV x.total).1,c.of,false⟩ x=true:=by
          unfold kH
          rw [if_pos h2,if_pos (by simpa using h4),if_pos h5]
          simp
         have hok:oG s.posted ⟨Ref.zero,c.day,(aV x.total).1,c.of,false⟩:=by
          refine ⟨by simpa using h3,b1,.inr ⟨by show 0≤aW s.posted c.of;omega,?_⟩⟩
          show kH _ (s.posted.getD (aW s.posted c.of).toNat aJt)=true
          rw [e,Int.toNat_natCast,List.getD_eq_getElem?_getD,hk]
          exact htk
         have hposted:(aT s c.series ⟨Ref.zero,c.day,(aV x.total).1,c.of,false⟩).1.posted=s.posted++[⟨⟨c.series,(cL s.ser c.series).2.1⟩,c.day,(aV x.total).1,c.of,false⟩]:=by rw [h7]
         have hkl:=(List.getElem?_eq_some_iff.1 hk).1
         have hset:eA (aT s c.series ⟨Ref.zero,c.day,(aV x.total).1,c.of,false⟩).1.posted (aW s.posted c.of).toNat=s.posted.set k { x with back:=true }++[⟨⟨c.series,(cL s.ser c.series).2.1⟩,c.day,(aV x.total).1,c.of,false⟩]:=by
          rw [hposted,e,Int.toNat_natCast]
          unfold eA
          rw [List.getElem?_append_left hkl,hk]
          simp only
          rw [List.set_append_left _ _ hkl]
         have hnb:=aM6 (aT s c.series ⟨Ref.zero,c.day,(aV x.total).1,c.of,false⟩).1.posted (aW s.posted c.of).toNat
         have hcnt:dQ (eA (aT s c.series ⟨Ref.zero,c.day,(aV x.total).1,c.of,false⟩).1.posted (aW s.posted c.of).toNat)=bump (dQ s.posted) k:=by
          rw [←aFx,hnb,aFx,hposted,pC]
          unfold fC
          rw [if_neg hofz]
          show bump (dQ s.posted) (aW s.posted c.of).toNat=_
          rw [e,Int.toNat_natCast]
         obtain ⟨g1,g2,g3⟩:=sD p2
         have hbk:∀ i,(bump (dQ s.posted) k).getD i 0=(dQ s.posted).getD i 0+(if i=k then 1 else 0):=by
          intro i
          unfold bump
          simp only [List.getD_eq_getElem?_getD,List.getElem?_set]
          by_cases q:k=i
          ·subst q;rw [if_pos rfl,if_pos (by omega),if_pos rfl];rfl
          ·rw [if_neg q,if_neg (fun q2=>q q2.symm),Int.add_zero]
         have h0k:(dQ s.posted).getD k 0=0:=by
          obtain ⟨q1,q2⟩:=p3 k x hk
          have h1':x.back=false:=by simpa using h1
          rw [h1'] at q2
          have q3:=of_decide_eq_false q2.symm
          have:=g1 k
          omega
         have:=aBh (X:=eA (aT s c.series ⟨Ref.zero,c.day,(aV x.total).1,c.of,false⟩).1.posted (aW s.posted c.of).toNat) hr h6 (by rw [hnb,hposted]) hok (by
          rw [hcnt,hset]
          intro i q hq
          rw [hbk]
          by_cases hil:i<s.posted.length
          ·rw [List.getElem?_append_left (by rw [List.length_set];exact hil),List.getElem?_set] at hq
           by_cases ck:k=i
           ·subst ck
            rw [if_pos rfl,if_pos hil] at hq
            cases hq
            rw [h0k,if_pos rfl]
            exact ⟨by decide,rfl⟩
           ·rw [if_neg ck] at hq
            rw [if_neg (fun q2=>ck q2.symm),Int.add_zero]
            exact p3 i q hq
          ·have hieq:i=s.posted.length:=by
            have:=(List.getElem?_eq_some_iff.1 hq).1
            simp only [List.length_append,List.length_cons,List.length_nil,List.length_set] at this
            omega
           subst hieq
           rw [List.getElem?_append_right (by rw [List.length_set];exact Nat.le_refl _),List.length_set,Nat.sub_self] at hq
           cases hq
           rw [g2 _ (Nat.le_refl _),if_neg (by omega)]
           exact ⟨by decide,rfl⟩)
         refine ⟨this,fun p hp=>?_⟩
         have hp:p∈eA (aT s c.series ⟨Ref.zero,c.day,(aV x.total).1,c.of,false⟩).1.posted (aW s.posted c.of).toNat:=hp
         rw [hset] at hp
         rcases List.mem_append.1 hp with hp | hp
         ·rcases List.mem_or_eq_of_mem_set hp with hp | rfl
          ·exact hi p hp
          ·exact hi x hxm
         ·rw [List.mem_singleton.1 hp];exact b2
        ·rename_i h6
         rw [(aFy h6).1];exact ⟨hr,hi⟩
    ·exact ⟨hr,hi⟩
theorem aFz {s:State} (hr:bW s=true) {l:List Ser} (h1:jP l=true) (h2:Nums l s.posted):bW { s with ser:=l }=true:=by
 obtain ⟨r1,r2,r3,r4,r5,r6⟩:=(bZ s).1 hr
 exact (bZ _).2 ⟨r1,h1,r3,r4,h2,r6⟩
theorem xI {s:State} (hr:bW s=true) {l:List Sess} {n:Int} (h1:pD l n):bW { s with sess:=l,next:=n }=true:=by
 obtain ⟨r1,r2,r3,r4,r5,r6⟩:=(bZ s).1 hr
 exact (bZ _).2 ⟨r1,r2,h1,r4,r5,r6⟩
theorem aMa {s:State} (hr:bW s=true):bW (lH s).1=true∧((lH s).1.posted=s.posted):=by
 obtain ⟨r1,r2,r3,r4,r5,r6⟩:=(bZ s).1 hr
 obtain ⟨a,b,c,d,e,f⟩:=r3
 unfold lH
 split
 ·exact ⟨hr,rfl⟩
 ·rename_i h1
  split
  ·exact ⟨hr,rfl⟩
  ·rename_i h2
   have h2:=Decidable.not_not.1 h2
   refine ⟨?_,rfl⟩
   show bW { s with sess:=(oN s.sess s.next).1,next:=wr .i64 (s.next+1) }=true
   rw [eX (by omega)]
   refine xI hr ?_
   unfold oN at h2 ⊢
   split at h2
   ·simp at h2
   ·rename_i j1
    split at h2
    ·simp at h2
    ·rename_i j2
     split at h2
     ·simp at h2
     ·rename_i j3
      rw [if_neg j1,if_neg j2,if_neg j3]
      refine ⟨by have:=pS s.sess (fE (fun x=>decide (x.id<s.next)) s.sess) ⟨s.next,0,Rep.zero⟩;simp only;omega,fun x hx=>?_,?_,by omega,by omega,fun x hx=>?_⟩
      ·rcases (nC _ _ _ _).1 hx with rfl | hx
       ·exact ⟨by show 0<s.next;omega,by simp,by simp,fun _=>rfl⟩
       ·exact b x hx
      ·simp only
       rw [uZ]
       refine rZ c (fun a b c h1 h2=>by omega) (fun x hx hp=>by simpa using hp) (fun x hx hp=>?_)
       have:=f x hx
       simp at hp
       show s.next<x.id
       omega
      ·rcases (nC _ _ _ _).1 hx with rfl | hx
       ·show s.next<s.next+1;omega
       ·have:=f x hx;omega
theorem aVd {l:List Sess} {n id:Int} (h:pD l n):(iZ l id).2=0→pD (iZ l id).1 n:=by
 intro h0
 obtain ⟨a,b,c,d,e,f⟩:=h
 unfold iZ at h0 ⊢
 split at h0
 ·simp at h0
 ·rename_i h1
  split at h0
  ·simp at h0
  ·rename_i h2
   rw [if_neg h1,if_neg h2]
   have hsub:(mA l (cE l id).toNat).Sublist l:=by
    unfold mA
    conv=>rhs;rw [←List.take_append_drop (cE l id).toNat l]
    refine List.Sublist.append (List.Sublist.refl _) ?_
    rw [←List.drop_drop]
    exact List.drop_sublist _ _
   exact ⟨by have:=hsub.length_le;simp only;omega,fun x hx=>b x (hsub.subset hx),c.sublist hsub,d,e,fun x hx=>f x (hsub.subset hx)⟩
theorem aY5 {l:List Sess} {n id seq:Int} {r:Rep} (h:pD l n):(kS l id seq r).2=0→pD (kS l id seq r).1 n:=by
 intro h0
 obtain ⟨a,b,c,d,e,f⟩:=h
 unfold kS at h0 ⊢
 split at h0
 ·rename_i hc;exact absurd h0 hc
 ·rename_i h1
  have h1':=Decidable.not_not.1 h1
  split at h0
  ·simp at h0
  ·rename_i h2
   rw [if_neg h1,if_neg h2]
   obtain ⟨hs,i,s,e1,e2⟩:=aDg h1'
   rw [e1,Int.toNat_natCast,e2]
   have hseq:1≤seq∧seq≤1099511627776:=by
    unfold bK at h1'
    rw [if_neg (by rw [hs];simp),if_neg (by omega)] at h1'
    split at h1'
    ·simp at h1'
    ·omega
   have hsm:=List.mem_of_getElem? e2
   refine ⟨by simp only [List.length_set];exact a,fun x hx=>?_,?_,d,e,fun x hx=>?_⟩
   ·rcases List.mem_or_eq_of_mem_set hx with hx | rfl
    ·exact b x hx
    ·exact ⟨(b s hsm).1,by simp only;omega,by simp only;omega,fun q=>by simp only at q;omega⟩
   ·simp only
    have hm:∀ l:List Sess,l.Pairwise (fun a b=>a.id<b.id)↔(l.map (·.id)).Pairwise (fun a b=>a<b):=fun l=>(List.pairwise_map (f:=fun s:Sess=>s.id) (R:=fun a b=>a<b)).symm
    rw [hm] at c ⊢
    have:(l.set i ⟨s.id,seq,r⟩).map (·.id)=l.map (·.id):=by
     apply List.ext_getElem?
     intro j
     rw [List.getElem?_map,List.getElem?_map,List.getElem?_set]
     split
     ·rename_i e;subst e;rw [if_pos (List.getElem?_eq_some_iff.1 e2).1,e2];rfl
     ·rfl
    rw [this];exact c
   ·rcases List.mem_or_eq_of_mem_set hx with hx | rfl
    ·exact f x hx
    ·exact f s hsm
theorem aDx {s:State} (hr:bW s=true) (hi:xG s) (c:Cmd):bW (mC s c).1=true∧xG (mC s c).1:=by
 obtain ⟨r1,r2,r3,r4,r5,r6⟩:=(bZ s).1 hr
 unfold mC
 split
 ·unfold fB
  split
  ·rename_i h
   exact ⟨aFz hr (aDw h).1 (aQq h r5),hi⟩
  ·exact ⟨hr,hi⟩
 ·split
  ·unfold fB
   split
   ·rename_i h
    obtain ⟨a,i,x,b1,b2,b3⟩:=aVa h
    exact ⟨aFz hr a (by rw [b3];exact aVc b1 r5),hi⟩
   ·exact ⟨hr,hi⟩
  ·split
   ·unfold jB
    split
    ·rename_i h
     exact ⟨(bZ _).2 ⟨(aM8 h).1,r2,r3,r4,r5,r6⟩,hi⟩
    ·exact ⟨hr,hi⟩
   ·split
    ·exact aM9 hr hi c
    ·split
     ·exact aI3 hr hi c
     ·split
      ·unfold gQ
       split
       ·rename_i h
        exact ⟨xI (n:=s.next) hr (aVd r3 h),hi⟩
       ·exact ⟨hr,hi⟩
      ·exact ⟨hr,hi⟩
theorem aJx {s:State} (hr:bW s=true) (hi:xG s) (c:Call):bW (eO s c).1=true∧xG (eO s c).1:=by
 unfold eO
 rw [if_neg (by rw [hr];simp)]
 split
 ·exact ⟨hr,hi⟩
 ·split
  ·obtain ⟨a,b⟩:=aMa hr
   exact ⟨a,fun p hp=>hi p (by rw [b] at hp;exact hp)⟩
  ·split
   ·exact ⟨hr,hi⟩
   ·split
    ·exact ⟨hr,hi⟩
    ·obtain ⟨a,b⟩:=aDx hr hi c.cmd
     unfold iP
     split
     ·rename_i h
      exact ⟨xI (n:=(mC s c.cmd).1.next) a (aY5 ((bZ _).1 a).2.2.1 h),b⟩
     ·exact ⟨a,b⟩
theorem aG0:bW State.new=true∧xG State.new:=⟨by decide,fun p hp=>by cases hp⟩
def aOz (x:Sess) (seq:Int):Rep×Bool×Int:=if seq<1∨1099511627776<seq then (Rep.zero,false,1) else if seq=x.last then (x.reply,true,0) else if seq<x.last then (Rep.zero,false,16) else (Rep.zero,false,0)
theorem pW {l:List Sess} (hs:l.Pairwise (fun a b=>a.id<b.id)) {i:Nat} {s:Sess} (h:l[i]?=some s):cE l s.id=(i:Int):=by
 refine aFw h (by simp) (fun j b hj hb=>?_)
 have h1:=List.pairwise_iff_getElem.1 hs j i (List.getElem?_eq_some_iff.1 hb).1 (List.getElem?_eq_some_iff.1 h).1 hj
 rw [(List.getElem?_eq_some_iff.1 hb).2,(List.getElem?_eq_some_iff.1 h).2] at h1
 simp only [decide_eq_false_iff_not]
 omega
theorem aJy {l:List Sess} (h:eG l=true) {i:Nat} {x:Sess} (hx:l[i]?=some x) (seq:Int):bK l x.id seq=aOz x seq:=by
 have e:=pW ((mZ l).1 h).2.2 hx
 unfold bK aOz
 rw [if_neg (by rw [h];simp),e,if_neg (by omega),Int.toNat_natCast,hx]
theorem aVe {l:List Sess} {id seq:Int} (h:(bK l id seq).2.2=0) (h2:(bK l id seq).2.1=false):eG l=true∧∃ (i:Nat) (x:Sess),l[i]?=some x∧x.id=id∧1≤seq∧seq≤1099511627776∧x.last<seq:=by
 obtain ⟨hs,i,x,e,hi⟩:=aDg h
 have hid:x.id=id:=by
  rcases gL l id with e1 | ⟨j,y,e1,e2,e3⟩
  ·rw [e1] at e;omega
  ·rw [e1] at e
   have:j=i:=by omega
   subst this
   rw [hi] at e2;cases e2;exact e3
 subst hid
 rw [aJy hs hi] at h h2
 unfold aOz at h h2
 split at h
 ·simp at h
 ·rename_i h3
  rw [if_neg h3] at h2
  split at h
  ·rename_i h4;rw [if_pos h4] at h2;simp at h2
  ·rename_i h4
   split at h
   ·simp at h
   ·rename_i h5
    exact ⟨hs,i,x,hi,rfl,by omega,by omega,by omega⟩
theorem aVf {l:List Sess} (h:eG l=true) {i:Nat} {x:Sess} (hx:l[i]?=some x) {seq:Int} (h1:1≤seq) (h2:seq≤1099511627776) (h3:x.last<seq) (r:Rep):kS l x.id seq r=(l.set i ⟨x.id,seq,r⟩,0):=by
 have e:=pW ((mZ l).1 h).2.2 hx
 have el:bK l x.id seq=(Rep.zero,false,0):=by
  rw [aJy h hx];unfold aOz
  rw [if_neg (by omega),if_neg (by omega),if_neg (by omega)]
 unfold kS
 rw [el,if_neg (by simp),if_neg (by simp),e,Int.toNat_natCast,hx]
theorem aCd {s:State} (hr:bW s=true):eG s.sess=true:=by
 obtain ⟨a,b,c,_⟩:=((bZ s).1 hr).2.2.1
 exact (mZ _).2 ⟨a,b,c⟩
theorem aY6 (s:State) (c:Cmd):(mC s c).1.sess=s.sess∨(c.kind=7∧(iZ s.sess c.session).2=0∧(mC s c).1.sess=(iZ s.sess c.session).1):=by
 have hi:∀ name p,(aT s name p).1.sess=s.sess:=by
  intro name p
  unfold aT
  repeat' split
  all_goals rfl
 unfold mC
 split
 ·unfold fB;split<;>exact .inl rfl
 ·split
  ·unfold fB;split<;>exact .inl rfl
  ·split
   ·unfold jB;split<;>exact .inl rfl
   ·split
    ·unfold lR
     split
     ·exact .inl rfl
     ·exact .inl (hi _ _)
    ·split
     ·unfold eN eW
      repeat' split
      all_goals first | exact .inl rfl | exact .inl (hi _ _)
     ·split
      ·rename_i h7
       unfold gQ
       split
       ·rename_i h;exact .inr ⟨h7,h,rfl⟩
       ·exact .inl rfl
      ·exact .inl rfl
theorem aQt {l:List Sess} {id:Int} (h:(iZ l id).2=0) {n:Int} (hs:pD l n):∀ x,x∈(iZ l id).1↔x∈l∧x.id≠id:=by
 unfold iZ at h ⊢
 split at h
 ·simp at h
 ·rename_i h1
  split at h
  ·simp at h
  ·rename_i h2
   rw [if_neg h1,if_neg h2]
   rcases gL l id with e | ⟨i,y,e,hi,hy⟩
   ·rw [e] at h2;exact absurd (by decide) h2
   ·simp only [e,Int.toNat_natCast]
    intro x
    unfold mA
    rw [List.mem_append]
    have hp:=hs.2.2.1
    have hil:=(List.getElem?_eq_some_iff.1 hi).1
    have key:∀ j z,l[j]?=some z→(z.id=id↔j=i):=by
     intro j z hz
     constructor
     ·intro hzid
      have e1:=pW hp hz
      rw [hzid,e] at e1;omega
     ·rintro rfl;rw [hi] at hz;cases hz;exact hy
    constructor
    ·rintro (hx | hx)
     ·obtain ⟨j,hj⟩:=List.mem_iff_getElem?.1 hx
      rw [List.getElem?_take] at hj
      split at hj
      ·rename_i hji
       exact ⟨List.mem_of_getElem? hj,fun q=>by have:=(key j x hj).1 q;omega⟩
      ·cases hj
     ·obtain ⟨j,hj⟩:=List.mem_iff_getElem?.1 hx
      rw [List.getElem?_drop] at hj
      exact ⟨List.mem_of_getElem? hj,fun q=>by have:=(key _ x hj).1 q;omega⟩
    ·rintro ⟨hx,hne⟩
     obtain ⟨j,hj⟩:=List.mem_iff_getElem?.1 hx
     have hji:j≠i:=fun q=>hne ((key j x hj).2 q)
     by_cases c:j<i
     ·left;exact List.mem_of_getElem? (i:=j) (by rw [List.getElem?_take,if_pos c];exact hj)
     ·right;exact List.mem_of_getElem? (i:=j - (i+1)) (by rw [List.getElem?_drop,show i+1+(j - (i+1))=j from by omega];exact hj)
theorem aP0 (l:List Posted) (name:List UInt8):sU l name≤l.length:=by
 unfold sU
 have:=List.length_filter_le (fun p:Posted=>p.ref.ser == name) l
 omega
theorem aG1 (l:List Call) (n:Nat):∀ c∈sT l n,c.cmd.lines.length<1000000:=fun c hc=>by
 obtain ⟨d,_,rfl⟩:=List.mem_map.1 hc
 show (d.cmd.lines.take 15).length<1000000
 rw [List.length_take];omega
theorem a35 (l:List Call) (n:Nat) (hn:n≤1000) (S:St) (K:KW):C 35 [.agg [.imm [],.imm [],.imm [],.imm [],.imm [],.int .i64 1],.imm ((sT l n).map Call.enc)] S K=
  K (.tup [.agg [.imm ((iV State.new (sT l n)).1.table.map Rate.enc),.imm ((iV State.new (sT l n)).1.ser.map Ser.enc),.imm ((iV State.new (sT l n)).1.posted.map Posted.enc),.imm ((iV State.new (sT l n)).1.book.map Bal.enc),.imm ((iV State.new (sT l n)).1.sess.map Sess.enc),.int .i64 (iV State.new (sT l n)).1.next],.imm ((iV State.new (sT l n)).2.map Rep.enc)]) S:=
 g35 State.new (sT l n) Sml.new (by have:=aJg l n;omega) (aG1 l n) S K
end Go.Proofs.YtoaibmbldmckaaaGreat
end
section
namespace Go.AM
theorem Own.made {n:Nat} {S:St} {es:List (List V)} (h:∀ c,c∈es→c.length=n∧aJ c=true):Own E0 ⟨S.next+1,S.heap.put S.next (.row 0 n es)⟩ n (.sl S.next 0 n 0 es.length) es:=
 ⟨.inr ⟨S.next,0,[],rfl,Nat.zero_le _,Nat.lt_succ_self _,by rw [List.append_nil];exact Tr.get_put_sameB _ _ _ trivial⟩,h⟩
end Go.AM
namespace Go.Proofs.YtoaibmbldmckaaaGreat
open Go.AM Tryz
set_option linter.unusedVariables false
set_option linter.unusedSimpArgs false
set_option maxRecDepth 100000
def aDy (n:Int):Call:=⟨1,n,⟨4,[97],0,⟨[],⟨0,0,0⟩,0⟩,⟨2026,11,15⟩,[⟨[],[115,116,100],1,100⟩],Ref.zero,0⟩⟩
def aG2:Rate:=⟨[],⟨0,0,0⟩,0⟩
def Call.mem (c:Call):List V:=match c.cmd.lines with
 | []=>c.enc.set 13 .nils
 | _=>c.enc
end Go.Proofs.YtoaibmbldmckaaaGreat
end
section
namespace Go.AM
theorem bJh {n b:Nat} {S:St} {v:V} {es:List (List V)} (h:Own E0 S n v es) (w:WF S) {c:List V} (hc:c.length=n∧aJ c=true) (h1:(es.length+1)*b≤35184372088832) (h2:es.length+1<dY):
  ∃ v' S',dW n b v (.sl S.next 0 n 0 1) none ⟨S.next+1,S.heap.put S.next (.row 0 n [c])⟩=.ok (v',S')∧Own E0 S' n v' (es++[c])∧WF S'∧S.next+1≤S'.next∧(blkOf v'=blkOf v∨blkOf v'=some (S.next+1))∧∀ y,y<S.next→blkOf v≠some y→S'.heap.get y=S.heap.get y:=by
 obtain ⟨v',S',q1,q2,q3,q4⟩:=aOi (b:=b) h w (cs:=[c]) (fun d hd=>by rcases List.mem_singleton.1 hd with rfl;exact hc) (by simp) h1 h2
 have hu:aR ⟨S.next+1,S.heap.put S.next (.row 0 n [c])⟩ (.sl S.next 0 n 0 1)=.ok [c]:=by
  simp only [aR,aC];rfl
 have hk:∀ y,y<S.next→blkOf v≠some y→S'.heap.get y=S.heap.get y:=fun y hy hb=>q4 y hy fun a ver m hv e=>hb (by rw [hv,e];rfl)
 refine ⟨v',S',q1,q2,q3,?_,?_,hk⟩
 ·have q1:dW n b v (.sl S.next 0 n 0 1) none ⟨S.next+1,S.heap.put S.next (.row 0 n [c])⟩=.ok (v',S'):=q1
  unfold dW at q1
  simp only [hu] at q1
  repeat' split at q1
  all_goals first | (cases q1;done) | skip
  ·rename_i hn
   rw [fI] at hn
   cases hn;cases q1;exact Nat.le_succ _
  ·cases q1;exact Nat.le_refl _
 ·have q1:dW n b v (.sl S.next 0 n 0 1) none ⟨S.next+1,S.heap.put S.next (.row 0 n [c])⟩=.ok (v',S'):=q1
  unfold dW at q1
  simp only [hu] at q1
  repeat' split at q1
  all_goals first | (cases q1;done) | skip
  ·rename_i hn
   rw [fI] at hn
   cases hn;cases q1;exact .inr rfl
  ·cases q1;exact .inl rfl
end Go.AM
namespace Go.Proofs.YtoaibmbldmckaaaGreat
open Go.AM Tryz
set_option linter.unusedVariables false
set_option linter.unusedSimpArgs false
set_option maxRecDepth 100000
end Go.Proofs.YtoaibmbldmckaaaGreat
end
section
namespace Go.AM
theorem pX {α:Type} {enc:α→List V} {n b:Nat} (hl:∀ x,(enc x).length=n∧aJ (enc x)=true) (l:List α) {S:St} {a:Nat} (hg:aA S a 0=.ok (n,[])) (h1:l.length*b≤35184372088832) (h2:l.length<dY) (fr:Option Nat):
  dW n b (.sl a 0 n 0 0) (.imm (l.map enc)) fr S=.ok (.sl a 1 n 0 l.length,⟨S.next,S.heap.put a (.row 1 n (l.map enc))⟩):=by
 have hc:∀ cs,cs∈l.map enc→cs.length=n∧aJ cs=true:=fun cs hc=>by obtain ⟨x,_,rfl⟩:=List.mem_map.1 hc;exact hl x
 obtain ⟨a1,a2⟩:=cM hc
 simp only [dW,aR,a1,a2,and_self,if_true,hg,List.length_map,Nat.zero_add,List.length_nil,Nat.le_refl,h1,h2,List.drop_nil,List.take_nil,List.nil_append]
end Go.AM
namespace Go.Proofs.YtoaibmbldmckaaaGreat
open Go.AM Tryz
set_option linter.unusedVariables false
set_option linter.unusedSimpArgs false
set_option maxRecDepth 100000
end Go.Proofs.YtoaibmbldmckaaaGreat
end
section
namespace Go.Proofs.YtoaibmbldmckaaaGreat
open Go.AM Tryz
theorem aVg {α:Type} {enc:α→List V} {n b:Nat} (hl:∀ x,(enc x).length=n∧aJ (enc x)=true) (l r:List α) {S:St} {a:Nat} {ver:Nat} (hg:aA S a ver=.ok (n,l.map enc)) (h1:(l.length+r.length)*b≤35184372088832) (h2:l.length+r.length<dY) (fr:Option Nat):
  dW n b (.sl a ver n 0 l.length) (.imm (r.map enc)) fr S=.ok (.sl a (ver+1) n 0 (l.length+r.length),⟨S.next,S.heap.put a (.row (ver+1) n ((l++r).map enc))⟩):=by
 have hc:∀ cs,cs∈r.map enc→cs.length=n∧aJ cs=true:=fun cs hc=>by obtain ⟨x,_,rfl⟩:=List.mem_map.1 hc;exact hl x
 obtain ⟨a1,a2⟩:=cM hc
 simp only [dW,aR,a1,a2,and_self,if_true,hg,List.length_map,Nat.zero_add,Nat.le_refl,h1,h2,List.drop_zero,List.map_append]
 rw [List.take_of_length_le (by rw [List.length_map];exact Nat.le_refl _)]
def aG3 (q p:Posted):Bool:=if (aV q.total).2≠0 then false else if q.of≠Ref.zero then false else if p.day.days<q.day.days then false else
 decide ((aV q.total).1.net=p.total.net)&&(decide ((aV q.total).1.tax=p.total.tax)&&decide ((aV q.total).1.parts=p.total.parts))
def oW (p:Posted):List Posted→Bool
 | []=>false
 | q::l=>if q.ref=p.of then aG3 q p else oW p l
def kL (l:List Posted) (r:Ref):Nat:=(l.filter fun q=>decide (q.of=r)).length
def pY (l:List Posted) (i:Nat) (p:Posted):Bool:=
 if 1<kL (l.drop (i+1)) p.ref then false else if p.back≠decide (kL (l.drop (i+1)) p.ref=1) then false else if p.of=Ref.zero then true else if p.back=true then false else oW p (l.take i)
theorem uC (q:Posted) (l:List Posted) (r:Ref):kL (q::l) r=(if q.of=r then 1 else 0)+kL l r:=by
 unfold kL
 rw [List.filter_cons]
 by_cases c:q.of=r
 ·rw [if_pos (by simpa using c),if_pos c,List.length_cons];omega
 ·rw [if_neg (by simpa using c),if_neg c];omega
theorem aBi {t:Total} (h:bY t=true):t.gross=(eL [t.net,t.tax]).1:=by
 obtain ⟨_,_,_,_,hs⟩:=(oU t).1 h
 unfold iU at hs
 repeat' split at hs
 all_goals first | cases hs;done | skip
 exact (of_decide_eq_true hs).symm
theorem aVh {q p:Posted} (h1:bY q.total=true) (h2:bY p.total=true) (hi:∀ x∈q.total.parts,eF x.net∧eF x.tax) (d1:q.day.right=true) (d2:p.day.right=true):aG3 q p=kH p q:=by
 unfold aG3 kH
 have hb:p.day.before q.day=decide (p.day.days<q.day.days):=by unfold Date.before;rw [d1,d2];rfl
 rw [hb]
 by_cases c2:q.of=Ref.zero
 ·by_cases c1:(aV q.total).2=0
  ·rw [if_neg (by simp [c1]),if_neg (by simp [c2]),if_pos c2]
   by_cases c3:p.day.days<q.day.days
   ·rw [if_pos c3,if_neg (by simp [c3])]
   ·rw [if_neg c3,if_pos (by simp [c3]),if_pos c1]
    obtain ⟨b1,_,_⟩:=aDv hi h1 c1
    have e1:=aBi b1
    have e2:=aBi h2
    rw [Bool.eq_iff_iff]
    simp only [Bool.and_eq_true,decide_eq_true_eq]
    constructor
    ·rintro ⟨a,b,c⟩
     generalize (aV q.total).1=t at *
     generalize p.total=r at *
     obtain ⟨tn,tx,tg,tp⟩:=t
     obtain ⟨rn,rx,rg,rp⟩:=r
     simp only at a b c e1 e2
     subst a b c
     rw [e1,e2]
    ·intro e;rw [e];exact ⟨rfl,rfl,rfl⟩
  ·rw [if_pos c1,if_pos c2,if_neg c1]
   split<;>rfl
 ·rw [if_neg c2]
  split<;>rfl
theorem aG4 {α:Type} (p:α→Bool):∀ (l:List α) (n:Nat),aE (cR p) (fun _=>-1) l (n+1)=if aE (cR p) (fun _=>-1) l n<0 then -1 else aE (cR p) (fun _=>-1) l n+1
 | [],n=>by simp [aE]
 | a::l,n=>by
  cases c:p a with
  | true=>
   simp only [aE,cR,c,if_true]
   rw [if_neg (by omega)];omega
  | false=>
   simp only [aE,cR,c,Bool.false_eq_true,if_false]
   exact aG4 p l (n+1)
theorem aJz {α:Type} (p:α→Bool) (a:α) (l:List α):ixM p (a::l)=if p a=true then 0 else if ixM p l<0 then -1 else ixM p l+1:=by
 unfold ixM
 cases c:p a with
 | true=>simp only [aE,cR,c,if_true];rfl
 | false=>simp only [aE,cR,c,Bool.false_eq_true,if_false];exact aG4 p l 0
theorem aG5 (p:Posted):∀ l:List Posted,oW p l=true↔0≤aW l p.of∧aG3 (l.getD (aW l p.of).toNat aJt) p=true
 | []=>by
  simp only [oW]
  exact ⟨fun h=>(by cases h),fun h=>by have h1:(0:Int)≤-1:=h.1;omega⟩
 | q::l=>by
  have e:aW (q::l) p.of=if q.ref=p.of then 0 else if aW l p.of<0 then -1 else aW l p.of+1:=by
   have:=aJz (fun x:Posted=>decide (x.ref=p.of)) q l
   simp only [decide_eq_true_eq] at this
   exact this
  simp only [oW]
  rw [e]
  by_cases c:q.ref=p.of
  ·rw [if_pos c,if_pos c]
   simp
  ·rw [if_neg c,if_neg c,aG5 p l]
   by_cases c2:aW l p.of<0
   ·rw [if_pos c2]
    exact ⟨fun h=>absurd h.1 (by omega),fun h=>by have:=h.1;omega⟩
   ·rw [if_neg c2]
    have:(aW l p.of+1).toNat=(aW l p.of).toNat+1:=by omega
    rw [this,List.getD_cons_succ]
    exact ⟨fun h=>⟨by omega,h.2⟩,fun h=>⟨by omega,h.2⟩⟩
theorem xJ {l:List Posted} {r:Ref} (h:0≤aW l r):∃ (k:Nat) (q:Posted),aW l r=(k:Int)∧l[k]?=some q∧q.ref=r:=by
 rcases gR (fun p:Posted=>decide (p.ref=r)) l with e | ⟨i,q,e,hi,hp⟩
 ·have:aW l r=-1:=e
  omega
 ·exact ⟨i,q,e,hi,of_decide_eq_true hp⟩
theorem aP1 {ser:List Ser} {l:List Posted} (hn:Nums ser l) {p:Posted} (hp:p∈l):p.ref≠Ref.zero:=fun e=>by
 have:=aOy hn hp
 rw [e] at this
 have:(1:Int)≤0:=this
 omega
theorem aDz (a b:List Posted) (r:Ref):kL (a++b) r=kL a r+kL b r:=by unfold kL;rw [List.filter_append,List.length_append]
theorem sE {ser:List Ser} {l:List Posted} (hn:Nums ser l) (h40:l.length≤40) (hO:∀ i q,l[i]?=some q→oG (l.take i) q):∀ n,n≤l.length→∀ i p,i<n→l[i]?=some p→(dQ (l.take n)).getD i 0=(kL ((l.take n).drop (i+1)) p.ref:Int)
 | 0,_,i,p,h,_=>absurd h (Nat.not_lt_zero _)
 | n+1,hl,i,p,hi,hp=>by
  have hx:l[n]?=some l[n]:=List.getElem?_eq_getElem (by omega)
  obtain ⟨x,hxe⟩:∃ x,x=l[n]:=⟨_,rfl⟩
  rw [←hxe] at hx
  have ht:l.take (n+1)=l.take n++[x]:=by rw [List.take_add_one,hx];rfl
  have hOn:∀ j q,(l.take n)[j]?=some q→oG ((l.take n).take j) q:=fun j q hq=>by
   have hj:=(List.getElem?_eq_some_iff.1 hq).1
   rw [List.length_take] at hj
   rw [List.getElem?_take,if_pos (by omega)] at hq
   rw [List.take_take,Nat.min_eq_left (by omega)]
   exact hO j q hq
  obtain ⟨r1,r2,r3⟩:=sD hOn
  have hlen:(l.take n).length=n:=by rw [List.length_take];omega
  have hpos:=aP1 hn (List.mem_of_getElem? hp)
  have hdrop:i<n→(l.take n++[x]).drop (i+1)=(l.take n).drop (i+1)++[x]:=fun h=>by rw [List.drop_append_of_le_length (by omega)]
  rw [ht,pC]
  unfold fC
  by_cases c:x.of=Ref.zero
  ·rw [if_pos c]
   rcases Nat.lt_succ_iff_lt_or_eq.1 hi with h | rfl
   ·rw [sE hn h40 hO n (by omega) i p h hp,hdrop h,aDz,uC,if_neg (by rw [c];exact fun e=>hpos e.symm)]
    rfl
   ·rw [r2 i (by omega),List.drop_of_length_le (by rw [List.length_append,hlen];exact Nat.le_refl _)];rfl
  ·rw [if_neg c]
   obtain ⟨_,_,o⟩:=hO n x hx
   rcases o with o | ⟨o,_⟩
   ·exact absurd o c
   ·obtain ⟨k,q,e,hk,hq⟩:=xJ o
    have hkn:=(List.getElem?_eq_some_iff.1 hk).1
    rw [hlen] at hkn
    have hk':l[k]?=some q:=by rw [List.getElem?_take,if_pos hkn] at hk;exact hk
    rw [e,Int.toNat_natCast]
    unfold bump
    simp only [List.getD_eq_getElem?_getD,List.getElem?_set]
    rcases Nat.lt_succ_iff_lt_or_eq.1 hi with h | rfl
    ·have ih:=sE hn h40 hO n (by omega) i p h hp
     simp only [List.getD_eq_getElem?_getD] at ih
     rw [hdrop h,aDz,uC]
     by_cases e2:k=i
     ·subst e2
      rw [hp] at hk'
      cases hk'
      rw [if_pos rfl,if_pos (by omega),if_pos hq.symm,Option.getD_some,ih]
      show _+1=((_+(1+0):Nat):Int)
      omega
     ·have hne:¬ x.of=p.ref:=fun e3=>e2 (xH hn hk' hp (hq.trans e3))
      rw [if_neg e2,if_neg hne,ih]
      rfl
    ·rw [if_neg (by omega),←List.getD_eq_getElem?_getD,r2 i (by omega),List.drop_of_length_le (by rw [List.length_append,hlen];exact Nat.le_refl _)]
     rfl
theorem aK0 {ser:List Ser} {l:List Posted} (hn:Nums ser l) (h40:l.length≤40) (hd:∀ p∈l,p.day.right=true∧bY p.total=true) (hi:∀ p∈l,∀ q∈p.total.parts,eF q.net∧eF q.tax):
  (∀ i p,l[i]?=some p→pY l i p=true)↔(∀ i p,l[i]?=some p→oG (l.take i) p)∧∀ i p,l[i]?=some p→(dQ l).getD i 0≤1∧p.back=decide ((dQ l).getD i 0=1):=by
 have take_ok:∀ i p,l[i]?=some p→p.of≠Ref.zero→(oW p (l.take i)=true↔0≤aW (l.take i) p.of∧kH p ((l.take i).getD (aW (l.take i) p.of).toNat aJt)=true):=by
  intro i p hp hof
  rw [aG5]
  by_cases c:0≤aW (l.take i) p.of
  ·obtain ⟨k,q,e,hk,hq⟩:=xJ c
   have hqm:q∈l:=List.mem_of_mem_take (List.mem_of_getElem? hk)
   have:(l.take i).getD (aW (l.take i) p.of).toNat aJt=q:=by rw [e,Int.toNat_natCast,List.getD_eq_getElem?_getD,hk];rfl
   have hpm:=List.mem_of_getElem? hp
   rw [this,aVh (hd q hqm).2 (hd p hpm).2 (hi q hqm) (hd q hqm).1 (hd p hpm).1]
  ·exact ⟨fun h=>absurd h.1 c,fun h=>absurd h.1 c⟩
 have all:∀ i p,l[i]?=some p→(∀ i q,l[i]?=some q→oG (l.take i) q)→(dQ l).getD i 0=(kL (l.drop (i+1)) p.ref:Int):=by
  intro i p hp hO
  have hlt:=(List.getElem?_eq_some_iff.1 hp).1
  have:=sE hn h40 hO l.length (Nat.le_refl _) i p hlt hp
  rwa [List.take_length] at this
 constructor
 ·intro h
  have hO:∀ i p,l[i]?=some p→oG (l.take i) p:=by
   intro i p hp
   have hpm:=List.mem_of_getElem? hp
   refine ⟨(hd p hpm).1,(hd p hpm).2,?_⟩
   by_cases c:p.of=Ref.zero
   ·exact .inl c
   ·have hc:=h i p hp
    unfold pY at hc
    repeat' split at hc
    all_goals first | (cases hc;done) | skip
    all_goals first | exact absurd (by assumption) c | exact .inr ((take_ok i p hp c).1 hc)
  refine ⟨hO,fun i p hp=>?_⟩
  have hc:=h i p hp
  have e:=all i p hp hO
  unfold pY at hc
  split at hc
  ·cases hc
  ·rename_i h1
   split at hc
   ·cases hc
   ·rename_i h2
    have h2:=Decidable.not_not.1 h2
    rw [e]
    refine ⟨by omega,?_⟩
    rw [h2,Bool.eq_iff_iff]
    simp only [decide_eq_true_eq]
    omega
 ·rintro ⟨hO,hc⟩ i p hp
  have e:=all i p hp hO
  obtain ⟨c1,c2⟩:=hc i p hp
  rw [e] at c1 c2
  unfold pY
  have c2':p.back=decide (kL (l.drop (i+1)) p.ref=1):=by
   rw [c2,Bool.eq_iff_iff]
   simp only [decide_eq_true_eq]
   omega
  rw [if_neg (by omega),if_neg (by rw [←c2'];simp)]
  split
  ·rfl
  ·rename_i hof
   have hback:¬ p.back=true:=by
    intro hb
    rw [hb] at c2'
    have h1:=of_decide_eq_true c2'.symm
    obtain ⟨x,hx⟩:∃ x,x∈(l.drop (i+1)).filter fun q=>decide (q.of=p.ref):=by
     unfold kL at h1
     cases hf:(l.drop (i+1)).filter fun q=>decide (q.of=p.ref) with
     | nil=>rw [hf] at h1;cases h1
     | cons a b=>exact ⟨a,List.mem_cons_self ..⟩
    obtain ⟨hx1,hx2⟩:=List.mem_filter.1 hx
    have hx2:=of_decide_eq_true hx2
    obtain ⟨j,hj⟩:=List.getElem?_of_mem hx1
    rw [List.getElem?_drop] at hj
    obtain ⟨_,_,o⟩:=hO _ x hj
    rcases o with o | ⟨o1,o2⟩
    ·rw [hx2] at o
     exact aP1 hn (List.mem_of_getElem? hp) o
    ·obtain ⟨k,q,e,hk,hq⟩:=xJ o1
     have hk':l[k]?=some q:=by
      have:=(List.getElem?_eq_some_iff.1 hk).1
      rw [List.length_take] at this
      rw [List.getElem?_take,if_pos (by omega)] at hk;exact hk
     have:k=i:=xH hn hk' hp (hq.trans hx2)
     subst this
     rw [hp] at hk'
     cases hk'
     rw [e,Int.toNat_natCast,List.getD_eq_getElem?_getD,hk] at o2
     unfold kH at o2
     split at o2
     ·rename_i hz;exact hof hz
     ·cases o2
   rw [if_neg hback]
   rcases (hO i p hp).2.2 with o | o
   ·exact absurd o hof
   ·exact (take_ok i p hp hof).2 o
structure RD where
 done:List Posted
 taken:List Int
 book:List Bal
def sN (s:State) (st:RD) (p:Posted):Bool⊕RD:=
 if dH s.ser p.ref.ser<0 then .inl false else if p.ref.num≠wr .i64 (st.taken.getD (dH s.ser p.ref.ser).toNat 0+1) then .inl false else
  if p.day.right=false then .inl false else if bY p.total=false then .inl false else if pY s.posted st.done.length p=false then .inl false else
   if (cH p.total).2≠0 then .inl false else if (bL st.book (cH p.total).1).2≠0 then .inl false else
    .inr ⟨st.done++[p],st.taken.set (dH s.ser p.ref.ser).toNat (wr .i64 (st.taken.getD (dH s.ser p.ref.ser).toNat 0+1)),(bL st.book (cH p.total).1).1⟩
def gE (is:List Int) (x:Ser):Bool⊕List Int:=if is.headD 0=wr .i64 (x.next - 1) then .inr is.tail else .inl false
def aK1 (s:State) (st:RD):Bool:=aE gE (fun _=>true) s.ser st.taken&&decide (st.book=s.book)
def aE0 (s:State):Bool:=
 if dK s.table=false then false else if jP s.ser=false then false else if eG s.sess=false then false else if 40<s.posted.length then false else
  if s.next<1 then false else if 1099511627776<s.next then false else if rT s.sess s.next=false then false else
   aE (sN s) (aK1 s) s.posted ⟨[],List.replicate s.ser.length 0,[]⟩
def fM (ser:List Ser) (l:List Posted):List Int:=ser.map (fun x=>sU l x.name)
theorem aK2 {ser:List Ser} (hs:ser.Pairwise (fun a b=>fN a.name b.name=true)) {l:List Posted} {p:Posted} {i:Nat} {x:Ser} (h:ser[i]?=some x) (hn:x.name=p.ref.ser):(fM ser l).set i (sU l p.ref.ser+1)=fM ser (l++[p]):=by
 apply List.ext_getElem?
 intro j
 unfold fM
 rw [List.getElem?_set]
 by_cases e:i=j
 ·subst e
  rw [if_pos rfl,if_pos (by rw [List.length_map];exact (List.getElem?_eq_some_iff.1 h).1),List.getElem?_map,h,Option.map_some,iH,sA,if_pos hn.symm,hn]
 ·rw [if_neg e,List.getElem?_map,List.getElem?_map]
  cases hj:ser[j]? with
  | none=>rfl
  | some y=>
   have hne:¬ p.ref.ser=y.name:=by
    rw [←hn]
    intro e'
    have h1:=pU hs h
    have h2:=pU hs hj
    rw [e'] at h1
    omega
   rw [Option.map_some,Option.map_some,iH,sA,if_neg hne,Int.add_zero]
theorem aVi:∀ (ser:List Ser) (is:List Int),aE gE (fun _=>true) ser is=true↔∀ i x,ser[i]?=some x→is.getD i 0=wr .i64 (x.next - 1)
 | [],is=>by simp [aE]
 | s::l,is=>by
  have hh:is.headD 0=is.getD 0 0:=by cases is<;>rfl
  have ht:∀ j,is.tail.getD j 0=is.getD (j+1) 0:=fun j=>by cases is<;>simp
  by_cases c:is.getD 0 0=wr .i64 (s.next - 1)
  ·have e:gE is s=.inr is.tail:=by unfold gE;rw [hh,if_pos c]
   simp only [aE,e]
   rw [aVi l is.tail]
   constructor
   ·intro h i x hx
    cases i with
    | zero=>cases hx;exact c
    | succ i=>have:=h i x hx;rwa [ht] at this
   ·intro h i x hx
    have:=h (i+1) x hx
    rwa [ht]
  ·have e:gE is s=.inl false:=by unfold gE;rw [hh,if_neg c]
   simp only [aE,e]
   constructor
   ·intro h;cases h
   ·intro h;exact absurd (h 0 s rfl) c
def aY7 (s:State) (done:List Posted) (i:Nat) (p:Posted):Prop:=(∃ x∈s.ser,x.name=p.ref.ser)∧p.ref.num=sU done p.ref.ser+1∧p.day.right=true∧bY p.total=true∧pY s.posted i p=true
theorem rL {s:State} (hs:s.ser.Pairwise (fun a b=>fN a.name b.name=true)) (h40:s.posted.length≤40):∀ (l done:List Posted) (book:List Bal),s.posted=done++l→
  (aE (sN s) (aK1 s) l ⟨done,fM s.ser done,book⟩=true↔(∀ i p,l[i]?=some p→aY7 s (done++l.take i) (done.length+i) p)∧(∀ x∈s.ser,sU s.posted x.name=wr .i64 (x.next - 1))∧aE bN (fun b=>(b,0)) l book=(s.book,0))
 | [],done,book,e=>by
  rw [List.append_nil] at e
  subst e
  simp only [aE,aK1,Bool.and_eq_true,decide_eq_true_eq,aVi]
  constructor
  ·rintro ⟨h1,h2⟩
   refine ⟨fun i p h=>(by cases h),fun x hx=>?_,by rw [h2]⟩
   obtain ⟨i,hi⟩:=List.getElem?_of_mem hx
   have:=h1 i x hi
   unfold fM at this
   rw [List.getD_eq_getElem?_getD,List.getElem?_map,hi] at this
   exact this
  ·rintro ⟨_,h1,h2⟩
   refine ⟨fun i x hi=>?_,congrArg Prod.fst h2⟩
   unfold fM
   rw [List.getD_eq_getElem?_getD,List.getElem?_map,hi]
   exact h1 x (List.mem_of_getElem? hi)
 | p::l,done,book,e=>by
  have hlen:done.length<40:=by have:=congrArg List.length e;simp at this;omega
  have hc:=aP0 done p.ref.ser
  have h0:=sB done p.ref.ser
  have e':s.posted=(done++[p])++l:=by rw [e,List.append_assoc];rfl
  by_cases k0:dH s.ser p.ref.ser<0
  ·have e1:sN s ⟨done,fM s.ser done,book⟩ p=.inl false:=by unfold sN;rw [if_pos k0]
   simp only [aE,e1]
   refine ⟨fun h=>(by cases h),fun h=>?_⟩
   obtain ⟨⟨x,hx,hn⟩,_⟩:=h.1 0 p rfl
   exact absurd hn (xE k0 x hx)
  ·rcases gR (fun x:Ser=>x.name == p.ref.ser) s.ser with e1 | ⟨i,x,e1,hi,hx⟩
   ·exact absurd (show dH s.ser p.ref.ser<0 by unfold dH;rw [e1];decide) k0
   ·have e1:dH s.ser p.ref.ser=(i:Int):=e1
    have hx:x.name=p.ref.ser:=by simpa using hx
    have hget:(fM s.ser done).getD i 0=sU done p.ref.ser:=by
     unfold fM
     rw [List.getD_eq_getElem?_getD,List.getElem?_map,hi,Option.map_some,hx];rfl
    have hw:wr .i64 (sU done p.ref.ser+1)=sU done p.ref.ser+1:=eX ⟨by omega,by omega⟩
    have hstep:sN s ⟨done,fM s.ser done,book⟩ p=if p.ref.num≠sU done p.ref.ser+1 then .inl false else
      if p.day.right=false then .inl false else if bY p.total=false then .inl false else if pY s.posted done.length p=false then .inl false else
      if (cH p.total).2≠0 then .inl false else if (bL book (cH p.total).1).2≠0 then .inl false else .inr ⟨done++[p],fM s.ser (done++[p]),(bL book (cH p.total).1).1⟩:=by
     unfold sN
     rw [if_neg k0]
     simp only [e1,Int.toNat_natCast,hget,hw,aK2 hs hi hx]
    have bad:∀ b:Bool⊕RD,b=.inl false→sN s ⟨done,fM s.ser done,book⟩ p=b→¬ (aY7 s done done.length p∧(cH p.total).2=0∧(bL book (cH p.total).1).2=0)→(aE (sN s) (aK1 s) (p::l) ⟨done,fM s.ser done,book⟩=true↔(∀ i q,(p::l)[i]?=some q→aY7 s (done++(p::l).take i) (done.length+i) q)∧(∀ x∈s.ser,sU s.posted x.name=wr .i64 (x.next - 1))∧aE bN (fun b=>(b,0)) (p::l) book=(s.book,0)):=by
     intro b hb h1 h2
     subst hb
     simp only [aE,h1]
     refine ⟨fun h=>(by cases h),fun h=>?_⟩
     exfalso
     have g:=h.1 0 p rfl
     rw [List.take_zero,List.append_nil,Nat.add_zero] at g
     refine h2 ⟨g,?_⟩
     have hb:=h.2.2
     simp only [bN] at hb
     by_cases c:(cH p.total).2=0
     ·refine ⟨c,?_⟩
      by_cases c2:(bL book (cH p.total).1).2=0
      ·exact c2
      ·rw [if_neg (by simp [c]),if_pos c2] at hb
       exact absurd (congrArg Prod.snd hb) c2
     ·rw [if_pos c] at hb
      exact absurd (congrArg Prod.snd hb) c
    by_cases c1:p.ref.num=sU done p.ref.ser+1
    rotate_left
    ·exact bad _ rfl (by rw [hstep,if_pos c1]) fun h=>c1 h.1.2.1
    by_cases c2:p.day.right=true
    rotate_left
    ·exact bad _ rfl (by rw [hstep,if_neg (by simp [c1]),if_pos (by simpa using c2)]) fun h=>c2 h.1.2.2.1
    by_cases c3:bY p.total=true
    rotate_left
    ·exact bad _ rfl (by rw [hstep,if_neg (by simp [c1]),if_neg (by simp [c2]),if_pos (by simpa using c3)]) fun h=>c3 h.1.2.2.2.1
    by_cases c4:pY s.posted done.length p=true
    rotate_left
    ·exact bad _ rfl (by rw [hstep,if_neg (by simp [c1]),if_neg (by simp [c2]),if_neg (by simp [c3]),if_pos (by simpa using c4)]) fun h=>c4 h.1.2.2.2.2
    by_cases c5:(cH p.total).2=0
    rotate_left
    ·exact bad _ rfl (by rw [hstep,if_neg (by simp [c1]),if_neg (by simp [c2]),if_neg (by simp [c3]),if_neg (by simp [c4]),if_pos c5]) fun h=>c5 h.2.1
    by_cases c6:(bL book (cH p.total).1).2=0
    rotate_left
    ·exact bad _ rfl (by rw [hstep,if_neg (by simp [c1]),if_neg (by simp [c2]),if_neg (by simp [c3]),if_neg (by simp [c4]),if_neg (by simp [c5]),if_pos c6]) fun h=>c6 h.2.2
    have hgood:sN s ⟨done,fM s.ser done,book⟩ p=.inr ⟨done++[p],fM s.ser (done++[p]),(bL book (cH p.total).1).1⟩:=by
     rw [hstep,if_neg (by simp [c1]),if_neg (by simp [c2]),if_neg (by simp [c3]),if_neg (by simp [c4]),if_neg (by simp [c5]),if_neg (by simp [c6])]
    have hbk:bN book p=.inr (bL book (cH p.total).1).1:=by unfold bN;rw [if_neg (by simp [c5]),if_neg (by simp [c6])]
    have one:aY7 s done done.length p:=⟨⟨x,List.mem_of_getElem? hi,hx⟩,c1,c2,c3,c4⟩
    simp only [aE,hgood,hbk]
    rw [rL hs h40 l (done++[p]) _ e']
    constructor
    ·rintro ⟨h1,h2⟩
     refine ⟨fun i q hq=>?_,h2⟩
     cases i with
     | zero=>cases hq;rw [List.take_zero,List.append_nil];exact one
     | succ i=>
      have:=h1 i q hq
      rw [List.append_assoc,List.length_append] at this
      rw [List.take_succ_cons]
      have e2:done.length+(i+1)=done.length+[p].length+i:=by simp;omega
      rw [e2];exact this
    ·rintro ⟨h1,h2⟩
     refine ⟨fun i q hq=>?_,h2⟩
     have:=h1 (i+1) q hq
     rw [List.take_succ_cons] at this
     rw [List.append_assoc,List.length_append]
     have e2:done.length+(i+1)=done.length+[p].length+i:=by simp;omega
     rw [←e2];exact this
theorem aQu {s:State} (hi:xG s) (hn:∀ x∈s.ser,eF x.next):aE0 s=bW s:=by
 rw [Bool.eq_iff_iff,bZ]
 unfold aE0
 by_cases c1:dK s.table=true
 rotate_left
 ·rw [if_pos (by simpa using c1)];exact ⟨fun h=>(by cases h),fun h=>absurd h.1 c1⟩
 rw [if_neg (by simp [c1])]
 by_cases c2:jP s.ser=true
 rotate_left
 ·rw [if_pos (by simpa using c2)];exact ⟨fun h=>(by cases h),fun h=>absurd h.2.1 c2⟩
 rw [if_neg (by simp [c2])]
 have hs:=((gC _).1 c2).2.2
 have hsl:=((gC _).1 c2).1
 have hsb:=((gC _).1 c2).2.1
 have hso:iO s=true↔pD s.sess s.next:=vQ s
 unfold iO at hso
 by_cases c3:eG s.sess=true
 rotate_left
 ·rw [if_pos (by simpa using c3)]
  rw [if_neg c3] at hso
  exact ⟨fun h=>(by cases h),fun h=>by have:=hso.2 h.2.2.1;cases this⟩
 rw [if_neg (by simp [c3])]
 rw [if_pos c3] at hso
 by_cases c4:s.posted.length≤40
 rotate_left
 ·rw [if_pos (by omega)]
  exact ⟨fun h=>(by cases h),fun h=>absurd ((jL _).1 h.2.2.2.1).1 c4⟩
 rw [if_neg (by omega)]
 by_cases c5:1≤s.next
 rotate_left
 ·rw [if_pos (by omega)];rw [if_neg c5] at hso
  exact ⟨fun h=>(by cases h),fun h=>by have:=hso.2 h.2.2.1;cases this⟩
 rw [if_neg (by omega)]
 rw [if_pos c5] at hso
 by_cases c6:s.next≤1099511627776
 rotate_left
 ·rw [if_pos (by omega)];rw [if_neg c6] at hso
  exact ⟨fun h=>(by cases h),fun h=>by have:=hso.2 h.2.2.1;cases this⟩
 rw [if_neg (by omega)]
 rw [if_pos c6] at hso
 by_cases c7:rT s.sess s.next=true
 rotate_left
 ·rw [if_pos (by simpa using c7)]
  exact ⟨fun h=>(by cases h),fun h=>absurd (hso.2 h.2.2.1) c7⟩
 rw [if_neg (by simp [c7])]
 have ht:List.replicate s.ser.length (0:Int)=fM s.ser []:=by
  unfold fM
  apply List.ext_getElem?
  intro j
  rw [List.getElem?_replicate,List.getElem?_map]
  split
  ·rename_i h;rw [List.getElem?_eq_getElem h];rfl
  ·rename_i h;rw [List.getElem?_eq_none (by omega)];rfl
 rw [ht,rL hs c4 s.posted [] [] rfl]
 have hnx:(∀ x∈s.ser,sU s.posted x.name=wr .i64 (x.next - 1))↔∀ x∈s.ser,x.next=sU s.posted x.name+1:=by
  constructor
  ·intro h x hx
   have:=h x hx
   obtain ⟨_,b⟩:=hsb x hx
   unfold mB at b
   simp only [Bool.or_eq_false_iff,decide_eq_false_iff_not] at b
   have:=hn x hx
   rw [eX ⟨by have:=this.1;omega,by have:=this.2;omega⟩] at *
   omega
  ·intro h x hx
   have e:=h x hx
   have h1:=aP0 s.posted x.name
   have h2:=sB s.posted x.name
   rw [eX ⟨by omega,by omega⟩];omega
 rw [hnx]
 simp only [List.nil_append,List.length_nil,Nat.zero_add]
 constructor
 ·rintro ⟨h1,h2,h3⟩
  have hnum:Nums s.ser s.posted:=⟨fun i p hp=>⟨(h1 i p hp).1,(h1 i p hp).2.1⟩,h2⟩
  have hd:∀ p∈s.posted,p.day.right=true∧bY p.total=true:=fun p hp=>by
   obtain ⟨i,hi'⟩:=List.getElem?_of_mem hp
   exact ⟨(h1 i p hi').2.2.1,(h1 i p hi').2.2.2.1⟩
  have hc:=(aK0 hnum c4 hd hi).1 fun i p hp=>(h1 i p hp).2.2.2.2
  exact ⟨c1,c2,hso.1 c7,(jL _).2 ⟨c4,hc⟩,hnum,h3⟩
 ·rintro ⟨_,_,_,h4,h5,h6⟩
  obtain ⟨_,hO,hb⟩:=(jL _).1 h4
  have hd:∀ p∈s.posted,p.day.right=true∧bY p.total=true:=fun p hp=>by
   obtain ⟨i,hi'⟩:=List.getElem?_of_mem hp
   exact ⟨(hO i p hi').1,(hO i p hi').2.1⟩
  have hc:=(aK0 h5 c4 hd hi).2 ⟨hO,hb⟩
  refine ⟨fun i p hp=>⟨(h5.num i p hp).1,(h5.num i p hp).2,(hO i p hp).1,(hO i p hp).2.1,hc i p hp⟩,fun x hx=>?_,h6⟩
  exact h5.next x hx
def aCe (a b:Rate):Bool:=if a.cat=b.cat then decide (a.day.days<b.day.days) else fN a.cat b.cat
theorem xK {a b:Rate} (ha:a.day.right=true) (hb:b.day.right=true):aCe a b=bE a b:=by
 unfold aCe bE Date.before
 by_cases c:a.cat=b.cat
 ·rw [if_pos c,c,rY,if_neg (by simp),if_pos (by simp),ha,hb];rfl
 ·rw [if_neg c]
  cases fN a.cat b.cat<;>simp [c]
theorem bD8 (a b:Rate) (S:St) (K:KW):C 194 [.agg [.str a.cat,.int .i64 a.day.y,.int .i64 a.day.m,.int .i64 a.day.d,.int .i64 a.bp],.agg [.str b.cat,.int .i64 b.day.y,.int .i64 b.day.m,.int .i64 b.day.d,.int .i64 b.bp]] S K=K (.bool (aCe a b)) S:=by
 refine (bLp rfl ?_).eq S K
 delta Tryz.f194;simp only [↓cw,↓reduceIte,Nat.reduceLT,kk,cN,gm,aXp,aCe]
 by_cases c:a.cat=b.cat
 ·simp only [↓cw,↓reduceIte,Nat.reduceLT,c,BEq.rfl,kk,if_true,if_false,oo]
 ·have c':¬ (a.cat == b.cat)=true:=by simpa using c
  simp only [↓cw,↓reduceIte,Nat.reduceLT,c,c',kk,if_true,if_false,oo]
theorem aY8 (l:List Rate) (S:St) (K:KW):C 114 [.imm (l.map Rate.enc)] S K=K (.bool (dK l)) S:=by
 refine (bKj rfl ?_).eq S K
 delta Tryz.f114;simp only [↓cw,↓reduceIte,Nat.reduceLT,kk,dK]
 by_cases h:24<l.length
 ·simp only [↓cw,↓reduceIte,Nat.reduceLT,h,show (24:Int)<(l.length:Int) by omega,kk,if_true,oo]
 have h':¬ (24:Int)<(l.length:Int):=by omega
 simp only [↓cw,↓reduceIte,Nat.reduceLT,h,h',kk,if_false]
 refine aG l (step:=fZ) (fin:=fun _=>true) (fun i s vs S=>s=bV l i∧vs=[.bool false,.int .i64 (i:Int)]∧∀ p,s=some p→p.day.right=true) (fun r=>r=aE fZ (fun _=>true) l none) ?_ ?_ ⟨rfl,rfl,fun p h=>(by cases h)⟩ rfl
 ·rintro i r s vs S hi ⟨rfl,rfl,hr⟩ aF H
  have hil:=(List.getElem?_eq_some_iff.1 hi).1
  have hn:bV l (i+1)=some r:=by simpa [bV] using hi
  simp only [hn] at H
  simp only [↓cw,↓reduceIte,Nat.reduceLT,kk,bB hi,nR hi,Rate.enc,bId,hJ (show i<1000000000 by omega),fZ] at H ⊢
  by_cases c:sS r=0
  ·have hrr:=(mT c).2.1
   simp only [↓cw,↓reduceIte,Nat.reduceLT,c,kk,ne_eq,not_true_eq_false,if_false] at H ⊢
   cases i with
   | zero=>
    simp only [↓cw,↓reduceIte,Nat.reduceLT,bV,if_true,Int.natCast_zero,Int.lt_irrefl,kk,if_false] at H ⊢
    exact H _ _ ⟨rfl,fun p h=>by cases h;exact hrr⟩
   | succ j=>
    have hj:l[j]?=some l[j]:=List.getElem?_eq_getElem (by omega)
    have hp:bV l (j+1)=some l[j]:=by simp [bV,hj]
    have hb:=xK (hr _ hp) hrr
    simp only [↓cw,↓reduceIte,Nat.reduceLT,hp,gt0,kk,wrm (show j+1<1000000000 by omega),nR hj,Rate.enc,bD8,hb,if_true] at H ⊢
    cases ha:bE l[j] r<;>simp only [↓cw,↓reduceIte,Nat.reduceLT,ha,kk,Bool.not_false,Bool.not_true,if_true,if_false,Bool.false_eq_true,oo] at H ⊢
    ·rw [←H]
    ·exact H _ _ ⟨rfl,fun p h=>by cases h;exact hrr⟩
  ·simp only [↓cw,↓reduceIte,Nat.reduceLT,c,ne_eq,not_false_eq_true,if_true,kk,oo] at H ⊢
   rw [←H]
 ·rintro s vs S ⟨rfl,rfl,hr⟩ aF H
  have H:true=_:=H
  simp only [↓cw,↓reduceIte,Nat.reduceLT,kk,Int.lt_irrefl,if_false,oo,←H]
theorem aY9 (l:List Ser) (S:St) (K:KW):C 115 [.imm (l.map Ser.enc)] S K=K (.bool (jP l)) S:=by
 refine (bKk rfl ?_).eq S K
 delta Tryz.f115;simp only [↓cw,↓reduceIte,Nat.reduceLT,kk,jP]
 by_cases h:8<l.length
 ·simp only [↓cw,↓reduceIte,Nat.reduceLT,h,show (8:Int)<(l.length:Int) by omega,kk,if_true,oo]
 have h':¬ (8:Int)<(l.length:Int):=by omega
 simp only [↓cw,↓reduceIte,Nat.reduceLT,h,h',kk,if_false]
 refine aG l (step:=jZ) (fin:=fun _=>true) (fun i s vs S=>s=bV l i∧vs=[.bool false,.int .i64 (i:Int)]) (fun r=>V.bool r=.bool (aE jZ (fun _=>true) l none)) ?_ ?_ ⟨rfl,rfl⟩ rfl
 ·rintro i r s vs S hi ⟨rfl,rfl⟩ aF H
  have hil:=(List.getElem?_eq_some_iff.1 hi).1
  have hn:bV l (i+1)=some r:=by simpa [bV] using hi
  simp only [hn,jZ] at H
  simp only [↓cw,↓reduceIte,Nat.reduceLT,kk,bB hi,kT hi,Ser.enc,aQi,gm,hJ (show i<1000000000 by omega),oo]
  cases hna:dT r.name
  ·simp [hna] at H ⊢;exact H
  ·simp only [↓cw,↓reduceIte,Nat.reduceLT,hna,kk,Bool.true_eq_false,if_false] at H ⊢
   cases i with
   | zero=>
    simp only [↓cw,↓reduceIte,Nat.reduceLT,bV,lQ,kk,Bool.false_eq_true,if_false,if_true,mB,Bool.or_eq_true,decide_eq_true_eq] at H ⊢
    simp only [↓cw,↓reduceIte,Nat.reduceLT,Int.natCast_zero,Int.lt_irrefl,kk,if_false]
    grind
   | succ j=>
    have hj:l[j]?=some l[j]:=List.getElem?_eq_getElem (by omega)
    have hp:bV l (j+1)=some l[j]:=by simp [bV,hj]
    simp only [↓cw,↓reduceIte,Nat.reduceLT,hp,gt0,kk,wrm (show j+1<1000000000 by omega),kT hj,Ser.enc,lQ,mB,Bool.or_eq_true,decide_eq_true_eq] at H ⊢
    grind
 ·rintro s vs S ⟨rfl,rfl⟩ aF H
  simp only [↓cw,↓reduceIte,Nat.reduceLT,kk,Int.lt_irrefl]
  exact H
theorem bPd (l:List Sess) (S:St) (K:KW):C 116 [.imm (l.map Sess.enc)] S K=K (.bool (eG l)) S:=by
 refine (bKl rfl ?_).eq S K
 delta Tryz.f116;simp only [↓cw,↓reduceIte,Nat.reduceLT,kk,eG]
 by_cases h:8<l.length
 ·simp only [↓cw,↓reduceIte,Nat.reduceLT,h,show (8:Int)<(l.length:Int) by omega,kk,if_true,oo]
 have h':¬ (8:Int)<(l.length:Int):=by omega
 simp only [↓cw,↓reduceIte,Nat.reduceLT,h,h',kk,if_false]
 refine aG l (step:=fK) (fin:=fun _=>true) (fun i s vs S=>vs=[.bool false,.int .i64 (i:Int)]∧0≤s∧(i=0→s=0)∧∀ p,0<i→l[i - 1]?=some p→s=p.id) (fun r=>V.bool r=.bool (aE fK (fun _=>true) l 0)) ?_ ?_ ⟨rfl,Int.le_refl _,fun _=>rfl,fun p h=>absurd h (Nat.lt_irrefl _)⟩ rfl
 ·rintro i s last vs S hi ⟨rfl,h0,h1,h2⟩ aF H
  have hil:=(List.getElem?_eq_some_iff.1 hi).1
  have hn:((s.reply=Rep.zero):Prop)=((s.reply.why=0∧s.reply.number=0)∧s.reply.gross=0):=by
   obtain ⟨_,_,⟨_,_,_⟩⟩:=s;simp [Rep.zero,and_assoc]
  have hnext:∀ (S':St),last<s.id→([V.bool false,V.int .i64 ((i+1:Nat):Int)]=[V.bool false,.int .i64 ((i+1:Nat):Int)]∧0≤s.id∧(i+1=0→s.id=0)∧∀ p,0<i+1→l[i+1 - 1]?=some p→s.id=p.id):=fun S' hl=>⟨rfl,by omega,fun e=>(by omega),fun p _ hp=>by rw [Nat.add_sub_cancel,hi] at hp;cases hp;rfl⟩
  have hst:fK last s=if s.id<1 then .inl false else if s.last<0 then .inl false else if 1099511627776<s.last then .inl false else if s.id≤last then .inl false else if s.last=0∧¬ ((s.reply.why=0∧s.reply.number=0)∧s.reply.gross=0) then .inl false else .inr s.id:=by
   unfold fK
   simp only [ne_eq,hn]
   grind
  rw [hst] at H
  simp only [↓cw,↓reduceIte,Nat.reduceLT,kk,bB hi,mD hi,Sess.enc,hJ (show i<1000000000 by omega),gm,if_true,oo]
  by_cases a1:s.id<1
  ·simp only [a1,if_true] at H ⊢;exact H
  by_cases a2:s.last<0
  ·simp only [a1,a2,if_true,if_false] at H ⊢;exact H
  by_cases a3:1099511627776<s.last
  ·simp only [a1,a2,a3,if_true,if_false] at H ⊢;exact H
  simp only [a1,a2,a3,if_false] at H ⊢
  have fin:∀ (a4:¬ s.id≤last),(if s.last=0 then (if (!((decide (s.reply.why=0)&&decide (s.reply.number=0))&&decide (s.reply.gross=0)))=true then V.bool false=V.bool (aE fK (fun x=>true) l 0) else aF [V.bool false,V.int .i64 ((i+1:Nat):Int)] ⟨S.next+57,S.heap⟩) else aF [V.bool false,V.int .i64 ((i+1:Nat):Int)] ⟨S.next+57,S.heap⟩):=by
   intro a4
   have hn:=hnext S (by omega)
   simp only [a4,if_false] at H
   by_cases a5:s.last=0
   ·by_cases a6:(s.reply.why=0∧s.reply.number=0)∧s.reply.gross=0
    ·simp only [a5,a6,and_self,not_true_eq_false,and_false,if_true,if_false,decide_true,Bool.and_self,Bool.not_true,Bool.false_eq_true] at H ⊢
     exact H _ _ hn
    ·have a6':(!((decide (s.reply.why=0)&&decide (s.reply.number=0))&&decide (s.reply.gross=0)))=true:=by simp only [Bool.not_eq_true',Bool.and_eq_false_iff,decide_eq_false_iff_not];omega
     simp only [a5,a6,a6',and_self,not_false_eq_true,if_true] at H ⊢
     exact H
   ·simp only [a5,false_and,if_false] at H ⊢
    exact H _ _ hn
  by_cases i0:i=0
  ·simp only [show ¬ (0:Int)<(i:Int) by omega,if_false]
   have:=fin (by have:=h1 i0;omega)
   simpa using this
  ·have hj:l[i - 1]?=some l[i - 1]:=List.getElem?_eq_getElem (by omega)
   have e0:=h2 _ (by omega) hj
   have w:wr .i64 ((i:Int) - 1)=((i - 1:Nat):Int):=by rw [nM (by omega) (by omega)];omega
   simp only [↓cw,↓reduceIte,Nat.reduceLT,show (0:Int)<(i:Int) by omega,if_true,w,mD hj,Sess.enc,kk,←e0]
   by_cases a4:s.id≤last
   ·simp only [a4,if_true] at H ⊢;exact H
   ·simp only [a4,if_false]
    simpa using fin a4
 ·rintro s vs S ⟨rfl,_⟩ aF H
  simp only [↓cw,↓reduceIte,Nat.reduceLT,kk,Int.lt_irrefl]
  exact H
theorem aQv (l:List Ser) (name:List UInt8) (hb:l.length<1000000) (S:St) (K:KW):C 117 [.imm (l.map Ser.enc),.str name] S K=K (.int .i64 (dH l name)) S:=by
 refine (bKm rfl ?_).eq S K
 delta Tryz.f117;simp only [↓cw,↓reduceIte,Nat.reduceLT,kk]
 refine aG l (step:=cR fun s:Ser=>s.name == name) (fin:=fun _=>-1) (fun i k vs S=>k=i∧vs=[.int .i64 0,.int .i64 (i:Int)]) (fun r=>r=dH l name) ?_ ?_ ⟨rfl,rfl⟩ rfl
 ·rintro i s k vs S hi ⟨rfl,rfl⟩ aF H
  have hil:=(List.getElem?_eq_some_iff.1 hi).1
  simp only [cR] at H
  simp only [↓cw,↓reduceIte,Nat.reduceLT,kk,bB hi,if_true,kT hi,Ser.enc,hJ (show k<1000000000 by omega)]
  cases c:s.name == name<;>simp only [↓cw,↓reduceIte,Nat.reduceLT,c,kk,if_true,if_false,Bool.false_eq_true,oo] at H ⊢
  ·exact H _ _ rfl
  ·rw [←H]
 ·rintro k vs S ⟨rfl,rfl⟩ aF H
  have H:(-1:Int)=_:=H
  simp only [↓cw,↓reduceIte,Nat.reduceLT,kk,Int.lt_irrefl,if_false,oo,←H]
theorem bD9 (l:List Sess) (id:Int) (hb:l.length<1000000) (S:St) (K:KW):C 185 [.imm (l.map Sess.enc),.int .i64 id] S K=K (.int .i64 (cE l id)) S:=by
 refine (bLk rfl ?_).eq S K
 delta Tryz.f185;simp only [↓cw,↓reduceIte,Nat.reduceLT,kk]
 refine aG l (step:=cR fun s:Sess=>decide (s.id=id)) (fin:=fun _=>-1) (fun i k vs S=>k=i∧vs=[.int .i64 0,.int .i64 (i:Int)]) (fun r=>r=cE l id) ?_ ?_ ⟨rfl,rfl⟩ rfl
 ·rintro i s k vs S hi ⟨rfl,rfl⟩ aF H
  have hil:=(List.getElem?_eq_some_iff.1 hi).1
  simp only [cR,decide_eq_true_eq] at H
  simp only [↓cw,↓reduceIte,Nat.reduceLT,kk,bB hi,if_true,mD hi,Sess.enc,hJ (show k<1000000000 by omega)]
  by_cases c:s.id=id<;>simp only [↓cw,↓reduceIte,Nat.reduceLT,c,kk,if_true,if_false,Bool.false_eq_true,oo] at H ⊢
  ·rw [←H]
  ·exact H _ _ rfl
 ·rintro k vs S ⟨rfl,rfl⟩ aF H
  have H:(-1:Int)=_:=H
  simp only [↓cw,↓reduceIte,Nat.reduceLT,kk,Int.lt_irrefl,if_false,oo,←H]
theorem aE1 (x:Rate):bE x x=false:=by
 unfold bE Date.before
 rw [rY]
 simp
theorem aMb {x r:Rate} (hc:x.cat=r.cat) (hd:x.day=r.day) (y:Rate):bE y x=bE y r∧bE x y=bE r y:=by
 unfold bE
 rw [hc,hd]
 exact ⟨rfl,rfl⟩
theorem aMc {x r:Rate} (hx:x.day.right=true) (hr:r.day.right=true):bE x r=true∨bE r x=true∨x.cat=r.cat∧x.day=r.day:=by
 rw [nU,nU]
 rcases zW x.cat r.cat with h | h | h
 ·exact .inl (.inl h)
 ·have hb:∀ a b:Date,a.right=true→b.right=true→(a.before b=true↔a.days<b.days):=fun a b ha hb=>by unfold Date.before;rw [ha,hb];simp
  rcases Int.lt_trichotomy x.day.days r.day.days with d | d | d
  ·exact .inl (.inr ⟨h,(hb _ _ hx hr).2 d⟩)
  ·exact .inr (.inr ⟨h,aJs hx hr d⟩)
  ·exact .inr (.inl (.inr ⟨h.symm,(hb _ _ hr hx).2 d⟩))
 ·exact .inr (.inl (.inl h))
theorem aK3 {r:Rate}:∀ (l:List Rate) (k:Nat),aE (iM r) some l k=none→∃ x∈l,x.cat=r.cat∧x.day=r.day
 | [],k,h=>by cases h
 | x::l,k,h=>by
  simp only [aE,iM] at h
  by_cases c:(x.cat == r.cat)=true∧x.day=r.day
  ·exact ⟨x,List.mem_cons_self ..,by simpa using c.1,c.2⟩
  ·rw [if_neg c] at h
   obtain ⟨y,hy,e⟩:=aK3 l _ h
   exact ⟨y,List.mem_cons_of_mem _ hy,e⟩
theorem aP3 {α:Type} {p:α→Bool} {l:List α} {a:α} (h:l[fE p l]?=some a):p a=false:=by
 rw [aOr] at h
 exact aAm h
theorem aMd {α:Type} {p:α→Bool}:∀ {l:List α} {i:Nat} {a:α},l[i]?=some a→i<fE p l→p a=true:=by
 intro l i a h hi
 unfold fE at hi
 rw [gW] at hi
 have h2:(l.takeWhile p)[i]?=some a:=by
  have e:l=l.takeWhile p++l.dropWhile p:=(List.takeWhile_append_dropWhile).symm
  rw [e,List.getElem?_append_left (by omega)] at h
  exact h
 exact (lI (List.mem_of_getElem? h2)).1
theorem aK4 {l:List Rate} {r:Rate} (h:dK l=true) (hr:sS r=0):
  dE l r=if (match l[fE (fun x=>bE x r) l]? with
   | some x=>!bE r x
   | none=>false)=true then ([],12) else if 24≤l.length then ([],2) else (cY l (fE (fun x=>bE x r) l) r,0):=by
 obtain ⟨_,h2,h3⟩:=(lC l).1 h
 have rr:=(mT hr).2.1
 have lr:∀ x∈l,x.day.right=true:=fun x hx=>(mT (h2 x hx)).2.1
 unfold dE
 rw [if_neg (by rw [h];simp),if_neg (by rw [hr];simp)]
 cases e:aE (iM r) some l 0 with
 | none=>
  obtain ⟨x,hx,hc,hd⟩:=aK3 l 0 e
  obtain ⟨i,hi⟩:=List.getElem?_of_mem hx
  have hk:=aMb hc hd
  have hxr:bE x r=false:=by rw [←(hk x).1];exact aE1 x
  have hrx:bE r x=false:=by rw [←(hk x).2];exact aE1 x
  have hle:¬ i<fE (fun x=>bE x r) l:=fun q=>by have:=aMd hi q;rw [hxr] at this;cases this
  have hil:=(List.getElem?_eq_some_iff.1 hi).1
  have hat:l[fE (fun x=>bE x r) l]?=some l[fE (fun x=>bE x r) l]:=List.getElem?_eq_getElem (by omega)
  have heq:fE (fun x=>bE x r) l=i:=by
   rcases Nat.lt_or_ge (fE (fun x=>bE x r) l) i with q | q
   ·have h4:=aP3 hat
    have h5:bE l[fE (fun x=>bE x r) l] x=true:=by
     have:=List.pairwise_iff_getElem.1 h3 _ _ (by omega) hil q
     rw [(List.getElem?_eq_some_iff.1 hi).2] at this
     exact this
    rw [(hk _).1] at h5
    rw [h5] at h4;cases h4
   ·omega
  rw [heq,hi]
  simp only [hrx,Bool.not_false,if_true]
 | some n=>
  obtain ⟨q1,q2⟩:=bD7 l 0 n e
  have hn:n=fE (fun x=>bE x r) l:=by
   rw [q2,pE h3 fun a b hab hb=>mS hab hb]
   unfold fE
   rw [gW]
  have hc:(match l[fE (fun x=>bE x r) l]? with
   | some x=>!bE r x
   | none=>false)=false:=by
   cases hat:l[fE (fun x=>bE x r) l]? with
   | none=>rfl
   | some y=>
    have hy:=List.mem_of_getElem? hat
    have h4:=aP3 hat
    rcases aMc (lr y hy) rr with q | q | q
    ·rw [q] at h4;cases h4
    ·simp [q]
    ·exact absurd q (q1 y hy)
  rw [hc,hn]
  simp
theorem bs0 (n:Nat) (z:List V) (fr:Option Nat) (S:St):cI n z 0 [] fr S=(match bG fr S (.row 0 n []) with
  | .error e=>.error e
  | .ok (a,S')=>.ok (.sl a 0 n 0 0,S')):=by unfold cI;rw [if_pos (by omega)];rfl
theorem aE2 {α:Type} {enc:α→List V} {n:Nat} (hl:∀ x,(enc x).length=n∧aJ (enc x)=true) {l:List α} {S:St} {a ver:Nat} (hg:S.heap.get a=some (.row ver n (l.map enc))) (ha:a<S.next):Own E0 S n (.sl a ver n 0 l.length) (l.map enc):=
 ⟨.inr ⟨a,ver,[],by rw [List.length_map],Nat.zero_le _,ha,by rw [List.append_nil];exact hg⟩,fun c hc=>by obtain ⟨x,_,rfl⟩:=List.mem_map.1 hc;exact hl x⟩
theorem bJi {α:Type} {enc:α→List V} {n b:Nat} (hl:∀ x,(enc x).length=n∧aJ (enc x)=true) (l:List α) {S:St} (w:WF S) (h1:l.length*b≤35184372088832) (h2:l.length<dY):
  ∃ S',dW n b (.sl S.next 0 n 0 0) (.imm (l.map enc)) none ⟨S.next+1,S.heap.put S.next (.row 0 n [])⟩=.ok (.sl S.next 1 n 0 l.length,S')∧Own E0 S' n (.sl S.next 1 n 0 l.length) (l.map enc)∧WF S'∧S'.next=S.next+1∧∀ y,y≠S.next→S'.heap.get y=S.heap.get y:=by
 have hg:aA ⟨S.next+1,S.heap.put S.next (.row 0 n [])⟩ S.next 0=.ok (n,[]):=aC _ _ _ _ _ _
 refine ⟨_,pX hl l hg h1 h2 none,aE2 hl (Tr.get_put_sameB _ _ _ trivial) (Nat.lt_succ_self _),eB (n:=S.next+1) (eB (n:=S.next) w (Nat.lt_succ_self _) (Nat.le_succ _)) (Nat.lt_succ_self _) (Nat.le_refl _),rfl,fun y hy=>?_⟩
 show ((S.heap.put S.next _).put S.next _).get y=_
 rw [Tr.get_put_neB _ _ _ _ trivial hy,Tr.get_put_neB _ _ _ _ trivial hy]
theorem aE3 {α:Type} {enc:α→List V} {n b:Nat} (hl:∀ x,(enc x).length=n∧aJ (enc x)=true) (l:List α) (x:α) {S:St} {a k ver:Nat} (hg:aA S a ver=.ok (n,l.map enc)) (hx:aA S k 0=.ok (n,[enc x])) (h1:(l.length+1)*b≤35184372088832) (h2:l.length+1<dY) (fr:Option Nat):
  dW n b (.sl a ver n 0 l.length) (.sl k 0 n 0 1) fr S=.ok (.sl a (ver+1) n 0 (l.length+1),⟨S.next,S.heap.put a (.row (ver+1) n ((l++[x]).map enc))⟩):=by
 have hu:aR S (.sl k 0 n 0 1)=.ok [enc x]:=by simp only [aR,hx];rfl
 have a1:iW n [enc x]=true∧[enc x].all aJ=true:=cM (fun c hc=>by rcases List.mem_singleton.1 hc with rfl;exact hl x)
 simp only [dW,hu,a1,and_self,if_true,hg,List.length_map,Nat.zero_add,Nat.le_refl,List.length_cons,List.length_nil,h1,h2,List.drop_zero,List.map_append,List.map_cons,List.map_nil]
 rw [List.take_of_length_le (by rw [List.length_map];exact Nat.le_refl _)]
theorem bJj {α:Type} {enc:α→List V} {n b:Nat} (hl:∀ x,(enc x).length=n∧aJ (enc x)=true) (l:List α) (x:α) {i:Nat} (hi:i≤l.length) {S:St} {k1 k2 m:Nat} (hne:k1≠k2) (hk1:k1<S.next) (hm:S.next≤m) (hg:aA S k1 0=.ok (n,[])) (w:WF S) (hk2:k2<m) (h1:(l.length+1)*b≤35184372088832) (h2:l.length+1<dY) (f1 f2 f3:Option Nat):
  ∃ S1 S2 S3:St,dW n b (.sl k1 0 n 0 0) (.imm ((l.take i).map enc)) f1 S=.ok (.sl k1 1 n 0 i,S1)∧S1.next=S.next∧dW n b (.sl k1 1 n 0 i) (.sl k2 0 n 0 1) f2 ⟨m,S1.heap.put k2 (.row 0 n [enc x])⟩=.ok (.sl k1 2 n 0 (i+1),S2) ∧
   dW n b (.sl k1 2 n 0 (i+1)) (.imm ((l.drop i).map enc)) f3 S2=.ok (.sl k1 3 n 0 (l.length+1),S3)∧S3.next=m∧WF S3∧Own E0 S3 n (.sl k1 3 n 0 (l.length+1)) ((cY l i x).map enc)∧(∀ y,y≠k1→S1.heap.get y=S.heap.get y)∧(∀ y,y≠k1→y≠k2→S2.heap.get y=S.heap.get y)∧∀ y,y≠k1→y≠k2→S3.heap.get y=S.heap.get y:=by
 have lt:(l.take i).length=i:=by rw [List.length_take];omega
 have ld:(l.drop i).length=l.length - i:=List.length_drop
 have hb:∀ j,j≤l.length+1→j*b≤35184372088832:=fun j hj=>Nat.le_trans (Nat.mul_le_mul_right b hj) h1
 have q1:=pX (b:=b) hl (l.take i) hg (hb _ (by omega)) (by omega) f1
 rw [lt] at q1
 have g2:aA ⟨m,(S.heap.put k1 (.row 1 n ((l.take i).map enc))).put k2 (.row 0 n [enc x])⟩ k1 1=.ok (n,(l.take i).map enc):=aI (S:=⟨S.next,S.heap.put k1 (.row 1 n ((l.take i).map enc))⟩) (aC _ _ _ _ _ _) (Tr.get_put_neB _ _ _ _ trivial hne)
 have g3:aA ⟨m,(S.heap.put k1 (.row 1 n ((l.take i).map enc))).put k2 (.row 0 n [enc x])⟩ k2 0=.ok (n,[enc x]):=aC _ _ _ _ _ _
 have q2:=aE3 (b:=b) hl (l.take i) x g2 g3 (hb _ (by omega)) (by omega) f2
 rw [lt] at q2
 have g4:aA ⟨m,((S.heap.put k1 (.row 1 n ((l.take i).map enc))).put k2 (.row 0 n [enc x])).put k1 (.row 2 n ((l.take i++[x]).map enc))⟩ k1 2=.ok (n,(l.take i++[x]).map enc):=aC _ _ _ _ _ _
 have l1:(l.take i++[x]).length=i+1:=by rw [List.length_append,lt];rfl
 have q3:=aVg (b:=b) hl (l.take i++[x]) (l.drop i) g4 (hb _ (by omega)) (by omega) f3
 rw [l1,ld] at q3
 have e:i+1+(l.length - i)=l.length+1:=by omega
 rw [e] at q3
 have ei:l.take i++[x]++l.drop i=cY l i x:=by simp [cY]
 have li:(cY l i x).length=l.length+1:=by rw [←ei,List.length_append,l1,ld];omega
 rw [ei] at q3
 have own:=aE2 hl (l:=cY l i x) (S:=⟨m,(((S.heap.put k1 (.row 1 n ((l.take i).map enc))).put k2 (.row 0 n [enc x])).put k1 (.row 2 n ((l.take i++[x]).map enc))).put k1 (.row 3 n ((cY l i x).map enc))⟩) (a:=k1) (ver:=3) (Tr.get_put_sameB _ _ _ trivial) (by show k1<m;omega)
 rw [li] at own
 refine ⟨_,_,_,q1,rfl,q2,q3,rfl,?_,own,fun y hy=>Tr.get_put_neB _ _ _ _ trivial hy,fun y hy hy2=>?_,fun y hy hy2=>?_⟩
 ·exact eB (n:=m) (eB (n:=m) (eB (n:=S.next) (eB (n:=S.next) w hk1 (Nat.le_refl _)) hk2 hm) (show k1<m by omega) (Nat.le_refl _)) (show k1<m by omega) (Nat.le_refl _)
 ·show (((S.heap.put k1 _).put k2 _).put k1 _).get y=_
  rw [Tr.get_put_neB _ _ _ _ trivial hy,Tr.get_put_neB _ _ _ _ trivial hy2,Tr.get_put_neB _ _ _ _ trivial hy]
 ·show ((((S.heap.put k1 _).put k2 _).put k1 _).put k1 _).get y=_
  rw [Tr.get_put_neB _ _ _ _ trivial hy,Tr.get_put_neB _ _ _ _ trivial hy,Tr.get_put_neB _ _ _ _ trivial hy2,Tr.get_put_neB _ _ _ _ trivial hy]
theorem aMe {P:Program} {T n:Nat} {α:Type} {enc:α→List V} (hs:∀ (es:List (List V)) (_:iW n es=true) (lo hi:Option V),dF P T (.imm es) lo hi=(match dJ es.length lo hi with
  | .ok (l,h)=>.ok (.imm ((es.take h).drop l))
  | .error e=>.error e)) (hl:∀ x,(enc x).length=n∧aJ (enc x)=true) (l:List α) {k:Nat} (hk:k≤l.length):dF P T (.imm (l.map enc)) none (some (.int .i64 (k:Int)))=.ok (.imm ((l.take k).map enc)):=by
 have hb:dJ (l.map enc).length none (some (.int .i64 (k:Int)))=.ok (0,k):=by
  have:(decide ((0:Int)≤(k:Int))&&decide ((k:Int)≤((l.map enc).length:Int)))=true:=by simp;omega
  simp only [dJ,this,cond_true]
  rfl
 rw [hs _ (cM (fun c hc=>by obtain ⟨x,_,rfl⟩:=List.mem_map.1 hc;exact hl x)).1,hb]
 simp only [List.drop_zero,List.map_take]
theorem aMf {P:Program} {T n:Nat} {α:Type} {enc:α→List V} (hs:∀ (es:List (List V)) (_:iW n es=true) (lo hi:Option V),dF P T (.imm es) lo hi=(match dJ es.length lo hi with
  | .ok (l,h)=>.ok (.imm ((es.take h).drop l))
  | .error e=>.error e)) (hl:∀ x,(enc x).length=n∧aJ (enc x)=true) (l:List α) {k:Nat} (hk:k≤l.length):dF P T (.imm (l.map enc)) (some (.int .i64 (k:Int))) none=.ok (.imm ((l.drop k).map enc)):=by
 have hb:dJ (l.map enc).length (some (.int .i64 (k:Int))) none=.ok (k,l.length):=by
  have:(decide ((0:Int)≤(k:Int))&&decide ((k:Int)≤((l.map enc).length:Int)))=true:=by simp;omega
  simp only [dJ,List.length_map] at this ⊢
  simp [hk]
 rw [hs _ (cM (fun c hc=>by obtain ⟨x,_,rfl⟩:=List.mem_map.1 hc;exact hl x)).1,hb]
 simp only [List.map_drop]
 rw [List.take_of_length_le (by rw [List.length_map];exact Nat.le_refl _)]
theorem bPe (l:List Rate) (cat:List UInt8) (d:Date) (S:St) (K:KW):C 242 [.imm (l.map Rate.enc),.str cat,.agg [.int .i64 d.y,.int .i64 d.m,.int .i64 d.d]] S K=K (.tup [.int .i64 (eU l cat d).1,.bool (eU l cat d).2]) S:=by
 refine (bMi rfl ?_).eq S K
 delta Tryz.f242;simp only [↓cw,↓reduceIte,Nat.reduceLT,kk,cN,gm,aY8,aM0,eU]
 by_cases hr:dK l=true
 ·have hb:=nO hr
  simp only [↓cw,↓reduceIte,Nat.reduceLT,hr,kk,Bool.true_eq_false,if_false]
  cases hd:d.right
  ·simp only [↓cw,↓reduceIte,Nat.reduceLT,hd,kk,oo,if_true]
  simp only [↓cw,↓reduceIte,Nat.reduceLT,hd,kk,Bool.true_eq_false,if_false]
  refine aG l (step:=gA cat d) (fin:=id) (fun i s vs S=>vs=[.int .i64 s.1,.bool s.2,.int .i64 (i:Int)]∧aA S 0 0=.ok (3,[d.enc])) (fun r=>r=aE (gA cat d) id l (0,false)) ?_ ?_ (s:=(0,false)) ⟨rfl,by simp only [↓cw,↓reduceIte,Nat.reduceLT,kk];rfl⟩ rfl
  ·rintro i r ⟨bp,ok⟩ vs S hi ⟨rfl,hg⟩ aF H
   have hil:=(List.getElem?_eq_some_iff.1 hi).1
   have hrr:r.day.right=true:=(mT (((lC l).1 hr).2.1 r (List.mem_of_getElem? hi))).2.1
   have hbe:(d.before r.day=false)=(r.day.days≤d.days):=by
    unfold Date.before
    rw [hd,hrr]
    simp
   simp only [Date.enc] at hg
   simp only [gA,hbe] at H
   simp only [↓cw,↓reduceIte,Nat.reduceLT,kk,bB hi,nR hi,Rate.enc,hJ (show i<1000000000 by omega),gm,hg,aXp]
   cases c1:(r.cat == cat)<;>simp only [↓cw,↓reduceIte,Nat.reduceLT,c1,kk,Bool.false_eq_true,false_and,if_false,true_and,if_true] at H ⊢
   ·exact H _ _ ⟨rfl,hg⟩
   ·by_cases c2:r.day.days≤d.days<;>simp only [↓cw,↓reduceIte,Nat.reduceLT,c2,kk,if_true,if_false] at H ⊢<;>exact H _ _ ⟨rfl,hg⟩
  ·rintro ⟨bp,ok⟩ vs S ⟨rfl,hg⟩ aF H
   have H:(bp,ok)=aE (gA cat d) id l (0,false):=H
   simp only [↓cw,↓reduceIte,Nat.reduceLT,kk,Int.lt_irrefl,if_false,oo,←H]
 ·have hr:dK l=false:=by simpa using hr
  simp only [↓cw,↓reduceIte,Nat.reduceLT,hr,kk,oo,if_true]
theorem bPf (l:List Bal) (hb:l.length<1000000) (S:St) (K:KW):C 199 [.imm (l.map Bal.enc)] S K=K (.bool (vO l)) S:=by
 refine (bLu rfl ?_).eq S K
 delta Tryz.f199;simp only [↓cw,↓reduceIte,Nat.reduceLT]
 refine aG (l.drop 1) (step:=tQ) (fin:=fun _=>true) (fun i s vs S=>s=l[i]?∧vs=[.bool false,.int .i64 ((i+1:Nat):Int)]) (fun r=>r=vO l) ?_ ?_ (s:=l[0]?) ⟨rfl,rfl⟩ rfl
 ·rintro i r s vs S hi ⟨rfl,rfl⟩ aF H
  rw [List.getElem?_drop,Nat.add_comm] at hi
  have hil:=(List.getElem?_eq_some_iff.1 hi).1
  have hj:l[i]?=some l[i]:=List.getElem?_eq_getElem (by omega)
  simp only [hj,tQ,hi] at H
  simp only [↓cw,↓reduceIte,Nat.reduceLT,kk,bB hi,if_true,lS hi,lS hj,Bal.enc,wrm (show i+1<1000000000 by omega),hJ (show i+1<1000000000 by omega),gm]
  cases c:fN l[i].acc r.acc<;>simp only [↓cw,↓reduceIte,Nat.reduceLT,c,kk,Bool.not_false,Bool.not_true,if_true,if_false,Bool.false_eq_true,oo] at H ⊢
  ·rw [←H]
  ·exact H _ _ rfl
 ·rintro s vs S ⟨rfl,rfl⟩ aF H
  have H:true=vO l:=H
  have hn:¬ (((l.drop 1).length+1:Nat):Int)<(l.length:Int):=by rw [List.length_drop];omega
  simp only [↓cw,↓reduceIte,Nat.reduceLT,kk,hn,if_false,oo,←H]
theorem bPg (l:List Rate) (r:Rate) (S:St) (K:KW):C 189 [.imm (l.map Rate.enc),.agg [.str r.cat,.int .i64 r.day.y,.int .i64 r.day.m,.int .i64 r.day.d,.int .i64 r.bp]] S K=K (.tup [.imm ((dE l r).1.map Rate.enc),.int .i64 (dE l r).2]) S:=by
 refine (bN7 rfl ?_).eq S K
 simp only [aX4,kk,cN,gm,aY8,bId]
 by_cases h:dK l=true
 rotate_left
 ·have h:dK l=false:=by simpa using h
  have e:dE l r=([],1):=by unfold dE;rw [if_pos h]
  simp only [h,e,kk,Bool.not_false,if_true,oo,List.map_nil]
 by_cases hr:sS r=0
 rotate_left
 ·have e:dE l r=([],sS r):=by unfold dE;rw [if_neg (by rw [h];simp),if_pos hr]
  simp only [h,hr,e,kk,Bool.not_true,Bool.false_eq_true,not_false_eq_true,if_true,if_false,oo,List.map_nil]
 have hb:=nO h
 have rr:=(mT hr).2.1
 have lr:∀ x∈l,x.day.right=true:=fun x hx=>(mT (((lC l).1 h).2.1 x hx)).2.1
 have low:=aK4 h hr
 obtain ⟨k,hk⟩:∃ k,k=fE (fun x=>bE x r) l:=⟨_,rfl⟩
 rw [←hk] at low
 have hkl:k≤l.length:=by rw [hk];unfold fE;rw [gW];have:=(List.takeWhile_prefix (fun x=>bE x r) (l:=l)).length_le;omega
 obtain ⟨S0,hS0⟩:∃ S0:St,S0=⟨0+1,Tr.nil.put 0 (.row 0 5 [r.enc])⟩:=⟨_,rfl⟩
 have w0:WF S0:=by rw [hS0];exact eB lB (by decide) (by decide)
 have r0:aA S0 0 0=.ok (5,[r.enc]):=by rw [hS0];rfl
 have n0:S0.next=1:=by rw [hS0]
 simp only [Rate.enc] at hS0 r0
 simp only [h,hr,kk,Bool.not_true,Bool.false_eq_true,not_true_eq_false,if_false]
 have hj1:∀ X:St,X.heap=S0.heap→S0.next≤X.next→dE l r=(if 24≤l.length then ([],2) else (cY l k r,0))→yX C (fun v0 S0=>dS S0 v0=Except.ok (V.tup [.imm ((dE l r).1.map Rate.enc),.int .i64 (dE l r).2])) (.imm (l.map Rate.enc)) (.ptr 0 0 0 0) (.int .i64 (k:Int)) X:=by
  intro X hh hn e
  have rX:∀ m,aA ⟨m,X.heap⟩ 0 0=aA S0 0 0:=fun m=>by unfold aA;rw [hh]
  have wX:WF X:=fun a b hab=>by rw [hh] at hab;have:=w0 a b hab;omega
  by_cases c:24≤l.length
  ·rw [if_pos c] at e
   simp only [yX,kk,show (24:Int)≤(l.length:Int) by omega,if_true,oo,e,List.map_nil]
  ·rw [if_neg c] at e
   obtain ⟨Y,hY⟩:∃ Y:St,Y=⟨X.next+14,X.heap.put X.next (.row 0 5 [])⟩:=⟨_,rfl⟩
   have wY:WF Y:=by rw [hY];exact eB (n:=X.next) wX (by omega) (by omega)
   have gY:aA Y X.next 0=.ok (5,[]):=by rw [hY];exact aC _ _ _ _ _ _
   have nY:Y.next=X.next+14:=by rw [hY]
   obtain ⟨S1,S2,S3,q1,m1,q2,q3,n3,w3,own,k1,k2,k3⟩:=bJj (b:=48) aJl l r hkl (S:=Y) (k1:=X.next) (k2:=X.next+6) (m:=Y.next) (by omega) (by omega) (Nat.le_refl _) gY wY (by omega) (by omega) (by unfold dY;omega) (some (X.next+4)) (some (X.next+7)) (some (X.next+11))
   have e1:aA S1 0 0=aA S0 0 0:=by
    rw [r0]
    refine aI (S:=X) (by rw [←r0];exact rX X.next) ?_
    rw [k1 0 (by omega),hY]
    exact Tr.get_put_neB _ _ _ _ trivial (by omega)
   have mm:(⟨Y.next,S1.heap.put (X.next+6) (.row 0 5 [r.enc])⟩:St)=⟨S1.next,S1.heap.put (X.next+6) (.row 0 5 [r.enc])⟩:=by rw [m1]
   rw [mm] at q2
   simp only [Rate.enc] at q2
   have of:=own.out fun _=>rfl
   simp only [yX,kk,show ¬ (24:Int)≤(l.length:Int) by omega,if_false,aMe bBk aJl l hkl,aMf bBk aJl l hkl,rX,r0,bs0,Nat.add_zero,←hY,q1,e1,aXs,q2,q3,oo,of,e]
 have hj0:∀ X:St,X.heap=S0.heap→S0.next≤X.next→yY C (fun v0 S0=>dS S0 v0=Except.ok (V.tup [.imm ((dE l r).1.map Rate.enc),.int .i64 (dE l r).2])) (.imm (l.map Rate.enc)) (.ptr 0 0 0 0) (.int .i64 (k:Int)) X:=by
  intro X hh hn
  have rX:∀ m,aA ⟨m,X.heap⟩ 0 0=aA S0 0 0:=fun m=>by unfold aA;rw [hh]
  by_cases c:k<l.length
  ·have hx:l[k]?=some l[k]:=List.getElem?_eq_getElem c
   have hb3:=xK rr (lr _ (List.mem_of_getElem? hx))
   rw [hx] at low
   simp only at low
   simp only [yY,kk,bB hx,if_true,rX,r0,nR hx,Rate.enc,bD8,hb3]
   cases c2:bE r l[k]
   ·simp only [c2,Bool.not_false,if_true] at low
    simp only [c2,kk,Bool.not_false,if_true,oo,low,List.map_nil]
   ·simp only [c2,Bool.not_true,Bool.false_eq_true,if_false] at low
    simp only [c2,kk,Bool.not_true,Bool.false_eq_true,if_false]
    exact hj1 _ hh (by show S0.next≤X.next+13;omega) low
  ·have hx:l[k]?=none:=List.getElem?_eq_none (by omega)
   rw [hx] at low
   simp only [Bool.false_eq_true,if_false] at low
   simp only [yY,kk,show ¬ (k:Int)<(l.length:Int) by omega,if_false]
   exact hj1 _ hh (by show S0.next≤X.next+13;omega) low
 rw [←hS0]
 refine aG l (step:=dM (fun x:Rate=>bE x r)) (fin:=id) (fun i n vs X=>n=i∧vs=[.int .i64 (i:Int)]∧X.heap=S0.heap∧S0.next≤X.next) (fun n=>n=k) ?_ ?_ (s:=0) ⟨rfl,rfl,rfl,Nat.le_refl _⟩ hk.symm
 ·rintro i x n vs X hi ⟨rfl,rfl,hh,hn⟩ aF H
  have hil:=(List.getElem?_eq_some_iff.1 hi).1
  have rX:∀ m,aA ⟨m,X.heap⟩ 0 0=aA S0 0 0:=fun m=>by unfold aA;rw [hh]
  have hb3:=xK (lr _ (List.mem_of_getElem? hi)) rr
  simp only [dM] at H
  simp only [aHl,kk,bB hi,if_true,nR hi,Rate.enc,rX,r0,bD8,hb3,hJ (show n<1000000000 by omega)]
  cases c:bE x r<;>simp only [c,kk,if_true,if_false,Bool.false_eq_true] at H ⊢
  ·have H:n=k:=H
   rw [H]
   exact hj0 _ hh (by show S0.next≤X.next+12;omega)
  ·exact H _ _ ⟨rfl,hh,by show S0.next≤X.next+12;omega⟩
 ·rintro n vs X ⟨rfl,rfl,hh,hn⟩ aF H
  have H:l.length=k:=H
  simp only [aHl,kk,Int.lt_irrefl,if_false]
  rw [H]
  exact hj0 _ hh (by show S0.next≤X.next+12;omega)
theorem aK5 {α:Type} {enc:α→List V} {n b:Nat} (hl:∀ x,(enc x).length=n∧aJ (enc x)=true) (l:List α) {S:St} (w:WF S) (h1:l.length*b≤35184372088832) (h2:l.length<dY):
  ∃ v S',dW n b (.sl S.next 0 n 0 0) (.imm (l.map enc)) none ⟨S.next+1,S.heap.put S.next (.row 0 n [])⟩=.ok (v,S')∧Own E0 S' n v (l.map enc)∧WF S'∧S'.next=S.next+1∧(∀ y,y≠S.next→S'.heap.get y=S.heap.get y)∧AM.blkOf v=some S.next:=by
 obtain ⟨S',q1,q2,q3,q4,q5⟩:=bJi (b:=b) hl l w h1 h2
 exact ⟨_,S',q1,q2,q3,q4,q5,rfl⟩
theorem bPh (l:List Ser) (name:List UInt8) (limit:Int) (S:St) (K:KW):C 186 [.imm (l.map Ser.enc),.str name,.int .i64 limit] S K=K (.tup [.imm ((fL l name limit).1.map Ser.enc),.int .i64 (fL l name limit).2]) S:=by
 refine (bN6 rfl ?_).eq S K
 simp only [aX2,kk,aY9,fL]
 cases h:jP l
 ·simp only [h,kk,Bool.not_false,if_true,oo,List.map_nil]
 have hb:=iG h
 cases hn:dT name
 ·simp only [h,kk,aQi,hn,Bool.not_true,Bool.not_false,Bool.true_eq_false,Bool.false_eq_true,if_true,if_false,oo,List.map_nil]
 simp only [h,kk,aQi,hn,Bool.not_true,Bool.true_eq_false,Bool.false_eq_true,if_false]
 by_cases c:limit<1∨1099511627776<limit
 ·simp only [c,if_true]
  by_cases c1:limit<1
  ·simp only [c1,if_true,yW,kk,oo,List.map_nil]
  ·have c2:1099511627776<limit:=by omega
   simp only [c1,c2,if_false,decide_true,yW,kk,if_true,oo,List.map_nil]
 simp only [c,if_false,show ¬ limit<1 by omega,show ¬ 1099511627776<limit by omega,decide_false,yW,kk,Bool.false_eq_true,aQv l name (by omega)]
 by_cases c3:0≤dH l name
 ·simp only [c3,if_true,oo,List.map_nil,or_self,if_false]
 simp only [c3,if_false]
 by_cases c4:8≤l.length
 ·simp only [c4,show (8:Int)≤(l.length:Int) by omega,if_true,oo,List.map_nil,or_self,if_false]
 simp only [c4,show ¬ (8:Int)≤(l.length:Int) by omega,if_false]
 obtain ⟨k,hk⟩:∃ k,k=fE (fun s:Ser=>fN s.name name) l:=⟨_,rfl⟩
 have hkl:k≤l.length:=by rw [hk];unfold fE;rw [gW];have:=(List.takeWhile_prefix (fun s:Ser=>fN s.name name) (l:=l)).length_le;omega
 rw [←hk]
 have hj1:aC4 C (fun v0 S0=>dS S0 v0=Except.ok (V.tup [.imm ((cY l k ⟨name,1,limit,false⟩).map Ser.enc),.int .i64 0])) (.imm (l.map Ser.enc)) (.str name) (.int .i64 limit) (.int .i64 (k:Int)) ⟨0,.nil⟩:=by
  obtain ⟨Y,hY⟩:∃ Y:St,Y=⟨0+16,Tr.nil.put 0 (.row 0 4 [])⟩:=⟨_,rfl⟩
  have wY:WF Y:=by rw [hY];exact eB (n:=0) lB (by decide) (by decide)
  have gY:aA Y 0 0=.ok (4,[]):=by rw [hY];exact aC _ _ _ _ _ _
  have nY:Y.next=16:=by rw [hY]
  obtain ⟨S1,S2,S3,q1,m1,q2,q3,n3,w3,own,k1,k2,k3⟩:=bJj (b:=40) aEl l ⟨name,1,limit,false⟩ hkl (S:=Y) (k1:=0) (k2:=0+8) (m:=Y.next) (by decide) (by omega) (Nat.le_refl _) gY wY (by omega) (by omega) (by unfold dY;omega) (some (0+4)) (some (0+9)) (some (0+13))
  have mm:∀ b,(⟨Y.next,S1.heap.put (0+8) b⟩:St)=⟨S1.next,S1.heap.put (0+8) b⟩:=fun b=>by rw [m1]
  rw [mm] at q2
  simp only [Ser.enc] at q2
  have of:=own.out fun _=>rfl
  simp only [aC4,kk,aMe bBl aEl l hkl,aMf bBl aEl l hkl,bs0,Nat.add_zero,←hY,q1,aQj,q2,q3,oo,of]
 refine aG l (step:=dM (fun x:Ser=>fN x.name name)) (fin:=id) (fun i n vs X=>n=i∧vs=[.int .i64 (i:Int)]∧X=⟨0,.nil⟩) (fun n=>n=k) ?_ ?_ (s:=0) ⟨rfl,rfl,rfl⟩ hk.symm
 ·rintro i x n vs X hi ⟨rfl,rfl,rfl⟩ aF H
  have hil:=(List.getElem?_eq_some_iff.1 hi).1
  simp only [dM] at H
  simp only [aHk,kk,bB hi,if_true,kT hi,Ser.enc,hJ (show n<1000000000 by omega)]
  cases c:fN x.name name<;>simp only [c,kk,if_true,if_false,Bool.false_eq_true] at H ⊢
  ·have H:n=k:=H
   rw [H]
   exact hj1
  ·exact H _ _ ⟨rfl,rfl⟩
 ·rintro n vs X ⟨rfl,rfl,rfl⟩ aF H
  have H:l.length=k:=H
  simp only [aHk,kk,Int.lt_irrefl,if_false]
  rw [H]
  exact hj1
theorem vB {l:List Ser} {name:List UInt8} (h:¬ dH l name<0):∃ (i:Nat) (s:Ser),dH l name=(i:Int)∧l[i]?=some s:=by
 rcases gR (fun x:Ser=>x.name == name) l with e | ⟨i,a,e,hi,_⟩
 ·exact absurd (show dH l name<0 by unfold dH;rw [e];decide) h
 ·exact ⟨i,a,e,hi⟩
theorem bPi (l:List Ser) (name:List UInt8) (S:St) (K:KW):C 188 [.imm (l.map Ser.enc),.str name] S K=K (.tup [.imm ((oO l name).1.map Ser.enc),.int .i64 (oO l name).2]) S:=by
 refine (bLm rfl ?_).eq S K
 delta Tryz.f188;simp only [↓cw,↓reduceIte,Nat.reduceLT,kk,aY9,oO,jJ]
 cases h:jP l
 ·simp only [↓cw,↓reduceIte,Nat.reduceLT,h,kk,Bool.not_false,if_true,oo,List.map_nil,ne_eq,Int.one_ne_zero,not_false_eq_true]
 have hb:=iG h
 simp only [↓cw,↓reduceIte,Nat.reduceLT,h,kk,Bool.not_true,Bool.true_eq_false,Bool.false_eq_true,if_false,aQv l name (by omega)]
 by_cases c:dH l name<0
 ·simp only [c,if_true,oo,List.map_nil,ne_eq,show ¬ (11:Int)=0 by decide,not_false_eq_true]
 obtain ⟨i,s,e,hi⟩:=vB c
 have hil:=(List.getElem?_eq_some_iff.1 hi).1
 simp only [↓cw,↓reduceIte,Nat.reduceLT,c,if_false,e,show ¬ (i:Int)<0 by omega,Int.toNat_natCast,hi,kT hi,Ser.enc,kk]
 cases hs:s.shut
 ·obtain ⟨v,Y,q1,own,w,n1,k1,_⟩:=aK5 (b:=40) aEl l lB (by omega) (by unfold dY;omega)
  obtain ⟨a,ver,hv,_,_,e4,hat,set1⟩:=own.setK (wW w) lB (i:=i) (cs:=s.enc) (by simp [hi]) .i64
  obtain ⟨S2,st1,x2,n2,own2,keep2,w2⟩:=set1 3 1 (.bool true) rfl rfl (by decide)
  have hfin:(l.map Ser.enc).set i (splice s.enc 3 [.bool true])=(l.set i { s with shut:=true }).map Ser.enc:=by rw [List.map_set];rfl
  simp only [V.cells] at own2
  rw [hfin] at own2
  have of:=own2.frz (cV (fun _=>rfl) _)
  simp only [↓cw,↓reduceIte,Nat.reduceLT,hs,kk,Bool.false_eq_true,if_false,ne_eq,not_true_eq_false,bs0,q1,e4,st1,oo,of,Int.toNat_natCast,hi]
 ·simp only [↓cw,↓reduceIte,Nat.reduceLT,hs,kk,if_true,oo,List.map_nil,ne_eq,show ¬ (13:Int)=0 by decide,not_false_eq_true]
theorem bPj (l:List Ser) (name:List UInt8) (S:St) (K:KW):C 244 [.imm (l.map Ser.enc),.str name] S K=K (.tup [.imm ((cL l name).1.map Ser.enc),.int .i64 (cL l name).2.1,.int .i64 (cL l name).2.2]) S:=by
 refine (bMk rfl ?_).eq S K
 delta Tryz.f244;simp only [↓cw,↓reduceIte,Nat.reduceLT,kk,aY9,cL,jJ]
 cases h:jP l
 ·simp only [↓cw,↓reduceIte,Nat.reduceLT,h,kk,Bool.not_false,if_true,oo,List.map_nil,ne_eq,Int.one_ne_zero,not_false_eq_true]
 have hb:=iG h
 simp only [↓cw,↓reduceIte,Nat.reduceLT,h,kk,Bool.not_true,Bool.true_eq_false,Bool.false_eq_true,if_false,aQv l name (by omega)]
 by_cases c:dH l name<0
 ·simp only [c,if_true,oo,List.map_nil,ne_eq,show ¬ (11:Int)=0 by decide,not_false_eq_true]
 obtain ⟨i,s,e,hi⟩:=vB c
 have hil:=(List.getElem?_eq_some_iff.1 hi).1
 simp only [↓cw,↓reduceIte,Nat.reduceLT,c,if_false,e,show ¬ (i:Int)<0 by omega,Int.toNat_natCast,hi,kT hi,Ser.enc,kk]
 cases hs:s.shut
 ·simp only [↓cw,↓reduceIte,Nat.reduceLT,hs,kk,Bool.false_eq_true,if_false,ne_eq,not_true_eq_false,Int.toNat_natCast,hi,gm]
  by_cases c2:s.limit<s.next
  ·simp only [c2,if_true,oo,List.map_nil]
  simp only [c2,if_false]
  have w0:WF (⟨0+12,.nil⟩:St):=fun a b h=>by cases h
  obtain ⟨v,Y,q1,own,w,n1,k1,_⟩:=aK5 (b:=40) aEl l w0 (by omega) (by unfold dY;omega)
  obtain ⟨a,ver,hv,_,_,e4,hat,set1⟩:=own.setK (wW w) lB (i:=i) (cs:=s.enc) (by simp [hi]) .i64
  obtain ⟨S2,st1,x2,n2,own2,keep2,w2⟩:=set1 1 1 (.int .i64 (wr .i64 (s.next+1))) rfl rfl (by decide)
  have hld:=hat.load none 1
  have hfin:(l.map Ser.enc).set i (splice s.enc 1 [.int .i64 (wr .i64 (s.next+1))])=(l.set i { s with next:=wr .i64 (s.next+1) }).map Ser.enc:=by rw [List.map_set];rfl
  simp only [V.cells] at own2
  rw [hfin] at own2
  simp only [↓cw,↓reduceIte,Nat.reduceLT,adv,kk] at hld
  have of:=(own2.bump 9).frz (cV (fun _=>rfl) _)
  simp only [↓cw,↓reduceIte,Nat.reduceLT,bs0,kk,q1,e4,hld,Ser.enc,st1,oo,of,hs]
 ·simp only [↓cw,↓reduceIte,Nat.reduceLT,hs,kk,if_true,oo,List.map_nil,ne_eq,show ¬ (13:Int)=0 by decide,not_false_eq_true]
theorem sF {l:List Sess} {id:Int} (h:¬ cE l id<0):∃ (i:Nat) (s:Sess),cE l id=(i:Int)∧l[i]?=some s:=by
 rcases gR (fun x:Sess=>decide (x.id=id)) l with e | ⟨i,a,e,hi,_⟩
 ·exact absurd (show cE l id<0 by unfold cE;rw [e];decide) h
 ·exact ⟨i,a,e,hi⟩
def kM (l:List Sess) (id seq:Int):Int×Rep×Int:=
 if cE l id<0 then (0,Rep.zero,15) else if seq<1∨1099511627776<seq then (0,Rep.zero,1) else match l[(cE l id).toNat]? with
  | none=>(0,Rep.zero,1)
  | some x=>if seq=x.last then (1,x.reply,0) else if seq<x.last then (0,Rep.zero,16) else (0,Rep.zero,0)
theorem bPk (l:List Sess) (hb:l.length<1000000) (id seq:Int) (S:St) (K:KW):C 109 [.imm (l.map Sess.enc),.int .i64 id,.int .i64 seq] S K=
  K (.tup [.int .i64 (kM l id seq).1,.agg [.int .i64 (kM l id seq).2.1.why,.int .i64 (kM l id seq).2.1.number,.int .i64 (kM l id seq).2.1.gross],.int .i64 (kM l id seq).2.2]) S:=by
 refine (bKe rfl ?_).eq S K
 delta Tryz.f109;simp only [↓cw,↓reduceIte,Nat.reduceLT,kk,bD9 l id hb,kM]
 by_cases c:cE l id<0
 ·simp only [c,if_true,oo,Rep.zero]
 obtain ⟨i,s,e,hi⟩:=sF c
 simp only [c,if_false,e,show ¬ (i:Int)<0 by omega,Int.toNat_natCast,hi]
 by_cases c1:seq<1∨1099511627776<seq
 ·rcases Classical.em (seq<1) with c2 | c2
  ·simp only [↓cw,↓reduceIte,Nat.reduceLT,c2,if_true,kk,oo,true_or,Rep.zero]
  ·have c3:1099511627776<seq:=by omega
   simp only [↓cw,↓reduceIte,Nat.reduceLT,c2,c3,if_false,decide_true,if_true,kk,oo,or_true,Rep.zero]
 simp only [↓cw,↓reduceIte,Nat.reduceLT,show ¬ seq<1 by omega,show ¬ 1099511627776<seq by omega,or_self,if_false,decide_false,kk,Bool.false_eq_true,mD hi,Sess.enc,gm]
 by_cases c4:seq=s.last
 ·simp only [c4,if_true,oo]
 ·simp only [c4,if_false]
  by_cases c5:seq<s.last
  ·simp only [c5,if_true,oo,Rep.zero]
  ·simp only [c5,if_false,oo,Rep.zero]
def zY (l:List Sess) (id seq:Int) (r:Rep):List Sess:=if cE l id<0 then l else match l[(cE l id).toNat]? with
 | none=>l
 | some x=>l.set (cE l id).toNat ⟨x.id,seq,r⟩
def fQ (w:Int×Int) (n:Int):Int×Int:=
 let lo:=wr .u64 (w.2+wr .u64 n)
 let hi:=if lo<w.2 then wr .i64 (w.1+1) else w.1
 (if n<0 then wr .i64 (hi - 1) else hi,lo)
theorem bJk (hi lo n:Int) (S:St) (K:KW):C 258 [.agg [.int .i64 hi,.int .u64 lo],.int .i64 n] S K=K (.agg [.int .i64 (fQ (hi,lo) n).1,.int .u64 (fQ (hi,lo) n).2]) S:=by
 refine (bMo rfl ?_).eq S K
 delta Tryz.f258;simp only [↓cw,↓reduceIte,Nat.reduceLT,kk,cN,gm,fQ]
 by_cases c1:wr .u64 (lo+wr .u64 n)<lo<;>by_cases c2:n<0<;>simp only [↓cw,↓reduceIte,Nat.reduceLT,c1,c2,kk,if_true,if_false,oo]
theorem aE4 {hi lo n:Int} (h0:0≤lo) (h1:lo<18446744073709551616) (hn:eF n) (b1:-1237940039285380274899124224≤hi*18446744073709551616+lo) (b2:hi*18446744073709551616+lo≤1237940039285380274899124224):
  (fQ (hi,lo) n).1*18446744073709551616+(fQ (hi,lo) n).2=hi*18446744073709551616+lo+n∧0≤(fQ (hi,lo) n).2∧(fQ (hi,lo) n).2<18446744073709551616:=by
 obtain ⟨n1,n2⟩:=hn
 obtain ⟨A,hA⟩:∃ A,A=wr .u64 n:=⟨_,rfl⟩
 have e1:A=n % 18446744073709551616:=by rw [hA,zV]
 obtain ⟨B,hB⟩:∃ B,B=wr .u64 (lo+A):=⟨_,rfl⟩
 have e2:B=(lo+A) % 18446744073709551616:=by rw [hB,zV]
 have w1:wr .i64 (hi+1)=hi+1:=eX ⟨by omega,by omega⟩
 have w2:wr .i64 (hi - 1)=hi - 1:=eX ⟨by omega,by omega⟩
 have w3:wr .i64 (hi+1 - 1)=hi:=by rw [eX ⟨by omega,by omega⟩];omega
 unfold fQ
 simp only [←hA,←hB,w1]
 refine ⟨?_,?_,?_⟩<;>repeat' split
 all_goals omega
theorem aQx (l:List Int):∀ (hi lo:Int),(∀ n∈l,eF n)→0≤lo→lo<18446744073709551616→-1237940039285380274899124224+9223372036854775808*(l.length:Int)≤hi*18446744073709551616+lo→hi*18446744073709551616+lo≤1237940039285380274899124224 - 9223372036854775808*(l.length:Int)→
  (l.foldl fQ (hi,lo)).1*18446744073709551616+(l.foldl fQ (hi,lo)).2=hi*18446744073709551616+lo+l.sum∧0≤(l.foldl fQ (hi,lo)).2∧(l.foldl fQ (hi,lo)).2<18446744073709551616:=by
 induction l with
 | nil=>
  intro hi lo _ h0 h1 _ _
  exact ⟨(Int.add_zero _).symm,h0,h1⟩
 | cons n l ih=>
  intro hi lo hl h0 h1 b1 b2
  have hn:=hl n (List.mem_cons_self ..)
  have hlen:(((n::l).length:Nat):Int)=(l.length:Int)+1:=by rw [List.length_cons];omega
  rw [hlen] at b1 b2
  obtain ⟨s1,s2,s3⟩:=aE4 (hi:=hi) h0 h1 hn (by omega) (by omega)
  obtain ⟨n1,n2⟩:=hn
  have hp:fQ (hi,lo) n=((fQ (hi,lo) n).1,(fQ (hi,lo) n).2):=rfl
  rw [List.foldl_cons,List.sum_cons,hp]
  generalize (fQ (hi,lo) n).1=p at *
  generalize (fQ (hi,lo) n).2=q at *
  obtain ⟨t1,t2⟩:=ih p q (fun x hx=>hl x (List.mem_cons_of_mem _ hx)) s2 s3 (by omega) (by omega)
  exact ⟨by rw [t1,s1,Int.add_assoc],t2⟩
def aBp (l:List Int):Int×Bool:=(wr .i64 (l.foldl fQ (0,0)).2,decide ((l.foldl fQ (0,0))=fQ (0,0) (wr .i64 (l.foldl fQ (0,0)).2)))
theorem aMg (n:Int):wr .i64 n=(n+9223372036854775808) % 18446744073709551616 - 9223372036854775808:=by
 unfold wr lo hi
 simp only
 split
 ·omega
 ·rw [IntKind.wrap_i64]
theorem aP4 {l:List Int} (hl:∀ n∈l,eF n) (hb:l.length≤1000000):aBp l=eL l:=by
 obtain ⟨s1,s2,s3⟩:=aQx l 0 0 hl (Int.le_refl _) (by decide) (by omega) (by omega)
 obtain ⟨e1,e2⟩:=gI hl hb
 unfold aBp
 generalize l.foldl fQ (0,0)=w at *
 obtain ⟨hi,lo⟩:=w
 simp only at s1 s2 s3 ⊢
 have hw:=aAi lo
 obtain ⟨p1,p2,p3⟩:=aE4 (hi:=0) (lo:=0) (Int.le_refl _) (by decide) hw (by decide) (by decide)
 have hwl:wr .i64 lo=wr .i64 l.sum:=by
  have e:=aMg
  rw [e,e]
  omega
 refine Prod.ext (hwl.trans e1.symm) ?_
 rw [Bool.eq_iff_iff,decide_eq_true_eq,e2]
 constructor
 ·intro h
  have h':=h
  rw [←h'] at p1
  simp only at p1
  have:l.sum=wr .i64 lo:=by omega
  rw [this];exact hw
 ·intro h
  have hs:wr .i64 lo=l.sum:=by rw [hwl];exact eX h
  rw [hs] at p1 p2 p3 ⊢
  generalize fQ (0,0) l.sum=q at *
  obtain ⟨qh,ql⟩:=q
  simp only at p1 p2 p3
  have:hi=qh∧lo=ql:=by omega
  rw [this.1,this.2]
theorem bDa {l:List Int} {i:Nat} {a:Int} (hi:l[i]?=some a) (k:IntKind):iF 1 (.imm (l.map dV)) (.int k (i:Int))=.ok (.iptr (dV a) 0):=ixI (enc:=dV) hi rfl k
theorem bPl (l:List Int) (hb:l.length<1000000) (S:St) (K:KW):C 223 [.imm (l.map dV)] S K=K (.tup [.int .i64 (aBp l).1,.bool (aBp l).2]) S:=by
 refine (bM3 rfl ?_).eq S K
 delta Tryz.f223;simp only [↓cw,↓reduceIte,Nat.reduceLT,kk]
 refine aG l (step:=fun w n=>(.inr (fQ w n):(Int×Int)⊕(Int×Int))) (fin:=id) (fun i w vs S=>vs=[.int .i64 (i:Int)]∧aA S 0 0=.ok (2,[[.int .i64 w.1,.int .u64 w.2]])) (fun w=>w=l.foldl fQ (0,0)) ?_ ?_ (s:=(0,0)) ⟨rfl,aC _ _ _ _ _ _⟩ ?_
 ·rintro i n ⟨hi',lo'⟩ vs S hi ⟨rfl,hg⟩ aF H
  have hil:=(List.getElem?_eq_some_iff.1 hi).1
  simp only [↓cw,↓reduceIte,Nat.reduceLT,kk,bB hi,if_true,gm,hg,bDa hi,dV,bJk,hJ (show i<1000000000 by omega)]
  exact H _ _ ⟨rfl,aC _ _ _ _ _ _⟩
 ·rintro ⟨hi',lo'⟩ vs S ⟨rfl,hg⟩ aF H
  have H:(hi',lo')=l.foldl fQ (0,0):=H
  simp only [↓cw,↓reduceIte,Nat.reduceLT,kk,Int.lt_irrefl,if_false,gm,hg,bJk,oo,aBp,←H]
  have:∀ p:Int×Int,(decide (hi'=p.1)&&decide (lo'=p.2))=decide ((hi',lo')=p):=fun p=>by
   obtain ⟨a,b⟩:=p
   rw [Bool.eq_iff_iff];simp
  rw [this]
 ·have:∀ (l:List Int) (w:Int×Int),aE (fun w n=>(.inr (fQ w n):(Int×Int)⊕(Int×Int))) id l w=l.foldl fQ w:=by
   intro l
   induction l with
   | nil=>intro w;rfl
   | cons n l ih=>intro w;simp only [aE,List.foldl_cons];exact ih _
  exact this _ _
theorem bJl {S:St} {v:V} {l:List Int} (o:Own E0 S 1 v (l.map dV)) (hb:l.length<1000000) (K:KW):C 223 [v] S K=K (.tup [.int .i64 (aBp l).1,.bool (aBp l).2]) S:=by
 have h:=o.out fun _=>rfl
 exact (Fn.back fun S K=>bPl l hb S K).frz bE0 rfl (by simp only [frzVs,h]) (by simp only [ptrsVs,o.ptrs];rfl) (.inl rfl) K
def lT (l:List Part):Int×Int×Bool:=((aBp (l.map (·.net))).1,(aBp (l.map (·.tax))).1,(aBp (l.map (·.net))).2&&(aBp (l.map (·.tax))).2)
theorem bPm (l:List Part) (hl:l.length<100000) (S:St) (K:KW):C 161 [.imm (l.map Part.enc)] S K=K (.tup [.int .i64 (lT l).1,.int .i64 (lT l).2.1,.bool (lT l).2.2]) S:=by
 refine (bL0 rfl ?_).eq S K
 delta Tryz.f161;simp only [↓cw,↓reduceIte,Nat.reduceLT,kk]
 refine aG l (step:=uS) (fin:=id) (fun i s vs S=>∃ u v,vs=[u,v,.int .i64 (i:Int)]∧Own E0 S 1 u (s.1.map dV)∧Own E0 S 1 v (s.2.map dV)∧s.1.length=i∧s.2.length=i∧WF S∧(∀ y,AM.blkOf u=some y→AM.blkOf v≠some y)) (fun r=>r=(l.map (·.net),l.map (·.tax))) ?_ ?_ (s:=([],[])) ⟨_,_,rfl,Own.nil _ _ _,Own.nil _ _ _,rfl,rfl,lB,fun y h=>(by cases h)⟩ (by rw [bCs];rfl)
 ·rintro i p ⟨ns,ts⟩ vs S hi ⟨u,v,rfl,ou,ov,lu,lv,w,huv⟩ aF H
  have hil:=(List.getElem?_eq_some_iff.1 hi).1
  have lu:ns.length=i:=lu
  have lv:ts.length=i:=lv
  simp only [uS] at H
  have bu:∀ y,AM.blkOf u=some y→y<S.next:=fun y hy=>(fY ou hy).2
  have bv:∀ y,AM.blkOf v=some y→y<S.next:=fun y hy=>(fY ov hy).2
  obtain ⟨u',S2,q1,w2,n2,ou2,bu2,keep2⟩:=aJm (b:=8) ou w (k1:=S.next+6) (k2:=S.next+7) (m:=S.next+18) (fresh w (by omega)) (fresh w (by omega)) (by omega) (by omega) (by omega) (by omega) (aQk p.net) (by simp;omega) (by simp [dY];omega)
  have k2:∀ y,y<S.next→AM.blkOf u≠some y→S2.heap.get y=S.heap.get y:=fun y hy h=>keep2 y (by omega) (by omega) h
  have ov2:Own E0 S2 1 v (ts.map dV):=ov.same (by omega) fun a ha=>k2 a (by have:=bv a ha;omega) fun h=>huv a h ha
  have fr8:∀ k,8≤k→S2.heap.get (S.next+k)=none:=fun k hk=>by
   rw [keep2 (S.next+k) (by omega) (by omega) fun h=>by have:=bu _ h;omega];exact fresh w (by omega)
  obtain ⟨v',S3,q2,w3,n3,ov3,bv3,keep3⟩:=aJm (b:=8) ov2 w2 (k1:=S.next+14) (k2:=S.next+15) (m:=S2.next) (fr8 14 (by omega)) (fr8 15 (by omega)) (by omega) (by omega) (by omega) (Nat.le_refl _) (aQk p.tax) (by simp;omega) (by simp [dY];omega)
  have hu2:∀ y,AM.blkOf u'=some y→y=S.next+7∨AM.blkOf u=some y:=fun y hy=>by
   rcases bu2 with h | h
   ·rw [h] at hy;cases hy;exact .inl rfl
   ·rw [h] at hy;exact .inr hy
  have hv3:∀ y,AM.blkOf v'=some y→y=S.next+15∨AM.blkOf v=some y:=fun y hy=>by
   rcases bv3 with h | h
   ·rw [h] at hy;cases hy;exact .inl rfl
   ·rw [h] at hy;exact .inr hy
  have hb8:∀ a,AM.blkOf u'=some a→a≠S.next+14∧a≠S.next+15:=fun a ha=>by
   rcases hu2 a ha with h | h
   ·omega
   ·have:=bu a h;omega
  have ou3:Own E0 S3 1 u' ((ns++[p.net]).map dV):=by
   rw [List.map_append]
   exact ou2.same (by omega) fun a ha=>keep3 a (hb8 a ha).1 (hb8 a ha).2 fun hv=>by
    rcases hu2 a ha with h | h
    ·have:=bv a hv;omega
    ·exact huv a h hv
  simp only [dV] at q1 q2
  simp only [↓cw,↓reduceIte,Nat.reduceLT,kk,bB hi,if_true,jE hi,Part.enc,hJ (show i<1000000000 by omega),gm,bIh,q1,q2]
  exact H _ _ ⟨u',v',rfl,ou3,by rw [List.map_append];exact ov3,by simp;omega,by simp;omega,w3,fun y hy hy'=>by
   rcases hu2 y hy with h | h<;>rcases hv3 y hy' with h' | h'
   ·omega
   ·have:=bv y h';omega
   ·have:=bu y h;omega
   ·exact huv y h h'⟩
 ·rintro ⟨ns,ts⟩ vs S ⟨u,v,rfl,ou,ov,lu,lv,w,huv⟩ aF H
  have H:(ns,ts)=(l.map (·.net),l.map (·.tax)):=H
  obtain ⟨rfl,rfl⟩:=Prod.mk.inj H
  have c1:=fun K=>bJl ou (by rw [List.length_map];omega) K
  have c2:=fun K=>bJl ov (by rw [List.length_map];omega) K
  simp only [↓cw,↓reduceIte,Nat.reduceLT,kk,Int.lt_irrefl,if_false,c1,c2,lT]
  cases (aBp (l.map (·.net))).2<;>simp only [↓cw,↓reduceIte,Nat.reduceLT,kk,if_true,if_false,Bool.false_eq_true,oo,Bool.true_and,Bool.false_and]
theorem aVj {t:Total} (hi:∀ p∈t.parts,eF p.net∧eF p.tax) (hl:t.parts.length≤1000000):
  (if (lT t.parts).2.2=true then (if (cF (lT t.parts).1 (lT t.parts).2.1).2=0 then (if (lT t.parts).1=t.net then (if (lT t.parts).2.1=t.tax then decide ((cF (lT t.parts).1 (lT t.parts).2.1).1=t.gross) else false) else false) else false) else false)=iU t:=by
 have h1:∀ n∈t.parts.map (·.net),eF n:=fun n h=>by obtain ⟨p,hp,rfl⟩:=List.mem_map.1 h;exact (hi p hp).1
 have h2:∀ n∈t.parts.map (·.tax),eF n:=fun n h=>by obtain ⟨p,hp,rfl⟩:=List.mem_map.1 h;exact (hi p hp).2
 unfold lT iU
 simp only
 rw [aP4 h1 (by rw [List.length_map];exact hl),aP4 h2 (by rw [List.length_map];exact hl)]
 by_cases c1:(eL (t.parts.map (·.net))).2=true
 ·by_cases c2:(eL (t.parts.map (·.tax))).2=true
  ·simp only [c1,c2,Bool.and_self,if_true]
   have i1:eF (eL (t.parts.map (·.net))).1:=by rw [(gI h1 (by rw [List.length_map];exact hl)).1];exact aAi _
   have i2:eF (eL (t.parts.map (·.tax))).1:=by rw [(gI h2 (by rw [List.length_map];exact hl)).1];exact aAi _
   by_cases c3:(eL (t.parts.map (·.net))).1=t.net
   ·by_cases c4:(eL (t.parts.map (·.tax))).1=t.tax
    ·rw [c3] at i1
     rw [c4] at i2
     simp only [c3,c4,if_true]
     rw [uY i1 i2]
     have hx:=gI (l:=[t.net,t.tax]) (fun n hn=>by simp at hn;rcases hn with rfl | rfl<;>assumption) (by simp)
     have hs:[t.net,t.tax].sum=t.net+t.tax:=by simp
     rw [hs] at hx
     by_cases c5:eF (t.net+t.tax)
     ·rw [if_pos c5,if_pos (hx.2.2 c5),hx.1,eX c5];rfl
     ·rw [if_neg c5,if_neg (fun h=>c5 (hx.2.1 h))];rfl
    ·simp only [c3,c4,if_true,if_false];split<;>split<;>rfl
   ·simp only [c3,if_false];split<;>split<;>rfl
  ·simp only [c1,c2,Bool.and_false,if_true,if_false,Bool.false_eq_true,Bool.true_and]
 ·simp only [c1,Bool.false_and,if_false,Bool.false_eq_true]
theorem aAq {n:Int} (h:eF n):pT n=if n<0 then -n else n:=by
 obtain ⟨h1,h2⟩:=h
 unfold pT
 split
 ·rw [eX (n:=n+1) ⟨by omega,by omega⟩,eX (n:=0 - (n+1)) ⟨by omega,by omega⟩,dG (n:=0 - (n+1)) (by omega) (by omega),dG (by omega) (by omega)]
  omega
 ·exact dG (by omega) (by omega)
theorem aP5 {n bp:Int} (h:eF n):aUp n bp=aU n bp:=by
 by_cases c0:bp<0∨100000<bp
 ·unfold aUp aU
  rw [if_pos c0,if_pos c0]
 have h1:0≤bp:=by omega
 have h2:bp≤100000:=by omega
 rw [vA h h1 h2]
 unfold aUp
 rw [if_neg c0]
 simp only [aAq h]
 have hp:wr .u64 bp=bp:=dG h1 (by omega)
 rw [hp]
 obtain ⟨n1,n2⟩:=h
 obtain ⟨u,hu⟩:∃ u,u=(if n<0 then -n else n):=⟨_,rfl⟩
 rw [←hu]
 have hu0:0≤u∧u≤9223372036854775808:=by subst hu;split<;>omega
 have hq:u.tdiv 10000=u / 10000:=Int.tdiv_eq_ediv_of_nonneg hu0.1
 have hr:u.tmod 10000=u % 10000:=Int.tmod_eq_emod_of_nonneg hu0.1
 have hmax:(9223372036854775807:Int).tdiv bp=9223372036854775807 / bp:=Int.tdiv_eq_ediv_of_nonneg (by decide)
 rw [hq,hr,hmax,dG (n:=u / 10000) (by omega) (by omega)]
 have hdiv:0<bp→0≤9223372036854775807 / bp∧9223372036854775807 / bp<18446744073709551616:=by
  intro hb
  constructor
  ·exact Int.ediv_nonneg (by decide) (by omega)
  ·have:=Int.ediv_le_self bp (a:=9223372036854775807) (by decide);omega
 unfold xC
 by_cases c:0<bp∧9223372036854775807 / bp<u / 10000
 ·rw [if_pos c,if_pos ⟨c.1,by rw [dG (hdiv c.1).1 (hdiv c.1).2];exact c.2⟩]
 ·rw [if_neg c,if_neg (fun q=>c ⟨q.1,by have:=q.2;rwa [dG (hdiv q.1).1 (hdiv q.1).2] at this⟩)]
  have hm1:0≤u / 10000*bp:=Int.mul_nonneg (by omega) h1
  have hm2:u / 10000*bp≤9223372036854775807:=by
   by_cases hb:0<bp
   ·have hle:u / 10000≤9223372036854775807 / bp:=by
     by_cases q:u / 10000≤9223372036854775807 / bp
     ·exact q
     ·exact absurd ⟨hb,by omega⟩ c
    calc u / 10000*bp≤9223372036854775807 / bp*bp:=Int.mul_le_mul_of_nonneg_right hle h1
     _≤9223372036854775807:=Int.ediv_mul_le _ (by omega)
   ·have:bp=0:=by omega
    subst this;simp
  have hr1:0≤u % 10000*bp:=Int.mul_nonneg (by omega) h1
  have hr2:u % 10000*bp≤10000*100000:=Int.mul_le_mul (by omega) h2 h1 (by decide)
  rw [dG hm1 (by omega),dG hr1 (by omega),dG (n:=u % 10000*bp+5000) (by omega) (by omega)]
  have ht:(u % 10000*bp+5000).tdiv 10000=(2*(u % 10000)*bp+10000) / 20000:=by
   rw [Int.tdiv_eq_ediv_of_nonneg (by omega),Int.mul_assoc];omega
  have hr3:2*(u % 10000)*bp=2*(u % 10000*bp):=Int.mul_assoc ..
  rw [ht,dG (n:=(2*(u % 10000)*bp+10000) / 20000) (by omega) (by omega),dG (n:=u / 10000*bp+(2*(u % 10000)*bp+10000) / 20000) (by omega) (by omega)]
  obtain ⟨t,htt⟩:∃ t,t=u / 10000*bp+(2*(u % 10000)*bp+10000) / 20000:=⟨_,rfl⟩
  have ht0:0≤t:=by omega
  rw [←htt]
  split
  ·rfl
  ·rename_i hle
   rw [nM (n:=t) (by omega) (by omega)]
   split
   ·rw [nM (by omega) (by omega)];simp
   ·rfl
theorem aYa {u:Int} (h1:0≤u) (h2:u<18446744073709551616):aJa u=18446744073709551615 - u:=by
 unfold aJa
 simp only [IntKind.signed,Bool.false_eq_true,if_false]
 have hm:(IntKind.u64.max:Int)=18446744073709551615:=by decide
 rw [hm]
 have hb:IntKind.u64.bits=64:=rfl
 rw [hb]
 have:(BitVec.ofInt 64 18446744073709551615 ^^^ BitVec.ofInt 64 u) = ~~~(BitVec.ofInt 64 u):=by
  rw [show (BitVec.ofInt 64 18446744073709551615)=BitVec.allOnes 64 from by decide,BitVec.allOnes_xor]
 rw [this,BitVec.toNat_not]
 have hv:(BitVec.ofInt 64 u).toNat=u.toNat:=by
  rw [BitVec.toNat_ofInt]
  omega
 rw [hv,dG (by omega) (by omega)]
 omega
theorem aYb {a b:Int} (ha:eF a) (hb:eF b):aXn a b=aHs a b:=by
 unfold aXn aHs
 rw [aAq ha,aAq hb,aAk ha,aAk hb]
 obtain ⟨a1,a2⟩:=ha
 obtain ⟨b1,b2⟩:=hb
 have hP:a*b=if (decide (a<0) == decide (b<0))=true then (if a<0 then -a else a)*(if b<0 then -b else b) else -((if a<0 then -a else a)*(if b<0 then -b else b)):=by
  by_cases c1:a<0<;>by_cases c2:b<0<;>simp [c1,c2,Int.neg_mul,Int.mul_neg]
 obtain ⟨A,hA⟩:∃ A,A=(if a<0 then -a else a):=⟨_,rfl⟩
 obtain ⟨B,hB⟩:∃ B,B=(if b<0 then -b else b):=⟨_,rfl⟩
 rw [←hA,←hB] at hP ⊢
 have hA0:0≤A∧A≤9223372036854775808:=by subst hA;split<;>omega
 have hB0:0≤B∧B≤9223372036854775808:=by subst hB;split<;>omega
 have hd:∀ N:Int,0≤N→N.tdiv B=N / B:=fun N h=>Int.tdiv_eq_ediv_of_nonneg h
 have w1:wr .u64 (9223372036854775807+1)=9223372036854775808:=by decide
 rw [w1]
 by_cases cA:A=0
 ·subst cA
  rw [if_pos rfl,if_neg (by rintro ⟨h1,h2⟩;rw [hd _ (by decide),dG (Int.ediv_nonneg (by decide) hB0.1) (by have:=Int.ediv_le_self B (a:=9223372036854775808) (by decide);omega)] at h2;have:=Int.ediv_nonneg (a:=9223372036854775808) (b:=B) (by decide) hB0.1;omega)]
  rw [Int.zero_mul]
  cases (decide (a<0) == decide (b<0))<;>decide
 by_cases cB:B=0
 ·subst cB
  rw [if_neg cA,if_pos rfl,if_neg (by rintro ⟨h1,_⟩;exact absurd h1 (by decide)),Int.mul_zero]
  cases (decide (a<0) == decide (b<0))<;>decide
 rw [if_neg cA,if_neg cB]
 have hBp:0<B:=by omega
 have hle:∀ N:Int,(N / B<A)↔N<A*B:=fun N=>by
  rw [←Int.not_le,←Int.not_le,Int.le_ediv_iff_mul_le hBp]
 have hPn:0≤A*B:=Int.mul_nonneg hA0.1 hB0.1
 have hq:∀ N:Int,0≤N→N≤9223372036854775808→wr .u64 (N / B)=N / B:=fun N h h'=>dG (Int.ediv_nonneg h hB0.1) (by have:=Int.ediv_le_self B (a:=N) h;omega)
 have e1:(0<B∧wr .u64 ((9223372036854775808:Int).tdiv B)<A)↔9223372036854775808<A*B:=by
  rw [hd _ (by decide),hq _ (by decide) (by decide),hle]
  exact ⟨fun h=>h.2,fun h=>⟨hBp,h⟩⟩
 cases hs:(decide (a<0) == decide (b<0)) with
 | true=>
  rw [hs] at hP
  simp only [Bool.true_eq_false,if_false,if_true,Bool.not_true] at hP ⊢
  rw [hd _ (by decide),hq _ (by decide) (by decide),hP]
  by_cases c:9223372036854775808<A*B
  ·rw [if_pos (e1.2 c),if_pos ((hle _).2 (by omega))]
  ·rw [if_neg (fun h=>c (e1.1 h))]
   have w2:wr .u64 (A*B)=A*B:=dG hPn (by omega)
   simp only [w2,uQ,Bool.false_eq_true,if_false,decide_eq_true_eq]
   by_cases d:A*B≤9223372036854775807
   ·rw [if_pos d,if_neg (fun h=>by have:=(hle _).1 h;omega)]
   ·rw [if_neg d,if_pos ((hle _).2 (by omega))]
 | false=>
  rw [hs] at hP
  simp only [Bool.false_eq_true,if_false,if_true,Bool.not_false] at hP ⊢
  rw [hd _ (by decide),hq _ (by decide) (by decide),hP]
  by_cases c:9223372036854775808<A*B
  ·rw [if_pos ((hle _).2 c),if_pos ⟨hBp,(hle _).2 c⟩]
  ·rw [if_neg (fun h=>c ((hle _).1 h)),if_neg (fun h=>c ((hle _).1 h.2))]
   have w2:wr .u64 (A*B)=A*B:=dG hPn (by omega)
   simp only [w2,uQ,if_true,decide_eq_true_eq]
   rw [if_pos (by omega),aYa hPn (by omega)]
   have w3:wr .u64 (18446744073709551615 - A*B+1)=if A*B=0 then 0 else 18446744073709551616 - A*B:=by
    rw [zV];split<;>omega
   rw [w3,aMg,aMg]
   congr 1
   split<;>omega
theorem bPn (t:Total) (hint:∀ p∈t.parts,eF p.net∧eF p.tax) (S:St) (K:KW):C 119 [.agg [.int .i64 t.net,.int .i64 t.tax,.int .i64 t.gross,.imm (t.parts.map Part.enc)]] S K=K (.bool (bY t)) S:=by
 refine (bMz rfl ?_).eq S K
 simp only [aWs,kk,bY]
 by_cases c1:t.parts.length<1
 ·simp only [c1,show (t.parts.length:Int)=0 by omega,kk,oo,if_true]
 by_cases c2:12<t.parts.length
 ·simp only [c1,c2,show ¬ (t.parts.length:Int)=0 by omega,show (12:Int)<(t.parts.length:Int) by omega,kk,oo,if_true,if_false]
 simp only [c1,c2,show ¬ (t.parts.length:Int)=0 by omega,show ¬ (12:Int)<(t.parts.length:Int) by omega,kk,if_false]
 have hsum:=aVj hint (by omega)
 refine aG t.parts (step:=cJ) (fin:=fun _=>iU t) (fun i s vs S=>vs=[.bool false,.int .i64 (i:Int)]∧s=bV t.parts i∧aA S 0 0=.ok (4,[[.int .i64 t.net,.int .i64 t.tax,.int .i64 t.gross,.imm (t.parts.map Part.enc)]])∧0<S.next) (fun r=>r=aE cJ (fun _=>iU t) t.parts none) ?_ ?_ (s:=none) ⟨rfl,rfl,aC _ _ _ _ _ _,Nat.zero_lt_one⟩ rfl
 ·rintro i p s vs S hi ⟨rfl,rfl,r0,h0⟩ aF H
  have hil:=(List.getElem?_eq_some_iff.1 hi).1
  have hn:bV t.parts (i+1)=some p:=by simpa [bV] using hi
  obtain ⟨S',hS'⟩:∃ S':St,S'=⟨S.next+1+30,(S.heap.put S.next (.row 0 4 [[.str [],.int .i64 0,.int .i64 0,.int .i64 0]])).put S.next (.row 0 4 [[.str p.cat,.int .i64 p.bp,.int .i64 p.net,.int .i64 p.tax]])⟩:=⟨_,rfl⟩
  have r2:aA S' 0 0=.ok (4,[[.int .i64 t.net,.int .i64 t.tax,.int .i64 t.gross,.imm (t.parts.map Part.enc)]]):=by rw [hS'];exact aD (n:=S.next) (by omega) (aD (n:=S.next) (by omega) r0)
  have r3:aA S' S.next 0=.ok (4,[[.str p.cat,.int .i64 p.bp,.int .i64 p.net,.int .i64 p.tax]]):=by rw [hS'];exact aC _ _ _ _ _ _
  have h2:0<S'.next:=by rw [hS'];exact Nat.succ_pos _
  have w1:wr .i64 ((i:Int)+1)=((i+1:Nat):Int):=hJ (by omega)
  have ht3:=aP5 (bp:=p.bp) (hint p (List.mem_of_getElem? hi)).1
  have hst:cJ (bV t.parts i) p=if dT p.cat=false then .inl false else if p.bp<0 then .inl false else if 100000<p.bp then .inl false else if gV (bV t.parts i) p=true then .inl false else if (aU p.net p.bp).2=0 then (if (aU p.net p.bp).1=p.tax then .inr (some p) else .inl false) else .inl false:=by
   unfold cJ uU uV
   simp only [Bool.or_eq_true,decide_eq_true_eq]
   grind
  rw [hst] at H
  have hj0:∀ X:St,X=S'→(if (aU p.net p.bp).2=0 then (if (aU p.net p.bp).1=p.tax then aF [.bool false,.int .i64 ((i+1:Nat):Int)] S' else aE cJ (fun _=>iU t) t.parts none=false) else aE cJ (fun _=>iU t) t.parts none=false)→aBy C (fun v0 S0=>dS S0 v0=Except.ok (V.bool (aE cJ (fun _=>iU t) t.parts none))) aF (.ptr 0 0 0 0) (.bool false) (.int .i64 (i:Int)) (.ptr S.next 0 0 0) X:=by
   rintro X rfl hyp
   simp only [aBy,kk,r3,bIb,ht3,cX,w1]
   by_cases d1:(aU p.net p.bp).2=0
   ·by_cases d2:(aU p.net p.bp).1=p.tax
    ·simp only [d1,d2,if_true,not_true_eq_false,if_false] at hyp ⊢;exact hyp
    ·simp only [d1,d2,if_true,if_false,not_true_eq_false,not_false_eq_true,oo] at hyp ⊢
     rw [hyp]
   ·simp only [d1,if_false,not_false_eq_true,if_true,oo] at hyp ⊢
    rw [hyp]
  simp only [aHb,kk,r0,bB hi,if_true,jE hi,Part.enc,←hS',r3,aQi]
  cases hna:dT p.cat
  ·simp only [hna,kk,if_true,Bool.not_false,oo] at H ⊢
   rw [←H]
  simp only [hna,kk,Bool.true_eq_false,Bool.not_true,Bool.false_eq_true,if_false,r3] at H ⊢
  by_cases e1:p.bp<0
  ·simp only [e1,if_true,oo] at H ⊢
   rw [←H]
  by_cases e2:100000<p.bp
  ·simp only [e1,e2,if_true,if_false,oo] at H ⊢
   rw [←H]
  simp only [e1,e2,if_false] at H ⊢
  have hlast:gV (bV t.parts i) p=false→(if (aU p.net p.bp).2=0 then (if (aU p.net p.bp).1=p.tax then aF [.bool false,.int .i64 ((i+1:Nat):Int)] S' else aE cJ (fun _=>iU t) t.parts none=false) else aE cJ (fun _=>iU t) t.parts none=false):=by
   intro e3
   simp only [e3,Bool.false_eq_true,if_false] at H
   by_cases d1:(aU p.net p.bp).2=0
   ·by_cases d2:(aU p.net p.bp).1=p.tax
    ·simp only [d1,d2,if_true] at H ⊢
     exact H _ _ ⟨rfl,by rw [hn],r2,h2⟩
    ·simp only [d1,d2,if_true,if_false] at H ⊢;exact H.symm
   ·simp only [d1,if_false] at H ⊢;exact H.symm
  by_cases i0:i=0
  ·have e3:gV (bV t.parts i) p=false:=by rw [i0];rfl
   simp only [show ¬ (0:Int)<(i:Int) by omega,if_false]
   exact hj0 S' rfl (hlast e3)
  ·have hj:t.parts[i - 1]?=some t.parts[i - 1]:=List.getElem?_eq_getElem (by omega)
   have hp:bV t.parts i=some t.parts[i - 1]:=by unfold bV;rw [if_neg i0];exact hj
   have w2:wr .i64 ((i:Int) - 1)=((i - 1:Nat):Int):=by rw [nM (by omega) (by omega)];omega
   have e4:gV (bV t.parts i) p=!fN t.parts[i - 1].cat p.cat:=by rw [hp];rfl
   simp only [show (0:Int)<(i:Int) by omega,if_true,r2,w2,jE hj,Part.enc,kk,r3]
   cases d:fN t.parts[i - 1].cat p.cat
   ·rw [d] at e4
    simp only [e4,Bool.not_false,if_true,oo] at H ⊢
    rw [←H]
   ·rw [d] at e4
    simp only [Bool.not_true,Bool.false_eq_true,if_false]
    exact hj0 S' rfl (hlast e4)
 ·rintro s vs S ⟨rfl,rfl,r0,h0⟩ aF H
  have H:iU t=aE cJ (fun _=>iU t) t.parts none:=H
  rw [←H,←hsum]
  simp only [aHb,kk,r0,Int.lt_irrefl,if_false,bPm t.parts (by omega),aUo,cX]
  cases d1:(lT t.parts).2.2
  ·simp only [kk,Bool.false_eq_true,if_false,oo]
  simp only [kk,if_true]
  by_cases d2:(cF (lT t.parts).1 (lT t.parts).2.1).2=0
  ·simp only [d2,kk,if_true]
   by_cases d3:(lT t.parts).1=t.net
   ·by_cases d4:(lT t.parts).2.1=t.tax
    ·simp only [d3,d4,kk,if_true,oo]
    ·simp only [d3,d4,kk,if_true,if_false,oo]
   ·simp only [d3,kk,if_false,oo]
  ·simp only [d2,kk,if_false,oo]
end Go.Proofs.YtoaibmbldmckaaaGreat
end
section
namespace Go.AM
theorem aG6 {n a ver i len:Nat} (h:i<len):iF n (.sl a ver n 0 len) (.int .i64 (i:Int))=.ok (.ptr a ver i 0):=by
 simp only [iF,jX h,if_true,Nat.zero_add]
theorem aQy {X:St} {a ver n i:Nat} {es:List (List V)} {cs:List V} (hg:X.heap.get a=some (.row ver n es)) (hi:es[i]?=some cs) (k:Option Nat) (j:Nat):jH k (.ptr a ver i j) X=lN k cs j:=by
 simp only [ldP,fR hg,hi]
theorem aVk {X:St} {a ver n i j:Nat} {es:List (List V)} {cs:List V} {v:V} (hg:X.heap.get a=some (.row ver n es)) (hi:es[i]?=some cs) (hv:v.cells=[v]) (ho:v.one=true) (hj:j+1≤cs.length):
  fV 1 (.ptr a ver i j) v X=.ok ⟨X.next,X.heap.put a (.row ver n (es.set i (splice cs j [v])))⟩:=by
 simp only [stP,fR hg,hi,hv]
 rw [if_pos ⟨rfl,by simp [aJ,ho],hj⟩]
theorem aVl {X:St} {a ver n i:Nat} {es:List (List V)} (hg:X.heap.get a=some (.row ver n es)) (hi:i≤es.length):aR X (.sl a ver n 0 i)=.ok (es.take i):=by
 have hb:Nat.ble (0+i) es.length=true:=Nat.ble_eq_true_of_le (by omega)
 simp only [aR,fR hg,hb,cond_true,List.drop_zero]
theorem aVm {X:St} {a ver n i:Nat} {es:List (List V)} (hg:X.heap.get a=some (.row ver n es)) (hi:i≤es.length):aR X (.sl a ver n i (es.length - i))=.ok (es.drop i):=by
 have hb:Nat.ble (i+(es.length - i)) es.length=true:=Nat.ble_eq_true_of_le (by omega)
 simp only [aR,fR hg,hb,cond_true]
 rw [List.take_of_length_le (by rw [List.length_drop];omega)]
end Go.AM
namespace Go.Proofs.YtoaibmbldmckaaaGreat
open Go.AM Tryz
set_option linter.unusedVariables false
set_option linter.unusedSimpArgs false
set_option maxRecDepth 100000
theorem aG7 {α:Type} {enc:α→List V} {n b:Nat} (hl:∀ x,(enc x).length=n∧aJ (enc x)=true) (l:List α) {S:St} {a:Nat} {u:V} (hu:aR S u=.ok (l.map enc)) (hg:aA S a 0=.ok (n,[])) (h1:l.length*b≤35184372088832) (h2:l.length<dY) (fr:Option Nat):
  dW n b (.sl a 0 n 0 0) u fr S=.ok (.sl a 1 n 0 l.length,⟨S.next,S.heap.put a (.row 1 n (l.map enc))⟩):=by
 have hc:∀ cs,cs∈l.map enc→cs.length=n∧aJ cs=true:=fun cs hc=>by obtain ⟨x,_,rfl⟩:=List.mem_map.1 hc;exact hl x
 obtain ⟨a1,a2⟩:=cM hc
 simp only [dW,hu,a1,a2,and_self,if_true,hg,List.length_map,Nat.zero_add,List.length_nil,Nat.le_refl,h1,h2,List.drop_nil,List.take_nil,List.nil_append]
theorem aP6 {α:Type} {enc:α→List V} {n b:Nat} (hl:∀ x,(enc x).length=n∧aJ (enc x)=true) (l r:List α) {S:St} {a:Nat} {ver:Nat} {u:V} (hu:aR S u=.ok (r.map enc)) (hg:aA S a ver=.ok (n,l.map enc)) (h1:(l.length+r.length)*b≤35184372088832) (h2:l.length+r.length<dY) (fr:Option Nat):
  dW n b (.sl a ver n 0 l.length) u fr S=.ok (.sl a (ver+1) n 0 (l.length+r.length),⟨S.next,S.heap.put a (.row (ver+1) n ((l++r).map enc))⟩):=by
 have hc:∀ cs,cs∈r.map enc→cs.length=n∧aJ cs=true:=fun cs hc=>by obtain ⟨x,_,rfl⟩:=List.mem_map.1 hc;exact hl x
 obtain ⟨a1,a2⟩:=cM hc
 simp only [dW,hu,a1,a2,and_self,if_true,hg,List.length_map,Nat.zero_add,Nat.le_refl,h1,h2,List.drop_zero,List.map_append]
 rw [List.take_of_length_le (by rw [List.length_map];exact Nat.le_refl _)]
theorem bJm {α:Type} {enc:α→List V} {n b:Nat} (hl:∀ x,(enc x).length=n∧aJ (enc x)=true) (l:List α) (x:α) {i:Nat} (hi:i≤l.length) {S:St} {k1 k2 m s vs:Nat} (hne:k1≠k2) (hs1:s≠k1) (hs2:s≠k2) (hsrc:S.heap.get s=some (.row vs n (l.map enc))) (hk1:k1<S.next) (hm:S.next≤m) (hg:aA S k1 0=.ok (n,[])) (w:WF S) (hk2:k2<m) (h1:(l.length+1)*b≤35184372088832) (h2:l.length+1<dY) (f1 f2 f3:Option Nat):
  ∃ S1 S2 S3:St,dW n b (.sl k1 0 n 0 0) (.sl s vs n 0 i) f1 S=.ok (.sl k1 1 n 0 i,S1)∧S1.next=S.next∧dW n b (.sl k1 1 n 0 i) (.sl k2 0 n 0 1) f2 ⟨m,S1.heap.put k2 (.row 0 n [enc x])⟩=.ok (.sl k1 2 n 0 (i+1),S2) ∧
   dW n b (.sl k1 2 n 0 (i+1)) (.sl s vs n i (l.length - i)) f3 S2=.ok (.sl k1 3 n 0 (l.length+1),S3)∧S3.next=m∧WF S3∧S3.heap.get k1=some (.row 3 n ((cY l i x).map enc))∧(∀ y,y≠k1→S1.heap.get y=S.heap.get y)∧∀ y,y≠k1→y≠k2→S3.heap.get y=S.heap.get y:=by
 have lt:(l.take i).length=i:=by rw [List.length_take];omega
 have ld:(l.drop i).length=l.length - i:=List.length_drop
 have lm:(l.map enc).length=l.length:=List.length_map _
 have hb:∀ j,j≤l.length+1→j*b≤35184372088832:=fun j hj=>Nat.le_trans (Nat.mul_le_mul_right b hj) h1
 have u1:aR S (.sl s vs n 0 i)=.ok ((l.take i).map enc):=by rw [aVl hsrc (by omega),List.map_take]
 have q1:=aG7 (b:=b) hl (l.take i) u1 hg (hb _ (by omega)) (by omega) f1
 rw [lt] at q1
 have g2:aA ⟨m,(S.heap.put k1 (.row 1 n ((l.take i).map enc))).put k2 (.row 0 n [enc x])⟩ k1 1=.ok (n,(l.take i).map enc):=aI (S:=⟨S.next,S.heap.put k1 (.row 1 n ((l.take i).map enc))⟩) (aC _ _ _ _ _ _) (Tr.get_put_neB _ _ _ _ trivial hne)
 have g3:aA ⟨m,(S.heap.put k1 (.row 1 n ((l.take i).map enc))).put k2 (.row 0 n [enc x])⟩ k2 0=.ok (n,[enc x]):=aC _ _ _ _ _ _
 have q2:=aE3 (b:=b) hl (l.take i) x g2 g3 (hb _ (by omega)) (by omega) f2
 rw [lt] at q2
 obtain ⟨Z,hZ⟩:∃ Z:St,Z=⟨m,((S.heap.put k1 (.row 1 n ((l.take i).map enc))).put k2 (.row 0 n [enc x])).put k1 (.row 2 n ((l.take i++[x]).map enc))⟩:=⟨_,rfl⟩
 have g4:aA Z k1 2=.ok (n,(l.take i++[x]).map enc):=by rw [hZ];exact aC _ _ _ _ _ _
 have gs:Z.heap.get s=some (.row vs n (l.map enc)):=by
  rw [hZ]
  show (((S.heap.put k1 _).put k2 _).put k1 _).get s=_
  rw [Tr.get_put_neB _ _ _ _ trivial hs1,Tr.get_put_neB _ _ _ _ trivial hs2,Tr.get_put_neB _ _ _ _ trivial hs1];exact hsrc
 have u3:aR Z (.sl s vs n i (l.length - i))=.ok ((l.drop i).map enc):=by
  have:=aVm gs (i:=i) (by omega)
  rw [lm] at this
  rw [this,List.map_drop]
 have l1:(l.take i++[x]).length=i+1:=by rw [List.length_append,lt];rfl
 have q3:=aP6 (b:=b) hl (l.take i++[x]) (l.drop i) u3 g4 (hb _ (by omega)) (by omega) f3
 rw [l1,ld] at q3
 have e:i+1+(l.length - i)=l.length+1:=by omega
 rw [e] at q3
 have ei:l.take i++[x]++l.drop i=cY l i x:=by simp [cY]
 rw [ei] at q3
 have zn:Z.next=m:=by rw [hZ]
 have wZ:WF Z:=by rw [hZ];exact eB (n:=m) (eB (n:=S.next) (eB (n:=S.next) w hk1 (Nat.le_refl _)) hk2 hm) (show k1<m by omega) (Nat.le_refl _)
 refine ⟨_,Z,_,q1,rfl,by rw [hZ];exact q2,q3,zn,eB (n:=Z.next) wZ (by omega) (Nat.le_refl _),Tr.get_put_sameB _ _ _ trivial,fun y hy=>Tr.get_put_neB _ _ _ _ trivial hy,fun y hy hy2=>?_⟩
 show (Z.heap.put k1 _).get y=_
 rw [Tr.get_put_neB _ _ _ _ trivial hy,hZ]
 show (((S.heap.put k1 _).put k2 _).put k1 _).get y=_
 rw [Tr.get_put_neB _ _ _ _ trivial hy,Tr.get_put_neB _ _ _ _ trivial hy2,Tr.get_put_neB _ _ _ _ trivial hy]
end Go.Proofs.YtoaibmbldmckaaaGreat
end
section
namespace Go.Proofs.YtoaibmbldmckaaaGreat
open Go.AM Tryz
theorem bJn (t:Total) (hf:aDm t) (S:St) (K:KW):C 121 [.agg [.int .i64 t.net,.int .i64 t.tax,.int .i64 t.gross,.imm (t.parts.map Part.enc)]] S K=K (.tup [.imm ((cH t).1.map Bal.enc),.int .i64 (cH t).2]) S:=by
 refine (bKp rfl ?_).eq S K
 delta Tryz.f121;simp only [↓cw,↓reduceIte,Nat.reduceLT,kk,aXr,cN,gm]
 have hpl:=hf.1
 refine aG t.parts (step:=rM) (fin:=fun l=>(l,0)) (fun i s vs S=>∃ v,vs=[.nils,.int .i64 0,v,.int .i64 (i:Int)]∧Own E0 S 2 v (s.map Bal.enc)∧WF S∧s.length=1+2*i∧aA S 0 0=.ok (4,[t.enc])∧AM.blkOf v≠some 0∧2≤S.next) (fun r=>r=cH t) ?_ ?_ (s:=[⟨[111,119,101,100],t.gross⟩]) ⟨_,rfl,⟨.inr ⟨1,0,[],rfl,Nat.zero_le _,Nat.lt_succ_self 1,rfl⟩,?_⟩,eB (eB (m:=1) lB (by decide) (by decide)) (by decide) (by decide),rfl,rfl,fun h=>(by cases h),Nat.le_refl _⟩ rfl
 ·rintro i p s vs S hi ⟨v,rfl,own,w,hsl,r0,hv0,hn⟩ aF H
  have hil:=(List.getElem?_eq_some_iff.1 hi).1
  have hcat:=hf.2 p (List.mem_of_getElem? hi)
  simp only [↓cw,↓reduceIte,Nat.reduceLT,rM,kk] at H
  have e1:wU.length+p.cat.length<2000000:=by simp only [wU,List.length_cons,List.length_nil];omega
  have e2:wV.length+p.cat.length<2000000:=by simp only [wV,List.length_cons,List.length_nil];omega
  have c1:=aCb (P:=prog) (t:=9) e1
  have c2:=aCb (P:=prog) (t:=9) e2
  simp only [wU,wV] at c1 c2
  simp only [Total.enc] at r0
  simp only [↓cw,↓reduceIte,Nat.reduceLT,kk,r0,bB hi,if_true,jE hi,Part.enc,hJ (show i<1000000000 by omega),bCu,cX,gm,c1,c2,bBy]
  by_cases h1:(bU 0 p.net).2=0
  ·by_cases h2:(bU 0 p.tax).2=0
   ·simp only [↓cw,↓reduceIte,Nat.reduceLT,h1,h2,kk,not_true_eq_false,if_false] at H ⊢
    have f1:S.heap.get (S.next+19)=none:=fresh w (by omega)
    have f2:S.heap.get (S.next+20)=none:=fresh w (by omega)
    have w1:WF ⟨S.next+22,S.heap.put (S.next+19) (.row 0 2 [Bal.enc ⟨wU++p.cat,(bU 0 p.net).1⟩,Bal.enc ⟨wV++p.cat,(bU 0 p.tax).1⟩])⟩:=eB (n:=S.next) w (by omega) (by omega)
    have o1:Own E0 ⟨S.next+22,S.heap.put (S.next+19) (.row 0 2 [Bal.enc ⟨wU++p.cat,(bU 0 p.net).1⟩,Bal.enc ⟨wV++p.cat,(bU 0 p.tax).1⟩])⟩ 2 v (s.map Bal.enc):=own.same (by show S.next≤S.next+22;omega) fun a ha=>Tr.get_put_neB _ _ _ _ trivial (by have:=(fY own ha).2;omega)
    have hu:aR ⟨S.next+22,S.heap.put (S.next+19) (.row 0 2 [Bal.enc ⟨wU++p.cat,(bU 0 p.net).1⟩,Bal.enc ⟨wV++p.cat,(bU 0 p.tax).1⟩])⟩ (.sl (S.next+19) 0 2 0 2)=.ok [Bal.enc ⟨wU++p.cat,(bU 0 p.net).1⟩,Bal.enc ⟨wV++p.cat,(bU 0 p.tax).1⟩]:=by
     simp only [aR,aC];rfl
    have f3:(⟨S.next+22,S.heap.put (S.next+19) (.row 0 2 [Bal.enc ⟨wU++p.cat,(bU 0 p.net).1⟩,Bal.enc ⟨wV++p.cat,(bU 0 p.tax).1⟩])⟩:St).heap.get (S.next+20)=none:=by
     show (S.heap.put (S.next+19) _).get (S.next+20)=none
     rw [Tr.get_put_neB _ _ _ _ trivial (by omega)];exact f2
    obtain ⟨v',S',q1,q2,q3,q4,q5,q6⟩:=o1.pushAt (b:=24) (k:=S.next+20) (wW w1) lB hu (fun d hd=>by
     rcases List.mem_cons.1 hd with rfl | hd
     ·exact aEm _
     ·rcases List.mem_cons.1 hd with rfl | hd
      ·exact aEm _
      ·cases hd) (by simp) (Nat.zero_le _) (by show S.next+20<S.next+22;omega) f3 (by simp;omega) (by simp [dY];omega)
    simp only [↓cw,↓reduceIte,Nat.reduceLT,Bal.enc,wU,wV,kk] at q1
    simp only [↓cw,↓reduceIte,Nat.reduceLT,q1,kk]
    have wS:WF S':=q2.wf lB
    have hnn:S'.next=S.next+22:=q3
    refine H _ _ ⟨_,rfl,by rw [List.map_append];exact q4,wS,by rw [List.length_append,hsl];simp;omega,?_,?_,by omega⟩
    ·refine aI (S:=S) r0 ?_
     rw [q6 0 (by omega) hv0]
     exact Tr.get_put_neB _ _ _ _ trivial (by omega)
    ·rcases q5 with e | e
     ·rw [e];intro h;cases h
     ·rw [e];exact hv0
   ·simp only [↓cw,↓reduceIte,Nat.reduceLT,h1,h2,kk,not_true_eq_false,not_false_eq_true,if_false,if_true] at H ⊢
    simp only [oo,←H,List.map_nil]
  ·simp only [↓cw,↓reduceIte,Nat.reduceLT,h1,kk,not_false_eq_true,if_true] at H ⊢
   simp only [oo,←H,List.map_nil]
 ·rintro s vs S ⟨v,rfl,own,w,hsl,r0,hv0,hn⟩ aF H
  have H':cH t=(s,0):=H.symm
  simp only [Total.enc] at r0
  simp only [↓cw,↓reduceIte,Nat.reduceLT,kk,r0,Int.lt_irrefl,if_false,oo,own.frz (cV (fun _=>rfl) _),H']
 ·intro c hc;simp at hc;subst hc;exact ⟨rfl,rfl⟩
theorem bDb (book l:List Bal) (hbb:book.length+l.length<1000000) (S:St) (K:KW):C 122 [.imm (book.map Bal.enc),.imm (l.map Bal.enc)] S K=K (.tup [.imm ((bL book l).1.map Bal.enc),.int .i64 (bL book l).2]) S:=by
 refine (bN0 rfl ?_).eq S K
 simp only [aWu,kk,bPf book (by omega),bL]
 cases h:vO book
 ·simp only [h,kk,Bool.not_false,if_true,oo,List.map_nil]
 simp only [h,kk,Bool.not_true,Bool.true_eq_false,Bool.false_eq_true,if_false,bs0]
 have q0:=pX (b:=24) aEm book (S:=⟨0+1,Tr.nil.put 0 (.row 0 2 [])⟩) (a:=0) (aC _ _ _ _ _ _) (by omega) (by unfold dY;omega) none
 simp only [q0]
 refine aG l (step:=bR) (fin:=fun l=>(l,0)) (fun i cur vs X=>∃ a ver,vs=[.nils,.int .i64 0,.sl a ver 2 0 cur.length,.int .i64 (i:Int)]∧X.heap.get a=some (.row ver 2 (cur.map Bal.enc))∧WF X∧cur.length≤book.length+i) (fun r=>r=aE bR (fun l=>(l,0)) l book) ?_ ?_ (s:=book) ⟨0,1,rfl,Tr.get_put_sameB _ _ _ trivial,eB (n:=1) (eB lB (by decide) (by decide)) (by decide) (by decide),Nat.le_refl _⟩ rfl
 ·rintro i x cur vs X hi ⟨a,ver,rfl,hg,w,hlen⟩ aF H
  have hil:=(List.getElem?_eq_some_iff.1 hi).1
  have haX:=w _ _ hg
  have hpl:=oP cur x.acc
  have hroom:(bO cur x.acc).length≤cur.length+1:=by
   unfold bO
   split
   ·rw [gU _ _ _ hpl];exact Nat.le_refl _
   ·omega
  have hj1:∀ (a' ver':Nat) (Y:St),Y.heap.get a'=some (.row ver' 2 ((bO cur x.acc).map Bal.enc))→WF Y→aBz C (fun v0 S0=>dS S0 v0=Except.ok (V.tup [.imm ((aE bR (fun l=>(l,0)) l book).1.map Bal.enc),.int .i64 (aE bR (fun l=>(l,0)) l book).2])) aF (.imm (l.map Bal.enc)) .nils (.int .i64 0) (.sl a' ver' 2 0 (bO cur x.acc).length) (.int .i64 (i:Int)) (.int .i64 (aL cur x.acc:Int)) Y:=by
   intro a' ver' Y hY wY
   have hlt:aL cur x.acc<(bO cur x.acc).length:=by
    by_cases c:aL cur x.acc<cur.length
    ·unfold bO
     split
     ·rw [gU _ _ _ hpl];omega
     ·exact c
    ·have hm:fS cur x.acc=true:=by unfold fS;rw [List.getElem?_eq_none (by omega)]
     unfold bO
     rw [if_pos hm,gU _ _ _ hpl];omega
   obtain ⟨r,hr⟩:∃ r,(bO cur x.acc)[aL cur x.acc]?=some r:=⟨_,List.getElem?_eq_getElem hlt⟩
   have hr':((bO cur x.acc).map Bal.enc)[aL cur x.acc]?=some r.enc:=by rw [List.getElem?_map,hr];rfl
   have hld:∀ m,jH none (.ptr a' ver' (aL cur x.acc) 1) ⟨m,Y.heap⟩=.ok (.int .i64 r.amount):=fun m=>by
    rw [aQy (X:=⟨m,Y.heap⟩) hY hr'];rfl
   have hst:=aVk (X:=⟨Y.next+16,Y.heap⟩) (v:=.int .i64 (cF r.amount x.amount).1) (j:=1) hY hr' rfl rfl (by show 1+1≤2;decide)
   simp only [bR,hr] at H
   simp only [aBz,kk,aG6 hlt,hld,lS hi,Bal.enc,aUo,cX,hJ (show i<1000000000 by omega),Nat.zero_add]
   by_cases c:(cF r.amount x.amount).2=0
   ·simp only [c,not_true_eq_false,if_false] at H ⊢
    have hst':fV 1 (.ptr a' ver' (aL cur x.acc) 1) (.int .i64 (cF r.amount x.amount).1) ⟨Y.next+16,Y.heap⟩=.ok ⟨Y.next+16,Y.heap.put a' (.row ver' 2 (((bO cur x.acc).map Bal.enc).set (aL cur x.acc) (splice r.enc 1 [.int .i64 (cF r.amount x.amount).1])))⟩:=hst
    simp only [hst',kk]
    have hset:((bO cur x.acc).map Bal.enc).set (aL cur x.acc) (splice r.enc 1 [.int .i64 (cF r.amount x.amount).1])=((bO cur x.acc).set (aL cur x.acc) ⟨r.acc,(cF r.amount x.amount).1⟩).map Bal.enc:=by rw [List.map_set];rfl
    rw [hset]
    refine H _ _ ⟨a',ver',by rw [List.length_set],Tr.get_put_sameB _ _ _ trivial,eB (n:=Y.next+16) (fun b c hb=>by have:=wY b c hb;show b<Y.next+16;omega) (by have:=wY _ _ hY;omega) (Nat.le_refl _),by rw [List.length_set];omega⟩
   ·simp only [c,ne_eq,not_false_eq_true,if_true] at H ⊢
    simp only [oo,←H,List.map_nil]
  have hj2:∀ Y:St,Y.heap=X.heap→X.next≤Y.next→yT C (fun v0 S0=>dS S0 v0=Except.ok (V.tup [.imm ((aE bR (fun l=>(l,0)) l book).1.map Bal.enc),.int .i64 (aE bR (fun l=>(l,0)) l book).2])) aF (.imm (l.map Bal.enc)) .nils (.int .i64 0) (.sl a ver 2 0 cur.length) (.int .i64 (i:Int)) (.int .i64 (aL cur x.acc:Int)) (.bool (fS cur x.acc)) Y:=by
   intro Y hh hn
   have wY:WF Y:=fun b c hb=>by rw [hh] at hb;have:=w b c hb;omega
   have hgY:Y.heap.get a=some (.row ver 2 (cur.map Bal.enc)):=by rw [hh];exact hg
   cases hm:fS cur x.acc
   ·have e:bO cur x.acc=cur:=by unfold bO;rw [hm];rfl
    have:=hj1 a ver Y (by rw [e];exact hgY) wY
    rw [e] at this
    simp only [yT,kk,Bool.false_eq_true,if_false]
    exact this
   ·have e:bO cur x.acc=cY cur (aL cur x.acc) ⟨x.acc,0⟩:=by unfold bO;rw [hm];rfl
    obtain ⟨Z,hZ⟩:∃ Z:St,Z=⟨Y.next+18,Y.heap.put Y.next (.row 0 2 [])⟩:=⟨_,rfl⟩
    have wZ:WF Z:=by rw [hZ];exact eB (n:=Y.next) wY (by omega) (by omega)
    have gZ:aA Z Y.next 0=.ok (2,[]):=by rw [hZ];exact aC _ _ _ _ _ _
    have nZ:Z.next=Y.next+18:=by rw [hZ]
    have sZ:Z.heap.get a=some (.row ver 2 (cur.map Bal.enc)):=by rw [hZ];show (Y.heap.put Y.next _).get a=_;rw [Tr.get_put_neB _ _ _ _ trivial (by omega)];exact hgY
    obtain ⟨S1,S2,S3,q1,m1,q2,q3,n3,w3,g3,k1,k3⟩:=bJm (b:=24) aEm cur ⟨x.acc,0⟩ hpl (S:=Z) (k1:=Y.next) (k2:=Y.next+11) (m:=Z.next) (s:=a) (vs:=ver) (by omega) (by omega) (by omega) sZ (by omega) (Nat.le_refl _) gZ wZ (by omega) (by omega) (by unfold dY;omega) (some (Y.next+4)) (some (Y.next+12)) (some (Y.next+16))
    have mm:∀ b,(⟨Z.next,S1.heap.put (Y.next+11) b⟩:St)=⟨S1.next,S1.heap.put (Y.next+11) b⟩:=fun b=>by rw [m1]
    rw [mm] at q2
    simp only [Bal.enc] at q2
    have b1:dJ cur.length none (some (.int .i64 (aL cur x.acc:Int)))=.ok (0,aL cur x.acc):=by
     have:(decide ((0:Int)≤(aL cur x.acc:Int))&&decide ((aL cur x.acc:Int)≤(cur.length:Int)))=true:=by simp;omega
     simp only [dJ,this,cond_true];rfl
    have b2:dJ cur.length (some (.int .i64 (aL cur x.acc:Int))) none=.ok (aL cur x.acc,cur.length):=by
     simp only [dJ];simp [hpl]
    have hfin:=hj1 Y.next 3 S3 (by rw [e];exact g3) w3
    have hrl:(bO cur x.acc).length=cur.length+1:=by rw [e,gU _ _ _ hpl]
    rw [hrl] at hfin
    simp only [yT,kk,if_true,bCp,b1,b2,lS hi,Bal.enc,bs0,Nat.add_zero,Nat.zero_add,Nat.sub_zero,←hZ,q1,aXr,q2,q3]
    exact hfin
  have hj0:∀ Y:St,Y.heap=X.heap→X.next≤Y.next→yU C (fun v0 S0=>dS S0 v0=Except.ok (V.tup [.imm ((aE bR (fun l=>(l,0)) l book).1.map Bal.enc),.int .i64 (aE bR (fun l=>(l,0)) l book).2])) aF (.imm (l.map Bal.enc)) .nils (.int .i64 0) (.sl a ver 2 0 cur.length) (.int .i64 (i:Int)) (.int .i64 (aL cur x.acc:Int)) Y:=by
   intro Y hh hn
   have h2:=hj2 ⟨Y.next+17,Y.heap⟩ hh (by show X.next≤Y.next+17;omega)
   by_cases c:aL cur x.acc<cur.length
   ·obtain ⟨r,hr⟩:∃ r,cur[aL cur x.acc]?=some r:=⟨_,List.getElem?_eq_getElem c⟩
    have hr':(cur.map Bal.enc)[aL cur x.acc]?=some r.enc:=by rw [List.getElem?_map,hr];rfl
    have hld:jH none (.ptr a ver (aL cur x.acc) 0) ⟨Y.next+17,Y.heap⟩=.ok (.str r.acc):=by
     rw [aQy (X:=⟨Y.next+17,Y.heap⟩) (by rw [←hh] at hg;exact hg) hr'];rfl
    have hm:fS cur x.acc=!(r.acc == x.acc):=by unfold fS;rw [hr]
    rw [hm] at h2
    simp only [yU,kk,show ¬ ((aL cur x.acc:Nat):Int)=(cur.length:Int) by omega,if_false,aG6 c,Nat.add_zero,hld,lS hi,Bal.enc]
    exact h2
   ·have e:aL cur x.acc=cur.length:=by omega
    have hm:fS cur x.acc=true:=by unfold fS;rw [List.getElem?_eq_none (by omega)]
    rw [hm] at h2
    simp only [yU,kk,show ((aL cur x.acc:Nat):Int)=(cur.length:Int) by omega,if_true]
    rw [show ((aL cur x.acc:Nat):Int)=(cur.length:Int) by omega] at h2
    exact h2
  simp only [aHd,kk,bB hi,if_true]
  refine aG cur (step:=dM (fun b:Bal=>fN b.acc x.acc)) (fin:=id) (fun k n vs Y=>n=k∧vs=[.int .i64 (k:Int)]∧Y.heap=X.heap∧X.next≤Y.next) (fun n=>n=aL cur x.acc) ?_ ?_ (s:=0) ⟨rfl,rfl,rfl,Nat.le_refl _⟩ rfl
  ·rintro k b n vs Y hk ⟨rfl,rfl,hh,hn⟩ again' H'
   have hkl:=(List.getElem?_eq_some_iff.1 hk).1
   have hk':(cur.map Bal.enc)[n]?=some b.enc:=by rw [List.getElem?_map,hk];rfl
   have hld:jH none (.ptr a ver n 0) ⟨Y.next+17,Y.heap⟩=.ok (.str b.acc):=by
    rw [aQy (X:=⟨Y.next+17,Y.heap⟩) (by rw [←hh] at hg;exact hg) hk'];rfl
   simp only [dM] at H'
   simp only [aHc,kk,bB hk,if_true,aG6 hkl,Nat.add_zero,hld,lS hi,Bal.enc,hJ (show n<1000000000 by omega)]
   cases c:fN b.acc x.acc<;>simp only [c,kk,if_true,if_false,Bool.false_eq_true] at H' ⊢
   ·have H':n=aL cur x.acc:=H'
    rw [H']
    exact hj0 _ hh (by show X.next≤Y.next+17;omega)
   ·exact H' _ _ ⟨rfl,hh,by show X.next≤Y.next+17;omega⟩
  ·rintro n vs Y ⟨rfl,rfl,hh,hn⟩ again' H'
   have H':cur.length=aL cur x.acc:=H'
   simp only [aHc,kk,Int.lt_irrefl,if_false]
   have:=hj0 ⟨Y.next+17,Y.heap⟩ hh (by show X.next≤Y.next+17;omega)
   rw [←H'] at this
   exact this
 ·rintro cur vs X ⟨a,ver,rfl,hg,w,hlen⟩ aF H
  have H:(cur,(0:Int))=aE bR (fun l=>(l,0)) l book:=H
  obtain ⟨v,hv⟩:∃ v,v=V.sl a ver 2 0 cur.length:=⟨_,rfl⟩
  have own:=aE2 aEm (l:=cur) hg (w _ _ hg)
  rw [←hv] at own ⊢
  have of:=own.out fun _=>rfl
  simp only [aHd,kk,Int.lt_irrefl,if_false,oo,of,←H]
theorem bJo {α:Type} {enc:α→List V} {n b:Nat} (hl:∀ x,(enc x).length=n∧aJ (enc x)=true) (l:List α) (x:α) {i:Nat} (hi:i≤l.length) {S:St} {k1 k2 m s:Nat} {v1 v2:V} (hne:k1≠k2) (hs1:s≠k1) (hs2:s≠k2) (hsrc:∀ X:St,X.heap.get s=S.heap.get s→aR X v1=.ok ((l.take i).map enc)∧aR X v2=.ok ((l.drop i).map enc)) (hk1:k1<S.next) (hm:S.next≤m) (hg:aA S k1 0=.ok (n,[])) (w:WF S) (hk2:k2<m) (h1:(l.length+1)*b≤35184372088832) (h2:l.length+1<dY) (f1 f2 f3:Option Nat):
  ∃ S1 S2 S3:St,dW n b (.sl k1 0 n 0 0) v1 f1 S=.ok (.sl k1 1 n 0 i,S1)∧S1.next=S.next∧dW n b (.sl k1 1 n 0 i) (.sl k2 0 n 0 1) f2 ⟨m,S1.heap.put k2 (.row 0 n [enc x])⟩=.ok (.sl k1 2 n 0 (i+1),S2) ∧
   dW n b (.sl k1 2 n 0 (i+1)) v2 f3 S2=.ok (.sl k1 3 n 0 (l.length+1),S3)∧S3.next=m∧WF S3∧S3.heap.get k1=some (.row 3 n ((cY l i x).map enc))∧(∀ y,y≠k1→S1.heap.get y=S.heap.get y)∧(∀ y,y≠k1→y≠k2→S3.heap.get y=S.heap.get y)∧∀ y,y≠k1→y≠k2→S2.heap.get y=S.heap.get y:=by
 have lt:(l.take i).length=i:=by rw [List.length_take];omega
 have ld:(l.drop i).length=l.length - i:=List.length_drop
 have hb:∀ j,j≤l.length+1→j*b≤35184372088832:=fun j hj=>Nat.le_trans (Nat.mul_le_mul_right b hj) h1
 have q1:=aG7 (b:=b) hl (l.take i) (hsrc S rfl).1 hg (hb _ (by omega)) (by omega) f1
 rw [lt] at q1
 have g2:aA ⟨m,(S.heap.put k1 (.row 1 n ((l.take i).map enc))).put k2 (.row 0 n [enc x])⟩ k1 1=.ok (n,(l.take i).map enc):=aI (S:=⟨S.next,S.heap.put k1 (.row 1 n ((l.take i).map enc))⟩) (aC _ _ _ _ _ _) (Tr.get_put_neB _ _ _ _ trivial hne)
 have g3:aA ⟨m,(S.heap.put k1 (.row 1 n ((l.take i).map enc))).put k2 (.row 0 n [enc x])⟩ k2 0=.ok (n,[enc x]):=aC _ _ _ _ _ _
 have q2:=aE3 (b:=b) hl (l.take i) x g2 g3 (hb _ (by omega)) (by omega) f2
 rw [lt] at q2
 obtain ⟨Z,hZ⟩:∃ Z:St,Z=⟨m,((S.heap.put k1 (.row 1 n ((l.take i).map enc))).put k2 (.row 0 n [enc x])).put k1 (.row 2 n ((l.take i++[x]).map enc))⟩:=⟨_,rfl⟩
 have g4:aA Z k1 2=.ok (n,(l.take i++[x]).map enc):=by rw [hZ];exact aC _ _ _ _ _ _
 have kZ:∀ y,y≠k1→y≠k2→Z.heap.get y=S.heap.get y:=fun y hy hy2=>by
  rw [hZ]
  show (((S.heap.put k1 _).put k2 _).put k1 _).get y=_
  rw [Tr.get_put_neB _ _ _ _ trivial hy,Tr.get_put_neB _ _ _ _ trivial hy2,Tr.get_put_neB _ _ _ _ trivial hy]
 have l1:(l.take i++[x]).length=i+1:=by rw [List.length_append,lt];rfl
 have q3:=aP6 (b:=b) hl (l.take i++[x]) (l.drop i) (hsrc Z (kZ s hs1 hs2)).2 g4 (hb _ (by omega)) (by omega) f3
 rw [l1,ld] at q3
 have e:i+1+(l.length - i)=l.length+1:=by omega
 rw [e] at q3
 have ei:l.take i++[x]++l.drop i=cY l i x:=by simp [cY]
 rw [ei] at q3
 have zn:Z.next=m:=by rw [hZ]
 have wZ:WF Z:=by rw [hZ];exact eB (n:=m) (eB (n:=S.next) (eB (n:=S.next) w hk1 (Nat.le_refl _)) hk2 hm) (show k1<m by omega) (Nat.le_refl _)
 refine ⟨_,Z,_,q1,rfl,by rw [hZ];exact q2,q3,zn,eB (n:=Z.next) wZ (by omega) (Nat.le_refl _),Tr.get_put_sameB _ _ _ trivial,fun y hy=>Tr.get_put_neB _ _ _ _ trivial hy,fun y hy hy2=>?_,kZ⟩
 show (Z.heap.put k1 _).get y=_
 rw [Tr.get_put_neB _ _ _ _ trivial hy]
 exact kZ y hy hy2
def zt:List V:=[.int .i64 0,.int .i64 0,.int .i64 0,.nils]
structure TB (X:St) (d:Date) (n x:Int) (pv:V) (parts:List Part):Prop where
 wf:WF X
 r0:aA X 0 0=.ok (3,[d.enc])
 r1:aA X 1 0=.ok (4,[zt])
 r2:aA X 2 0=.ok (4,[[.int .i64 n,.int .i64 x,.int .i64 0,pv]])
 n3:3≤X.next
 is:pv=.nils∧parts=[]∨∃ a ver,pv=.sl a ver 4 0 parts.length∧X.heap.get a=some (.row ver 4 (parts.map Part.enc))∧3≤a
theorem TB.same {X X':St} {d:Date} {n x:Int} {pv:V} {parts:List Part} (t:TB X d n x pv parts) (hn:X.next≤X'.next) (w:WF X') (hk:∀ y,y<X.next→X'.heap.get y=X.heap.get y):TB X' d n x pv parts:=by
 have h3:=t.n3
 refine ⟨w,aI t.r0 (hk 0 (by omega)),aI t.r1 (hk 1 (by omega)),aI t.r2 (hk 2 (by omega)),by omega,?_⟩
 rcases t.is with h | ⟨a,ver,h1,h2,h3⟩
 ·exact .inl h
 ·exact .inr ⟨a,ver,h1,by rw [hk a (t.wf _ _ h2)];exact h2,h3⟩
theorem TB.len {X:St} {d:Date} {n x:Int} {pv:V} {parts:List Part} (t:TB X d n x pv parts):lenW pv=.ok (.int .i64 parts.length):=by
 rcases t.is with ⟨rfl,rfl⟩ | ⟨a,ver,rfl,_,_⟩<;>rfl
theorem TB.at {X:St} {d:Date} {n x:Int} {pv:V} {parts:List Part} (t:TB X d n x pv parts) {i:Nat} {p:Part} (hi:parts[i]?=some p):∃ a ver,iF 4 pv (.int .i64 (i:Int))=.ok (.ptr a ver i 0)∧3≤a∧a<X.next∧(∀ (m:Nat) (k:Option Nat) (j:Nat),jH k (.ptr a ver i j) ⟨m,X.heap⟩=lN k p.enc j) ∧
  ∀ (m j:Nat) (v:V),X.next≤m→v.cells=[v]→v.one=true→j+1≤4→∀ q:Part,splice p.enc j [v]=q.enc→∃ X',fV 1 (.ptr a ver i j) v ⟨m,X.heap⟩=.ok X'∧X'.next=m∧TB X' d n x pv (parts.set i q)∧∀ y,y≠a→X'.heap.get y=X.heap.get y:=by
 have hil:=(List.getElem?_eq_some_iff.1 hi).1
 rcases t.is with ⟨_,rfl⟩ | ⟨a,ver,rfl,hg,h3⟩
 ·simp at hil
 have hi':(parts.map Part.enc)[i]?=some p.enc:=by rw [List.getElem?_map,hi];rfl
 refine ⟨a,ver,aG6 hil,h3,t.wf _ _ hg,fun m k j=>aQy (X:=⟨m,X.heap⟩) hg hi' k j,fun m j v hm hv ho hj q hq=>?_⟩
 have hst:=aVk (X:=⟨m,X.heap⟩) hg hi' hv ho (show j+1≤4 from hj)
 have hset:(parts.map Part.enc).set i (splice p.enc j [v])=(parts.set i q).map Part.enc:=by rw [List.map_set,hq]
 rw [hset] at hst
 have haX:=t.wf _ _ hg
 have hk:∀ y,y≠a→(X.heap.put a (.row ver 4 ((parts.set i q).map Part.enc))).get y=X.heap.get y:=fun y hy=>Tr.get_put_neB _ _ _ _ trivial hy
 have wm:WF (⟨m,X.heap⟩:St):=fun y b h=>by have:=t.wf y b h;show y<m;omega
 have h3X:=t.n3
 refine ⟨_,hst,rfl,⟨eB (n:=m) wm (show a<m by omega) (Nat.le_refl _),aI t.r0 (hk 0 (by omega)),aI t.r1 (hk 1 (by omega)),aI t.r2 (hk 2 (by omega)),by show 3≤m;omega,.inr ⟨a,ver,by rw [List.length_set],Tr.get_put_sameB _ _ _ trivial,h3⟩⟩,hk⟩
theorem aP7:dF prog 80 .nils none (some (.int .i64 0))=.ok .nils∧dF prog 80 .nils (some (.int .i64 0)) none=.ok .nils:=⟨by kernel_rfl,by kernel_rfl⟩
theorem TB.cut {X:St} {d:Date} {n x:Int} {pv:V} {parts:List Part} (t:TB X d n x pv parts) {i:Nat} (hi:i≤parts.length):∃ s v1 v2,3≤s∧(s<X.next∨pv=.nils∧parts=[])∧dF prog 80 pv none (some (.int .i64 (i:Int)))=.ok v1∧dF prog 80 pv (some (.int .i64 (i:Int))) none=.ok v2 ∧
  ∀ Y:St,Y.heap.get s=X.heap.get s→aR Y v1=.ok ((parts.take i).map Part.enc)∧aR Y v2=.ok ((parts.drop i).map Part.enc):=by
 rcases t.is with ⟨rfl,rfl⟩ | ⟨a,ver,rfl,hg,h3⟩
 ·have:i=0:=by simpa using hi
  subst this
  exact ⟨3,.nils,.nils,Nat.le_refl _,.inr ⟨rfl,rfl⟩,aP7.1,aP7.2,fun Y _=>⟨rfl,rfl⟩⟩
 ·have b1:dJ parts.length none (some (.int .i64 (i:Int)))=.ok (0,i):=by
   have:(decide ((0:Int)≤(i:Int))&&decide ((i:Int)≤(parts.length:Int)))=true:=by simp;omega
   simp only [dJ,this,cond_true];rfl
  have b2:dJ parts.length (some (.int .i64 (i:Int))) none=.ok (i,parts.length):=by
   simp only [dJ];simp [hi]
  have lm:(parts.map Part.enc).length=parts.length:=List.length_map _
  refine ⟨a,.sl a ver 4 0 i,.sl a ver 4 i (parts.length - i),h3,.inl (t.wf _ _ hg),by rw [aXf,b1];simp,by rw [aXf,b2];simp,fun Y hY=>?_⟩
  rw [←hY] at hg
  constructor
  ·rw [aVl hg (by omega),List.map_take]
  ·have:=aVm hg (i:=i) (by omega)
   rw [lm] at this
   rw [this,List.map_drop]
theorem aP8 {a b:Int} (h:(cF a b).2≠0):(cF a b).2=7:=by
 unfold cF at h ⊢
 split at h
 ·rename_i c;rw [if_pos c]
 ·exact absurd rfl h
theorem aQz {n bp:Int} (h:eF n) (h1:0≤bp) (h2:bp≤100000) (h3:(aU n bp).2≠0):(aU n bp).2=7:=by
 rw [vA h h1 h2] at h3 ⊢
 split at h3
 ·rfl
 ·exact absurd rfl h3
theorem TB.upd {X:St} {d:Date} {n x:Int} {pv:V} {parts:List Part} (t:TB X d n x pv parts) {m:Nat} (hm:X.next≤m) (b:Blk) (n' x':Int):TB ⟨m,(X.heap.put 2 b).put 2 (.row 0 4 [[.int .i64 n',.int .i64 x',.int .i64 0,pv]])⟩ d n' x' pv parts:=by
 have h3:=t.n3
 have hk:∀ y,y≠2→((X.heap.put 2 b).put 2 (.row 0 4 [[.int .i64 n',.int .i64 x',.int .i64 0,pv]])).get y=X.heap.get y:=fun y hy=>by rw [Tr.get_put_neB _ _ _ _ trivial hy,Tr.get_put_neB _ _ _ _ trivial hy]
 refine ⟨eB (n:=m) (eB (n:=X.next) t.wf (by omega) hm) (show 2<m by omega) (Nat.le_refl _),aI t.r0 (hk 0 (by decide)),aI t.r1 (hk 1 (by decide)),aC _ _ _ _ _ _,by show 3≤m;omega,?_⟩
 rcases t.is with h | ⟨a,ver,h1,h2,h3⟩
 ·exact .inl h
 ·exact .inr ⟨a,ver,h1,(hk a (by omega)).trans h2,h3⟩
theorem TB.one {X:St} {d:Date} {n x:Int} {pv:V} {parts:List Part} (t:TB X d n x pv parts):pv.one=true∧pv.cells=[pv]:=by
 rcases t.is with ⟨rfl,rfl⟩ | ⟨a,ver,rfl,_,_⟩<;>exact ⟨rfl,rfl⟩
theorem TB.out {X Z:St} {d:Date} {n x:Int} {pv:V} {parts:List Part} (t:TB X d n x pv parts) (hn:X.next≤Z.next) (hk:∀ y,3≤y→Z.heap.get y=X.heap.get y):dD lV (pG (lF Z 3) Z) pv=.ok (.imm (parts.map Part.enc)):=by
 rcases t.is with ⟨rfl,rfl⟩ | ⟨a,ver,rfl,h2,h3⟩
 ·rfl
 ·exact (aE2 aFn (S:=Z) (by rw [hk a h3];exact h2) (by have:=t.wf _ _ h2;omega)).out fun _=>rfl
set_option maxHeartbeats 4000000 in
theorem bPo (tab:List Rate) (d:Date) (lines:List Line) (hp64:∀ l∈lines,eF l.count∧eF l.price) (hll:lines.length<1000000) (S:St) (K:KW):C 190 [.imm (tab.map Rate.enc),.agg [.int .i64 d.y,.int .i64 d.m,.int .i64 d.d],.imm (lines.map Line.enc)] S K=K (mE (dN tab d lines)) S:=by
 refine (bN9 rfl ?_).eq S K
 have zero:∀ (X:St) (e:Int),dS X (.tup [.agg [.int .i64 0,.int .i64 0,.int .i64 0,.nils],.int .i64 e])=.ok (mE (Total.zero,e)):=fun X e=>by
  simp only [oo,mE,Total.zero,List.map_nil]
 simp only [aX7,kk,cN,gm,aY8,aM0,dN]
 cases c1:dK tab
 ·simp only [c1,kk,Bool.not_false,if_true,cN,zero]
 simp only [c1,kk,Bool.not_true,Bool.true_eq_false,Bool.false_eq_true,if_false,gm,cN,aM0]
 cases c2:d.right
 ·simp only [c2,kk,Bool.not_false,if_true,cN,zero]
 simp only [c2,kk,Bool.not_true,Bool.true_eq_false,Bool.false_eq_true,if_false]
 by_cases c3:lines.length=0
 ·simp only [c3,show ((0:Nat):Int)=0 from rfl,if_true,kk,cN,zero]
 simp only [c3,show ¬ (lines.length:Int)=0 by omega,if_false]
 by_cases c4:12<lines.length
 ·simp only [c4,show (12:Int)<(lines.length:Int) by omega,if_true,kk,cN,zero]
 simp only [c4,show ¬ (12:Int)<(lines.length:Int) by omega,if_false,kk]
 obtain ⟨R,hR⟩:∃ R,R=aE (hN tab d) eV lines []:=⟨_,rfl⟩
 rw [←hR]
 obtain ⟨S0,hS0⟩:∃ S0:St,S0=⟨2+1,((Tr.nil.put 0 (.row 0 3 [d.enc])).put 1 (.row 0 4 [zt])).put 2 (.row 0 4 [zt])⟩:=⟨_,rfl⟩
 have t0:TB S0 d 0 0 .nils []:=by
  rw [hS0]
  exact ⟨eB (n:=2) (eB (n:=1) (eB lB (by decide) (by decide)) (by decide) (by decide)) (by decide) (by decide),rfl,rfl,rfl,Nat.le_refl _,.inl ⟨rfl,rfl⟩⟩
 have hend:∀ (X:St) (pv:V) (parts:List Part) (x7:V),TB X d 0 0 pv parts→PInv parts→parts.length≤1000→R=eV parts→gG [x7,.int .i64 0] X (aC6 C (fun v0 S0=>dS S0 v0=Except.ok (mE R)) (.ptr 1 0 0 0) (.ptr (1+1) 0 0 0)):=by
  intro X pv parts x7 t pi hlen hRw
  have hout:∀ (Y:St) (e:Int),R=(Total.zero,e)→dS Y (.tup [.agg [.int .i64 0,.int .i64 0,.int .i64 0,.nils],.int .i64 e])=.ok (mE R):=fun Y e he=>by rw [he];exact zero Y e
  refine aG parts (step:=gB) (fin:=kC) (fun i st vs Y=>vs=[x7,.int .i64 (i:Int)]∧TB Y d st.1 st.2.1 pv (st.2.2++parts.drop i)∧st.2.2.length=i) (fun r=>r=R) ?_ ?_ (s:=(0,0,[])) ⟨rfl,by rw [List.drop_zero];exact t,rfl⟩ hRw.symm
  ·rintro i p ⟨n,x,done⟩ vs Y hi ⟨rfl,tY,hdl⟩ aF H
   have hil:=(List.getElem?_eq_some_iff.1 hi).1
   have hdl:done.length=i:=hdl
   have hcur:(done++parts.drop i)[i]?=some p:=by
    rw [List.getElem?_append_right (by omega),List.getElem?_drop,hdl,Nat.sub_self,Nat.add_zero];exact hi
   have hcl:((done++parts.drop i).length:Int)=(parts.length:Int):=by rw [List.length_append,List.length_drop];omega
   have hpm:=List.mem_of_getElem? hi
   have hnet:=pi.net p hpm
   have hbp:=pi.bp p hpm
   have ht3:=aP5 (bp:=p.bp) hnet
   obtain ⟨a,ver,e4,ha3,haY,hld,hset⟩:=tY.at hcur
   obtain ⟨Z,q1,nZ,tZ,kZ⟩:=hset (Y.next+18) 3 (.int .i64 (aU p.net p.bp).1) (by omega) rfl rfl (by decide) { p with tax:=(aU p.net p.bp).1 } rfl
   have hset2:(done++parts.drop i).set i { p with tax:=(aU p.net p.bp).1 }=(done++[{ p with tax:=(aU p.net p.bp).1 }])++parts.drop (i+1):=by
    rw [List.set_append,if_neg (by omega),hdl,Nat.sub_self,List.drop_eq_getElem_cons hil,List.set_cons_zero,List.append_assoc];rfl
   have hcur2:((done++parts.drop i).set i { p with tax:=(aU p.net p.bp).1 })[i]?=some { p with tax:=(aU p.net p.bp).1 }:=by
    rw [List.getElem?_set_self];rw [List.length_append,List.length_drop];omega
   obtain ⟨a2,ver2,e42,_,_,hld2,_⟩:=tZ.at hcur2
   rw [e4] at e42
   cases e42
   rw [hset2] at tZ
   have rY2:=tY.r2
   have rY1:=tY.r1
   have lY:=tY.len
   have rZ2:=tZ.r2
   have rZ1:=tZ.r1
   simp only [zt] at rY1 rZ1
   have r1s:∀ (m:Nat),aA ⟨m,Y.heap⟩ 1 0=aA Y 1 0:=fun m=>rfl
   simp only [gB] at H
   simp only [aC6,kk,gm,rY2,lY,hcl,bB hi,if_true,e4,hld,Nat.zero_add,Part.enc,bIb,ht3,cX,hJ (show i<1000000000 by omega)]
   by_cases d1:(aU p.net p.bp).2=0
   rotate_left
   ·have e7:=aQz hnet hbp.1 hbp.2 d1
    simp only [d1,not_false_eq_true,ne_eq,true_or,if_true] at H
    have H:(Total.zero,(7:Int))=R:=H
    simp only [e7,show ¬ (7:Int)=0 by decide,not_false_eq_true,if_true,kk,rY1,gm]
    exact hout _ _ H.symm
   simp only [d1,not_true_eq_false,if_false,rY2,kk,gm,e4,Nat.zero_add,q1,rZ2,hld2,aUo,cX,Part.enc]
   by_cases d2:(cF n p.net).2=0
   rotate_left
   ·have e7:=aP8 d2
    simp only [d1,d2,not_true_eq_false,not_false_eq_true,ne_eq,true_or,or_true,false_or,if_true] at H
    have H:(Total.zero,(7:Int))=R:=H
    simp only [e7,show ¬ (7:Int)=0 by decide,not_false_eq_true,if_true,kk,rZ1,gm,cN]
    exact hout _ _ H.symm
   simp only [d2,not_true_eq_false,if_false,kk,gm,cN]
   by_cases d3:(cF x (aU p.net p.bp).1).2=0
   rotate_left
   ·have e7:=aP8 d3
    simp only [d1,d2,d3,not_true_eq_false,not_false_eq_true,ne_eq,or_true,false_or,if_true] at H
    have H:(Total.zero,(7:Int))=R:=H
    simp only [e7,show ¬ (7:Int)=0 by decide,not_false_eq_true,if_true,kk,rZ1,gm,cN]
    exact hout _ _ H.symm
   simp only [d1,d2,d3,ne_eq,not_true_eq_false,or_self,if_false] at H
   simp only [d3,not_true_eq_false,if_false,kk,gm,cN]
   exact H _ _ ⟨rfl,tZ.upd (by omega) _ _ _,by simp [hdl]⟩
  ·rintro ⟨n,x,done⟩ vs Y ⟨rfl,tY,hdl⟩ aF H
   have hdl:done.length=parts.length:=hdl
   rw [List.drop_length,List.append_nil] at tY
   have rY2:=tY.r2
   have rY1:=tY.r1
   have lY:=tY.len
   simp only [zt] at rY1
   simp only [kC] at H
   simp only [aC6,kk,gm,rY2,lY,hdl,Int.lt_irrefl,if_false,aUo,cX]
   by_cases d1:(cF n x).2=0
   ·simp only [d1,ne_eq,not_true_eq_false,if_false] at H ⊢
    have H:(⟨n,x,(cF n x).1,done⟩,(0:Int))=R:=H
    have of:=tY.out (Z:=⟨Y.next,(Y.heap.put 2 (.row 0 4 [[.int .i64 n,.int .i64 x,.int .i64 (cF n x).1,pv]])).put 1 (.row 0 4 [[.int .i64 n,.int .i64 x,.int .i64 (cF n x).1,pv]])⟩) (Nat.le_refl _) fun y hy=>by
     show ((Y.heap.put 2 _).put 1 _).get y=_
     rw [Tr.get_put_neB _ _ _ _ trivial (by omega),Tr.get_put_neB _ _ _ _ trivial (by omega)]
    obtain ⟨o1,o2⟩:=tY.one
    simp only [kk,gm,cN,rY2,rY1,o1,o2,Nat.zero_add]
    simp only [oo,of,←H,mE]
   ·simp only [d1,ne_eq,not_false_eq_true,if_true] at H
    have H:(Total.zero,(cF n x).2)=R:=H
    simp only [d1,not_false_eq_true,if_true,kk,rY1,gm,cN]
    exact hout _ _ H.symm
 have hS1:S0=⟨1+1+1,((Tr.nil.put 0 (.row 0 (1+1+1) [[.int .i64 d.y,.int .i64 d.m,.int .i64 d.d]])).put 1 (.row 0 4 [[.int .i64 0,.int .i64 0,.int .i64 0,.nils]])).put (1+1) (.row 0 4 [[.int .i64 0,.int .i64 0,.int .i64 0,.nils]])⟩:=hS0
 rw [←hS1]
 have hout:∀ (Y:St) (e:Int),R=(Total.zero,e)→dS Y (.tup [.agg [.int .i64 0,.int .i64 0,.int .i64 0,.nils],.int .i64 e])=.ok (mE R):=fun Y e he=>by rw [he];exact zero Y e
 refine aG lines (step:=hN tab d) (fin:=eV) (fun i parts vs X=>vs=[.int .i64 0,.int .i64 (i:Int)]∧∃ pv,TB X d 0 0 pv parts∧PInv parts∧parts.length≤i) (fun r=>r=R) ?_ ?_ (s:=[]) ⟨rfl,.nils,t0,PInv.nil,Nat.le_refl _⟩ hR.symm
 ·rintro i l parts vs X hi ⟨rfl,pv,tX,pi,hpl⟩ aF H
  have hil:=(List.getElem?_eq_some_iff.1 hi).1
  obtain ⟨l64a,l64b⟩:=hp64 l (List.mem_of_getElem? hi)
  have h3X:=tX.n3
  obtain ⟨B,hB⟩:∃ B:St,B=⟨X.next+1,(X.heap.put X.next (.row 0 4 [[.str [],.str [],.int .i64 0,.int .i64 0]])).put X.next (.row 0 4 [l.enc])⟩:=⟨_,rfl⟩
  have wB:WF B:=by rw [hB];exact eB (n:=X.next+1) (eB (n:=X.next) tX.wf (by omega) (Nat.le_succ _)) (by omega) (Nat.le_refl _)
  have nB:B.next=X.next+1:=by rw [hB]
  have tB:TB B d 0 0 pv parts:=tX.same (by omega) wB fun y hy=>by
   rw [hB]
   show ((X.heap.put X.next _).put X.next _).get y=_
   rw [Tr.get_put_neB _ _ _ _ trivial (by omega),Tr.get_put_neB _ _ _ _ trivial (by omega)]
  have rL:aA B X.next 0=.ok (4,[l.enc]):=by rw [hB];exact aC _ _ _ _ _ _
  have rB0:=tB.r0
  have rB1:=tB.r1
  have rB2:=tB.r2
  simp only [zt] at rB1
  simp only [Date.enc] at rB0
  simp only [Line.enc] at hB rL
  simp only [hN,gO] at H
  simp only [aHn,kk,bB hi,if_true,aUn hi,Line.enc,←hB,rL,hJ (show i<1000000000 by omega)]
  by_cases d1:64<l.text.length
  ·simp only [d1,ne_eq,show ¬ (2:Int)=0 by decide,not_false_eq_true,if_true] at H
   have H:(Total.zero,(2:Int))=R:=H
   simp only [show (64:Int)<(l.text.length:Int) by omega,if_true,kk,rB1]
   exact hout _ _ H.symm
  simp only [d1,if_false,show ¬ (64:Int)<(l.text.length:Int) by omega,kk,rL,aQi] at H ⊢
  cases d2:dT l.cat
  ·simp only [d2,ne_eq,show ¬ (8:Int)=0 by decide,not_false_eq_true,if_true] at H
   have H:(Total.zero,(8:Int))=R:=H
   simp only [d2,Bool.not_false,if_true,kk,rB1]
   exact hout _ _ H.symm
  simp only [d2,Bool.true_eq_false,if_false,Bool.not_true,Bool.false_eq_true,kk,rL] at H ⊢
  by_cases d3:l.count<1∨1048576<l.count
  ·simp only [d3,ne_eq,Int.one_ne_zero,not_false_eq_true,if_true] at H
   have H:(Total.zero,(1:Int))=R:=H
   have hj:∀ K',K'=(fun v0 S0=>dS S0 v0=Except.ok (mE R))→zC C K' aF (.imm (tab.map Rate.enc)) (.imm (lines.map Line.enc)) (.ptr 0 0 0 0) (.ptr 1 0 0 0) (.int .i64 0) (.ptr (1+1) 0 0 0) (.int .i64 (i:Int)) (.ptr X.next 0 0 0) (.bool true) B:=by
    rintro K' rfl
    simp only [zC,kk,if_true,rB1]
    exact hout _ _ H.symm
   by_cases d4:l.count<1
   ·simp only [d4,if_true];exact hj _ rfl
   ·simp only [d4,if_false,show (1048576:Int)<l.count by omega,decide_true];exact hj _ rfl
  simp only [d3,if_false] at H
  simp only [show ¬ l.count<1 by omega,show ¬ 1048576<l.count by omega,if_false,decide_false,zC,kk,Bool.false_eq_true,rL,rB0,bPe]
  cases d4:(eU tab l.cat d).2
  ·simp only [d4,if_true,ne_eq,show ¬ (10:Int)=0 by decide,not_false_eq_true] at H
   have H:(Total.zero,(10:Int))=R:=H
   simp only [d4,Bool.not_false,if_true,kk,rB1]
   exact hout _ _ H.symm
  have hbp:=aBe d4
  obtain ⟨bp,hbpe⟩:∃ bp,bp=(eU tab l.cat d).1:=⟨_,rfl⟩
  simp only [d4,Bool.true_eq_false,if_false,←hbpe] at H
  rw [←hbpe] at hbp
  simp only [d4,←hbpe,Bool.not_true,Bool.false_eq_true,if_false,kk,rL,bNv,aYb l64a l64b,cX]
  by_cases d5:(aHs l.count l.price).2=0
  rotate_left
  ·simp only [d5,ne_eq,not_false_eq_true,if_true] at H
   have H:(Total.zero,(aHs l.count l.price).2)=R:=H
   simp only [d5,not_false_eq_true,if_true,kk,rB1]
   exact hout _ _ H.symm
  obtain ⟨n,hn⟩:∃ n,n=(aHs l.count l.price).1:=⟨_,rfl⟩
  simp only [d5,ne_eq,not_true_eq_false,if_false,←hn] at H
  simp only [d5,not_true_eq_false,if_false,←hn]
  have hple:aM parts l.cat≤parts.length:=by
   unfold aM fE;rw [gW];have:=(List.takeWhile_prefix (fun b:Part=>fN b.cat l.cat) (l:=parts)).length_le;omega
  have hroom:(bM parts l.cat bp).length≤parts.length+1:=by
   unfold bM
   split
   ·rw [gU _ _ _ hple];exact Nat.le_refl _
   ·omega
  have hlt:aM parts l.cat<(bM parts l.cat bp).length:=by
   by_cases c:aM parts l.cat<parts.length
   ·unfold bM
    split
    ·rw [gU _ _ _ hple];omega
    ·exact c
   ·have hm:dX parts l.cat=true:=by unfold dX;rw [List.getElem?_eq_none (by omega)]
    unfold bM
    rw [if_pos hm,gU _ _ _ hple];omega
  obtain ⟨p,hp⟩:∃ p,(bM parts l.cat bp)[aM parts l.cat]?=some p:=⟨_,List.getElem?_eq_getElem hlt⟩
  have hput:tS parts l.cat bp n=((bM parts l.cat bp).set (aM parts l.cat) { p with net:=(cF p.net n).1 },(cF p.net n).2):=by unfold tS;rw [hp]
  have hpi:=(pi.put (cat:=l.cat) (bp:=bp) (n:=n) d2 hbp.1 hbp.2).1
  rw [hput] at H hpi
  simp only at H
  have hj2:∀ (pv':V) (Y:St),TB Y d 0 0 pv' (bM parts l.cat bp)→aC5 C (fun v0 S0=>dS S0 v0=Except.ok (mE R)) aF (.imm (tab.map Rate.enc)) (.imm (lines.map Line.enc)) (.ptr 0 0 0 0) (.ptr 1 0 0 0) (.int .i64 0) (.ptr (1+1) 0 0 0) (.int .i64 (i:Int)) (.int .i64 n) (.int .i64 (aM parts l.cat:Int)) Y:=by
   intro pv' Y tY
   obtain ⟨a,ver,e4,ha3,haY,hld,hset⟩:=tY.at hp
   obtain ⟨Z,q1,nZ,tZ,kZ⟩:=hset (Y.next+18) 2 (.int .i64 (cF p.net n).1) (by omega) rfl rfl (by decide) { p with net:=(cF p.net n).1 } rfl
   have rY2:=tY.r2
   have rZ1:=tZ.r1
   simp only [zt] at rZ1
   simp only [aC5,kk,gm,rY2,e4,Nat.zero_add,hld,Part.enc,aUo,cX,q1,hJ (show i<1000000000 by omega)]
   by_cases d6:(cF p.net n).2=0
   ·simp only [d6,not_true_eq_false,if_false] at H ⊢
    exact H _ _ ⟨rfl,pv',tZ,hpi,by rw [List.length_set];omega⟩
   ·simp only [d6,not_false_eq_true,if_true] at H
    have H:(Total.zero,(cF p.net n).2)=R:=H
    simp only [d6,not_false_eq_true,if_true,kk,rZ1]
    exact hout _ _ H.symm
  have hj3:∀ Y:St,Y.heap=B.heap→B.next≤Y.next→yZ C (fun v0 S0=>dS S0 v0=Except.ok (mE R)) aF (.imm (tab.map Rate.enc)) (.imm (lines.map Line.enc)) (.ptr 0 0 0 0) (.ptr 1 0 0 0) (.int .i64 0) (.ptr (1+1) 0 0 0) (.int .i64 (i:Int)) (.ptr X.next 0 0 0) (.int .i64 bp) (.int .i64 n) (.int .i64 (aM parts l.cat:Int)) (.bool (dX parts l.cat)) Y:=by
   intro Y hh hn'
   have wY:WF Y:=fun b c hb=>by rw [hh] at hb;have:=wB b c hb;omega
   have tY:TB Y d 0 0 pv parts:=tB.same hn' wY fun y _=>by rw [hh]
   cases hm:dX parts l.cat
   ·have e:bM parts l.cat bp=parts:=by unfold bM;rw [hm];rfl
    simp only [yZ,kk,Bool.false_eq_true,if_false]
    exact hj2 pv Y (by rw [e];exact tY)
   ·have e:bM parts l.cat bp=cY parts (aM parts l.cat) ⟨l.cat,bp,0,0⟩:=by unfold bM;rw [hm];rfl
    obtain ⟨s,v1,v2,hs3,hsX,cut1,cut2,hel⟩:=tY.cut hple
    obtain ⟨Z,hZ⟩:∃ Z:St,Z=⟨Y.next+19,Y.heap.put Y.next (.row 0 4 [])⟩:=⟨_,rfl⟩
    have wZ:WF Z:=by rw [hZ];exact eB (n:=Y.next) wY (by omega) (by omega)
    have gZ:aA Z Y.next 0=.ok (4,[]):=by rw [hZ];exact aC _ _ _ _ _ _
    have nZ:Z.next=Y.next+19:=by rw [hZ]
    have kZ:∀ y,y≠Y.next→Z.heap.get y=Y.heap.get y:=fun y hy=>by rw [hZ];exact Tr.get_put_neB _ _ _ _ trivial hy
    obtain ⟨s',hs',hs'2,hs'3⟩:∃ s',s'≠Y.next∧s'≠Y.next+10∧∀ W:St,W.heap.get s'=Z.heap.get s'→aR W v1=.ok ((parts.take (aM parts l.cat)).map Part.enc)∧aR W v2=.ok ((parts.drop (aM parts l.cat)).map Part.enc):=by
     rcases hsX with h | ⟨hpv,h⟩
     ·exact ⟨s,by omega,by omega,fun W hW=>hel W (by rw [hW];exact kZ s (by omega))⟩
     ·rw [hpv] at cut1 cut2
      have hk0:aM parts l.cat=0:=by
       have:parts.length=0:=by rw [h];rfl
       omega
      rw [hk0] at cut1 cut2 ⊢
      rw [show ((0:Nat):Int)=0 from rfl,aP7.1] at cut1
      rw [show ((0:Nat):Int)=0 from rfl,aP7.2] at cut2
      cases cut1;cases cut2
      rw [h]
      exact ⟨0,by omega,by omega,fun W _=>⟨rfl,rfl⟩⟩
    obtain ⟨S1,S2,S3,z1,m1,z2,z3,n3,w3,g3,k1,k3,k2⟩:=bJo (b:=40) aFn parts ⟨l.cat,bp,0,0⟩ hple (S:=Z) (k1:=Y.next) (k2:=Y.next+10) (m:=Z.next) (s:=s') (v1:=v1) (v2:=v2) (by omega) hs' hs'2 hs'3 (by omega) (Nat.le_refl _) gZ wZ (by omega) (by omega) (by unfold dY;omega) (some (Y.next+5)) (some (Y.next+11)) (some (Y.next+16))
    have mm:∀ b,(⟨Z.next,S1.heap.put (Y.next+10) b⟩:St)=⟨S1.next,S1.heap.put (Y.next+10) b⟩:=fun b=>by rw [m1]
    rw [mm] at z2
    simp only [Part.enc] at z2
    have hlow:∀ y,y<Y.next→S1.heap.get y=Y.heap.get y:=fun y hy=>by rw [k1 y (by omega),kZ y (by omega)]
    have hlow2:∀ y,y<Y.next→S2.heap.get y=Y.heap.get y:=fun y hy=>by rw [k2 y (by omega) (by omega),kZ y (by omega)]
    have hlow3:∀ y,y<Y.next→S3.heap.get y=Y.heap.get y:=fun y hy=>by rw [k3 y (by omega) (by omega),kZ y (by omega)]
    have rL':aA Y X.next 0=aA B X.next 0:=by unfold aA;rw [hh]
    have a1:aA S1 2 0=aA Y 2 0:=by unfold aA;rw [hlow 2 (by omega)]
    have a2:aA S1 X.next 0=aA Y X.next 0:=by unfold aA;rw [hlow X.next (by omega)]
    have a3:aA S2 2 0=aA Y 2 0:=by unfold aA;rw [hlow2 2 (by omega)]
    have a4:aA S3 2 0=aA Y 2 0:=by unfold aA;rw [hlow3 2 (by omega)]
    have rY2:=tY.r2
    have hfin:=hj2 (.sl Y.next 3 4 0 (parts.length+1)) ⟨S3.next,S3.heap.put 2 (.row 0 4 [[.int .i64 0,.int .i64 0,.int .i64 0,.sl Y.next 3 4 0 (parts.length+1)]])⟩ (by
     refine ⟨eB (n:=S3.next) w3 (by omega) (Nat.le_refl _),aI tY.r0 ?_,aI tY.r1 ?_,aC _ _ _ _ _ _,by show 3≤S3.next;omega,.inr ⟨Y.next,3,?_,?_,by omega⟩⟩
     ·show (S3.heap.put 2 _).get 0=_
      rw [Tr.get_put_neB _ _ _ _ trivial (by decide),hlow3 0 (by omega)]
     ·show (S3.heap.put 2 _).get 1=_
      rw [Tr.get_put_neB _ _ _ _ trivial (by decide),hlow3 1 (by omega)]
     ·rw [e,gU _ _ _ hple]
     ·show (S3.heap.put 2 _).get Y.next=_
      rw [Tr.get_put_neB _ _ _ _ trivial (by omega),e];exact g3)
    obtain ⟨o1,o2⟩:=tY.one
    simp only [yZ,kk,if_true,gm,rY2,cut1,cut2,rL',rL,Nat.add_zero,Nat.zero_add,bs0,←hZ,z1,a1,a2,aQj,z2,a3,z3,a4]
    exact hfin
  have hj1:∀ Y:St,Y.heap=B.heap→B.next≤Y.next→zA C (fun v0 S0=>dS S0 v0=Except.ok (mE R)) aF (.imm (tab.map Rate.enc)) (.imm (lines.map Line.enc)) (.ptr 0 0 0 0) (.ptr 1 0 0 0) (.int .i64 0) (.ptr (1+1) 0 0 0) (.int .i64 (i:Int)) (.ptr X.next 0 0 0) (.int .i64 bp) (.int .i64 n) (.int .i64 (aM parts l.cat:Int)) Y:=by
   intro Y hh hn'
   have wY:WF Y:=fun b c hb=>by rw [hh] at hb;have:=wB b c hb;omega
   have tY:TB Y d 0 0 pv parts:=tB.same hn' wY fun y _=>by rw [hh]
   have h3:=hj3 ⟨Y.next+16,Y.heap⟩ hh (by show B.next≤Y.next+16;omega)
   have rL':∀ m,aA ⟨m,Y.heap⟩ X.next 0=aA B X.next 0:=fun m=>by unfold aA;rw [hh]
   have rY2:∀ m,aA ⟨m,Y.heap⟩ 2 0=_:=fun m=>tY.r2
   have lY:=tY.len
   by_cases c:aM parts l.cat<parts.length
   ·obtain ⟨r,hr⟩:∃ r,parts[aM parts l.cat]?=some r:=⟨_,List.getElem?_eq_getElem c⟩
    obtain ⟨a,ver,e4,ha3,haY,hld,hset⟩:=tY.at hr
    have hm:dX parts l.cat=!(r.cat == l.cat):=by unfold dX;rw [hr]
    rw [hm] at h3
    simp only [zA,kk,gm,rY2,lY,show ¬ ((aM parts l.cat:Nat):Int)=(parts.length:Int) by omega,if_false,e4,Nat.add_zero,hld,Part.enc,rL',rL]
    exact h3
   ·have e:aM parts l.cat=parts.length:=by omega
    have hm:dX parts l.cat=true:=by unfold dX;rw [List.getElem?_eq_none (by omega)]
    rw [hm] at h3
    simp only [zA,kk,gm,rY2,lY,show ((aM parts l.cat:Nat):Int)=(parts.length:Int) by omega,if_true]
    rw [show ((aM parts l.cat:Nat):Int)=(parts.length:Int) by omega] at h3
    exact h3
  refine aG parts (step:=dM (fun b:Part=>fN b.cat l.cat)) (fin:=id) (fun k n' vs Y=>n'=k∧vs=[.int .i64 (k:Int)]∧Y.heap=B.heap∧B.next≤Y.next) (fun n'=>n'=aM parts l.cat) ?_ ?_ (s:=0) ⟨rfl,rfl,rfl,Nat.le_refl _⟩ rfl
  ·rintro k b n' vs Y hk ⟨rfl,rfl,hh,hn'⟩ again' H'
   have wY:WF Y:=fun b c hb=>by rw [hh] at hb;have:=wB b c hb;omega
   have tY:TB Y d 0 0 pv parts:=tB.same hn' wY fun y _=>by rw [hh]
   obtain ⟨a,ver,e4,ha3,haY,hld,hset⟩:=tY.at hk
   have rY2:∀ m,aA ⟨m,Y.heap⟩ 2 0=_:=fun m=>tY.r2
   have rL':∀ m,aA ⟨m,Y.heap⟩ X.next 0=aA B X.next 0:=fun m=>by unfold aA;rw [hh]
   have lY:=tY.len
   simp only [dM] at H'
   simp only [aHm,kk,gm,rY2,lY,bB hk,if_true,e4,Nat.add_zero,hld,Part.enc,rL',rL,hJ (show n'<1000000000 by have:=(List.getElem?_eq_some_iff.1 hk).1;omega)]
   cases c:fN b.cat l.cat<;>simp only [c,kk,if_true,if_false,Bool.false_eq_true] at H' ⊢
   ·have H':n'=aM parts l.cat:=H'
    rw [H']
    exact hj1 _ hh (by show B.next≤Y.next+16;omega)
   ·exact H' _ _ ⟨rfl,hh,by show B.next≤Y.next+16;omega⟩
  ·rintro n' vs Y ⟨rfl,rfl,hh,hn'⟩ again' H'
   have H':parts.length=aM parts l.cat:=H'
   have wY:WF Y:=fun b c hb=>by rw [hh] at hb;have:=wB b c hb;omega
   have tY:TB Y d 0 0 pv parts:=tB.same hn' wY fun y _=>by rw [hh]
   have rY2:∀ m,aA ⟨m,Y.heap⟩ 2 0=_:=fun m=>tY.r2
   have lY:=tY.len
   simp only [aHm,kk,gm,rY2,lY,Int.lt_irrefl,if_false]
   have:=hj1 ⟨Y.next+16,Y.heap⟩ hh (by show B.next≤Y.next+16;omega)
   rw [←H'] at this
   exact this
 ·rintro parts vs X ⟨rfl,pv,tX,pi,hpl⟩ aF H
  have H:eV parts=R:=H
  simp only [aHn,kk,Int.lt_irrefl,if_false]
  exact hend X pv parts _ tX pi (by omega) H.symm
theorem zZ {a b:Int} (h:(bU a b).2≠0):(bU a b).2=7:=by
 unfold bU at h ⊢
 split at h
 ·rename_i c;rw [if_pos c]
 ·exact absurd rfl h
theorem bPp (x y:Int):gM [x,y]=if (bU 0 x).2≠0∨(bU 0 y).2≠0 then ([],7) else ([(bU 0 x).1,(bU 0 y).1],0):=by
 simp only [gM,aE,rR]
 by_cases c1:(bU 0 x).2=0
 ·by_cases c2:(bU 0 y).2=0
  ·simp [c1,c2,aE]
  ·simp [c1,c2,aE,zZ c2]
 ·simp [c1,aE,zZ c1]
theorem bPq (x y z:Int):gM [x,y,z]=if (bU 0 x).2≠0∨(bU 0 y).2≠0∨(bU 0 z).2≠0 then ([],7) else ([(bU 0 x).1,(bU 0 y).1,(bU 0 z).1],0):=by
 simp only [gM,aE,rR]
 by_cases c1:(bU 0 x).2=0
 ·by_cases c2:(bU 0 y).2=0
  ·by_cases c3:(bU 0 z).2=0
   ·simp [c1,c2,c3,aE]
   ·simp [c1,c2,c3,aE,zZ c3]
  ·simp [c1,c2,aE,zZ c2]
 ·simp [c1,aE,zZ c1]
set_option maxHeartbeats 2000000 in
theorem bJp (t:Total) (hf:t.parts.length≤1000) (S:St) (K:KW):C 197 [.agg [.int .i64 t.net,.int .i64 t.tax,.int .i64 t.gross,.imm (t.parts.map Part.enc)]] S K=K (mE (aV t)) S:=by
 refine (bLs rfl ?_).eq S K
 have zero:∀ (X:St) (e:Int),dS X (.tup [.agg [.int .i64 0,.int .i64 0,.int .i64 0,.nils],.int .i64 e])=.ok (mE (Total.zero,e)):=fun X e=>by
  simp only [oo,mE,Total.zero,List.map_nil]
 have hx:=bPq t.net t.tax t.gross
 delta Tryz.f197;simp only [↓cw,↓reduceIte,Nat.reduceLT,kk,gm,cN,bCu,cX]
 have bad:¬ ((bU 0 t.net).2=0∧(bU 0 t.tax).2=0∧(bU 0 t.gross).2=0)→aV t=(Total.zero,7):=fun h=>by
  unfold aV
  rw [hx]
  rw [if_pos (show (bU 0 t.net).2≠0∨(bU 0 t.tax).2≠0∨(bU 0 t.gross).2≠0 by by_cases a:(bU 0 t.net).2=0<;>by_cases b:(bU 0 t.tax).2=0<;>simp_all)]
  rfl
 by_cases c1:(bU 0 t.net).2=0
 rotate_left
 ·simp only [↓cw,↓reduceIte,Nat.reduceLT,c1,not_false_eq_true,if_true,kk,cN,zero,bad (fun h=>c1 h.1)]
 by_cases c2:(bU 0 t.tax).2=0
 rotate_left
 ·simp only [↓cw,↓reduceIte,Nat.reduceLT,c1,c2,not_true_eq_false,if_false,not_false_eq_true,if_true,kk,cN,zero,bad (fun h=>c2 h.2.1)]
 by_cases c3:(bU 0 t.gross).2=0
 rotate_left
 ·simp only [↓cw,↓reduceIte,Nat.reduceLT,c1,c2,c3,not_true_eq_false,if_false,not_false_eq_true,if_true,kk,cN,zero,bad (fun h=>c3 h.2.2),decide_false,Bool.not_false]
 have hx:gM [t.net,t.tax,t.gross]=([(bU 0 t.net).1,(bU 0 t.tax).1,(bU 0 t.gross).1],0):=by rw [hx,if_neg (by simp [c1,c2,c3])]
 obtain ⟨x,hx1⟩:∃ x,x=(bU 0 t.net).1:=⟨_,rfl⟩
 obtain ⟨y,hy1⟩:∃ y,y=(bU 0 t.tax).1:=⟨_,rfl⟩
 obtain ⟨z,hz1⟩:∃ z,z=(bU 0 t.gross).1:=⟨_,rfl⟩
 rw [←hx1,←hy1,←hz1] at hx
 obtain ⟨R,hR⟩:∃ R,R=aE dU (fun l=>(l,0)) t.parts []:=⟨_,rfl⟩
 have hb:aV t=if R.2≠0 then (Total.zero,R.2) else (⟨x,y,z,R.1⟩,0):=by
  unfold aV
  rw [hx,←hR]
  rfl
 rw [hb]
 obtain ⟨S0,hS0⟩:∃ S0:St,S0=⟨1+1+1,(((Tr.nil.put 0 (.row 0 (1+1+1+1) [[.int .i64 t.net,.int .i64 t.tax,.int .i64 t.gross,.imm (t.parts.map Part.enc)]])).put 1 (.row 0 4 [[.int .i64 0,.int .i64 0,.int .i64 0,.nils]])).put (1+1) (.row 0 4 [[.int .i64 0,.int .i64 0,.int .i64 0,.nils]])).put (1+1) (.row 0 4 [[.int .i64 x,.int .i64 y,.int .i64 z,.nils]])⟩:=⟨_,rfl⟩
 have w0:WF S0:=by rw [hS0];exact eB (n:=3) (eB (n:=2) (eB (n:=1) (eB lB (by decide) (by decide)) (by decide) (by decide)) (by decide) (by decide)) (by decide) (by decide)
 have n0:S0.next=3:=by rw [hS0]
 have r0:aA S0 0 0=.ok (4,[[.int .i64 t.net,.int .i64 t.tax,.int .i64 t.gross,.imm (t.parts.map Part.enc)]]):=by rw [hS0];rfl
 have r1:aA S0 1 0=.ok (4,[[.int .i64 0,.int .i64 0,.int .i64 0,.nils]]):=by rw [hS0];rfl
 have r2:aA S0 2 0=.ok (4,[[.int .i64 x,.int .i64 y,.int .i64 z,.nils]]):=by rw [hS0];rfl
 simp only [↓cw,↓reduceIte,Nat.reduceLT,c1,c2,c3,not_true_eq_false,if_false,decide_true,Bool.not_true,kk,Bool.false_eq_true,←hx1,←hy1,←hz1,←hS0]
 refine aG t.parts (step:=dU) (fin:=fun l=>(l,0)) (fun i acc vs X=>vs=[.int .i64 0,.int .i64 (i:Int)]∧∃ v,Own E0 X 4 v (acc.map Part.enc)∧WF X∧aA X 0 0=.ok (4,[[.int .i64 t.net,.int .i64 t.tax,.int .i64 t.gross,.imm (t.parts.map Part.enc)]])∧aA X 1 0=.ok (4,[[.int .i64 0,.int .i64 0,.int .i64 0,.nils]])∧aA X 2 0=.ok (4,[[.int .i64 x,.int .i64 y,.int .i64 z,v]])∧3≤X.next∧acc.length=i∧∀ k,k<3→AM.blkOf v≠some k) (fun r=>r=R) ?_ ?_ (s:=[]) ⟨rfl,.nils,⟨.inl ⟨rfl,rfl⟩,fun c h=>by cases h⟩,w0,r0,r1,r2,by omega,rfl,fun k _ h=>by cases h⟩ hR.symm
 ·rintro i p acc vs X hi ⟨rfl,v,own,w,r0,r1,r2,n3,hal,hv⟩ aF H
  have hil:=(List.getElem?_eq_some_iff.1 hi).1
  obtain ⟨B,hB⟩:∃ B:St,B=⟨X.next+1,(X.heap.put X.next (.row 0 4 [[.str [],.int .i64 0,.int .i64 0,.int .i64 0]])).put X.next (.row 0 4 [p.enc])⟩:=⟨_,rfl⟩
  have wB:WF B:=by rw [hB];exact eB (n:=X.next+1) (eB (n:=X.next) w (by omega) (Nat.le_succ _)) (by omega) (Nat.le_refl _)
  have nB:B.next=X.next+1:=by rw [hB]
  have kB:∀ y,y<X.next→B.heap.get y=X.heap.get y:=fun y hy=>by
   rw [hB]
   show ((X.heap.put X.next _).put X.next _).get y=_
   rw [Tr.get_put_neB _ _ _ _ trivial (by omega),Tr.get_put_neB _ _ _ _ trivial (by omega)]
  have oB:Own E0 B 4 v (acc.map Part.enc):=own.same (by omega) fun a ha=>kB a (fY own ha).2
  have b1:=aI r1 (kB 1 (by omega))
  have b2:=aI r2 (kB 2 (by omega))
  have rP:aA B X.next 0=.ok (4,[p.enc]):=by rw [hB];exact aC _ _ _ _ _ _
  simp only [Part.enc] at hB rP
  have ho2:=bPp p.net p.tax
  simp only [dU] at H
  simp only [↓cw,↓reduceIte,Nat.reduceLT,kk,gm,r0,bB hi,if_true,jE hi,Part.enc,←hB,rP,bCu,cX,hJ (show i<1000000000 by omega)]
  have bad:¬ ((bU 0 p.net).2=0∧(bU 0 p.tax).2=0)→R=([],7):=fun h=>by
   have:gM [p.net,p.tax]=([],7):=by rw [ho2,if_pos (by by_cases a:(bU 0 p.net).2=0<;>simp_all)]
   rw [this,if_pos (by decide)] at H
   exact H.symm
  by_cases d1:(bU 0 p.net).2=0
  rotate_left
  ·simp only [↓cw,↓reduceIte,Nat.reduceLT,d1,not_false_eq_true,if_true,kk,b1,bad (fun h=>d1 h.1)]
   exact zero _ _
  by_cases d2:(bU 0 p.tax).2=0
  rotate_left
  ·simp only [↓cw,↓reduceIte,Nat.reduceLT,d1,d2,not_true_eq_false,if_false,decide_false,Bool.not_false,kk,if_true,b1,bad (fun h=>d2 h.2)]
   exact zero _ _
  have ho2:gM [p.net,p.tax]=([(bU 0 p.net).1,(bU 0 p.tax).1],0):=by rw [ho2,if_neg (by simp [d1,d2])]
  rw [ho2,if_neg (show ¬ (0:Int)≠0 by decide)] at H
  obtain ⟨v',Z,q1,oZ,wZ,nZ,vZ,kZ⟩:=bJh (b:=40) oB wB (c:=Part.enc { p with net:=(bU 0 p.net).1,tax:=(bU 0 p.tax).1 }) (aFn _) (by rw [List.length_map];omega) (by rw [List.length_map];unfold dY;omega)
  simp only [Part.enc] at q1
  have z0:=aI r0 ((kZ 0 (by omega) (hv 0 (by decide))).trans (kB 0 (by omega)))
  have z1:=aI r1 ((kZ 1 (by omega) (hv 1 (by decide))).trans (kB 1 (by omega)))
  have z2:=aI r2 ((kZ 2 (by omega) (hv 2 (by decide))).trans (kB 2 (by omega)))
  have vn:∀ k,k<3→AM.blkOf v'≠some k:=fun k hk e=>by
   rcases vZ with q | q
   ·exact hv k hk (q▸e)
   ·rw [q] at e;cases e;omega
  simp only [↓cw,↓reduceIte,Nat.reduceLT,d1,d2,not_true_eq_false,if_false,decide_true,Bool.not_true,kk,Bool.false_eq_true,gm,b2,rP,aQj,q1,z2,oZ.one,oZ.cells,hJ (show i<1000000000 by omega)]
  refine H _ _ ⟨rfl,v',?_,eB (n:=Z.next) wZ (show 2<Z.next by omega) (Nat.le_refl _),aD (n:=Z.next) (by decide) z0,aD (n:=Z.next) (by decide) z1,aC _ _ _ _ _ _,by show 3≤Z.next;omega,by simp [hal],vn⟩
  rw [List.map_append]
  exact oZ.same (S':=⟨Z.next,Z.heap.put 2 (.row 0 4 [[.int .i64 x,.int .i64 y,.int .i64 z,v']])⟩) (Nat.le_refl _) fun a ha=>Tr.get_put_neB _ _ _ _ trivial fun e=>vn 2 (by decide) (by rw [←e];exact ha)
 ·rintro acc vs X ⟨rfl,v,own,w,r0,r1,r2,n3,hal,hv⟩ aF H
  have H:(acc,(0:Int))=R:=H
  have of:=(own.same (S':=⟨X.next,X.heap.put 1 (.row 0 4 [[.int .i64 x,.int .i64 y,.int .i64 z,v]])⟩) (Nat.le_refl _) fun a ha=>Tr.get_put_neB _ _ _ _ trivial fun e=>hv 1 (by decide) (by rw [←e];exact ha)).out fun _=>rfl
  simp only [↓cw,↓reduceIte,Nat.reduceLT,kk,gm,r0,r1,r2,Int.lt_irrefl,if_false,←H,own.one,own.cells]
  simp only [oo,mE,of,ne_eq,not_true_eq_false,if_false]
end Go.Proofs.YtoaibmbldmckaaaGreat
end
section
namespace Go.AM
theorem bPr {P:Program} {pl:kQ} {f:FuncId} {args:List V} {v:V} (h:∀ (S:St) (K:KW),W P pl f args S K=K v S):Fn P pl f args v:=fun S=>by
 have h2:W P pl f args S (fun v' S'=>v'=v∧S'=S):=by rw [h];exact ⟨rfl,rfl⟩
 obtain ⟨v',S',e,rfl,rfl⟩:=h2
 exact e
end Go.AM
namespace Go.Proofs.YtoaibmbldmckaaaGreat
open Go.AM Tryz
set_option linter.unusedVariables false
set_option linter.unusedSimpArgs false
set_option maxRecDepth 100000
theorem bPs {l:List Sess} {S:St} {v:V} (own:Own E0 S 5 v (l.map Sess.enc)) (id:Int) (hb:l.length<1000000) (K:KW):C 185 [v,.int .i64 id] S K=K (.int .i64 (cE l id)) S:=
 Fn.frz (bPr (bD9 l id hb)) bDy rfl (by have:=own.out fun _=>rfl;simp only [frzVs,this,dD]) (by simp only [ptrsVs,own.ptrs,sH,List.append_nil]) (.inl rfl) K
theorem aK6 {l:List Sess} {id seq:Int} {r:Rep} {i:Nat} {x:Sess} (e:cE l id=(i:Int)) (hi:l[i]?=some x):zY l id seq r=l.set i ⟨x.id,seq,r⟩:=by
 unfold zY
 rw [e,if_neg (by omega),Int.toNat_natCast,hi]
theorem bPt (l:List Sess) (hb:l.length<1000000) (id seq:Int) (r:Rep) (S:St) (K:KW):C 111 [.imm (l.map Sess.enc),.int .i64 id,.int .i64 seq,.agg [.int .i64 r.why,.int .i64 r.number,.int .i64 r.gross]] S K=K (.imm ((zY l id seq r).map Sess.enc)) S:=by
 refine (bKg rfl ?_).eq S K
 have w0:WF (⟨0+1,Tr.nil.put 0 (.row 0 (2+1) [[.int .i64 r.why,.int .i64 r.number,.int .i64 r.gross]])⟩:St):=eB lB (by decide) (by decide)
 obtain ⟨v,Y,q1,own,w,n1,k1,bv⟩:=aK5 (b:=40) oS l w0 (by omega) (by unfold dY;omega)
 have r0:aA Y 0 0=.ok (3,[[.int .i64 r.why,.int .i64 r.number,.int .i64 r.gross]]):=by unfold aA;rw [k1 0 (show (0:Nat)≠0+1 by decide)];rfl
 delta Tryz.f111;simp only [↓cw,↓reduceIte,Nat.reduceLT,kk,bs0,q1,bPs own id hb]
 by_cases c:cE l id<0
 ·have e:zY l id seq r=l:=by unfold zY;rw [if_pos c]
  have of:=own.out fun _=>rfl
  simp only [show ¬ 0≤cE l id by omega,if_false,e,oo,of]
 obtain ⟨i,s,e,hi⟩:=sF c
 rw [aK6 e hi]
 obtain ⟨a,ver,hv,_,_,e4,hat,set1⟩:=(own.bump 12).setK (wW (w.bump 12)) lB (i:=i) (cs:=s.enc) (by simp [hi]) .i64
 obtain ⟨S2,st1,x2,n2,own2,keep2,w2⟩:=set1 1 1 (.int .i64 seq) rfl rfl (by decide)
 have hi2:((l.map Sess.enc).set i (splice s.enc 1 [.int .i64 seq]))[i]?=some (splice s.enc 1 [.int .i64 seq]):=by
  rw [List.getElem?_set_self (by rw [List.length_map];exact (List.getElem?_eq_some_iff.1 hi).1)]
 obtain ⟨a2,ver2,hv2,_,_,e42,hat2,set2⟩:=own2.setK x2 lB hi2 .i64
 obtain ⟨S3,nX,x3,n3,own3,keep3,w3⟩:=set2 2 3 (.agg [.int .i64 r.why,.int .i64 r.number,.int .i64 r.gross]) rfl rfl (by decide)
 rw [e4] at e42
 cases e42
 have hfin:((l.map Sess.enc).set i (splice s.enc 1 [.int .i64 seq])).set i (splice (splice s.enc 1 [.int .i64 seq]) 2 [.int .i64 r.why,.int .i64 r.number,.int .i64 r.gross])=(l.set i ⟨s.id,seq,r⟩).map Sess.enc:=by rw [List.set_set,List.map_set];rfl
 simp only [V.cells] at own3
 rw [hfin] at own3
 have of:=own3.frz (cV (fun _=>rfl) _)
 have ha:a=0+1:=by rw [hv] at bv;exact Option.some.inj bv
 have g2:aA S2 0 0=aA Y 0 0:=by unfold aA;rw [keep2 0 (by omega)]
 simp only [↓cw,↓reduceIte,Nat.reduceLT,c,e,show (0:Int)≤(i:Int) by omega,if_true,gm,r0,g2,kk,e4,st1,nX,oo,of]
end Go.Proofs.YtoaibmbldmckaaaGreat
end
section
namespace Go.Proofs.YtoaibmbldmckaaaGreat
open Go.AM Tryz
def pZ (r:Ref) (n:Nat) (q:Posted):Bool⊕Nat:=.inr (n+if q.of=r then 1 else 0)
theorem aVn (r:Ref) (fin:Nat→Bool):∀ (l:List Posted) (n:Nat),aE (pZ r) fin l n=fin (n+kL l r)
 | [],n=>rfl
 | q::l,n=>by
  simp only [aE,pZ]
  rw [aVn r fin l,uC,Nat.add_assoc]
def aA0 (p:Posted) (u:Unit) (q:Posted):Bool⊕Unit:=if q.ref=p.of then .inl (aG3 q p) else .inr ()
theorem aG8 (p:Posted):∀ (l:List Posted) (u:Unit),aE (aA0 p) (fun _=>false) l u=oW p l
 | [],u=>rfl
 | q::l,u=>by
  simp only [aE,aA0,oW]
  by_cases c:q.ref=p.of
  ·rw [if_pos c,if_pos c]
  ·rw [if_neg c,if_neg c];exact aG8 p l ()
def aCf (l:List Posted) (i:Nat) (p:Posted) (n:Nat):Bool:=
 if 1<n then false else if p.back≠decide (n=1) then false else if p.of=Ref.zero then true else if p.back=true then false else oW p (l.take i)
theorem aR0 (l:List Posted) (i:Nat) (p:Posted):pY l i p=aE (pZ p.ref) (aCf l i p) (l.drop (i+1)) 0:=by
 rw [aVn,Nat.zero_add];rfl
set_option maxHeartbeats 2000000 in
theorem bPu (l:List Posted) (hb:l.length<1000000) (hq:∀ q∈l,q.total.parts.length≤1000) {i:Nat} {p:Posted} (hi:l[i]?=some p) (S:St) (K:KW):C 120 [.imm (l.map Posted.enc),.int .i64 (i:Int)] S K=K (.bool (pY l i p)) S:=by
 refine (bKo rfl ?_).eq S K
 have hil:=(List.getElem?_eq_some_iff.1 hi).1
 have hpb:=hq p (List.mem_of_getElem? hi)
 have ei:l.drop (i+1)=l.drop (i+1):=rfl
 delta Tryz.f120;simp only [↓cw,↓reduceIte,Nat.reduceLT,kk,kJ hi,Posted.enc,hJ (show i<1000000000 by omega)]
 obtain ⟨S0,hS0⟩:∃ S0:St,S0=⟨0+1,(Tr.nil.put 0 (.row 0 12 [aBo])).put 0 (.row 0 12 [p.enc])⟩:=⟨_,rfl⟩
 have r0:aA S0 0 0=.ok (12,[p.enc]):=by rw [hS0];rfl
 have n0:1≤S0.next:=by rw [hS0];exact Nat.le_refl _
 simp only [aBo,Posted.enc] at hS0
 simp only [←hS0]
 refine aG (l.drop (i+1)) (step:=pZ p.ref) (fin:=aCf l i p) (fun k n vs X=>vs=[.int .i64 (n:Int),.int .i64 ((i+1+k:Nat):Int)]∧n≤k∧aA X 0 0=.ok (12,[p.enc])∧1≤X.next) (fun r=>r=pY l i p) ?_ ?_ (s:=0) ⟨rfl,Nat.le_refl _,r0,n0⟩ (aR0 l i p).symm
 ·rintro k q n vs X hk ⟨rfl,hn,r0,n1⟩ aF H
  rw [List.getElem?_drop] at hk
  have hkl:=(List.getElem?_eq_some_iff.1 hk).1
  simp only [pZ] at H
  simp only [Posted.enc] at r0
  simp only [↓cw,↓reduceIte,Nat.reduceLT,kk,gm,bB hk,if_true,kJ hk,Posted.enc,r0,hJ (show i+1+k<1000000000 by omega),hJ (show n<1000000000 by omega)]
  by_cases c:q.of=p.ref
  ·have c':(q.of.ser == p.ref.ser&&decide (q.of.num=p.ref.num))=true:=by rw [c];simp
   simp only [c,if_true] at H
   simp only [c',if_true]
   exact H _ _ ⟨rfl,by omega,r0,by show 1≤X.next+8;omega⟩
  ·have c':¬ (q.of.ser == p.ref.ser&&decide (q.of.num=p.ref.num))=true:=by rw [Ref.ext_iff] at c;simpa using c
   simp only [c,if_false,Nat.add_zero] at H
   simp only [c',if_false]
   exact H _ _ ⟨rfl,by omega,r0,by show 1≤X.next+8;omega⟩
 ·rintro n vs X ⟨rfl,hn,r0,n1⟩ aF H
  have H:aCf l i p n=pY l i p:=H
  have hge:¬ ((i+1+(l.drop (i+1)).length:Nat):Int)<(l.length:Int):=by rw [List.length_drop];omega
  simp only [Posted.enc] at r0
  rw [←H]
  simp only [↓cw,↓reduceIte,Nat.reduceLT,aCf,kk,hge,if_false,r0,aAg,gm]
  by_cases c1:1<n
  ·simp only [c1,show (1:Int)<(n:Int) by omega,if_true,oo]
  simp only [c1,show ¬ (1:Int)<(n:Int) by omega,if_false]
  have e1:decide ((n:Int)=1)=decide (n=1):=by rw [Bool.eq_iff_iff];simp;omega
  rw [e1]
  by_cases c2:p.back=decide (n=1)
  rotate_left
  ·have c2':(p.back == decide (n=1))=false:=by simpa using c2
   simp only [c2,c2',ne_eq,not_false_eq_true,if_true,Bool.not_false,oo]
  have c2':(p.back == decide (n=1))=true:=by simpa using c2
  rw [if_neg (show ¬ p.back≠decide (n=1) from fun h=>h c2)]
  simp only [c2',Bool.not_true,Bool.false_eq_true,if_false]
  by_cases c3:p.of=Ref.zero
  ·have c3':(p.of.ser == []&&decide (p.of.num=0))=true:=by rw [c3];rfl
   rw [if_pos c3,if_pos c3']
  have c3':¬ (p.of.ser == []&&decide (p.of.num=0))=true:=by rw [Ref.ext_iff] at c3;simpa [Ref.zero] using c3
  simp only [↓cw,↓reduceIte,Nat.reduceLT,c3,c3',if_false,kk]
  cases c4:p.back
  rotate_left
  ·simp only [c4,if_true,oo]
  simp only [c4,Bool.false_eq_true,if_false]
  have lt:(l.take i).length=i:=by rw [List.length_take];omega
  refine aG (l.take i) (step:=aA0 p) (fin:=fun _=>false) (fun k u vs X=>vs=[.bool false,.int .i64 (k:Int)]∧aA X 0 0=.ok (12,[p.enc])∧1≤X.next) (fun r=>r=oW p (l.take i)) ?_ ?_ (s:=()) ⟨rfl,r0,n1⟩ (aG8 p (l.take i) ())
  ·rintro k q u vs X hk ⟨rfl,r0,n1⟩ aF H
   have hki:=(List.getElem?_eq_some_iff.1 hk).1
   rw [lt] at hki
   rw [List.getElem?_take,if_pos hki] at hk
   have hqb:=hq q (List.mem_of_getElem? hk)
   have hbl:=uW q.total
   simp only [aA0] at H
   simp only [Posted.enc] at r0
   simp only [↓cw,↓reduceIte,Nat.reduceLT,kk,gm,show (k:Int)<(i:Int) by omega,if_true,kJ hk,Posted.enc,r0,hJ (show k<1000000000 by omega),bJp q.total hqb,mE]
   obtain ⟨T,hT⟩:∃ T,T=(aV q.total).1:=⟨_,rfl⟩
   simp only [aG3,←hT] at H
   rw [←hT] at hbl
   simp only [←hT]
   obtain ⟨B,hB⟩:∃ B:St,B=⟨X.next+8+1+49,(X.heap.put (X.next+8) (Blk.row 0 4 [[V.int IntKind.i64 0,V.int IntKind.i64 0,V.int IntKind.i64 0,V.nils]])).put (X.next+8) (Blk.row 0 4 [[V.int IntKind.i64 T.net,V.int IntKind.i64 T.tax,V.int IntKind.i64 T.gross,V.imm (List.map Part.enc T.parts)]])⟩:=⟨_,rfl⟩
   have b0:∀ m,aA ⟨m,B.heap⟩ 0 0=.ok (12,[p.enc]):=fun m=>by rw [hB];exact aD (n:=X.next) (by omega) (aD (n:=X.next) (by omega) r0)
   have b8:∀ m,aA ⟨m,B.heap⟩ (X.next+8) 0=.ok (4,[[V.int IntKind.i64 T.net,V.int IntKind.i64 T.tax,V.int IntKind.i64 T.gross,V.imm (List.map Part.enc T.parts)]]):=fun m=>by rw [hB];exact aC _ _ _ _ _ _
   have bn:X.next+58=B.next:=by rw [hB]
   have b0':=b0 (X.next+8+1)
   have b1:=b0 B.next
   have b8':=b8 B.next
   simp only [Posted.enc] at b0 b0' b1
   have hh:B.heap=(X.heap.put (X.next+8) (Blk.row 0 4 [[V.int IntKind.i64 0,V.int IntKind.i64 0,V.int IntKind.i64 0,V.nils]])).put (X.next+8) (Blk.row 0 4 [[V.int IntKind.i64 T.net,V.int IntKind.i64 T.tax,V.int IntKind.i64 T.gross,V.imm (List.map Part.enc T.parts)]]):=by rw [hB]
   have hBe:(⟨X.next+8+1+49,B.heap⟩:St)=B:=by rw [hB]
   rw [←hh,hBe]
   by_cases d0:q.ref=p.of
   rotate_left
   ·have d0':(!(q.ref.ser == p.of.ser&&decide (q.ref.num=p.of.num)))=true:=by rw [Ref.ext_iff] at d0;simp;exact Decidable.not_and_iff_or_not.1 d0
    simp only [d0,if_false] at H
    simp only [d0',if_true]
    exact H _ _ ⟨rfl,r0,by show 1≤X.next+8;omega⟩
   have d0':¬ (!(q.ref.ser == p.of.ser&&decide (q.ref.num=p.of.num)))=true:=by rw [d0];simp
   rw [if_pos d0] at H
   rw [if_neg d0']
   by_cases d1:(aV q.total).2=0
   rotate_left
   ·rw [if_pos d1] at H
    rw [if_pos d1,←H]
   rw [if_neg (fun h=>h d1)] at H
   rw [if_neg (fun h=>h d1)]
   by_cases d2:q.of=Ref.zero
   rotate_left
   ·have d2':(!(q.of.ser == []&&decide (q.of.num=0)))=true:=by rw [Ref.ext_iff] at d2;simp;exact Decidable.not_and_iff_or_not.1 d2
    rw [if_pos d2] at H
    rw [if_pos d2',←H]
   have d2':¬ (!(q.of.ser == []&&decide (q.of.num=0)))=true:=by rw [d2];decide
   rw [if_neg (fun h=>h d2)] at H
   rw [if_neg d2']
   simp only [↓cw,↓reduceIte,Nat.reduceLT,b0',kk,aXp]
   by_cases d3:p.day.days<q.day.days
   ·rw [if_pos d3] at H
    rw [if_pos d3,←H]
   rw [if_neg d3] at H
   rw [if_neg d3]
   simp only [↓cw,↓reduceIte,Nat.reduceLT,b1,b8',kk]
   by_cases d4:T.net=p.total.net
   rotate_left
   ·rw [decide_eq_false d4,Bool.false_and] at H
    rw [if_pos d4,←H]
   rw [if_neg (fun h=>h d4)]
   by_cases d5:T.tax=p.total.tax
   rotate_left
   ·rw [decide_eq_false d5,Bool.false_and,Bool.and_false] at H
    rw [if_pos d5,←H]
   rw [if_neg (fun h=>h d5)]
   rw [decide_eq_true d4,decide_eq_true d5,Bool.true_and,Bool.true_and] at H
   by_cases d6:T.parts.length=p.total.parts.length
   rotate_left
   ·have:¬ T.parts=p.total.parts:=fun h=>d6 (by rw [h])
    rw [decide_eq_false this] at H
    rw [if_pos (show ¬ ((T.parts.length:Nat):Int)=(p.total.parts.length:Int) by omega),←H]
   rw [if_neg (show ¬ ¬ ((T.parts.length:Nat):Int)=(p.total.parts.length:Int) by omega)]
   refine aG T.parts (step:=eE p.total.parts) (fin:=fun _=>true) (fun j n vs Y=>n=j∧vs=[.bool false,.int .i64 (j:Int)]∧Y.heap=B.heap) (fun r=>r=oW p (l.take i)) ?_ ?_ (s:=0) ⟨rfl,rfl,rfl⟩ (by rw [eqL d6];exact H)
   ·rintro j x n vs Y hj ⟨rfl,rfl,hY⟩ again' H'
    have hjl:=(List.getElem?_eq_some_iff.1 hj).1
    have hj2:p.total.parts[n]?=some p.total.parts[n]:=List.getElem?_eq_getElem (by omega)
    have y8:∀ m,aA ⟨m,Y.heap⟩ (X.next+8) 0=.ok (4,[[V.int IntKind.i64 T.net,V.int IntKind.i64 T.tax,V.int IntKind.i64 T.gross,V.imm (List.map Part.enc T.parts)]]):=fun m=>by rw [hY];exact b8 m
    have y0:∀ m,aA ⟨m,Y.heap⟩ 0 0=.ok (12,[p.enc]):=fun m=>by rw [hY];exact b0 m
    have y8':aA Y (X.next+8) 0=.ok (4,[[V.int IntKind.i64 T.net,V.int IntKind.i64 T.tax,V.int IntKind.i64 T.gross,V.imm (List.map Part.enc T.parts)]]):=y8 Y.next
    simp only [Posted.enc] at y0
    generalize hz:p.total.parts[n]=z at hj2
    have he:(z=x)=(x.cat=z.cat∧x.bp=z.bp∧x.net=z.net∧x.tax=z.tax):=by
     obtain ⟨_,_,_,_⟩:=x;obtain ⟨_,_,_,_⟩:=z;simp [and_assoc,eq_comm]
    simp only [eE,hj2,Option.some.injEq,he] at H'
    simp only [↓cw,↓reduceIte,Nat.reduceLT,kk,gm,y8,y0,y8',bB hj,if_true,jE hj,jE hj2,Part.enc,hJ (show n<1000000000 by omega)]
    by_cases c:x.cat=z.cat∧x.bp=z.bp∧x.net=z.net∧x.tax=z.tax
    ·have c':¬ (!(x.cat == z.cat&&decide (x.bp=z.bp)&&decide (x.net=z.net)&&decide (x.tax=z.tax)))=true:=by simp [c]
     rw [if_pos c] at H'
     rw [if_neg c']
     exact H' _ _ ⟨rfl,rfl,hY⟩
    ·have c':(!(x.cat == z.cat&&decide (x.bp=z.bp)&&decide (x.net=z.net)&&decide (x.tax=z.tax)))=true:=by
      rw [Bool.not_eq_true',Bool.eq_false_iff]
      intro h
      simp only [Bool.and_eq_true,decide_eq_true_eq,beq_iff_eq] at h
      exact c ⟨h.1.1.1,h.1.1.2,h.1.2,h.2⟩
     rw [if_neg c] at H'
     have H':false=oW p (l.take i):=H'
     rw [if_pos c',←H']
   ·rintro n vs Y ⟨rfl,rfl,hY⟩ again' H'
    have H':true=oW p (l.take i):=H'
    have y8:aA Y (X.next+8) 0=.ok (4,[[V.int IntKind.i64 T.net,V.int IntKind.i64 T.tax,V.int IntKind.i64 T.gross,V.imm (List.map Part.enc T.parts)]]):=by have:=b8 Y.next;rw [←hY] at this;exact this
    simp only [↓cw,↓reduceIte,Nat.reduceLT,kk,gm,y8,Int.lt_irrefl,if_false,oo,←H']
  ·rintro u vs X ⟨rfl,r0,n1⟩ aF H
   have H:false=oW p (l.take i):=H
   simp only [↓cw,↓reduceIte,Nat.reduceLT,kk,lt,Int.lt_irrefl,if_false,oo,←H]
end Go.Proofs.YtoaibmbldmckaaaGreat
end
