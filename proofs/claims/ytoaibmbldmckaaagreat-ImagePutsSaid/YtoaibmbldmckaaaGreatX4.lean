import Derived.Test.YtoaibmbldmckaaaGreatX3
set_option linter.unusedSimpArgs false
set_option linter.unusedVariables false
set_option linter.unusedSectionVars false
set_option maxRecDepth 100000
section
namespace Go.Proofs.YtoaibmbldmckaaaGreat
open Go.AM Tryz
theorem mN {P:Program} {n:Nat} {t:TypeId} {fs:Array Field} {xs:List V} (ht:P.underlying t=some (.struct fs)) (h:aN P n t xs):
  ∃ m,xs.length=P.cellsOf t∧∀ (i:Nat) (f:Field),fs[i]?=some f→aN P m f.type ((xs.drop f.offset).take (P.cellsOf f.type)):=by
 cases n with
 | zero=>cases h
 | succ m=>
  simp only [aN,ht] at h
  exact ⟨m,h.1,fun i f hf=>h.2 f (List.mem_of_getElem? (by rw [Array.getElem?_toList];exact hf))⟩
theorem aJx {P:Program} {n:Nat} {t e:TypeId} {xs:List V} (ht:P.underlying t=some (.slice e)) (h:aN P n t xs):
  ∃ m es,xs=[.imm es]∧∀ c,c∈es→c.length=P.cellsOf e∧aN P m e c:=by
 cases n with
 | zero=>cases h
 | succ m=>
  simp only [aN,ht] at h
  obtain ⟨es,h1,_,h2⟩:=h
  exact ⟨m,es,h1,h2⟩
theorem c3:prog.cellsOf 3=1:=by kernel_rfl
theorem c9:prog.cellsOf 9=1:=by kernel_rfl
theorem lO {n:Nat} {xs:List V} (h:aN prog n 3 xs):∃ i,xs=[.int .i64 i]:=by
 cases n with
 | zero=>cases h
 | succ m=>
  simp only [aN,Tryz.underlying3] at h
  obtain ⟨i,h,_⟩:=h
  exact ⟨i,h⟩
theorem aDa {n:Nat} {xs:List V} (h:aN prog n 9 xs):∃ s,xs=[.str s]:=by
 cases n with
 | zero=>cases h
 | succ m=>
  simp only [aN,Tryz.underlying9] at h
  obtain ⟨s,h,_⟩:=h
  exact ⟨s,h⟩
theorem cut (xs:List V) (o k:Nat):xs.drop o=(xs.drop o).take k++xs.drop (o+k):=by
 rw [←List.drop_drop,List.take_append_drop]
theorem aDb {α:Type} {enc:α→List V}:∀ {es:List (List V)},(∀ c,c∈es→∃ a:α,c=enc a)→∃ l:List α,es=l.map enc
 | [],_=>⟨[],rfl⟩
 | c::es,h=>by
  obtain ⟨a,ha⟩:=h c (List.mem_cons_self ..)
  obtain ⟨l,hl⟩:=aDb fun d hd=>h d (List.mem_cons_of_mem _ hd)
  exact ⟨a::l,by rw [ha,hl];rfl⟩
theorem c52:prog.cellsOf 52=3:=by kernel_rfl
theorem aOx {n:Nat} {xs:List V} (h:aN prog n 52 xs):∃ d:Date,xs=d.enc:=by
 obtain ⟨m,hl,hf⟩:=mN Tryz.underlying52 h
 rw [c52] at hl
 have h0:aN prog m 3 ((xs.drop 0).take (prog.cellsOf 3)):=hf 0 _ rfl
 rw [c3] at h0
 obtain ⟨x0,e0⟩:=lO h0
 have q0:=cut xs 0 1
 rw [e0] at q0
 have h1:aN prog m 3 ((xs.drop 1).take (prog.cellsOf 3)):=hf 1 _ rfl
 rw [c3] at h1
 obtain ⟨x1,e1⟩:=lO h1
 have q1:=cut xs 1 1
 rw [e1] at q1
 have h2:aN prog m 3 ((xs.drop 2).take (prog.cellsOf 3)):=hf 2 _ rfl
 rw [c3] at h2
 obtain ⟨x2,e2⟩:=lO h2
 have q2:=cut xs 2 1
 rw [e2] at q2
 have hend:xs.drop 3=[]:=List.drop_eq_nil_of_le (by omega)
 have hx:xs=[.int .i64 x0]++([.int .i64 x1]++([.int .i64 x2]++[])):=by
  have z:xs=xs.drop 0:=rfl
  rw [z,q0,q1,q2]
  show _=_
  rw [show (2+1:Nat)=3 from rfl,hend]
 rw [hx]
 exact ⟨⟨x0,x1,x2⟩,rfl⟩
theorem c57:prog.cellsOf 57=2:=by kernel_rfl
theorem bDt {n:Nat} {xs:List V} (h:aN prog n 57 xs):∃ d:Ref,xs=d.enc:=by
 obtain ⟨m,hl,hf⟩:=mN Tryz.underlying57 h
 rw [c57] at hl
 have h0:aN prog m 9 ((xs.drop 0).take (prog.cellsOf 9)):=hf 0 _ rfl
 rw [c9] at h0
 obtain ⟨x0,e0⟩:=aDa h0
 have q0:=cut xs 0 1
 rw [e0] at q0
 have h1:aN prog m 3 ((xs.drop 1).take (prog.cellsOf 3)):=hf 1 _ rfl
 rw [c3] at h1
 obtain ⟨x1,e1⟩:=lO h1
 have q1:=cut xs 1 1
 rw [e1] at q1
 have hend:xs.drop 2=[]:=List.drop_eq_nil_of_le (by omega)
 have hx:xs=[.str x0]++([.int .i64 x1]++[]):=by
  have z:xs=xs.drop 0:=rfl
  rw [z,q0,q1]
  show _=_
  rw [show (1+1:Nat)=2 from rfl,hend]
 rw [hx]
 exact ⟨⟨x0,x1⟩,rfl⟩
theorem c54:prog.cellsOf 54=5:=by kernel_rfl
theorem aY8 {n:Nat} {xs:List V} (h:aN prog n 54 xs):∃ d:Rate,xs=d.enc:=by
 obtain ⟨m,hl,hf⟩:=mN Tryz.underlying54 h
 rw [c54] at hl
 have h0:aN prog m 9 ((xs.drop 0).take (prog.cellsOf 9)):=hf 0 _ rfl
 rw [c9] at h0
 obtain ⟨x0,e0⟩:=aDa h0
 have q0:=cut xs 0 1
 rw [e0] at q0
 have h1:aN prog m 52 ((xs.drop 1).take (prog.cellsOf 52)):=hf 1 _ rfl
 rw [c52] at h1
 obtain ⟨x1,e1⟩:=aOx h1
 have q1:=cut xs 1 3
 rw [e1] at q1
 have h2:aN prog m 3 ((xs.drop 4).take (prog.cellsOf 3)):=hf 2 _ rfl
 rw [c3] at h2
 obtain ⟨x2,e2⟩:=lO h2
 have q2:=cut xs 4 1
 rw [e2] at q2
 have hend:xs.drop 5=[]:=List.drop_eq_nil_of_le (by omega)
 have hx:xs=[.str x0]++(x1.enc++([.int .i64 x2]++[])):=by
  have z:xs=xs.drop 0:=rfl
  rw [z,q0,q1,q2]
  show _=_
  rw [show (4+1:Nat)=5 from rfl,hend]
 rw [hx]
 exact ⟨⟨x0,x1,x2⟩,rfl⟩
theorem bPk:prog.cellsOf 201=4:=by kernel_rfl
theorem aY9 {n:Nat} {xs:List V} (h:aN prog n 201 xs):∃ d:Line,xs=d.enc:=by
 obtain ⟨m,hl,hf⟩:=mN Tryz.underlying201 h
 rw [bPk] at hl
 have h0:aN prog m 9 ((xs.drop 0).take (prog.cellsOf 9)):=hf 0 _ rfl
 rw [c9] at h0
 obtain ⟨x0,e0⟩:=aDa h0
 have q0:=cut xs 0 1
 rw [e0] at q0
 have h1:aN prog m 9 ((xs.drop 1).take (prog.cellsOf 9)):=hf 1 _ rfl
 rw [c9] at h1
 obtain ⟨x1,e1⟩:=aDa h1
 have q1:=cut xs 1 1
 rw [e1] at q1
 have h2:aN prog m 3 ((xs.drop 2).take (prog.cellsOf 3)):=hf 2 _ rfl
 rw [c3] at h2
 obtain ⟨x2,e2⟩:=lO h2
 have q2:=cut xs 2 1
 rw [e2] at q2
 have h3:aN prog m 3 ((xs.drop 3).take (prog.cellsOf 3)):=hf 3 _ rfl
 rw [c3] at h3
 obtain ⟨x3,e3⟩:=lO h3
 have q3:=cut xs 3 1
 rw [e3] at q3
 have hend:xs.drop 4=[]:=List.drop_eq_nil_of_le (by omega)
 have hx:xs=[.str x0]++([.str x1]++([.int .i64 x2]++([.int .i64 x3]++[]))):=by
  have z:xs=xs.drop 0:=rfl
  rw [z,q0,q1,q2,q3]
  show _=_
  rw [show (3+1:Nat)=4 from rfl,hend]
 rw [hx]
 exact ⟨⟨x0,x1,x2,x3⟩,rfl⟩
theorem c55:prog.cellsOf 55=1:=by kernel_rfl
theorem aV8 {n:Nat} {xs:List V} (h:aN prog n 55 xs):∃ l:List Line,xs=[.imm (l.map Line.enc)]:=by
 obtain ⟨m,es,h,hes⟩:=aJx Tryz.underlying55 h
 obtain ⟨l,hl⟩:=aDb (enc:=Line.enc) fun c hc=>aY9 (hes c hc).2
 exact ⟨l,by rw [h,hl]⟩
def Cmd.enc (c:Cmd):List V:=[.int .i64 c.kind,.str c.series,.int .i64 c.limit,.str c.row.cat,.int .i64 c.row.day.y,.int .i64 c.row.day.m,.int .i64 c.row.day.d,.int .i64 c.row.bp,.int .i64 c.day.y,.int .i64 c.day.m,.int .i64 c.day.d,.imm (c.lines.map Line.enc),.str c.of.ser,.int .i64 c.of.num,.int .i64 c.session]
theorem c59:prog.cellsOf 59=15:=by kernel_rfl
theorem bDu {n:Nat} {xs:List V} (h:aN prog n 59 xs):∃ c:Cmd,xs=c.enc:=by
 obtain ⟨m,hl,hf⟩:=mN Tryz.underlying59 h
 rw [c59] at hl
 have h0:aN prog m 3 ((xs.drop 0).take (prog.cellsOf 3)):=hf 0 _ rfl
 rw [c3] at h0
 obtain ⟨x0,e0⟩:=lO h0
 have q0:=cut xs 0 1
 rw [e0] at q0
 have h1:aN prog m 9 ((xs.drop 1).take (prog.cellsOf 9)):=hf 1 _ rfl
 rw [c9] at h1
 obtain ⟨x1,e1⟩:=aDa h1
 have q1:=cut xs 1 1
 rw [e1] at q1
 have h2:aN prog m 3 ((xs.drop 2).take (prog.cellsOf 3)):=hf 2 _ rfl
 rw [c3] at h2
 obtain ⟨x2,e2⟩:=lO h2
 have q2:=cut xs 2 1
 rw [e2] at q2
 have h3:aN prog m 54 ((xs.drop 3).take (prog.cellsOf 54)):=hf 3 _ rfl
 rw [c54] at h3
 obtain ⟨x3,e3⟩:=aY8 h3
 have q3:=cut xs 3 5
 rw [e3] at q3
 have h4:aN prog m 52 ((xs.drop 8).take (prog.cellsOf 52)):=hf 4 _ rfl
 rw [c52] at h4
 obtain ⟨x4,e4⟩:=aOx h4
 have q4:=cut xs 8 3
 rw [e4] at q4
 have h5:aN prog m 55 ((xs.drop 11).take (prog.cellsOf 55)):=hf 5 _ rfl
 rw [c55] at h5
 obtain ⟨x5,e5⟩:=aV8 h5
 have q5:=cut xs 11 1
 rw [e5] at q5
 have h6:aN prog m 57 ((xs.drop 12).take (prog.cellsOf 57)):=hf 6 _ rfl
 rw [c57] at h6
 obtain ⟨x6,e6⟩:=bDt h6
 have q6:=cut xs 12 2
 rw [e6] at q6
 have h7:aN prog m 3 ((xs.drop 14).take (prog.cellsOf 3)):=hf 7 _ rfl
 rw [c3] at h7
 obtain ⟨x7,e7⟩:=lO h7
 have q7:=cut xs 14 1
 rw [e7] at q7
 have hend:xs.drop 15=[]:=List.drop_eq_nil_of_le (by omega)
 have hx:xs=[.int .i64 x0]++([.str x1]++([.int .i64 x2]++(x3.enc++(x4.enc++([.imm (x5.map Line.enc)]++(x6.enc++([.int .i64 x7]++[]))))))):=by
  have z:xs=xs.drop 0:=rfl
  rw [z,q0,q1,q2,q3,q4,q5,q6,q7]
  show _=_
  rw [show (14+1:Nat)=15 from rfl,hend]
 rw [hx]
 exact ⟨⟨x0,x1,x2,x3,x4,x5,x6,x7⟩,rfl⟩
theorem c61:prog.cellsOf 61=17:=by kernel_rfl
theorem aYa {n:Nat} {xs:List V} (h:aN prog n 61 xs):∃ c:Call,xs=c.enc:=by
 obtain ⟨m,hl,hf⟩:=mN Tryz.underlying61 h
 rw [c61] at hl
 have h0:aN prog m 3 ((xs.drop 0).take (prog.cellsOf 3)):=hf 0 _ rfl
 rw [c3] at h0
 obtain ⟨x0,e0⟩:=lO h0
 have q0:=cut xs 0 1
 rw [e0] at q0
 have h1:aN prog m 3 ((xs.drop 1).take (prog.cellsOf 3)):=hf 1 _ rfl
 rw [c3] at h1
 obtain ⟨x1,e1⟩:=lO h1
 have q1:=cut xs 1 1
 rw [e1] at q1
 have h2:aN prog m 59 ((xs.drop 2).take (prog.cellsOf 59)):=hf 2 _ rfl
 rw [c59] at h2
 obtain ⟨x2,e2⟩:=bDu h2
 have q2:=cut xs 2 15
 rw [e2] at q2
 have hend:xs.drop 17=[]:=List.drop_eq_nil_of_le (by omega)
 have hx:xs=[.int .i64 x0]++([.int .i64 x1]++(x2.enc++[])):=by
  have z:xs=xs.drop 0:=rfl
  rw [z,q0,q1,q2]
  show _=_
  rw [show (2+15:Nat)=17 from rfl,hend]
 rw [hx]
 exact ⟨⟨x0,x1,x2⟩,rfl⟩
theorem aV9 {n:Nat} {xs:List V} (h:aN prog n 44 xs):∃ l:List Call,xs=[.imm (l.map Call.enc)]:=by
 obtain ⟨m,es,h,hes⟩:=aJx Tryz.underlying44 h
 obtain ⟨l,hl⟩:=aDb (enc:=Call.enc) fun c hc=>aYa (hes c hc).2
 exact ⟨l,by rw [h,hl]⟩
abbrev I64 (n:Int):Prop:=-9223372036854775808≤n∧n≤9223372036854775807
theorem dX {n:Int} (h:I64 n):wr .i64 n=n:=mU h.1 h.2
theorem wF (n:Int):I64 (wr .i64 n):=by
 unfold wr lo hi
 simp only
 split
 ·omega
 ·rw [IntKind.wrap_i64];omega
theorem dG {n:Int} (h1:0≤n) (h2:n<18446744073709551616):wr .u64 n=n:=by
 unfold wr lo hi
 simp only
 rw [if_pos (by omega)]
theorem aBq (n:Int):wr .u64 n=n % 18446744073709551616:=by
 unfold wr lo hi
 simp only
 split
 ·omega
 ·rfl
theorem pF {a b:Int} (ha:I64 a) (hb:I64 b):cS a b=if I64 (a+b) then (a+b,0) else (0,7):=by
 unfold cS at *
 have e1:0<b→wr .i64 (9223372036854775807 - b)=9223372036854775807 - b:=fun h=>mU (by omega) (by omega)
 have e2:b<0→wr .i64 (-9223372036854775808 - b)=-9223372036854775808 - b:=fun h=>mU (by omega) (by omega)
 by_cases h:-9223372036854775808≤a+b∧a+b≤9223372036854775807
 ·rw [if_pos h,mU h.1 h.2,if_neg]
  rintro (⟨h1,h2⟩ | ⟨h1,h2⟩)
  ·rw [e1 h1] at h2;omega
  ·rw [e2 h1] at h2;omega
 ·rw [if_neg h,if_pos]
  by_cases h0:0<b
  ·exact .inl ⟨h0,by rw [e1 h0];omega⟩
  ·exact .inr ⟨by omega,by rw [e2 (by omega)];omega⟩
theorem zV {b:Int} (hb:I64 b):bR 0 b=if b=-9223372036854775808 then (0,7) else (-b,0):=by
 unfold bR at *
 have e1:b<0→wr .i64 (9223372036854775807+b)=9223372036854775807+b:=fun h=>mU (by omega) (by omega)
 have e2:0<b→wr .i64 (-9223372036854775808+b)=-9223372036854775808+b:=fun h=>mU (by omega) (by omega)
 by_cases h:b=-9223372036854775808
 ·rw [if_pos h,if_pos]
  exact .inl ⟨by omega,by rw [e1 (by omega)];omega⟩
 ·rw [if_neg h,if_neg,Int.zero_sub,mU (by omega) (by omega)]
  rintro (⟨h1,h2⟩ | ⟨h1,h2⟩)
  ·rw [e1 h1] at h2;omega
  ·rw [e2 h1] at h2;omega
theorem aVa (a b:Int):I64 (cS a b).1:=by
 unfold cS
 split
 ·show I64 0;omega
 ·exact wF _
theorem aDc (n bp:Int):I64 (bF n bp).1:=by
 unfold bF
 have h0:I64 0:=by omega
 split
 ·exact h0
 ·simp only
  split
  ·exact h0
  ·split
   ·exact h0
   ·split
    ·exact wF _
    ·exact wF _
theorem aVb:∀ (l:List Int) (h w s:Int),(∀ n∈l,I64 n)→0≤h→h<18446744073709551616→0≤w→w<18446744073709551616→(h*18446744073709551616+w - s) % 340282366920938463463374607431768211456=0→
  ∃ h' w',aD tW sQ l (h,w)=sQ (h',w')∧0≤h'∧h'<18446744073709551616∧0≤w'∧w'<18446744073709551616∧(h'*18446744073709551616+w' - (s+l.sum)) % 340282366920938463463374607431768211456=0
 | [],h,w,s,_,a,b,c,d,e=>⟨h,w,rfl,a,b,c,d,by simpa using e⟩
 | n::l,h,w,s,hl,a,b,c,d,e=>by
  have hn:=hl n (List.mem_cons_self ..)
  have hstep:∃ h2 w2,tW (h,w) n=.inr (h2,w2)∧0≤h2∧h2<18446744073709551616∧0≤w2∧w2<18446744073709551616∧(h2*18446744073709551616+w2 - (s+n)) % 340282366920938463463374607431768211456=0:=by
   refine ⟨_,_,rfl,?_,?_,?_,?_,?_⟩
   ·simp only;omega
   ·simp only;omega
   ·simp only;omega
   ·simp only;omega
   ·simp only [aBq]
    split<;>omega
  obtain ⟨h2,w2,e1,a2,b2,c2,d2,e2⟩:=hstep
  obtain ⟨h',w',r1,r2⟩:=aVb l h2 w2 (s+n) (fun m hm=>hl m (List.mem_cons_of_mem _ hm)) a2 b2 c2 d2 e2
  refine ⟨h',w',?_,?_⟩
  ·simp only [aD,e1];exact r1
  ·rw [List.sum_cons,←Int.add_assoc];exact r2
theorem aFu:∀ (l:List Int),(∀ n∈l,I64 n)→-9223372036854775808*(l.length:Int)≤l.sum∧l.sum≤9223372036854775808*(l.length:Int)
 | [],_=>by simp
 | n::l,h=>by
  have h1:=h n (List.mem_cons_self ..)
  have h2:=aFu l fun m hm=>h m (List.mem_cons_of_mem _ hm)
  simp only [List.sum_cons,List.length_cons]
  omega
theorem fP {l:List Int} (h:∀ n∈l,I64 n) (hl:l.length≤1000000):(dO l).1=wr .i64 l.sum∧((dO l).2=true↔I64 l.sum):=by
 obtain ⟨h',w',e,a,b,c,d,m⟩:=aVb l 0 0 0 h (by decide) (by decide) (by decide) (by decide) (by decide)
 have hs:=aFu l h
 unfold dO
 rw [e]
 have hb1:-9223372036854775808000000≤l.sum:=by omega
 have hb2:l.sum≤9223372036854775808000000:=by omega
 have key:w'=l.sum % 18446744073709551616∧h'=(l.sum / 18446744073709551616) % 18446744073709551616:=by
  rw [Int.zero_add] at m
  omega
 constructor
 ·show wr .i64 w'=wr .i64 l.sum
  unfold wr lo hi
  simp only [IntKind.wrap_i64]
  split<;>split<;>omega
 ·show (if w'.fdiv (2 ^ 63)=0 then decide (h'=0) else decide (h'=18446744073709551615))=true↔_
  have hf:w'.fdiv (2 ^ 63)=w' / 9223372036854775808:=by
   rw [Int.fdiv_eq_ediv_of_nonneg _ (by decide)]
   rfl
  rw [hf]
  split
  ·simp only [decide_eq_true_eq];omega
  ·simp only [decide_eq_true_eq];omega
theorem zW {l:List Int} (h:∀ n∈l,I64 n) (hl:l.length≤1000000) (hs:I64 l.sum):dO l=(l.sum,true):=by
 obtain ⟨h1,h2⟩:=fP h hl
 exact Prod.ext (by rw [h1,dX hs]) (h2.2 hs)
theorem wH:∀ a,fN a a=false
 | []=>rfl
 | x::a=>by
  simp only [fN,cond_eq_ite]
  rw [if_neg (by simp [Nat.blt]),if_pos (by simp)]
  exact wH a
theorem aDd (x y:UInt8) (a b:List UInt8):fN (x::a) (y::b)=true↔x.toNat<y.toNat∨x.toNat=y.toNat∧fN a b=true:=by
 simp only [fN,cond_eq_ite,Nat.blt_eq,Nat.beq_eq]
 split
 ·rename_i h;simp [h]
 ·rename_i h
  split
  ·rename_i h2;simp [h2]
  ·rename_i h2;simp [h,h2]
theorem iX:∀ {a b c:List UInt8},fN a b=true→fN b c=true→fN a c=true
 | [],[],c,h,_=>by cases h
 | x::a,[],c,h,_=>by cases h
 | a,y::b,[],_,h=>by cases h
 | [],y::b,z::c,_,_=>rfl
 | x::a,y::b,z::c,h1,h2=>by
  rw [aDd] at *
  rcases h1 with h1 | ⟨h1,h3⟩<;>rcases h2 with h2 | ⟨h2,h4⟩
  ·exact .inl (by omega)
  ·exact .inl (by omega)
  ·exact .inl (by omega)
  ·exact .inr ⟨by omega,iX h3 h4⟩
theorem aBr:∀ a b:List UInt8,fN a b=true∨a=b∨fN b a=true
 | [],[]=>.inr (.inl rfl)
 | [],y::b=>.inl rfl
 | x::a,[]=>.inr (.inr rfl)
 | x::a,y::b=>by
  rw [aDd,aDd]
  rcases Nat.lt_trichotomy x.toNat y.toNat with h | h | h
  ·exact .inl (.inl h)
  ·have hxy:x=y:=UInt8.toNat_inj.1 h
   rcases aBr a b with h2 | h2 | h2
   ·exact .inl (.inr ⟨h,h2⟩)
   ·exact .inr (.inl (by rw [hxy,h2]))
   ·exact .inr (.inr (.inr ⟨h.symm,h2⟩))
  ·exact .inr (.inr (.inl h))
theorem bDv {a b:List UInt8} (h:fN a b=true):a≠b:=fun e=>by subst e;rw [wH] at h;cases h
theorem aAk {σ ρ α:Type} {step:σ→α→ρ⊕σ} {fin:σ→ρ}:∀ (a b:List α) (s:σ),aD step fin (a++b) s=aD step (fun s=>aD step fin b s) a s
 | [],b,s=>rfl
 | x::a,b,s=>by
  simp only [List.cons_append,aD]
  split
  ·rfl
  ·exact aAk a b _
theorem aAl {α:Type} {step:Option α→α→Bool⊕Option α} {good:α→Prop} {R:α→α→Prop}
  (h2:∀ a p,¬ good a→step p a=.inl false) (h3:∀ p a,good a→R p a→step (some p) a=.inr (some a)) (h4:∀ p a,good a→¬ R p a→step (some p) a=.inl false)
  (tr:∀ a b c,R a b→R b c→R a c):∀ (l:List α) (p:α),aD step (fun _=>true) l (some p)=true↔(∀ a∈l,good a)∧(∀ a∈l,R p a)∧l.Pairwise R
 | [],p=>by simp [aD]
 | a::l,p=>by
  by_cases g:good a
  ·by_cases r:R p a
   ·simp only [aD,h3 p a g r]
    rw [aAl h2 h3 h4 tr l a]
    simp only [List.mem_cons,List.pairwise_cons]
    constructor
    ·rintro ⟨q1,q2,q3⟩
     exact ⟨fun b hb=>hb.elim (fun e=>e▸g) (q1 b),fun b hb=>hb.elim (fun e=>e▸r) (fun hb=>tr _ _ _ r (q2 b hb)),q2,q3⟩
    ·rintro ⟨q1,q2,q3,q4⟩
     exact ⟨fun b hb=>q1 b (.inr hb),q3,q4⟩
   ·simp only [aD,h4 p a g r]
    constructor
    ·intro h;cases h
    ·rintro ⟨_,q2,_⟩;exact absurd (q2 a (List.mem_cons_self ..)) r
  ·simp only [aD,h2 a (some p) g]
   constructor
   ·intro h;cases h
   ·rintro ⟨q1,_,_⟩;exact absurd (q1 a (List.mem_cons_self ..)) g
theorem wJ {α:Type} {step:Option α→α→Bool⊕Option α} {good:α→Prop} {R:α→α→Prop} (h1:∀ a,good a→step none a=.inr (some a))
  (h2:∀ a p,¬ good a→step p a=.inl false) (h3:∀ p a,good a→R p a→step (some p) a=.inr (some a)) (h4:∀ p a,good a→¬ R p a→step (some p) a=.inl false)
  (tr:∀ a b c,R a b→R b c→R a c):∀ (l:List α),aD step (fun _=>true) l none=true↔(∀ a∈l,good a)∧l.Pairwise R
 | []=>by simp [aD]
 | a::l=>by
  by_cases g:good a
  ·simp only [aD,h1 a g]
   rw [aAl h2 h3 h4 tr l a]
   simp only [List.mem_cons,List.pairwise_cons]
   constructor
   ·rintro ⟨q1,q2,q3⟩
    exact ⟨fun b hb=>hb.elim (fun e=>e▸g) (q1 b),q2,q3⟩
   ·rintro ⟨q1,q3,q4⟩
    exact ⟨fun b hb=>q1 b (.inr hb),q3,q4⟩
  ·simp only [aD,h2 a none g]
   constructor
   ·intro h;cases h
   ·rintro ⟨q1,_⟩;exact absurd (q1 a (List.mem_cons_self ..)) g
theorem aHy {a b c:Date} (h1:a.before b=true) (h2:b.before c=true):a.before c=true:=by
 unfold Date.before at *
 simp only [Bool.and_eq_true,decide_eq_true_eq] at *
 exact ⟨h1.1,h2.2.1,by omega⟩
theorem wK (a b:Rate):eH a b=true↔fN a.cat b.cat=true∨a.cat=b.cat∧a.day.before b.day=true:=by
 unfold eH
 split
 ·rename_i h;simp [h]
 ·rename_i h
  split
  ·rename_i h2;simp only [beq_iff_eq] at h2;exact ⟨fun q=>.inr ⟨h2,q⟩,fun q=>q.elim (fun q=>absurd q h) (·.2)⟩
  ·rename_i h2;simp only [beq_iff_eq] at h2;simp [h,h2]
theorem rA {a b c:Rate} (h1:eH a b=true) (h2:eH b c=true):eH a c=true:=by
 rw [wK] at *
 rcases h1 with h1 | ⟨e1,h1⟩<;>rcases h2 with h2 | ⟨e2,h2⟩
 ·exact .inl (iX h1 h2)
 ·exact .inl (e2▸h1)
 ·exact .inl (e1▸h2)
 ·exact .inr ⟨e1.trans e2,aHy h1 h2⟩
theorem nC (l:List Rate):dW l=true↔l.length≤24∧(∀ r∈l,rS r=0)∧l.Pairwise (fun a b=>eH a b=true):=by
 unfold dW
 split
 ·rename_i h;simp;omega
 ·rename_i h
  rw [wJ (good:=fun r=>rS r=0) (R:=fun a b=>eH a b=true)]
  ·constructor
   ·intro q;exact ⟨by omega,q⟩
   ·intro q;exact q.2
  ·intro a g;simp only [fH,g,ne_eq,not_true_eq_false,if_false]
  ·intro a p g;simp only [fH,ne_eq,g,not_false_eq_true,if_true]
  ·intro p a g r;simp only [fH,g,ne_eq,not_true_eq_false,if_false,r,if_true]
  ·intro p a g r;simp only [fH,g,ne_eq,not_true_eq_false,if_false,r];rfl
  ·intro a b c;exact rA
theorem dY (l:List Ser):kK l=true↔l.length≤8∧(∀ s∈l,cW s.name=true∧kJ s=false)∧l.Pairwise (fun a b=>fN a.name b.name=true):=by
 unfold kK
 split
 ·rename_i h;simp;omega
 ·rename_i h
  rw [wJ (good:=fun s:Ser=>cW s.name=true∧kJ s=false) (R:=fun a b=>fN a.name b.name=true)]
  ·constructor
   ·intro q;exact ⟨by omega,q⟩
   ·intro q;exact q.2
  ·intro a g;simp [jN,lB,g.1,g.2]
  ·intro a p g
   unfold jN
   split
   ·rfl
   ·split
    ·rfl
    ·split
     ·rfl
     ·rename_i h1 h2 h3
      exact absurd ⟨by simpa using h1,by simpa using h3⟩ g
  ·intro p a g r;simp [jN,lB,g.1,g.2,r]
  ·intro p a g r;simp [jN,lB,g.1,g.2,r]
  ·intro a b c;exact iX
theorem bCk:∀ (l:List Sess) (last:Int),aD eN (fun _=>true) l last=true↔(∀ s∈l,last<s.id∧0≤s.last∧s.last≤1099511627776∧(s.last=0→s.reply=Rep.zero))∧l.Pairwise (fun a b=>a.id<b.id)
 | [],last=>by simp [aD]
 | s::l,last=>by
  by_cases g:last<s.id∧0≤s.last∧s.last≤1099511627776∧(s.last=0→s.reply=Rep.zero)
  ·have e:eN last s=.inr s.id:=by
    unfold eN
    rw [if_neg (by omega),if_neg (by omega),if_neg (by omega),if_neg (fun h=>h.2 (g.2.2.2 h.1))]
   simp only [aD,e]
   rw [bCk l s.id]
   simp only [List.mem_cons,List.pairwise_cons]
   constructor
   ·rintro ⟨q1,q2⟩
    exact ⟨fun b hb=>hb.elim (fun e=>e▸g) (fun hb=>⟨by have:=(q1 b hb).1;omega,(q1 b hb).2⟩),fun b hb=>(q1 b hb).1,q2⟩
   ·rintro ⟨q1,q2,q3⟩
    exact ⟨fun b hb=>⟨q2 b hb,(q1 b (.inr hb)).2⟩,q3⟩
  ·have e:eN last s=.inl false:=by
    unfold eN
    repeat' split
    all_goals first | rfl | skip
    rename_i h1 h2 h3 h4
    refine absurd ⟨by omega,by omega,by omega,fun h=>?_⟩ g
    by_cases c:s.reply=Rep.zero
    ·exact c
    ·exact absurd ⟨h,c⟩ h4
   simp only [aD,e]
   constructor
   ·intro h;cases h
   ·rintro ⟨q1,_⟩;exact absurd (q1 s (List.mem_cons_self ..)) g
theorem uE (l:List Sess):eO l=true↔l.length≤8∧(∀ s∈l,0<s.id∧0≤s.last∧s.last≤1099511627776∧(s.last=0→s.reply=Rep.zero))∧l.Pairwise (fun a b=>a.id<b.id):=by
 unfold eO
 split
 ·rename_i h;simp;omega
 ·rename_i h
  rw [bCk]
  exact ⟨fun q=>⟨by omega,q⟩,fun q=>q.2⟩
theorem uF {α:Type} (p:α→Bool):∀ (l:List α) (n:Nat),aD (eP p) id l n=n+(l.takeWhile p).length
 | [],n=>rfl
 | a::l,n=>by
  by_cases c:p a=true
  ·simp only [aD,eP,c,if_true,List.takeWhile_cons]
   rw [uF p l (n+1),List.length_cons];omega
  ·simp only [aD,eP,c,if_false,List.takeWhile_cons];rfl
theorem uG {α:Type} (p:α→Bool) (l:List α) (a:α):eG l (mX p l) a=l.takeWhile p++a::l.dropWhile p:=by
 unfold eG mX
 rw [uF,Nat.zero_add]
 have h1:l.take (l.takeWhile p).length=l.takeWhile p:=by
  have:=congrArg (List.take (l.takeWhile p).length) (List.takeWhile_append_dropWhile (p:=p) (l:=l)).symm
  rw [List.take_left'] at this
  ·exact this
  ·rfl
 have h2:l.drop (l.takeWhile p).length=l.dropWhile p:=by
  have:=congrArg (List.drop (l.takeWhile p).length) (List.takeWhile_append_dropWhile (p:=p) (l:=l)).symm
  rw [List.drop_left'] at this
  ·exact this
  ·rfl
 rw [h1,h2]
theorem oM {α:Type} {p:α→Bool}:∀ {l:List α} {a:α},a∈l.takeWhile p→p a=true∧a∈l
 | [],a,h=>by cases h
 | x::l,a,h=>by
  rw [List.takeWhile_cons] at h
  split at h
  ·rename_i c
   rcases List.mem_cons.1 h with rfl | h
   ·exact ⟨c,List.mem_cons_self ..⟩
   ·exact ⟨(oM h).1,List.mem_cons_of_mem _ (oM h).2⟩
  ·cases h
theorem rC {α:Type} {R:α→α→Prop} {p:α→Bool} {l:List α} {a:α} (hl:l.Pairwise R) (tr:∀ a b c,R a b→R b c→R a c) (h1:∀ x∈l,p x=true→R x a) (h2:∀ x∈l,p x=false→R a x):
  (l.takeWhile p++a::l.dropWhile p).Pairwise R:=by
 induction l with
 | nil=>simp
 | cons x l ih=>
  rw [List.pairwise_cons] at hl
  by_cases c:p x=true
  ·simp only [List.takeWhile_cons,List.dropWhile_cons,c,if_true,List.cons_append,List.pairwise_cons]
   refine ⟨fun b hb=>?_,ih hl.2 (fun y hy=>h1 y (List.mem_cons_of_mem _ hy)) (fun y hy=>h2 y (List.mem_cons_of_mem _ hy))⟩
   rcases List.mem_append.1 hb with hb | hb
   ·exact hl.1 b (oM hb).2
   ·rcases List.mem_cons.1 hb with rfl | hb
    ·exact h1 x (List.mem_cons_self ..) c
    ·exact hl.1 b (List.dropWhile_suffix p |>.mem hb)
  ·have c:p x=false:=by simpa using c
   simp only [List.takeWhile_cons,List.dropWhile_cons,c,Bool.false_eq_true,if_false,List.nil_append,List.pairwise_cons]
   refine ⟨fun b hb=>?_,hl⟩
   have hx:=h2 x (List.mem_cons_self ..) (by simpa using c)
   rcases List.mem_cons.1 hb with rfl | hb
   ·exact hx
   ·exact tr _ _ _ hx (hl.1 b hb)
theorem hN {α:Type} (l:List α) (i:Nat) (a x:α):x∈eG l i a↔x=a∨x∈l:=by
 unfold eG
 rw [List.mem_append,List.mem_cons]
 constructor
 ·rintro (h | h | h)
  ·exact .inr (List.mem_of_mem_take h)
  ·exact .inl h
  ·exact .inr (List.mem_of_mem_drop h)
 ·rintro (h | h)
  ·exact .inr (.inl h)
  ·rw [←List.take_append_drop i l,List.mem_append] at h
   exact h.elim .inl (fun h=>.inr (.inr h))
theorem aQt {n:Int} (h:I64 n):oY n=if n<0 then -n else n:=by
 unfold oY
 split
 ·rename_i c
  have h1:wr .u64 n=18446744073709551616+n:=by rw [aBq];omega
  rw [h1]
  have h2:aEh (18446744073709551616+n)=-n - 1:=by
   unfold aEh
   simp only [IntKind.signed,Bool.false_eq_true,if_false]
   have hm:(IntKind.u64.max:Int)=18446744073709551615:=by decide
   rw [hm]
   have hb:IntKind.u64.bits=64:=rfl
   rw [hb]
   have:(BitVec.ofInt 64 18446744073709551615 ^^^ BitVec.ofInt 64 (18446744073709551616+n)) = ~~~ (BitVec.ofInt 64 (18446744073709551616+n)):=by
    rw [show (BitVec.ofInt 64 18446744073709551615)=BitVec.allOnes 64 from by decide,BitVec.allOnes_xor]
   rw [this,BitVec.toNat_not]
   have hv:(BitVec.ofInt 64 (18446744073709551616+n)).toNat=(18446744073709551616+n).toNat:=by
    rw [BitVec.toNat_ofInt]
    omega
   rw [hv,dG (by omega) (by omega)]
   omega
  rw [h2,dG (by omega) (by omega)]
  omega
 ·exact dG (by omega) (by omega)
def wL (u bp:Int):Option Int:=
 if 0<bp∧9223372036854775807 / bp<u / 10000 then none else
  if 9223372036854775807<u / 10000*bp+(2*(u % 10000)*bp+10000) / 20000 then none else some (u / 10000*bp+(2*(u % 10000)*bp+10000) / 20000)
theorem aHz {u bp t:Int} (hu:0≤u) (hb:0≤bp) (h:wL u bp=some t):0≤t∧t≤9223372036854775807:=by
 unfold wL at h
 split at h
 ·cases h
 ·split at h
  ·cases h
  ·rename_i h2
   cases h
   have h3:0≤u / 10000*bp:=Int.mul_nonneg (by omega) hb
   have h4:0≤2*(u % 10000)*bp:=Int.mul_nonneg (by omega) hb
   exact ⟨by omega,by omega⟩
theorem zX {n bp:Int} (h:I64 n) (h1:0≤bp) (h2:bp≤100000):bF n bp=match wL (if n<0 then -n else n) bp with
  | none=>(0,7)
  | some t=>(if n<0 then -t else t,0):=by
 unfold bF
 rw [if_neg (by omega)]
 simp only [aQt h]
 have hp:wr .u64 bp=bp:=dG h1 (by omega)
 rw [hp]
 obtain ⟨u,hu⟩:∃ u,u=(if n<0 then -n else n):=⟨_,rfl⟩
 rw [←hu]
 have hu0:0≤u∧u≤9223372036854775808:=by subst hu;split<;>omega
 have hq:u.tdiv 10000=u / 10000:=Int.tdiv_eq_ediv_of_nonneg hu0.1
 have hr:u.tmod 10000=u % 10000:=Int.tmod_eq_emod_of_nonneg hu0.1
 have hmax:(9223372036854775807:Int).tdiv bp=9223372036854775807 / bp:=Int.tdiv_eq_ediv_of_nonneg (by decide)
 rw [hq,hr,hmax,dG (n:=u / 10000) (by omega) (by omega)]
 have hdiv:0<bp→0≤9223372036854775807 / bp∧9223372036854775807 / bp<18446744073709551616:=by
  intro hb
  constructor
  ·exact Int.ediv_nonneg (by decide) (by omega)
  ·have:=Int.ediv_le_self bp (a:=9223372036854775807) (by decide);omega
 unfold wL
 by_cases c:0<bp∧9223372036854775807 / bp<u / 10000
 ·rw [if_pos c,if_pos ⟨c.1,by rw [dG (hdiv c.1).1 (hdiv c.1).2];exact c.2⟩]
 ·rw [if_neg c,if_neg (fun q=>c ⟨q.1,by have:=q.2;rwa [dG (hdiv q.1).1 (hdiv q.1).2] at this⟩)]
  have hm1:0≤u / 10000*bp:=Int.mul_nonneg (by omega) h1
  have hm2:u / 10000*bp≤9223372036854775807:=by
   by_cases hb:0<bp
   ·have hle:u / 10000≤9223372036854775807 / bp:=by
     by_cases q:u / 10000≤9223372036854775807 / bp
     ·exact q
     ·exact absurd ⟨hb,by omega⟩ c
    calc u / 10000*bp≤9223372036854775807 / bp*bp:=Int.mul_le_mul_of_nonneg_right hle h1
     _≤9223372036854775807:=Int.ediv_mul_le _ (by omega)
   ·have:bp=0:=by omega
    subst this;simp
  have hr1:0≤2*(u % 10000)*bp:=Int.mul_nonneg (by omega) h1
  have hr2:2*(u % 10000)*bp≤2*10000*100000:=Int.mul_le_mul (by omega) h2 h1 (by decide)
  rw [dG hm1 (by omega),dG (n:=2*(u % 10000)) (by omega) (by omega),dG hr1 (by omega),dG (n:=2*(u % 10000)*bp+10000) (by omega) (by omega),aD1]
  have ht:(2*(u % 10000)*bp+10000).tdiv 20000=(2*(u % 10000)*bp+10000) / 20000:=Int.tdiv_eq_ediv_of_nonneg (by omega)
  rw [ht,dG (n:=(2*(u % 10000)*bp+10000) / 20000) (by omega) (by omega),dG (n:=u / 10000*bp+(2*(u % 10000)*bp+10000) / 20000) (by omega) (by omega)]
  obtain ⟨t,htt⟩:∃ t,t=u / 10000*bp+(2*(u % 10000)*bp+10000) / 20000:=⟨_,rfl⟩
  have ht0:0≤t:=by omega
  rw [←htt]
  split
  ·rfl
  ·rename_i hle
   rw [mU (n:=t) (by omega) (by omega)]
   split
   ·rw [mU (by omega) (by omega)];simp
   ·rfl
theorem aM8 {n bp t:Int} (h:I64 n) (h1:0≤bp) (h2:bp≤100000) (hn:n≠-9223372036854775808) (hs:bF n bp=(t,0)):bF (-n) bp=(-t,0)∧t≠-9223372036854775808:=by
 rw [zX h h1 h2] at hs
 rw [zX (by omega) h1 h2]
 have hu:(if -n<0 then - -n else -n)=if n<0 then -n else n:=by split<;>split<;>omega
 rw [hu]
 cases hx:wL (if n<0 then -n else n) bp with
 | none=>rw [hx] at hs;cases hs
 | some x=>
  rw [hx] at hs
  obtain ⟨a,b⟩:=aHz (by split<;>omega) h1 hx
  simp only [Prod.mk.injEq,and_true] at hs ⊢
  by_cases c0:n=0
  ·subst c0
   have:x=0:=by
    simp only [Int.lt_irrefl,if_false] at hx
    unfold wL at hx
    simp only [Int.zero_ediv,Int.zero_emod,Int.zero_mul,Int.mul_zero] at hx
    split at hx
    ·cases hx
    ·split at hx
     ·cases hx
     ·cases hx;decide
   subst this
   simp at hs ⊢
   omega
  ·constructor
   ·rw [←hs];split<;>split<;>omega
   ·rw [←hs];split<;>omega
theorem aJy {σ α:Type} {step:σ→α→Bool⊕σ} (hs:∀ s a r,step s a=.inl r→r=false) (c:Bool):∀ (l:List α) (s:σ),aD step (fun _=>c) l s=(aD step (fun _=>true) l s&&c)
 | [],s=>by simp [aD]
 | a::l,s=>by
  simp only [aD]
  split
  ·rename_i r he;rw [hs _ _ _ he,Bool.false_and]
  ·exact aJy hs c l _
structure PG (p:Part):Prop where
 name:cW p.cat=true
 lo:0≤p.bp
 hi:p.bp≤100000
 tax:bF p.net p.bp=(p.tax,0)
theorem aI0 (p:Part):PG p↔cW p.cat=true∧tY p=false∧tZ p=false:=by
 unfold tY tZ
 simp only [Bool.or_eq_false_iff,decide_eq_false_iff_not,Bool.not_eq_false',decide_eq_true_eq]
 constructor
 ·rintro ⟨a,b,c,d⟩
  exact ⟨a,⟨by omega,by omega⟩,by rw [d],by rw [d]⟩
 ·rintro ⟨a,⟨b,c⟩,d,e⟩
  exact ⟨a,by omega,by omega,Prod.ext e d⟩
theorem aDe:∀ s a r,cE s a=.inl r→r=false:=by
 intro s a r h
 unfold cE at h
 repeat' split at h
 all_goals first | (cases h;done) | (cases h;rfl)
theorem fQ (t:Total):bU t=true↔1≤t.parts.length∧t.parts.length≤12∧(∀ p∈t.parts,PG p)∧t.parts.Pairwise (fun a b=>fN a.cat b.cat=true)∧iD t=true:=by
 unfold bU
 split
 ·rename_i h;simp;omega
 ·rename_i h
  split
  ·rename_i h2;simp;omega
  ·rename_i h2
   rw [aJy aDe,Bool.and_eq_true,wJ (good:=PG) (R:=fun a b=>fN a.cat b.cat=true)]
   ·constructor
    ·rintro ⟨⟨a,b⟩,c⟩;exact ⟨by omega,by omega,a,b,c⟩
    ·rintro ⟨_,_,a,b,c⟩;exact ⟨⟨a,b⟩,c⟩
   ·intro a g
    obtain ⟨g1,g2,g3⟩:=(aI0 a).1 g
    simp [cE,gB,g1,g2,g3]
   ·intro a p g
    rw [aI0] at g
    unfold cE
    split
    ·rfl
    ·split
     ·rfl
     ·split
      ·rfl
      ·split
       ·rfl
       ·rename_i h1 _ h3 h4
        exact absurd ⟨by simpa using h1,by simpa using h3,by simpa using h4⟩ g
   ·intro p a g r
    obtain ⟨g1,g2,g3⟩:=(aI0 a).1 g
    simp [cE,gB,g1,g2,g3,r]
   ·intro p a g r
    obtain ⟨g1,g2,g3⟩:=(aI0 a).1 g
    simp [cE,gB,g1,g2,g3,r]
   ·intro a b c;exact iX
theorem pG {t:Total} (hn:∀ p∈t.parts,I64 p.net) (ht:∀ p∈t.parts,I64 p.tax) (hl:t.parts.length≤1000000):
  iD t=true↔I64 t.net∧I64 t.tax∧I64 t.gross∧t.net=(t.parts.map (·.net)).sum∧t.tax=(t.parts.map (·.tax)).sum∧t.gross=t.net+t.tax:=by
 have h1:∀ n∈t.parts.map (·.net),I64 n:=fun n h=>by obtain ⟨p,hp,rfl⟩:=List.mem_map.1 h;exact hn p hp
 have h2:∀ n∈t.parts.map (·.tax),I64 n:=fun n h=>by obtain ⟨p,hp,rfl⟩:=List.mem_map.1 h;exact ht p hp
 obtain ⟨a1,a2⟩:=fP h1 (by rw [List.length_map];exact hl)
 obtain ⟨b1,b2⟩:=fP h2 (by rw [List.length_map];exact hl)
 unfold iD
 constructor
 ·intro h
  repeat' split at h
  all_goals first | cases h;done | skip
  rename_i c1 c2 c3 c4 c5
  have d:=of_decide_eq_true h
  have i1:=a2.1 c1
  have i2:=b2.1 c2
  rw [a1,dX i1] at c4
  rw [b1,dX i2] at c5
  have j:∀ n∈[t.net,t.tax],I64 n:=by
   intro n hn
   simp only [List.mem_cons,List.not_mem_nil,or_false] at hn
   rcases hn with rfl | rfl
   ·rw [←c4];exact i1
   ·rw [←c5];exact i2
  obtain ⟨e1,e2⟩:=fP j (by simp)
  have i3:=e2.1 c3
  rw [e1,dX i3] at d
  have hs:[t.net,t.tax].sum=t.net+t.tax:=by simp
  rw [hs] at d i3
  exact ⟨by rw [←c4];exact i1,by rw [←c5];exact i2,by rw [←d];exact i3,c4.symm,c5.symm,d.symm⟩
 ·rintro ⟨i1,i2,i3,e1,e2,e3⟩
  have j:∀ n∈[t.net,t.tax],I64 n:=by
   intro n hn
   simp only [List.mem_cons,List.not_mem_nil,or_false] at hn
   rcases hn with rfl | rfl
   ·exact i1
   ·exact i2
  have hs:[t.net,t.tax].sum=t.net+t.tax:=by simp
  have k3:=zW j (by simp) (by rw [hs,←e3];exact i3)
  have k1:=zW h1 (by rw [List.length_map];exact hl) (by rw [←e1];exact i1)
  have k2:=zW h2 (by rw [List.length_map];exact hl) (by rw [←e2];exact i2)
  rw [k1,k2,k3]
  simp only [if_true,←e1,←e2,hs,←e3,decide_true]
theorem aYb {α:Type} (p:α→Bool) (l:List α):l[mX p l]?=(l.dropWhile p)[0]?:=by
 unfold mX
 rw [uF,Nat.zero_add]
 have h:l[(l.takeWhile p).length]?=(l.takeWhile p++l.dropWhile p)[(l.takeWhile p).length]?:=by rw [List.takeWhile_append_dropWhile]
 rw [h,List.getElem?_append_right (Nat.le_refl _),Nat.sub_self]
theorem aFv {α:Type} {p:α→Bool}:∀ {l:List α} {a:α},(l.dropWhile p)[0]?=some a→p a=false
 | [],a,h=>by cases h
 | x::l,a,h=>by
  rw [List.dropWhile_cons] at h
  split at h
  ·exact aFv h
  ·rename_i c;cases h;simpa using c
theorem aAm {α:Type} {p:α→Bool} {R:α→α→Prop}:∀ {l:List α},l.Pairwise R→(∀ a b,R a b→p a=false→p b=false)→∀ {x:α},x∈l→p x=false→x∈l.dropWhile p
 | a::l,hl,hp,x,hx,h=>by
  rw [List.dropWhile_cons]
  rw [List.pairwise_cons] at hl
  split
  ·rename_i c
   rcases List.mem_cons.1 hx with rfl | hx
   ·rw [h] at c;cases c
   ·exact aAm hl.2 hp hx h
  ·exact hx
theorem aVc {α:Type} {key:α→List UInt8} {l:List α} (hs:l.Pairwise (fun a b=>fN (key a) (key b)=true)) (k:List UInt8) (h:∀ b,l[mX (fun x=>fN (key x) k) l]?=some b→key b≠k):
  ∀ x∈l,fN (key x) k=false→fN k (key x)=true:=by
 intro x hx hk
 have hd:=aAm (p:=fun x=>fN (key x) k) hs (fun a b r ha=>by
  cases c:fN (key b) k with
  | false=>rfl
  | true=>rw [iX r c] at ha;cases ha) hx hk
 rw [aYb] at h
 have hsd:(l.dropWhile fun x=>fN (key x) k).Pairwise (fun a b=>fN (key a) (key b)=true):=hs.sublist (List.dropWhile_sublist _)
 cases hc:l.dropWhile (fun x=>fN (key x) k) with
 | nil=>rw [hc] at hd;cases hd
 | cons q r=>
  rw [hc] at hd hsd
  have hq:fN (key q) k=false:=aFv (p:=fun x=>fN (key x) k) (l:=l) (by rw [hc];rfl)
  have hne:=h q (by rw [hc];rfl)
  have hkq:fN k (key q)=true:=by
   rcases aBr (key q) k with h1 | h1 | h1
   ·rw [hq] at h1;cases h1
   ·exact absurd h1 hne
   ·exact h1
  rcases List.mem_cons.1 hd with rfl | hd
  ·exact hkq
  ·exact iX hkq ((List.pairwise_cons.1 hsd).1 x hd)
theorem wM {α:Type} {key:α→List UInt8} {l:List α} (hs:l.Pairwise (fun a b=>fN (key a) (key b)=true)) {i:Nat} {a b:α} (hi:l[i]?=some a) (he:key b=key a):(l.set i b).Pairwise (fun a b=>fN (key a) (key b)=true):=by
 have hm:∀ l:List α,l.Pairwise (fun a b=>fN (key a) (key b)=true)↔(l.map key).Pairwise (fun a b=>fN a b=true):=fun l=>(List.pairwise_map (f:=key) (R:=fun a b=>fN a b=true)).symm
 rw [hm] at hs ⊢
 have:(l.set i b).map key=l.map key:=by
  rw [List.map_set,he]
  apply List.ext_getElem?
  intro j
  rw [List.getElem?_set]
  split
  ·rename_i hj
   subst hj
   rw [List.getElem?_map,hi,List.length_map]
   rw [if_pos (List.getElem?_eq_some_iff.1 hi).1];rfl
  ·rfl
 rw [this];exact hs
structure PInv (l:List Part):Prop where
 name:∀ p∈l,cW p.cat=true
 bp:∀ p∈l,0≤p.bp∧p.bp≤100000
 net:∀ p∈l,I64 p.net
 srt:l.Pairwise (fun a b=>fN a.cat b.cat=true)
theorem PInv.nil:PInv []:=⟨fun _ h=>(by cases h),fun _ h=>(by cases h),fun _ h=>(by cases h),.nil⟩
theorem PInv.room {l:List Part} (h:PInv l) {cat:List UInt8} {bp:Int} (hc:cW cat=true) (h1:0≤bp) (h2:bp≤100000):PInv (dC l cat bp):=by
 unfold dC
 split
 ·rename_i hm
  have hmem:∀ p,p∈eG l (bK l cat) ⟨cat,bp,0,0⟩→p=⟨cat,bp,0,0⟩∨p∈l:=fun p hp=>(hN _ _ _ _).1 hp
  refine ⟨fun p hp=>?_,fun p hp=>?_,fun p hp=>?_,?_⟩
  ·rcases hmem p hp with rfl | hp
   ·exact hc
   ·exact h.name p hp
  ·rcases hmem p hp with rfl | hp
   ·exact ⟨h1,h2⟩
   ·exact h.bp p hp
  ·rcases hmem p hp with rfl | hp
   ·show I64 0;omega
   ·exact h.net p hp
  ·unfold bK
   rw [uG]
   refine rC h.srt (fun a b c=>iX) (fun x hx hp=>hp) (fun x hx hp=>?_)
   refine aVc (key:=fun p:Part=>p.cat) h.srt cat (fun b hb=>?_) x hx hp
   unfold jP bK at hm
   rw [hb] at hm
   simpa using hm
 ·exact h
theorem PInv.put {l:List Part} (h:PInv l) {cat:List UInt8} {bp n:Int} (hc:cW cat=true) (h1:0≤bp) (h2:bp≤100000):PInv (rT l cat bp n).1∧(rT l cat bp n).1≠[]:=by
 obtain ⟨b,hb⟩:=qT l cat bp
 have hr:=h.room hc h1 h2
 unfold rT
 rw [hb]
 have hbm:=List.mem_of_getElem? hb
 constructor
 ·refine ⟨fun p hp=>?_,fun p hp=>?_,fun p hp=>?_,wM (key:=fun p:Part=>p.cat) hr.srt hb rfl⟩
  ·rcases List.mem_or_eq_of_mem_set hp with hp | rfl
   ·exact hr.name p hp
   ·exact hr.name b hbm
  ·rcases List.mem_or_eq_of_mem_set hp with hp | rfl
   ·exact hr.bp p hp
   ·exact hr.bp b hbm
  ·rcases List.mem_or_eq_of_mem_set hp with hp | rfl
   ·exact hr.net p hp
   ·exact aVa _ _
 ·intro e
  have:=congrArg List.length e
  rw [List.length_set,List.length_nil] at this
  have:=(List.getElem?_eq_some_iff.1 hb).1
  omega
theorem uH {r:Rate} (h:rS r=0):cW r.cat=true∧r.day.right=true∧0≤r.bp∧r.bp≤100000:=by
 unfold rS at h
 split at h
 ·omega
 ·rename_i h1
  split at h
  ·omega
  ·rename_i h2
   split at h
   ·omega
   ·split at h
    ·omega
    ·exact ⟨by simpa using h1,by simpa using h2,by omega,by omega⟩
theorem bCl {cat:List UInt8} {d:Date}:∀ (l:List Rate) (st:Int×Bool),(st.2=true→0≤st.1∧st.1≤100000)→(∀ r∈l,0≤r.bp∧r.bp≤100000)→(aD (jO cat d) id l st).2=true→0≤(aD (jO cat d) id l st).1∧(aD (jO cat d) id l st).1≤100000
 | [],st,h,_,h2=>h h2
 | r::l,st,h,hl,h2=>by
  simp only [aD,jO] at h2 ⊢
  refine bCl l _ ?_ (fun x hx=>hl x (List.mem_cons_of_mem _ hx)) h2
  split
  ·intro _;exact hl r (List.mem_cons_self ..)
  ·exact h
theorem aJz {l:List Rate} {cat:List UInt8} {d:Date} (h:(iL l cat d).2=true):0≤(iL l cat d).1∧(iL l cat d).1≤100000:=by
 unfold iL at h ⊢
 split at h
 ·cases h
 ·rename_i h1
  split at h
  ·cases h
  ·rename_i h2
   rw [if_neg h1,if_neg h2]
   have ht:=(nC l).1 (by simpa using h1)
   exact bCl l _ (fun h=>by cases h) (fun r hr=>(uH (ht.2.1 r hr)).2.2) h
theorem aVd {tab:List Rate} {d:Date} {l:Line} (h:(fI tab d l).2.2=0):cW l.cat=true∧0≤(fI tab d l).1∧(fI tab d l).1≤100000:=by
 unfold fI at h ⊢
 split at h
 ·simp at h
 ·rename_i h1
  split at h
  ·simp at h
  ·rename_i h2
   split at h
   ·simp at h
   ·rename_i h3
    split at h
    ·simp at h
    ·rename_i h4
     rw [if_neg h1,if_neg h2,if_neg h3,if_neg h4]
     exact ⟨by simpa using h2,aJz (by simpa using h4)⟩
theorem bJw {tab:List Rate} {d:Date}:∀ (lines:List Line) (parts:List Part) (r:Total×Int),PInv parts→aD (iO tab d) eT lines parts=r→r.2=0→∃ ps,PInv ps∧eT ps=r∧(parts≠[]∨lines≠[]→ps≠[])
 | [],parts,r,hp,h,_=>⟨parts,hp,h,fun h=>h.elim id (fun h=>absurd rfl h)⟩
 | l::lines,parts,r,hp,h,h0=>by
  simp only [aD] at h
  split at h
  ·rename_i r' he
   subst h
   unfold iO at he
   split at he
   ·rename_i hc;cases he;exact absurd h0 hc
   ·split at he
    ·rename_i hc;cases he;exact absurd h0 hc
    ·cases he
  ·rename_i s' he
   unfold iO at he
   split at he
   ·cases he
   ·rename_i hl
    split at he
    ·cases he
    ·cases he
     obtain ⟨a,b,c⟩:=aVd (Decidable.not_not.1 hl)
     obtain ⟨q1,q2⟩:=hp.put (n:=(fI tab d l).2.1) a b c
     obtain ⟨ps,i1,i2,i3⟩:=bJw lines _ r q1 h h0
     exact ⟨ps,i1,i2,fun _=>i3 (.inl q2)⟩
def bCm (p:Part):Part:={ p with tax:=(bF p.net p.bp).1 }
theorem aVe:∀ (l:List Part) (n x:Int) (ps:List Part) (r:Total×Int),I64 n→I64 x→(∀ p∈l,I64 p.net)→aD gA lC l (n,x,ps)=r→r.2=0→
  r.1.parts=ps++l.map bCm∧(∀ p∈l,(bF p.net p.bp).2=0)∧r.1.net=n+(l.map (·.net)).sum∧r.1.tax=x+(l.map fun p=>(bF p.net p.bp).1).sum∧r.1.gross=r.1.net+r.1.tax∧I64 r.1.net∧I64 r.1.tax∧I64 r.1.gross
 | [],n,x,ps,r,hn,hx,_,h,h0=>by
  simp only [aD,lC] at h
  split at h
  ·rename_i hc;subst h;exact absurd h0 hc
  ·rename_i hc
   have hc:=Decidable.not_not.1 hc
   subst h
   simp only at hc ⊢
   rw [pF hn hx] at hc ⊢
   split at hc
   ·rename_i hi;rw [if_pos hi];refine ⟨by simp,by simp,by simp,by simp,rfl,hn,hx,hi⟩
   ·simp at hc
 | p::l,n,x,ps,r,hn,hx,hl,h,h0=>by
  simp only [aD] at h
  split at h
  ·rename_i r' he
   subst h
   unfold gA at he
   split at he
   ·cases he;simp at h0
   ·cases he
  ·rename_i s' he
   unfold gA at he
   split at he
   ·cases he
   ·rename_i hc
    cases he
    have hp:=hl p (List.mem_cons_self ..)
    have c1:(bF p.net p.bp).2=0:=by by_cases q:(bF p.net p.bp).2=0;exact q;exact absurd (.inl q) hc
    have c2:(cS n p.net).2=0:=by by_cases q:(cS n p.net).2=0;exact q;exact absurd (.inr (.inl q)) hc
    have c3:(cS x (bF p.net p.bp).1).2=0:=by by_cases q:(cS x (bF p.net p.bp).1).2=0;exact q;exact absurd (.inr (.inr q)) hc
    have e2:(cS n p.net).1=n+p.net∧I64 (n+p.net):=by
     rw [pF hn hp] at c2 ⊢
     split at c2
     ·rename_i hi;rw [if_pos hi];exact ⟨rfl,hi⟩
     ·simp at c2
    have e3:(cS x (bF p.net p.bp).1).1=x+(bF p.net p.bp).1∧I64 (x+(bF p.net p.bp).1):=by
     rw [pF hx (aDc _ _)] at c3 ⊢
     split at c3
     ·rename_i hi;rw [if_pos hi];exact ⟨rfl,hi⟩
     ·simp at c3
    simp only [e2.1,e3.1] at h
    obtain ⟨a1,a2,a3,a4,a5⟩:=aVe l _ _ _ r e2.2 e3.2 (fun q hq=>hl q (List.mem_cons_of_mem _ hq)) h h0
    refine ⟨by rw [a1,List.map_cons,List.append_assoc];rfl,fun q hq=>?_,?_,?_,a5⟩
    ·rcases List.mem_cons.1 hq with rfl | hq
     ·exact c1
     ·exact a2 q hq
    ·rw [a3,List.map_cons,List.sum_cons];omega
    ·rw [a4,List.map_cons,List.sum_cons];omega
theorem aVf {ps:List Part} (h:PInv ps) (h0:ps≠[]) {t:Total} (hl:t.parts.length≤12) (hw:eT ps=(t,0)):bU t=true∧(∀ p∈t.parts,I64 p.net∧I64 p.tax):=by
 obtain ⟨a1,a2,a3,a4,a5,a6,a7,a8⟩:=aVe ps 0 0 [] (t,0) (by omega) (by omega) h.net hw rfl
 simp only [List.nil_append,Int.zero_add] at a1 a2 a3 a4 a5 a6 a7 a8
 have hm:∀ p∈t.parts,∃ q∈ps,p=bCm q:=fun p hp=>by rw [a1] at hp;obtain ⟨q,hq,rfl⟩:=List.mem_map.1 hp;exact ⟨q,hq,rfl⟩
 have hi:∀ p∈t.parts,I64 p.net∧I64 p.tax:=fun p hp=>by
  obtain ⟨q,hq,rfl⟩:=hm p hp
  exact ⟨h.net q hq,aDc _ _⟩
 refine ⟨(fQ t).2 ⟨?_,hl,fun p hp=>?_,?_,?_⟩,hi⟩
 ·rw [a1,List.length_map]
  cases ps with
  | nil=>exact absurd rfl h0
  | cons a l=>simp
 ·obtain ⟨q,hq,rfl⟩:=hm p hp
  exact ⟨h.name q hq,(h.bp q hq).1,(h.bp q hq).2,Prod.ext rfl (a2 q hq)⟩
 ·rw [a1,List.pairwise_map]
  exact h.srt
 ·rw [pG (fun p hp=>(hi p hp).1) (fun p hp=>(hi p hp).2) (by omega)]
  refine ⟨a6,a7,a8,?_,?_,a5⟩
  ·rw [a3,a1,List.map_map];rfl
  ·rw [a4,a1,List.map_map];rfl
theorem aI1 {tab:List Rate} {d:Date} {lines:List Line} (h:(cZ tab d lines).2=0):d.right=true∧bU (cZ tab d lines).1=true∧∀ p∈(cZ tab d lines).1.parts,I64 p.net∧I64 p.tax:=by
 have hf:=(vY h).1
 unfold cZ at h hf ⊢
 split at h
 ·simp at h
 ·rename_i h1
  split at h
  ·simp at h
  ·rename_i h2
   split at h
   ·simp at h
   ·rename_i h3
    split at h
    ·simp at h
    ·rename_i h4
     rw [if_neg h1,if_neg h2,if_neg h3,if_neg h4] at hf ⊢
     obtain ⟨ps,i1,i2,i3⟩:=bJw lines [] _ PInv.nil rfl h
     have hne:ps≠[]:=i3 (.inr (fun e=>h3 (by rw [e];rfl)))
     exact ⟨by simpa using h2,aVf i1 hne hf (by rw [i2];exact Prod.ext rfl h)⟩
def aI2 (p:Part):Part:={ p with net:=-p.net,tax:=-p.tax }
def aEq:Int:=-9223372036854775808
theorem aFw:∀ (l d:List Int) (r:List Int×Int),(∀ n∈l,I64 n)→aD nW (fun l=>(l,0)) l d=r→r.2=0→r.1=d++l.map (fun n=>-n)∧∀ n∈l,n≠aEq
 | [],d,r,_,h,_=>by subst h;simp [aD]
 | n::l,d,r,hl,h,h0=>by
  simp only [aD,nW,zV (hl n (List.mem_cons_self ..))] at h
  by_cases c:n=-9223372036854775808
  ·simp only [c,if_true] at h
   subst h;simp at h0
  ·simp only [c,if_false] at h
   obtain ⟨a,b⟩:=aFw l _ r (fun m hm=>hl m (List.mem_cons_of_mem _ hm)) h h0
   refine ⟨by rw [a,List.map_cons,List.append_assoc];rfl,fun m hm=>?_⟩
   rcases List.mem_cons.1 hm with rfl | hm
   ·exact c
   ·exact b m hm
theorem aFx {l:List Int} (hl:∀ n∈l,I64 n) (h:(fJ l).2=0):(fJ l).1=l.map (fun n=>-n)∧∀ n∈l,n≠aEq:=by
 have:=aFw l [] (fJ l) hl rfl h
 exact this
theorem aDf:∀ (l a:List Part) (r:List Part×Int),(∀ p∈l,I64 p.net∧I64 p.tax)→aD cX (fun l=>(l,0)) l a=r→r.2=0→r.1=a++l.map aI2∧∀ p∈l,p.net≠aEq∧p.tax≠aEq
 | [],a,r,_,h,_=>by subst h;simp [aD]
 | p::l,a,r,hl,h,h0=>by
  simp only [aD,cX] at h
  split at h
  ·rename_i r' he
   split at he
   ·rename_i hc;cases he;subst h;exact absurd h0 hc
   ·cases he
  ·rename_i s' he
   split at he
   ·cases he
   ·rename_i hc
    cases he
    have hp:=hl p (List.mem_cons_self ..)
    obtain ⟨e1,e2⟩:=aFx (l:=[p.net,p.tax]) (fun n hn=>by
     simp only [List.mem_cons,List.not_mem_nil,or_false] at hn
     rcases hn with rfl | rfl
     ·exact hp.1
     ·exact hp.2) (Decidable.not_not.1 hc)
    rw [e1] at h
    obtain ⟨q1,q2⟩:=aDf l _ r (fun m hm=>hl m (List.mem_cons_of_mem _ hm)) h h0
    refine ⟨by rw [q1,List.map_cons,List.append_assoc];rfl,fun m hm=>?_⟩
    rcases List.mem_cons.1 hm with rfl | hm
    ·exact ⟨e2 _ (List.mem_cons_self ..),e2 _ (List.mem_cons_of_mem _ (List.mem_cons_self ..))⟩
    ·exact q2 m hm
theorem aM9 {t:Total} (ht:∀ p∈t.parts,I64 p.net∧I64 p.tax) (h1:I64 t.net) (h2:I64 t.tax) (h3:I64 t.gross) (h:(aV t).2=0):
  (aV t).1=⟨-t.net,-t.tax,-t.gross,t.parts.map aI2⟩∧t.net≠aEq∧t.tax≠aEq∧t.gross≠aEq∧∀ p∈t.parts,p.net≠aEq∧p.tax≠aEq:=by
 unfold aV at h ⊢
 split at h
 ·rename_i hc;exact absurd h hc
 ·rename_i hc
  split at h
  ·rename_i hc2;exact absurd h hc2
  ·rename_i hc2
   rw [if_neg hc,if_neg hc2]
   obtain ⟨e1,e2⟩:=aFx (l:=[t.net,t.tax,t.gross]) (fun n hn=>by
    simp only [List.mem_cons,List.not_mem_nil,or_false] at hn
    rcases hn with rfl | rfl | rfl
    ·exact h1
    ·exact h2
    ·exact h3) (Decidable.not_not.1 hc)
   obtain ⟨q1,q2⟩:=aDf t.parts [] _ ht rfl (Decidable.not_not.1 hc2)
   rw [e1,q1]
   exact ⟨rfl,e2 _ (by simp),e2 _ (by simp),e2 _ (by simp),q2⟩
theorem aOy:∀ l:List Int,(l.map fun n=>-n).sum=-l.sum
 | []=>rfl
 | n::l=>by rw [List.map_cons,List.sum_cons,List.sum_cons,aOy l];omega
theorem aDg {t:Total} (ht:∀ p∈t.parts,I64 p.net∧I64 p.tax) (ho:bU t=true) (h:(aV t).2=0):bU (aV t).1=true∧(∀ p∈(aV t).1.parts,I64 p.net∧I64 p.tax)∧(aV t).1=⟨-t.net,-t.tax,-t.gross,t.parts.map aI2⟩:=by
 obtain ⟨o1,o2,o3,o4,o5⟩:=(fQ t).1 ho
 obtain ⟨s1,s2,s3,s4,s5,s6⟩:=(pG (fun p hp=>(ht p hp).1) (fun p hp=>(ht p hp).2) (by omega)).1 o5
 obtain ⟨b1,b2,b3,b4,b5⟩:=aM9 ht s1 s2 s3 h
 unfold aEq at b2 b3 b4 b5
 have hm:∀ p∈t.parts.map aI2,∃ q∈t.parts,p=aI2 q:=fun p hp=>by obtain ⟨q,hq,rfl⟩:=List.mem_map.1 hp;exact ⟨q,hq,rfl⟩
 have hi:∀ p∈t.parts.map aI2,I64 p.net∧I64 p.tax:=fun p hp=>by
  obtain ⟨q,hq,rfl⟩:=hm p hp
  have:=ht q hq
  have:=b5 q hq
  show I64 (-q.net)∧I64 (-q.tax)
  omega
 refine ⟨?_,by rw [b1];exact hi,b1⟩
 rw [b1,fQ]
 refine ⟨by simpa using o1,by simpa using o2,fun p hp=>?_,?_,?_⟩
 ·obtain ⟨q,hq,rfl⟩:=hm p hp
  have g:=o3 q hq
  exact ⟨g.name,g.lo,g.hi,(aM8 (ht q hq).1 g.lo g.hi (b5 q hq).1 g.tax).1⟩
 ·show (t.parts.map aI2).Pairwise _
  rw [List.pairwise_map];exact o4
 ·rw [pG (fun p hp=>(hi p hp).1) (fun p hp=>(hi p hp).2) (by simp;omega)]
  have e1:(t.parts.map aI2).map (·.net)=(t.parts.map (·.net)).map fun n=>-n:=by rw [List.map_map,List.map_map];rfl
  have e2:(t.parts.map aI2).map (·.tax)=(t.parts.map (·.tax)).map fun n=>-n:=by rw [List.map_map,List.map_map];rfl
  simp only [e1,e2,aOy]
  refine ⟨?_,?_,?_,?_,?_,?_⟩
  ·show I64 (-t.net);omega
  ·show I64 (-t.tax);omega
  ·show I64 (-t.gross);omega
  ·show -t.net=_;omega
  ·show -t.tax=_;omega
  ·show -t.gross=-t.net+-t.tax;omega
theorem aVg {y:Int} (h1:1≤y) (h2:y≤9999):Go.Proofs.YtoaibmbldmckaaaGreat.ahead y=365*(y - 1)+(y - 1) / 4 - (y - 1) / 100+(y - 1) / 400:=by
 unfold Go.Proofs.YtoaibmbldmckaaaGreat.ahead
 have a1:wr .i64 (y - 1)=y - 1:=dX (by omega)
 rw [a1]
 have a2:(y - 1).tdiv 4=(y - 1) / 4:=Int.tdiv_eq_ediv_of_nonneg (by omega)
 have a3:(y - 1).tdiv 100=(y - 1) / 100:=Int.tdiv_eq_ediv_of_nonneg (by omega)
 have a4:(y - 1).tdiv 400=(y - 1) / 400:=Int.tdiv_eq_ediv_of_nonneg (by omega)
 rw [a2,a3,a4]
 rw [dX (n:=365*(y - 1)) (by omega),dX (n:=(y - 1) / 4) (by omega),dX (n:=(y - 1) / 100) (by omega),dX (n:=(y - 1) / 400) (by omega)]
 rw [dX (n:=365*(y - 1)+(y - 1) / 4) (by omega),dX (n:=365*(y - 1)+(y - 1) / 4 - (y - 1) / 100) (by omega),dX (by omega)]
theorem gM (y m:Int):28≤eM y m∧eM y m≤31:=by
 unfold eM
 repeat' split
 all_goals omega
def fL (y:Int):Nat→Int
 | 0=>0
 | n+1=>fL y n+eM y ((n:Int)+1)
theorem mG (y:Int):∀ n:Nat,28*(n:Int)≤fL y n∧fL y n≤31*(n:Int)
 | 0=>by simp [fL]
 | n+1=>by
  have:=mG y n
  have:=gM y ((n:Int)+1)
  simp only [fL]
  omega
theorem aOz (y:Int):∀ (n k:Nat) (a:Int),-1000000000≤a→a≤1000000000→k+n≤1000→aD (gU y) id (List.range' k n) (a+fL y k)=a+fL y (k+n)
 | 0,k,a,_,_,_=>rfl
 | n+1,k,a,h1,h2,h3=>by
  have m1:=mG y k
  have m2:=gM y ((k:Int)+1)
  rw [List.range'_succ]
  simp only [aD,gU]
  rw [dX (by omega),Int.add_assoc]
  have:=aOz y n (k+1) a h1 h2 (by omega)
  rw [show k+(n+1)=k+1+n from by omega]
  exact this
theorem uJ (d:Date):d.right=true↔1≤d.y∧d.y≤9999∧1≤d.m∧d.m≤12∧1≤d.d∧d.d≤eM d.y d.m:=by
 unfold Date.right
 simp only [Bool.and_eq_true,decide_eq_true_eq]
theorem aP0 {d:Date} (h:d.right=true):d.days=365*(d.y - 1)+(d.y - 1) / 4 - (d.y - 1) / 100+(d.y - 1) / 400+fL d.y (d.m - 1).toNat+d.d - 1:=by
 obtain ⟨h1,h2,h3,h4,h5,h6⟩:=(uJ d).1 h
 unfold Date.days
 rw [if_pos h]
 have e:=aVg h1 h2
 have hr:=gM d.y d.m
 have hm:=mG d.y (d.m - 1).toNat
 have hl:=aOz d.y (d.m - 1).toNat 0 (Go.Proofs.YtoaibmbldmckaaaGreat.ahead d.y) (by rw [e];omega) (by rw [e];omega) (by omega)
 simp only [fL,Int.add_zero,Nat.zero_add] at hl
 rw [List.range_eq_range',hl,e,dX (n:=365*(d.y - 1)+(d.y - 1) / 4 - (d.y - 1) / 100+(d.y - 1) / 400+fL d.y (d.m - 1).toNat+d.d) (by omega),dX (by omega)]
theorem aVh (y:Int):fL y 12=365+(if aHs y=true then 1 else 0):=by
 simp only [fL,eM]
 by_cases c:aHs y=true<;>simp [c]
theorem aYc {y:Int} (h:0≤y):aHs y=decide (y % 4=0∧(y % 100≠0∨y % 400=0)):=by
 unfold aHs
 have a:y.tmod 4=y % 4:=Int.tmod_eq_emod_of_nonneg h
 have b:y.tmod 100=y % 100:=Int.tmod_eq_emod_of_nonneg h
 have c:y.tmod 400=y % 400:=Int.tmod_eq_emod_of_nonneg h
 rw [a,b,c]
 split
 ·rename_i h1
  split
  ·rename_i h2;simp [h1,h2]
  ·rename_i h2;simp [h1,h2]
 ·rename_i h1;simp [h1]
theorem aAn (y:Int):∀ (n k:Nat),fL y n+28*(k:Int)≤fL y (n+k)
 | n,0=>by simp
 | n,k+1=>by
  have:=aAn y n k
  have:=gM y (((n+k:Nat):Int)+1)
  show _≤fL y (n+k)+eM y (((n+k:Nat):Int)+1)
  omega
theorem aFy (y:Int) {n k:Nat} (h:n<k):fL y n+eM y ((n:Int)+1)≤fL y k:=by
 have:=aAn y (n+1) (k - (n+1))
 rw [show n+1+(k - (n+1))=k from by omega] at this
 simp only [fL] at this
 omega
theorem aP1 {a b:Date} (ha:a.right=true) (hb:b.right=true) (h:a.y<b.y∨a.y=b.y∧(a.m<b.m∨a.m=b.m∧a.d<b.d)):a.days<b.days:=by
 rw [aP0 ha,aP0 hb]
 obtain ⟨a1,a2,a3,a4,a5,a6⟩:=(uJ a).1 ha
 obtain ⟨b1,b2,b3,b4,b5,b6⟩:=(uJ b).1 hb
 have hma:∀ {d:Date},1≤d.m→(((d.m - 1).toNat:Nat):Int)+1=d.m:=fun h=>by omega
 rcases h with h | ⟨hy,h | ⟨h2,h⟩⟩
 ·
  have h12:fL a.y (a.m - 1).toNat+a.d≤fL a.y 12:=by
   have:=aFy a.y (n:=(a.m - 1).toNat) (k:=12) (by omega)
   rw [hma a3] at this
   omega
  rw [aVh,aYc (by omega)] at h12
  have h0:=(mG b.y (b.m - 1).toNat).1
  by_cases c:a.y % 4=0∧(a.y % 100≠0∨a.y % 400=0)
  ·rw [if_pos (by simpa using c)] at h12
   omega
  ·rw [if_neg (by simpa using c)] at h12
   omega
 ·have:=aFy a.y (n:=(a.m - 1).toNat) (k:=(b.m - 1).toNat) (by omega)
  rw [hma a3] at this
  rw [hy] at this ⊢
  rw [hy] at a6
  omega
 ·rw [hy,h2];omega
theorem aVi {a b:Date} (ha:a.right=true) (hb:b.right=true) (h:a.days=b.days):a=b:=by
 have h1:¬ (a.y<b.y∨a.y=b.y∧(a.m<b.m∨a.m=b.m∧a.d<b.d)):=fun q=>by have:=aP1 ha hb q;omega
 have h2:¬ (b.y<a.y∨b.y=a.y∧(b.m<a.m∨b.m=a.m∧b.d<a.d)):=fun q=>by have:=aP1 hb ha q;omega
 have e1:a.y=b.y:=by omega
 have e2:a.m=b.m:=by omega
 have e3:a.d=b.d:=by omega
 cases a;cases b
 simp only at e1 e2 e3
 rw [e1,e2,e3]
theorem aP2 {α:Type} (p:α→Bool):∀ (l:List α) (n:Nat),aD (cU p) (fun _=>-1) l n=-1→∀ a∈l,p a=false
 | [],n,_,a,h=>by cases h
 | x::l,n,h,a,ha=>by
  by_cases c:p x=true
  ·simp only [aD,cU,c,if_true] at h
   omega
  ·simp only [aD,cU,c,if_false] at h
   rcases List.mem_cons.1 ha with rfl | ha
   ·simpa using c
   ·exact aP2 p l (n+1) h a ha
theorem aYd {α:Type} {p:α→Bool} {l:List α} (h:ixM p l<0):∀ a∈l,p a=false:=by
 rcases gV p l with e | ⟨i,a,e,_⟩
 ·exact aP2 p l 0 e
 ·rw [e] at h;omega
theorem aFz {α:Type} (p:α→Bool):∀ (l:List α) (n i:Nat) (a:α),l[i]?=some a→p a=true→(∀ j b,j<i→l[j]?=some b→p b=false)→aD (cU p) (fun _=>-1) l n=((n+i:Nat):Int)
 | x::l,n,0,a,h,hp,_=>by
  cases h
  simp only [aD,cU,hp,if_true];rfl
 | x::l,n,i+1,a,h,hp,hj=>by
  have c:p x=false:=hj 0 x (by omega) rfl
  simp only [aD,cU,c,Bool.false_eq_true,if_false]
  rw [aFz p l (n+1) i a h hp (fun j b hji hb=>hj (j+1) b (by omega) hb)]
  omega
theorem aG0 {α:Type} {p:α→Bool} {l:List α} {i:Nat} {a:α} (h:l[i]?=some a) (hp:p a=true) (hj:∀ j b,j<i→l[j]?=some b→p b=false):ixM p l=(i:Int):=by
 have:=aFz p l 0 i a h hp hj
 rw [Nat.zero_add] at this
 exact this
theorem pH {l:List Ser} (hs:l.Pairwise (fun a b=>fN a.name b.name=true)) {i:Nat} {s:Ser} (h:l[i]?=some s):dE l s.name=(i:Int):=by
 refine aG0 h (by simp) (fun j b hj hb=>?_)
 have h1:=List.pairwise_iff_getElem.1 hs j i (List.getElem?_eq_some_iff.1 hb).1 (List.getElem?_eq_some_iff.1 h).1 hj
 rw [(List.getElem?_eq_some_iff.1 hb).2,(List.getElem?_eq_some_iff.1 h).2] at h1
 have:=bDv h1
 simpa using this
theorem wN {l:List Ser} {name:List UInt8} (h:dE l name<0):∀ s∈l,s.name≠name:=fun s hs=>by
 have:=aYd h s hs
 simpa using this
def rU (l:List Posted) (name:List UInt8):Int:=((l.filter fun p=>p.ref.ser == name).length:Int)
theorem gN (a b:List Posted) (name:List UInt8):rU (a++b) name=rU a name+rU b name:=by
 unfold rU;rw [List.filter_append,List.length_append];omega
theorem rE (p:Posted) (name:List UInt8):rU [p] name=if p.ref.ser=name then 1 else 0:=by
 unfold rU
 by_cases c:p.ref.ser=name
 ·simp [c]
 ·simp [c]
theorem nF (l:List Posted) (name:List UInt8):0≤rU l name:=by unfold rU;omega
structure Nums (ser:List Ser) (l:List Posted):Prop where
 num:∀ i p,l[i]?=some p→(∃ s∈ser,s.name=p.ref.ser)∧p.ref.num=rU (l.take i) p.ref.ser+1
 next:∀ s∈ser,s.next=rU l s.name+1
def lV (ser:List Ser) (l:List Posted):List Int:=ser.map (fun s=>rU l s.name)++List.replicate (8 - ser.length) 0
theorem kM {ser:List Ser} {l:List Posted} {i:Nat} {s:Ser} (h:ser[i]?=some s):(lV ser l)[i]?=some (rU l s.name):=by
 unfold lV
 rw [List.getElem?_append_left (by rw [List.length_map];exact (List.getElem?_eq_some_iff.1 h).1),List.getElem?_map,h]
 rfl
theorem aMa {ser:List Ser} (hs:ser.Pairwise (fun a b=>fN a.name b.name=true)) {l:List Posted} {p:Posted} {i:Nat} {s:Ser} (h:ser[i]?=some s) (hn:s.name=p.ref.ser):bump (lV ser l) i=lV ser (l++[p]):=by
 unfold bump
 rw [List.getD_eq_getElem?_getD,kM h]
 apply List.ext_getElem?
 intro j
 rw [List.getElem?_set]
 have hlen:ser.length≤(lV ser l).length:=by unfold lV;rw [List.length_append,List.length_map];omega
 have hi:=(List.getElem?_eq_some_iff.1 h).1
 split
 ·rename_i e
  subst e
  rw [if_pos (by omega),kM h,gN,rE,if_pos hn.symm]
  rfl
 ·rename_i e
  by_cases hj:j<ser.length
  ·have hjs:ser[j]?=some ser[j]:=List.getElem?_eq_getElem hj
   rw [kM hjs,kM hjs,gN,rE,if_neg,Int.add_zero]
   intro hc
   have e1:=pH hs hjs
   have e2:=pH hs h
   rw [hn,hc] at e2
   rw [e2] at e1
   exact e (by omega)
  ·unfold lV
   rw [List.getElem?_append_right (by rw [List.length_map];omega),List.getElem?_append_right (by rw [List.length_map];omega),List.length_map,List.length_map]
theorem bJx {ser:List Ser} (hs:ser.Pairwise (fun a b=>fN a.name b.name=true)) (h8:ser.length≤8) {fin:List Int→Bool}:∀ (l done:List Posted),aD (kR ser) fin l (lV ser done)=true ↔
  (∀ i p,l[i]?=some p→(∃ s∈ser,s.name=p.ref.ser)∧p.ref.num=rU (done++l.take i) p.ref.ser+1)∧fin (lV ser (done++l))=true
 | [],done=>by simp [aD]
 | p::l,done=>by
  by_cases c:dE ser p.ref.ser<0
  ·have e:kR ser (lV ser done) p=.inl false:=by unfold kR;rw [if_pos c]
   simp only [aD,e]
   constructor
   ·intro h;cases h
   ·rintro ⟨h,_⟩
    obtain ⟨⟨s,h1,h2⟩,_⟩:=h 0 p rfl
    exact absurd h2 (wN c s h1)
  ·rcases lA ser p.ref.ser with e | ⟨i,s,e,hi,hn⟩
   ·exact absurd (by rw [e];decide) c
   ·have hb:=aMa hs (l:=done) hi hn
    have hg:(lV ser (done++[p])).getD i 0=rU done p.ref.ser+1:=by
     rw [List.getD_eq_getElem?_getD,kM hi,gN,rE,if_pos hn.symm,hn];rfl
    by_cases q:p.ref.num=rU done p.ref.ser+1
    ·have es:kR ser (lV ser done) p=.inr (lV ser (done++[p])):=by
      unfold kR
      rw [if_neg c,e]
      simp only [Int.toNat_natCast]
      rw [hb,hg,if_pos q]
     simp only [aD,es]
     rw [bJx hs h8 l (done++[p])]
     constructor
     ·rintro ⟨h1,h2⟩
      refine ⟨fun j x hj=>?_,by rw [List.append_assoc] at h2;exact h2⟩
      cases j with
      | zero=>cases hj;exact ⟨⟨s,List.mem_of_getElem? hi,hn⟩,by simpa using q⟩
      | succ j=>have:=h1 j x hj;rw [List.append_assoc] at this;exact this
     ·rintro ⟨h1,h2⟩
      refine ⟨fun j x hj=>?_,by rw [List.append_assoc];exact h2⟩
      have:=h1 (j+1) x hj
      rw [List.append_assoc];exact this
    ·have es:kR ser (lV ser done) p=.inl false:=by
      unfold kR
      rw [if_neg c,e]
      simp only [Int.toNat_natCast]
      rw [hb,hg,if_neg q]
     simp only [aD,es]
     constructor
     ·intro h;cases h
     ·rintro ⟨h,_⟩
      have:=(h 0 p rfl).2
      simp only [List.take_zero,List.append_nil] at this
      exact absurd this q
theorem bJy:∀ (ser:List Ser) (is:List Int),aD jR (fun _=>true) ser is=true↔∀ i s,ser[i]?=some s→s.next=is.getD i 0+1
 | [],is=>by simp [aD]
 | s::l,is=>by
  have hh:is.headD 0=is.getD 0 0:=by cases is<;>rfl
  have ht:∀ j,is.tail.getD j 0=is.getD (j+1) 0:=fun j=>by cases is<;>simp
  by_cases c:s.next=is.getD 0 0+1
  ·have e:jR is s=.inr is.tail:=by unfold jR;rw [hh,if_pos c]
   simp only [aD,e]
   rw [bJy l is.tail]
   constructor
   ·intro h i x hx
    cases i with
    | zero=>cases hx;exact c
    | succ i=>have:=h i x hx;rwa [ht] at this
   ·intro h i x hx
    have:=h (i+1) x hx
    rwa [ht]
  ·have e:jR is s=.inl false:=by unfold jR;rw [hh,if_neg c]
   simp only [aD,e]
   constructor
   ·intro h;cases h
   ·intro h;exact absurd (h 0 s rfl) c
theorem yT {ser:List Ser} (hs:ser.Pairwise (fun a b=>fN a.name b.name=true)) (h8:ser.length≤8) (l:List Posted):mZ ser l=true↔Nums ser l:=by
 unfold mZ
 have h0:List.replicate 8 (0:Int)=lV ser []:=by
  unfold lV
  apply List.ext_getElem?
  intro j
  by_cases hj:j<ser.length
  ·rw [List.getElem?_append_left (by rw [List.length_map];exact hj),List.getElem?_map,List.getElem?_eq_getElem hj,List.getElem?_replicate,if_pos (by omega)];rfl
  ·rw [List.getElem?_append_right (by rw [List.length_map];omega),List.length_map,List.getElem?_replicate,List.getElem?_replicate]
   by_cases hj8:j<8
   ·rw [if_pos hj8,if_pos (by omega)]
   ·rw [if_neg hj8,if_neg (by omega)]
 rw [h0,bJx hs h8 l [],bJy]
 simp only [List.nil_append]
 constructor
 ·rintro ⟨h1,h2⟩
  refine ⟨h1,fun s hm=>?_⟩
  obtain ⟨i,hi⟩:=List.mem_iff_getElem?.1 hm
  have:=h2 i s hi
  rwa [List.getD_eq_getElem?_getD,kM hi] at this
 ·rintro ⟨h1,h2⟩
  refine ⟨h1,fun i s hi=>?_⟩
  rw [List.getD_eq_getElem?_getD,kM hi]
  exact h2 s (List.mem_of_getElem? hi)
def aK0:Posted:=⟨Ref.zero,⟨0,0,0⟩,Total.zero,Ref.zero,false⟩
def nG (p:Posted):Posted:={ p with back:=false }
def nL (done:List Posted) (p:Posted):Prop:=p.day.right=true∧bU p.total=true∧(p.of=Ref.zero∨0≤aX done p.of∧jQ p (done.getD (aX done p.of).toNat aK0)=true)
def eD (done:List Posted) (is:List Int) (p:Posted):List Int:=if p.of=Ref.zero then is else bump is (aX done p.of).toNat
def cH:List Posted→List Posted→List Int→List Int
 | _,[],is=>is
 | done,p::l,is=>cH (done++[p]) l (eD done is p)
def dA (l:List Posted):List Int:=cH [] l (List.replicate 40 0)
theorem aK1 {done:List Posted} {is:List Int} {p:Posted} (h:nL done p):fZ (done,is) p=.inr (done++[p],eD done is p):=by
 obtain ⟨h1,h2,h3⟩:=h
 unfold fZ eD
 rw [if_neg (by rw [h1];simp),if_neg (by rw [h2];simp)]
 by_cases c:p.of=Ref.zero
 ·rw [if_pos c,if_pos c]
 ·rw [if_neg c,if_neg c]
  rcases h3 with h3 | ⟨h3,h4⟩
  ·exact absurd h3 c
  ·simp only
   rw [if_neg (by omega)]
   unfold aK0 at h4
   rw [h4]
   simp
theorem aK2 {done:List Posted} {is:List Int} {p:Posted} (h:¬ nL done p):fZ (done,is) p=.inl false:=by
 unfold fZ
 split
 ·rfl
 ·rename_i h1
  split
  ·rfl
  ·rename_i h2
   have h1:p.day.right=true:=by simpa using h1
   have h2:bU p.total=true:=by simpa using h2
   split
   ·rename_i h3;exact absurd ⟨h1,h2,.inl h3⟩ h
   ·split
    ·rfl
    ·rename_i h4
     split
     ·rfl
     ·rename_i h5
      exact absurd ⟨h1,h2,.inr ⟨by simp only at h4;omega,(Bool.not_eq_false _).mp h5⟩⟩ h
theorem bCn {fin:List Posted×List Int→Bool}:∀ (l done:List Posted) (is:List Int),aD fZ fin l (done,is)=true↔(∀ i p,l[i]?=some p→nL (done++l.take i) p)∧fin (done++l,cH done l is)=true
 | [],done,is=>by simp [aD,cH]
 | p::l,done,is=>by
  by_cases c:nL done p
  ·simp only [aD,aK1 c]
   rw [bCn l (done++[p]) _]
   simp only [cH]
   constructor
   ·rintro ⟨h1,h2⟩
    refine ⟨fun j x hj=>?_,by rw [List.append_assoc] at h2;exact h2⟩
    cases j with
    | zero=>cases hj;simpa using c
    | succ j=>have:=h1 j x hj;rw [List.append_assoc] at this;exact this
   ·rintro ⟨h1,h2⟩
    refine ⟨fun j x hj=>?_,by rw [List.append_assoc];exact h2⟩
    have:=h1 (j+1) x hj
    rw [List.append_assoc];exact this
  ·simp only [aD,aK2 c]
   constructor
   ·intro h;cases h
   ·rintro ⟨h,_⟩
    have:=h 0 p rfl
    simp only [List.take_zero,List.append_nil] at this
    exact absurd this c
theorem bJz:∀ (l:List Posted) (is:List Int),aD gX (fun _=>true) l is=true↔∀ i p,l[i]?=some p→is.getD i 0≤1∧p.back=decide (is.getD i 0=1)
 | [],is=>by simp [aD]
 | s::l,is=>by
  have hh:is.headD 0=is.getD 0 0:=by cases is<;>rfl
  have ht:∀ j,is.tail.getD j 0=is.getD (j+1) 0:=fun j=>by cases is<;>simp
  by_cases c:is.getD 0 0≤1∧s.back=decide (is.getD 0 0=1)
  ·have e:gX is s=.inr is.tail:=by unfold gX;rw [hh,if_neg (by omega),if_pos c.2]
   simp only [aD,e]
   rw [bJz l is.tail]
   constructor
   ·intro h i x hx
    cases i with
    | zero=>cases hx;exact c
    | succ i=>have:=h i x hx;rwa [ht] at this
   ·intro h i x hx
    have:=h (i+1) x hx
    rwa [ht]
  ·have e:gX is s=.inl false:=by
    unfold gX
    rw [hh]
    split
    ·rfl
    ·split
     ·rename_i h1 h2;exact absurd ⟨by omega,h2⟩ c
     ·rfl
   simp only [aD,e]
   constructor
   ·intro h;cases h
   ·intro h;exact absurd (h 0 s rfl) c
theorem dS (l:List Posted):iP l=true↔l.length≤40∧(∀ i p,l[i]?=some p→nL (l.take i) p)∧∀ i p,l[i]?=some p→(dA l).getD i 0≤1∧p.back=decide ((dA l).getD i 0=1):=by
 unfold iP
 split
 ·rename_i h;simp;omega
 ·rename_i h
  rw [bCn l [] _,bJz]
  simp only [List.nil_append]
  exact ⟨fun ⟨a,b⟩=>⟨by omega,a,b⟩,fun ⟨_,a,b⟩=>⟨a,b⟩⟩
theorem oF:∀ (l done:List Posted) (is:List Int) (p:Posted),cH done (l++[p]) is=eD (done++l) (cH done l is) p
 | [],done,is,p=>by simp [cH]
 | x::l,done,is,p=>by
  simp only [List.cons_append,cH]
  rw [oF l]
  rw [List.append_assoc];rfl
theorem oN (l:List Posted) (p:Posted):dA (l++[p])=eD l (dA l) p:=by
 unfold dA
 rw [oF,List.nil_append]
theorem pI:∀ (l done:List Posted) (is:List Int),(∀ i,0≤is.getD i 0)→(∀ i,done.length≤i→is.getD i 0=0)→(∀ i p,l[i]?=some p→nL (done++l.take i) p)→
  (∀ i,0≤(cH done l is).getD i 0)∧(∀ i,(done++l).length≤i→(cH done l is).getD i 0=0)∧(cH done l is).length=is.length
 | [],done,is,h1,h2,_=>⟨h1,by rw [List.append_nil];exact h2,rfl⟩
 | p::l,done,is,h1,h2,h3=>by
  simp only [cH]
  have hp:=h3 0 p rfl
  simp only [List.take_zero,List.append_nil] at hp
  have hb:∀ i,(eD done is p).getD i 0=is.getD i 0∨i<done.length∧(eD done is p).getD i 0=is.getD i 0+1:=by
   intro i
   unfold eD
   split
   ·exact .inl rfl
   ·rename_i hc
    obtain ⟨hp1,_⟩:=hp.2.2.resolve_left hc
    rcases mE done p.of with e | ⟨k,x,e,hk,_⟩
    ·omega
    ·have hkl:=(List.getElem?_eq_some_iff.1 hk).1
     rw [e,Int.toNat_natCast]
     unfold bump
     simp only [List.getD_eq_getElem?_getD,List.getElem?_set]
     by_cases q:k=i
     ·rw [if_pos q]
      subst q
      split
      ·exact .inr ⟨hkl,rfl⟩
      ·rename_i hn;left;rw [List.getElem?_eq_none (by omega)]
     ·rw [if_neg q];exact .inl rfl
  have hl:(eD done is p).length=is.length:=by
   unfold eD
   split
   ·rfl
   ·exact yN _ _
  obtain ⟨a,b,c⟩:=pI l (done++[p]) (eD done is p) (fun i=>by have:=h1 i;rcases hb i with h | ⟨_,h⟩<;>omega)
   (fun i hi=>by
    rw [List.length_append] at hi
    simp only [List.length_cons,List.length_nil] at hi
    have:=h2 i (by omega)
    rcases hb i with h | ⟨h0,h⟩<;>omega)
   (fun i x hx=>by have:=h3 (i+1) x hx;rw [List.append_assoc];exact this)
  refine ⟨a,fun i hi=>b i (by rw [List.append_assoc];exact hi),c.trans hl⟩
theorem rF {l:List Posted} (h:∀ i p,l[i]?=some p→nL (l.take i) p):(∀ i,0≤(dA l).getD i 0)∧(∀ i,l.length≤i→(dA l).getD i 0=0)∧(dA l).length=40:=by
 have hz:∀ i,(List.replicate 40 (0:Int)).getD i 0=0:=fun i=>by
  rw [List.getD_eq_getElem?_getD,List.getElem?_replicate];split<;>rfl
 have:=pI l [] (List.replicate 40 0) (fun i=>by rw [hz];omega) (fun i _=>hz i) (by simpa using h)
 simp only [List.nil_append,List.length_replicate] at this
 exact this
theorem zY (l:List Posted) (r:Ref):aX (l.map nG) r=aX l r:=by
 unfold aX
 rw [←aXu]
 rfl
theorem aQu (p q:Posted):jQ (nG p) (nG q)=jQ p q:=rfl
theorem aYe (l:List Posted) (k:Nat):(l.map nG).getD k aK0=nG (l.getD k aK0):=by
 rw [List.getD_eq_getElem?_getD,List.getD_eq_getElem?_getD,List.getElem?_map]
 cases l[k]?<;>rfl
theorem aP3 (done:List Posted) (p:Posted):nL (done.map nG) (nG p)↔nL done p:=by
 unfold nL
 rw [aYe,aQu]
 show _∧_∧(p.of=Ref.zero∨0≤aX (done.map nG) p.of∧_)↔_
 have e:aX (done.map nG) (nG p).of=aX done p.of:=zY done p.of
 rw [e,zY]
 exact Iff.rfl
theorem uZ:∀ (l done:List Posted) (is:List Int),cH (done.map nG) (l.map nG) is=cH done l is
 | [],_,_=>rfl
 | p::l,done,is=>by
  simp only [List.map_cons,cH]
  have e:eD (done.map nG) is (nG p)=eD done is p:=by
   unfold eD
   show (if p.of=Ref.zero then is else bump is (aX (done.map nG) p.of).toNat)=_
   rw [zY]
  rw [e]
  have:=uZ l (done++[p]) (eD done is p)
  rw [List.map_append] at this
  exact this
theorem aG1 (l:List Posted):dA (l.map nG)=dA l:=uZ l [] _
theorem aDh (l:List Posted) (k:Nat):(eB l k).map nG=l.map nG:=by
 unfold eB
 split
 ·rfl
 ·rename_i p hp
  apply List.ext_getElem?
  intro j
  rw [List.getElem?_map,List.getElem?_map,List.getElem?_set]
  split
  ·rename_i e;subst e;rw [if_pos (List.getElem?_eq_some_iff.1 hp).1,hp];rfl
  ·rfl
theorem aVj {l m:List Posted} (e:l.map nG=m.map nG) (h:∀ i p,l[i]?=some p→nL (l.take i) p):∀ i p,m[i]?=some p→nL (m.take i) p:=by
 intro i p hp
 have h1:(l.map nG)[i]?=some (nG p):=by rw [e,List.getElem?_map,hp];rfl
 rw [List.getElem?_map] at h1
 cases hq:l[i]? with
 | none=>rw [hq] at h1;cases h1
 | some q=>
  rw [hq] at h1
  have hqp:nG q=nG p:=Option.some.inj h1
  have:=h i q hq
  rw [←aP3,List.map_take,hqp,e,←List.map_take,aP3] at this
  exact this
theorem aAo {fin:List Bal→List Bal×Int}:∀ (l:List Posted) (a b:List Bal),aD bG (fun b=>(b,0)) l a=(b,0)→aD bG fin l a=fin b
 | [],a,b,h=>by cases h;rfl
 | p::l,a,b,h=>by
  simp only [aD] at h ⊢
  split at h
  ·rename_i r he
   unfold bG at he
   split at he
   ·rename_i hc;cases he;exact absurd (congrArg Prod.snd h) hc
   ·split at he
    ·rename_i hc;cases he;exact absurd (congrArg Prod.snd h) hc
    ·cases he
  ·exact aAo l _ b h
theorem aI3 {l:List Posted} {b:List Bal} (h:dQ l=(b,0)) {p:Posted} (h1:(cC p.total).2=0) (h2:(bC b (cC p.total).1).2=0):dQ (l++[p])=((bC b (cC p.total).1).1,0):=by
 unfold dQ at h ⊢
 rw [aAk,aAo l [] b h]
 simp only [aD,bG,h1,h2,ne_eq,not_true_eq_false,if_false]
theorem wP {fin:List Bal→List Bal×Int}:∀ (l:List Posted) (a:List Bal),aD bG fin (l.map nG) a=aD bG fin l a
 | [],_=>rfl
 | p::l,a=>by
  simp only [List.map_cons,aD]
  have e:bG a (nG p)=bG a p:=rfl
  rw [e]
  split
  ·rfl
  ·exact wP l _
theorem aMb {l m:List Posted} (e:l.map nG=m.map nG):dQ l=dQ m:=by
 unfold dQ
 rw [←wP l,e,wP]
theorem aI4 (l:List Posted) (name:List UInt8):rU (l.map nG) name=rU l name:=by
 unfold rU
 rw [List.filter_map,List.length_map]
 rfl
theorem aYf {ser:List Ser} {l m:List Posted} (e:l.map nG=m.map nG) (h:Nums ser l):Nums ser m:=by
 refine ⟨fun i p hp=>?_,fun s hs=>by rw [h.next s hs,←aI4 l,e,aI4]⟩
 have h1:(l.map nG)[i]?=some (nG p):=by rw [e,List.getElem?_map,hp];rfl
 rw [List.getElem?_map] at h1
 cases hq:l[i]? with
 | none=>rw [hq] at h1;cases h1
 | some q=>
  rw [hq] at h1
  have hqp:nG q=nG p:=Option.some.inj h1
  have hr:(nG q).ref=(nG p).ref:=congrArg Posted.ref hqp
  have hr:q.ref=p.ref:=hr
  obtain ⟨a,b⟩:=h.num i q hq
  rw [hr] at a b
  refine ⟨a,?_⟩
  rw [b,←aI4,List.map_take,e,←List.map_take,aI4]
theorem aK3 {l:List Sess} (hs:l.Pairwise (fun a b=>a.id<b.id)) (n:Int):qV l n=true↔∀ s∈l,s.id<n:=by
 unfold qV
 cases h:l[l.length - 1]? with
 | none=>
  have:l=[]:=by
   rw [List.getElem?_eq_none_iff] at h
   cases l with
   | nil=>rfl
   | cons a l=>simp only [List.length_cons] at h;omega
  subst this
  simp
 | some s=>
  simp only [decide_eq_true_eq]
  constructor
  ·intro hn x hx
   obtain ⟨i,hi⟩:=List.mem_iff_getElem?.1 hx
   have hil:=(List.getElem?_eq_some_iff.1 hi).1
   by_cases c:i=l.length - 1
   ·subst c;rw [h] at hi;cases hi;exact hn
   ·have h1:=List.pairwise_iff_getElem.1 hs i (l.length - 1) hil (by omega) (by omega)
    rw [(List.getElem?_eq_some_iff.1 h).2,(List.getElem?_eq_some_iff.1 hi).2] at h1
    omega
  ·intro q;exact q s (List.mem_of_getElem? h)
def oO (l:List Sess) (n:Int):Prop:=l.length≤8∧(∀ s∈l,0<s.id∧0≤s.last∧s.last≤1099511627776∧(s.last=0→s.reply=Rep.zero))∧l.Pairwise (fun a b=>a.id<b.id)∧1≤n∧n≤1099511627776∧∀ s∈l,s.id<n
theorem vA (s:State):gY s=true↔oO s.sess s.next:=by
 unfold gY oO
 constructor
 ·intro h
  repeat' split at h
  all_goals first | (cases h;done) | skip
  rename_i h1 h2 h3
  obtain ⟨a,b,c⟩:=(uE _).1 h1
  exact ⟨a,b,c,h2,h3,(aK3 c _).1 h⟩
 ·rintro ⟨a,b,c,d,e,f⟩
  rw [if_pos ((uE _).2 ⟨a,b,c⟩),if_pos d,if_pos e]
  exact (aK3 c _).2 f
theorem bV (s:State):bB s=true↔dW s.table=true∧kK s.ser=true∧oO s.sess s.next∧iP s.posted=true∧Nums s.ser s.posted∧dQ s.posted=(s.book,0):=by
 rw [←vA]
 unfold bB
 constructor
 ·intro h
  repeat' split at h
  all_goals first | (cases h;done) | skip
  rename_i h1 h2 h3 h4 h5 h6
  have h2':kK s.ser=true:=by simpa using h2
  obtain ⟨a,b,c⟩:=(dY _).1 h2'
  exact ⟨by simpa using h1,h2',by simpa using h3,by simpa using h4,(yT c a _).1 (by simpa using h5),Prod.ext (of_decide_eq_true h) h6⟩
 ·rintro ⟨h1,h2,h3,h4,h5,h6⟩
  obtain ⟨a,b,c⟩:=(dY _).1 h2
  rw [if_neg (by rw [h1];simp),if_neg (by rw [h2];simp),if_neg (by rw [h3];simp),if_neg (by rw [h4];simp),if_neg (by rw [(yT c a _).2 h5];simp),if_pos (by rw [h6])]
  rw [h6];simp
theorem aDi {l:List Ser} {name:List UInt8} {limit:Int} (h:(eZ l name limit).2=0):kK (eZ l name limit).1=true∧(∀ s,s∈(eZ l name limit).1↔s=⟨name,1,limit,false⟩∨s∈l)∧(∀ s∈l,s.name≠name)∧l.length<8:=by
 unfold eZ at h ⊢
 split at h
 ·simp at h
 ·rename_i h1
  split at h
  ·simp at h
  ·rename_i h2
   split at h
   ·simp at h
   ·rename_i h3
    split at h
    ·simp at h
    ·rename_i h4
     split at h
     ·simp at h
     ·rename_i h5
      rw [if_neg h1,if_neg h2,if_neg h3,if_neg h4,if_neg h5]
      obtain ⟨a,b,c⟩:=(dY l).1 (by simpa using h1)
      have hn:=wN (l:=l) (name:=name) (by omega)
      refine ⟨?_,fun s=>hN _ _ _ _,hn,by omega⟩
      simp only
      rw [dY]
      refine ⟨by have:=pD l (mX (fun s=>fN s.name name) l) ⟨name,1,limit,false⟩;omega,fun s hs=>?_,?_⟩
      ·rcases (hN _ _ _ _).1 hs with rfl | hs
       ·refine ⟨by simpa using h2,?_⟩
        unfold kJ
        rw [dX (by simp only;omega)]
        simp;omega
       ·exact b s hs
      ·rw [uG]
       refine rC c (fun a b c=>iX) (fun x hx hp=>hp) (fun x hx hp=>?_)
       rcases aBr x.name name with q | q | q
       ·rw [hp] at q;cases q
       ·exact absurd q (hn x hx)
       ·exact q
theorem aVk {l:List Ser} {name:List UInt8} (h:(pB l name).2=0):kK (pB l name).1=true∧∃ (i:Nat) (s:Ser),l[i]?=some s∧s.name=name∧(pB l name).1=l.set i { s with shut:=true }:=by
 unfold pB at h ⊢
 split at h
 ·rename_i hc;exact absurd h hc
 ·rename_i hc
  rw [if_neg hc]
  obtain ⟨h1,i,s,e1,e2,h3,h4,h5⟩:=yK (Decidable.not_not.1 hc)
  rw [e1]
  simp only [Int.toNat_natCast,h3]
  refine ⟨?_,i,s,h3,h4,rfl⟩
  obtain ⟨a,b,c⟩:=(dY l).1 h1
  rw [dY]
  refine ⟨by rw [List.length_set];exact a,fun x hx=>?_,wM (key:=fun s:Ser=>s.name) c h3 rfl⟩
  rcases List.mem_or_eq_of_mem_set hx with hx | rfl
  ·exact b x hx
  ·exact b s (List.mem_of_getElem? h3)
theorem aVl {l:List Ser} {name:List UInt8} (h:(cJ l name).2.2=0):kK (cJ l name).1=true∧∃ (i:Nat) (s:Ser),l[i]?=some s∧s.name=name∧s.shut=false∧s.next≤s.limit∧(cJ l name)=(l.set i { s with next:=s.next+1 },s.next,0):=by
 unfold cJ at h ⊢
 split at h
 ·rename_i hc;exact absurd h hc
 ·rename_i hc
  rw [if_neg hc]
  obtain ⟨h1,i,s,e1,e2,h3,h4,h5⟩:=yK (Decidable.not_not.1 hc)
  rw [e1] at h ⊢
  simp only [Int.toNat_natCast,h3] at h ⊢
  split at h
  ·simp at h
  ·rename_i h6
   rw [if_neg h6]
   obtain ⟨a,b,c⟩:=(dY l).1 h1
   have hb:=(b s (List.mem_of_getElem? h3)).2
   unfold kJ at hb
   simp only [Bool.or_eq_false_iff,decide_eq_false_iff_not] at hb
   obtain ⟨b1,b2,b3,b4⟩:=hb
   rw [dX (by omega)] at b4
   rw [dX (n:=s.next+1) (by omega)]
   refine ⟨?_,i,s,h3,h4,h5,by omega,rfl⟩
   rw [dY]
   refine ⟨by rw [List.length_set];exact a,fun x hx=>?_,wM (key:=fun s:Ser=>s.name) c h3 rfl⟩
   rcases List.mem_or_eq_of_mem_set hx with hx | rfl
   ·exact b x hx
   ·refine ⟨(b s (List.mem_of_getElem? h3)).1,?_⟩
    unfold kJ
    rw [dX (by simp only;omega)]
    simp only [Bool.or_eq_false_iff,decide_eq_false_iff_not]
    omega
theorem aQv {l:List Ser} {post:List Posted} {name:List UInt8} {limit:Int} (h:(eZ l name limit).2=0) (hn:Nums l post):Nums (eZ l name limit).1 post:=by
 obtain ⟨_,hm,hne,_⟩:=aDi h
 refine ⟨fun i p hp=>?_,fun s hs=>?_⟩
 ·obtain ⟨⟨s,h1,h2⟩,h3⟩:=hn.num i p hp
  exact ⟨⟨s,(hm s).2 (.inr h1),h2⟩,h3⟩
 ·rcases (hm s).1 hs with rfl | hs
  ·have:rU post name=0:=by
    unfold rU
    rw [List.filter_eq_nil_iff.2]
    ·rfl
    ·intro p hp hc
     obtain ⟨i,hi⟩:=List.mem_iff_getElem?.1 hp
     obtain ⟨⟨s,h1,h2⟩,_⟩:=hn.num i p hi
     exact hne s h1 (by rw [h2];simpa using hc)
   show (1:Int)=rU post name+1
   omega
  ·exact hn.next s hs
theorem aVm {l:List Ser} {post:List Posted} {i:Nat} {s:Ser} (hi:l[i]?=some s) (hn:Nums l post):Nums (l.set i { s with shut:=true }) post:=by
 have hmem:{ s with shut:=true }∈l.set i { s with shut:=true }:=List.mem_of_getElem? (i:=i) (by rw [List.getElem?_set,if_pos rfl,if_pos (List.getElem?_eq_some_iff.1 hi).1])
 refine ⟨fun j p hp=>?_,fun x hx=>?_⟩
 ·obtain ⟨⟨y,h1,h2⟩,h3⟩:=hn.num j p hp
  obtain ⟨k,hk⟩:=List.mem_iff_getElem?.1 h1
  refine ⟨?_,h3⟩
  by_cases c:i=k
  ·subst c;rw [hi] at hk;cases hk;exact ⟨_,hmem,h2⟩
  ·exact ⟨y,List.mem_of_getElem? (i:=k) (by rw [List.getElem?_set,if_neg c];exact hk),h2⟩
 ·rcases List.mem_or_eq_of_mem_set hx with hx | rfl
  ·exact hn.next x hx
  ·exact hn.next s (List.mem_of_getElem? hi)
theorem aQw {l:List Ser} (hs:l.Pairwise (fun a b=>fN a.name b.name=true)) {post:List Posted} {i:Nat} {s:Ser} (hi:l[i]?=some s) (hn:Nums l post) {p:Posted} (hp:p.ref=⟨s.name,s.next⟩):Nums (l.set i { s with next:=s.next+1 }) (post++[p]):=by
 have hmem:{ s with next:=s.next+1 }∈l.set i { s with next:=s.next+1 }:=List.mem_of_getElem? (i:=i) (by rw [List.getElem?_set,if_pos rfl,if_pos (List.getElem?_eq_some_iff.1 hi).1])
 have hrs:p.ref.ser=s.name:=by rw [hp]
 have hrn:p.ref.num=s.next:=by rw [hp]
 refine ⟨fun j q hq=>?_,fun x hx=>?_⟩
 ·by_cases hj:j<post.length
  ·rw [List.getElem?_append_left hj] at hq
   rw [List.take_append_of_le_length (by omega)]
   obtain ⟨⟨y,h1,h2⟩,h3⟩:=hn.num j q hq
   obtain ⟨k,hk⟩:=List.mem_iff_getElem?.1 h1
   refine ⟨?_,h3⟩
   by_cases c:i=k
   ·subst c;rw [hi] at hk;cases hk;exact ⟨_,hmem,h2⟩
   ·exact ⟨y,List.mem_of_getElem? (i:=k) (by rw [List.getElem?_set,if_neg c];exact hk),h2⟩
  ·have hjl:j=post.length:=by
    have:=(List.getElem?_eq_some_iff.1 hq).1
    simp only [List.length_append,List.length_cons,List.length_nil] at this
    omega
   subst hjl
   rw [List.getElem?_append_right (Nat.le_refl _),Nat.sub_self] at hq
   cases hq
   rw [List.take_append_of_le_length (Nat.le_refl _),List.take_length,hrs,hrn]
   exact ⟨⟨_,hmem,rfl⟩,hn.next s (List.mem_of_getElem? hi)⟩
 ·rw [gN,rE,hrs]
  obtain ⟨k,hk⟩:=List.mem_iff_getElem?.1 hx
  rw [List.getElem?_set] at hk
  by_cases c:i=k
  ·rw [if_pos c,if_pos (List.getElem?_eq_some_iff.1 hi).1] at hk
   cases hk
   have:=hn.next s (List.mem_of_getElem? hi)
   simp only [if_true]
   omega
  ·rw [if_neg c] at hk
   have e1:=pH hs hk
   have e2:=pH hs hi
   have hne:¬ s.name=x.name:=fun e=>by rw [e,e1] at e2;exact c (by omega)
   rw [if_neg hne,Int.add_zero]
   exact hn.next x (List.mem_of_getElem? hk)
theorem bK0 {r:Rate}:∀ (l:List Rate) (k n:Nat),aD (kQ r) some l k=some n→(∀ x∈l,¬ (x.cat=r.cat∧x.day=r.day))∧n=k+(l.filter fun x=>eH x r).length
 | [],k,n,h=>by cases h;simp
 | x::l,k,n,h=>by
  simp only [aD] at h
  split at h
  ·rename_i r' he
   unfold kQ at he
   split at he
   ·cases he;cases h
   ·cases he
  ·rename_i s' he
   unfold kQ at he
   split at he
   ·cases he
   ·rename_i hc
    cases he
    obtain ⟨a,b⟩:=bK0 l _ n h
    refine ⟨fun y hy=>?_,?_⟩
    ·rcases List.mem_cons.1 hy with rfl | hy
     ·simpa using hc
     ·exact a y hy
    ·rw [b,List.filter_cons]
     split
     ·rw [List.length_cons];omega
     ·rfl
theorem vB {α:Type} {p:α→Bool} {R:α→α→Prop}:∀ {l:List α},l.Pairwise R→(∀ a b,R a b→p b=true→p a=true)→l.filter p=l.takeWhile p
 | [],_,_=>rfl
 | x::l,hl,hp=>by
  rw [List.pairwise_cons] at hl
  rw [List.filter_cons,List.takeWhile_cons]
  split
  ·rw [vB hl.2 hp]
  ·rename_i c
   rw [List.filter_eq_nil_iff]
   intro y hy hc
   exact c (hp x y (hl.1 y hy) hc)
theorem aMc {l:List Rate} {r:Rate} (h:(gW l r).2=0):dW (gW l r).1=true∧(gW l r).1=eG l (mX (fun x=>eH x r) l) r∧(∀ x∈l,¬ (x.cat=r.cat∧x.day=r.day)):=by
 unfold gW at h ⊢
 split at h
 ·simp at h
 ·rename_i h1
  split at h
  ·rename_i h2;exact absurd h h2
  ·rename_i h2
   rw [if_neg h1,if_neg h2]
   cases hr:aD (kQ r) some l 0 with
   | none=>rw [hr] at h;simp at h
   | some k=>
    rw [hr] at h
    simp only at h ⊢
    split at h
    ·simp at h
    ·rename_i h3
     rw [if_neg h3]
     obtain ⟨a,b,c⟩:=(nC l).1 (by simpa using h1)
     obtain ⟨hne,hk⟩:=bK0 l 0 k hr
     have hpre:=vB (p:=fun x=>eH x r) c (fun a b=>rA)
     have hk':k=mX (fun x=>eH x r) l:=by
      unfold mX
      rw [uF,hk,hpre]
     rw [hk']
     refine ⟨?_,rfl,hne⟩
     rw [nC]
     have hrow:rS r=0:=Decidable.not_not.1 h2
     refine ⟨by have:=pD l (mX (fun x=>eH x r) l) r;simp only;omega,fun x hx=>?_,?_⟩
     ·rcases (hN _ _ _ _).1 hx with rfl | hx
      ·exact hrow
      ·exact b x hx
     ·rw [uG]
      refine rC c (fun a b c=>rA) (fun x hx hp=>hp) (fun x hx hp=>?_)
      rw [wK]
      have hp':¬ (fN x.cat r.cat=true∨x.cat=r.cat∧x.day.before r.day=true):=fun q=>by rw [(wK x r).2 q] at hp;cases hp
      rcases aBr x.cat r.cat with q | q | q
      ·exact absurd (.inl q) hp'
      ·refine .inr ⟨q.symm,?_⟩
       have hx1:=(uH (b x hx)).2.1
       have hr1:=(uH hrow).2.1
       unfold Date.before at hp' ⊢
       simp only [hx1,hr1,Bool.true_and,decide_eq_true_eq] at hp' ⊢
       have hd:x.day.days≠r.day.days:=fun e=>hne x hx ⟨q,aVi hx1 hr1 e⟩
       have:¬ x.day.days<r.day.days:=fun e=>hp' (.inr ⟨q,e⟩)
       omega
      ·exact .inl q
theorem pJ {s:State} {name:List UInt8} {p:Posted} (h:(aS s name p).2.why=0):
  (cJ s.ser name).2.2=0∧s.posted.length<40∧(cC p.total).2=0∧(bC s.book (cC p.total).1).2=0 ∧
   aS s name p=({ s with ser:=(cJ s.ser name).1,book:=(bC s.book (cC p.total).1).1,posted:=s.posted++[{ p with ref:=⟨name,(cJ s.ser name).2.1⟩ }] },⟨0,(cJ s.ser name).2.1,p.total.gross⟩):=by
 unfold aS at h ⊢
 split at h
 ·rename_i hc;exact absurd h hc
 ·rename_i h1
  split at h
  ·simp [why] at h
  ·rename_i h2
   split at h
   ·rename_i hc;exact absurd h hc
   ·rename_i h3
    split at h
    ·rename_i hc;exact absurd h hc
    ·rename_i h4
     rw [if_neg h1,if_neg h2,if_neg h3,if_neg h4]
     exact ⟨Decidable.not_not.1 h1,by omega,Decidable.not_not.1 h3,Decidable.not_not.1 h4,rfl⟩
theorem aG2 {s:State} {name:List UInt8} {p:Posted} (h:(aS s name p).2.why≠0):(aS s name p).1=s∧(aS s name p).2=why (aS s name p).2.why:=by
 unfold aS at h ⊢
 split at h
 ·rename_i h1;rw [if_pos h1];exact ⟨rfl,rfl⟩
 ·rename_i h1
  rw [if_neg h1]
  split at h
  ·rename_i h2;rw [if_pos h2];exact ⟨rfl,rfl⟩
  ·rename_i h2
   rw [if_neg h2]
   split at h
   ·rename_i h3;rw [if_pos h3];exact ⟨rfl,rfl⟩
   ·rename_i h3
    rw [if_neg h3]
    split at h
    ·rename_i h4;rw [if_pos h4];exact ⟨rfl,rfl⟩
    ·exact absurd rfl h
theorem aAp {s:State} {name:List UInt8} {p:Posted} (hr:bB s=true) (h:(aS s name p).2.why=0) {X:List Posted} (hX:X.map nG=(s.posted++[{ p with ref:=⟨name,(cJ s.ser name).2.1⟩ }]).map nG)
  (hok:nL s.posted p) (hback:∀ i q,X[i]?=some q→(dA X).getD i 0≤1∧q.back=decide ((dA X).getD i 0=1)):
  bB { (aS s name p).1 with posted:=X }=true:=by
 obtain ⟨h1,h2,h3,h4,h5⟩:=pJ h
 obtain ⟨r1,r2,r3,r4,r5,r6⟩:=(bV s).1 hr
 obtain ⟨t1,i,ser,t2,t3,t4,t5,t6⟩:=aVl h1
 rw [h5,bV]
 obtain ⟨c1,c2,c3⟩:=(dY s.ser).1 r2
 refine ⟨r1,t1,r3,?_,?_,?_⟩
 ·show iP X=true
  rw [dS] at r4 ⊢
  refine ⟨?_,aVj hX.symm (fun j q hq=>?_),hback⟩
  ·have:=congrArg List.length hX
   simp only [List.length_map,List.length_append,List.length_cons,List.length_nil] at this
   omega
  ·by_cases hj:j<s.posted.length
   ·rw [List.getElem?_append_left hj] at hq
    rw [List.take_append_of_le_length (by omega)]
    exact r4.2.1 j q hq
   ·have hjl:j=s.posted.length:=by
     have:=(List.getElem?_eq_some_iff.1 hq).1
     simp only [List.length_append,List.length_cons,List.length_nil] at this
     omega
    subst hjl
    rw [List.getElem?_append_right (Nat.le_refl _),Nat.sub_self] at hq
    cases hq
    rw [List.take_append_of_le_length (Nat.le_refl _),List.take_length]
    exact hok
 ·show Nums (cJ s.ser name).1 X
  refine aYf hX.symm ?_
  rw [t6]
  exact aQw c3 t2 r5 (p:={ p with ref:=⟨name,ser.next⟩ }) (by rw [←t3])
 ·show dQ X=_
  rw [aMb hX]
  exact aI3 r6 h3 h4
def mH (s:State):Prop:=∀ p∈s.posted,∀ q∈p.total.parts,I64 q.net∧I64 q.tax
theorem aQx {l:List Posted} (hl:∀ i p,l[i]?=some p→nL (l.take i) p) {p:Posted} (hp:nL l p) (hb:p.back=false) (hof:p.of=Ref.zero) (h:∀ i q,l[i]?=some q→(dA l).getD i 0≤1∧q.back=decide ((dA l).getD i 0=1)) (r:Ref):
  ∀ i q,(l++[{ p with ref:=r }])[i]?=some q→(dA (l++[{ p with ref:=r }])).getD i 0≤1∧q.back=decide ((dA (l++[{ p with ref:=r }])).getD i 0=1):=by
 intro i q hq
 have e:dA (l++[{ p with ref:=r }])=dA l:=by rw [oN];unfold eD;rw [if_pos hof]
 rw [e]
 by_cases hi:i<l.length
 ·rw [List.getElem?_append_left hi] at hq
  exact h i q hq
 ·have hil:i=l.length:=by
   have:=(List.getElem?_eq_some_iff.1 hq).1
   simp only [List.length_append,List.length_cons,List.length_nil] at this
   omega
  subst hil
  rw [List.getElem?_append_right (Nat.le_refl _),Nat.sub_self] at hq
  cases hq
  rw [(rF hl).2.1 _ (Nat.le_refl _)]
  exact ⟨by omega,hb⟩
theorem aDj {s:State} (hr:bB s=true) (hi:mH s) (c:Cmd):bB (lD s c).1=true∧mH (lD s c).1:=by
 unfold lD
 split
 ·exact ⟨hr,hi⟩
 ·rename_i h1
  obtain ⟨a1,a2,a3⟩:=aI1 (Decidable.not_not.1 h1)
  by_cases hw:(aS s c.series ⟨Ref.zero,c.day,(cZ s.table c.day c.lines).1,Ref.zero,false⟩).2.why=0
  ·obtain ⟨_,_,_,_,h5⟩:=pJ hw
   obtain ⟨r1,r2,r3,r4,r5,r6⟩:=(bV s).1 hr
   obtain ⟨p1,p2,p3⟩:=(dS _).1 r4
   have hok:nL s.posted ⟨Ref.zero,c.day,(cZ s.table c.day c.lines).1,Ref.zero,false⟩:=⟨a1,a2,.inl rfl⟩
   have:=aAp (X:=(aS s c.series ⟨Ref.zero,c.day,(cZ s.table c.day c.lines).1,Ref.zero,false⟩).1.posted) hr hw (by rw [h5]) hok (by rw [h5];exact aQx p2 hok rfl rfl p3 _)
   refine ⟨this,fun p hp=>?_⟩
   rw [h5] at hp
   rcases List.mem_append.1 hp with hp | hp
   ·exact hi p hp
   ·rw [List.mem_singleton.1 hp];exact a3
  ·rw [(aG2 hw).1];exact ⟨hr,hi⟩
theorem aDk {ser:List Ser} {l:List Posted} (h:Nums ser l) {i j:Nat} {p q:Posted} (hi:l[i]?=some p) (hj:l[j]?=some q) (e:p.ref=q.ref):i=j:=by
 have key:∀ {i j:Nat} {p q:Posted},l[i]?=some p→l[j]?=some q→p.ref=q.ref→¬ i<j:=by
  intro i j p q hi hj e hlt
  have h1:=(h.num i p hi).2
  have h2:=(h.num j q hj).2
  have hjl:=(List.getElem?_eq_some_iff.1 hj).1
  have hpre:l.take j=l.take i++(l.take j).drop i:=by
   conv=>lhs;rw [←List.take_append_drop i (l.take j)]
   rw [List.take_take,Nat.min_eq_left (by omega)]
  have hmem:((l.take j).drop i)[0]?=some p:=by
   rw [List.getElem?_drop,List.getElem?_take,if_pos (by omega)];exact hi
  have hc:1≤rU ((l.take j).drop i) q.ref.ser:=by
   cases hd:(l.take j).drop i with
   | nil=>rw [hd] at hmem;cases hmem
   | cons a r=>
    rw [hd] at hmem
    cases hmem
    have:=gN [p] r q.ref.ser
    rw [rE,if_pos (by rw [e])] at this
    have:=nF r q.ref.ser
    show 1≤rU ([p]++r) q.ref.ser
    omega
  rw [hpre,gN] at h2
  rw [e] at h1
  omega
 have h1:=key hi hj e
 have h2:=key hj hi e.symm
 omega
theorem aP4 {ser:List Ser} {l:List Posted} (h:Nums ser l) {p:Posted} (hp:p∈l):1≤p.ref.num:=by
 obtain ⟨i,hi⟩:=List.mem_iff_getElem?.1 hp
 have:=(h.num i p hi).2
 have:=nF (l.take i) p.ref.ser
 omega
theorem yU {s:State} (hr:bB s=true) (hi:mH s) (c:Cmd):bB (eC s c).1=true∧mH (eC s c).1:=by
 obtain ⟨r1,r2,r3,r4,r5,r6⟩:=(bV s).1 hr
 obtain ⟨p1,p2,p3⟩:=(dS _).1 r4
 unfold eC
 split
 ·exact ⟨hr,hi⟩
 ·rename_i h0
  rcases mE s.posted c.of with e | ⟨k,x,e,hk,hx⟩
  ·exact absurd (by rw [e];decide) h0
  ·have hg:s.posted.getD (aX s.posted c.of).toNat Posted.zero=x:=by rw [e,Int.toNat_natCast,List.getD_eq_getElem?_getD,hk];rfl
   rw [hg]
   have hxm:=List.mem_of_getElem? hk
   unfold fK
   split
   ·exact ⟨hr,hi⟩
   ·rename_i h1
    split
    ·rename_i h2
     split
     ·exact ⟨hr,hi⟩
     ·rename_i h3
      split
      ·exact ⟨hr,hi⟩
      ·rename_i h4
       split
       ·exact ⟨hr,hi⟩
       ·rename_i h5
        have h5:=Decidable.not_not.1 h5
        have hxr:=p2 k x hk
        obtain ⟨b1,b2,b3⟩:=aDg (hi x hxm) hxr.2.1 h5
        split
        ·rename_i h6
         obtain ⟨_,_,_,_,h7⟩:=pJ h6
         have hofz:c.of≠Ref.zero:=by
          intro q
          have:=aP4 r5 hxm
          rw [hx,q] at this
          exact absurd this (by decide)
         have htk:jQ ⟨Ref.zero,c.day,(aV x.total).1,c.of,false⟩ x=true:=by
          unfold jQ
          rw [if_pos h2,if_pos (by simpa using h4),if_pos h5]
          simp
         have hok:nL s.posted ⟨Ref.zero,c.day,(aV x.total).1,c.of,false⟩:=by
          refine ⟨by simpa using h3,b1,.inr ⟨by show 0≤aX s.posted c.of;omega,?_⟩⟩
          show jQ _ (s.posted.getD (aX s.posted c.of).toNat aK0)=true
          rw [e,Int.toNat_natCast,List.getD_eq_getElem?_getD,hk]
          exact htk
         have hposted:(aS s c.series ⟨Ref.zero,c.day,(aV x.total).1,c.of,false⟩).1.posted=s.posted++[⟨⟨c.series,(cJ s.ser c.series).2.1⟩,c.day,(aV x.total).1,c.of,false⟩]:=by rw [h7]
         have hkl:=(List.getElem?_eq_some_iff.1 hk).1
         have hset:eB (aS s c.series ⟨Ref.zero,c.day,(aV x.total).1,c.of,false⟩).1.posted (aX s.posted c.of).toNat=s.posted.set k { x with back:=true }++[⟨⟨c.series,(cJ s.ser c.series).2.1⟩,c.day,(aV x.total).1,c.of,false⟩]:=by
          rw [hposted,e,Int.toNat_natCast]
          unfold eB
          rw [List.getElem?_append_left hkl,hk]
          simp only
          rw [List.set_append_left _ _ hkl]
         have hnb:=aDh (aS s c.series ⟨Ref.zero,c.day,(aV x.total).1,c.of,false⟩).1.posted (aX s.posted c.of).toNat
         have hcnt:dA (eB (aS s c.series ⟨Ref.zero,c.day,(aV x.total).1,c.of,false⟩).1.posted (aX s.posted c.of).toNat)=bump (dA s.posted) k:=by
          rw [←aG1,hnb,aG1,hposted,oN]
          unfold eD
          rw [if_neg hofz]
          show bump (dA s.posted) (aX s.posted c.of).toNat=_
          rw [e,Int.toNat_natCast]
         obtain ⟨g1,g2,g3⟩:=rF p2
         have hbk:∀ i,(bump (dA s.posted) k).getD i 0=(dA s.posted).getD i 0+(if i=k then 1 else 0):=by
          intro i
          unfold bump
          simp only [List.getD_eq_getElem?_getD,List.getElem?_set]
          by_cases q:k=i
          ·subst q;rw [if_pos rfl,if_pos (by omega),if_pos rfl];rfl
          ·rw [if_neg q,if_neg (fun q2=>q q2.symm),Int.add_zero]
         have h0k:(dA s.posted).getD k 0=0:=by
          obtain ⟨q1,q2⟩:=p3 k x hk
          have h1':x.back=false:=by simpa using h1
          rw [h1'] at q2
          have q3:=of_decide_eq_false q2.symm
          have:=g1 k
          omega
         have:=aAp (X:=eB (aS s c.series ⟨Ref.zero,c.day,(aV x.total).1,c.of,false⟩).1.posted (aX s.posted c.of).toNat) hr h6 (by rw [hnb,hposted]) hok (by
          rw [hcnt,hset]
          intro i q hq
          rw [hbk]
          by_cases hil:i<s.posted.length
          ·rw [List.getElem?_append_left (by rw [List.length_set];exact hil),List.getElem?_set] at hq
           by_cases ck:k=i
           ·subst ck
            rw [if_pos rfl,if_pos hil] at hq
            cases hq
            rw [h0k,if_pos rfl]
            exact ⟨by decide,rfl⟩
           ·rw [if_neg ck] at hq
            rw [if_neg (fun q2=>ck q2.symm),Int.add_zero]
            exact p3 i q hq
          ·have hieq:i=s.posted.length:=by
            have:=(List.getElem?_eq_some_iff.1 hq).1
            simp only [List.length_append,List.length_cons,List.length_nil,List.length_set] at this
            omega
           subst hieq
           rw [List.getElem?_append_right (by rw [List.length_set];exact Nat.le_refl _),List.length_set,Nat.sub_self] at hq
           cases hq
           rw [g2 _ (Nat.le_refl _),if_neg (by omega)]
           exact ⟨by decide,rfl⟩)
         refine ⟨this,fun p hp=>?_⟩
         have hp:p∈eB (aS s c.series ⟨Ref.zero,c.day,(aV x.total).1,c.of,false⟩).1.posted (aX s.posted c.of).toNat:=hp
         rw [hset] at hp
         rcases List.mem_append.1 hp with hp | hp
         ·rcases List.mem_or_eq_of_mem_set hp with hp | rfl
          ·exact hi p hp
          ·exact hi x hxm
         ·rw [List.mem_singleton.1 hp];exact b2
        ·rename_i h6
         rw [(aG2 h6).1];exact ⟨hr,hi⟩
    ·exact ⟨hr,hi⟩
theorem aG3 {s:State} (hr:bB s=true) {l:List Ser} (h1:kK l=true) (h2:Nums l s.posted):bB { s with ser:=l }=true:=by
 obtain ⟨r1,r2,r3,r4,r5,r6⟩:=(bV s).1 hr
 exact (bV _).2 ⟨r1,h1,r3,r4,h2,r6⟩
theorem wQ {s:State} (hr:bB s=true) {l:List Sess} {n:Int} (h1:oO l n):bB { s with sess:=l,next:=n }=true:=by
 obtain ⟨r1,r2,r3,r4,r5,r6⟩:=(bV s).1 hr
 exact (bV _).2 ⟨r1,r2,h1,r4,r5,r6⟩
theorem aMd {s:State} (hr:bB s=true):bB (fB s).1=true∧((fB s).1.posted=s.posted):=by
 obtain ⟨r1,r2,r3,r4,r5,r6⟩:=(bV s).1 hr
 obtain ⟨a,b,c,d,e,f⟩:=r3
 unfold fB
 split
 ·exact ⟨hr,rfl⟩
 ·rename_i h1
  split
  ·exact ⟨hr,rfl⟩
  ·rename_i h2
   have h2:=Decidable.not_not.1 h2
   refine ⟨?_,rfl⟩
   show bB { s with sess:=(lT s.sess s.next).1,next:=wr .i64 (s.next+1) }=true
   rw [dX (by omega)]
   refine wQ hr ?_
   unfold lT at h2 ⊢
   split at h2
   ·simp at h2
   ·rename_i j1
    split at h2
    ·simp at h2
    ·rename_i j2
     split at h2
     ·simp at h2
     ·rename_i j3
      rw [if_neg j1,if_neg j2,if_neg j3]
      refine ⟨by have:=pD s.sess (mX (fun x=>decide (x.id<s.next)) s.sess) ⟨s.next,0,Rep.zero⟩;simp only;omega,fun x hx=>?_,?_,by omega,by omega,fun x hx=>?_⟩
      ·rcases (hN _ _ _ _).1 hx with rfl | hx
       ·exact ⟨by show 0<s.next;omega,by simp,by simp,fun _=>rfl⟩
       ·exact b x hx
      ·simp only
       rw [uG]
       refine rC c (fun a b c h1 h2=>by omega) (fun x hx hp=>by simpa using hp) (fun x hx hp=>?_)
       have:=f x hx
       simp at hp
       show s.next<x.id
       omega
      ·rcases (hN _ _ _ _).1 hx with rfl | hx
       ·show s.next<s.next+1;omega
       ·have:=f x hx;omega
theorem aVn {l:List Sess} {n id:Int} (h:oO l n):(gC l id).2=0→oO (gC l id).1 n:=by
 intro h0
 obtain ⟨a,b,c,d,e,f⟩:=h
 unfold gC at h0 ⊢
 split at h0
 ·simp at h0
 ·rename_i h1
  split at h0
  ·simp at h0
  ·rename_i h2
   rw [if_neg h1,if_neg h2]
   have hsub:(vT l (gL l id).toNat).Sublist l:=by
    unfold vT
    conv=>rhs;rw [←List.take_append_drop (gL l id).toNat l]
    refine List.Sublist.append (List.Sublist.refl _) ?_
    rw [←List.drop_drop]
    exact List.drop_sublist _ _
   exact ⟨by have:=hsub.length_le;simp only;omega,fun x hx=>b x (hsub.subset hx),c.sublist hsub,d,e,fun x hx=>f x (hsub.subset hx)⟩
theorem aYg {l:List Sess} {n id seq:Int} {r:Rep} (h:oO l n):(jZ l id seq r).2=0→oO (jZ l id seq r).1 n:=by
 intro h0
 obtain ⟨a,b,c,d,e,f⟩:=h
 unfold jZ at h0 ⊢
 split at h0
 ·rename_i hc;exact absurd h0 hc
 ·rename_i h1
  have h1':=Decidable.not_not.1 h1
  split at h0
  ·simp at h0
  ·rename_i h2
   rw [if_neg h1,if_neg h2]
   obtain ⟨hs,i,s,e1,e2⟩:=aD2 h1'
   rw [e1,Int.toNat_natCast,e2]
   have hseq:1≤seq∧seq≤1099511627776:=by
    unfold cB at h1'
    rw [if_neg (by rw [hs];simp),if_neg (by omega)] at h1'
    split at h1'
    ·simp at h1'
    ·omega
   have hsm:=List.mem_of_getElem? e2
   refine ⟨by simp only [List.length_set];exact a,fun x hx=>?_,?_,d,e,fun x hx=>?_⟩
   ·rcases List.mem_or_eq_of_mem_set hx with hx | rfl
    ·exact b x hx
    ·exact ⟨(b s hsm).1,by simp only;omega,by simp only;omega,fun q=>by simp only at q;omega⟩
   ·simp only
    have hm:∀ l:List Sess,l.Pairwise (fun a b=>a.id<b.id)↔(l.map (·.id)).Pairwise (fun a b=>a<b):=fun l=>(List.pairwise_map (f:=fun s:Sess=>s.id) (R:=fun a b=>a<b)).symm
    rw [hm] at c ⊢
    have:(l.set i ⟨s.id,seq,r⟩).map (·.id)=l.map (·.id):=by
     apply List.ext_getElem?
     intro j
     rw [List.getElem?_map,List.getElem?_map,List.getElem?_set]
     split
     ·rename_i e;subst e;rw [if_pos (List.getElem?_eq_some_iff.1 e2).1,e2];rfl
     ·rfl
    rw [this];exact c
   ·rcases List.mem_or_eq_of_mem_set hx with hx | rfl
    ·exact f x hx
    ·exact f s hsm
theorem aVo {s:State} (hr:bB s=true) (hi:mH s) (c:Cmd):bB (rX s c).1=true∧mH (rX s c).1:=by
 obtain ⟨r1,r2,r3,r4,r5,r6⟩:=(bV s).1 hr
 unfold rX
 split
 ·unfold gD
  split
  ·rename_i h
   exact ⟨aG3 hr (aDi h).1 (aQv h r5),hi⟩
  ·exact ⟨hr,hi⟩
 ·split
  ·unfold gD
   split
   ·rename_i h
    obtain ⟨a,i,x,b1,b2,b3⟩:=aVk h
    exact ⟨aG3 hr a (by rw [b3];exact aVm b1 r5),hi⟩
   ·exact ⟨hr,hi⟩
  ·split
   ·unfold kS
    split
    ·rename_i h
     exact ⟨(bV _).2 ⟨(aMc h).1,r2,r3,r4,r5,r6⟩,hi⟩
    ·exact ⟨hr,hi⟩
   ·split
    ·exact aDj hr hi c
    ·split
     ·exact yU hr hi c
     ·split
      ·unfold iM
       split
       ·rename_i h
        exact ⟨wQ (n:=s.next) hr (aVn r3 h),hi⟩
       ·exact ⟨hr,hi⟩
      ·exact ⟨hr,hi⟩
theorem aAq {s:State} (hr:bB s=true) (hi:mH s) (c:Call):bB (eU s c).1=true∧mH (eU s c).1:=by
 unfold eU
 rw [if_neg (by rw [hr];simp)]
 split
 ·exact ⟨hr,hi⟩
 ·split
  ·obtain ⟨a,b⟩:=aMd hr
   exact ⟨a,fun p hp=>hi p (by rw [b] at hp;exact hp)⟩
  ·split
   ·exact ⟨hr,hi⟩
   ·split
    ·exact ⟨hr,hi⟩
    ·obtain ⟨a,b⟩:=aVo hr hi c.cmd
     unfold hJ
     split
     ·rename_i h
      exact ⟨wQ (n:=(rX s c.cmd).1.next) a (aYg ((bV _).1 a).2.2.1 h),b⟩
     ·exact ⟨a,b⟩
theorem aG4:bB State.new=true∧mH State.new:=⟨by decide,fun p hp=>by cases hp⟩
def aP5 (x:Sess) (seq:Int):Rep×Bool×Int:=if seq<1∨1099511627776<seq then (Rep.zero,false,1) else if seq=x.last then (x.reply,true,0) else if seq<x.last then (Rep.zero,false,16) else (Rep.zero,false,0)
theorem zZ {l:List Sess} (hs:l.Pairwise (fun a b=>a.id<b.id)) {i:Nat} {s:Sess} (h:l[i]?=some s):gL l s.id=(i:Int):=by
 refine aG0 h (by simp) (fun j b hj hb=>?_)
 have h1:=List.pairwise_iff_getElem.1 hs j i (List.getElem?_eq_some_iff.1 hb).1 (List.getElem?_eq_some_iff.1 h).1 hj
 rw [(List.getElem?_eq_some_iff.1 hb).2,(List.getElem?_eq_some_iff.1 h).2] at h1
 simp only [decide_eq_false_iff_not]
 omega
theorem aK4 {l:List Sess} (h:eO l=true) {i:Nat} {x:Sess} (hx:l[i]?=some x) (seq:Int):cB l x.id seq=aP5 x seq:=by
 have e:=zZ ((uE l).1 h).2.2 hx
 unfold cB aP5
 rw [if_neg (by rw [h];simp),e,if_neg (by omega),Int.toNat_natCast,hx]
theorem aVp {l:List Sess} {id seq:Int} (h:(cB l id seq).2.2=0) (h2:(cB l id seq).2.1=false):eO l=true∧∃ (i:Nat) (x:Sess),l[i]?=some x∧x.id=id∧1≤seq∧seq≤1099511627776∧x.last<seq:=by
 obtain ⟨hs,i,x,e,hi⟩:=aD2 h
 have hid:x.id=id:=by
  rcases jM l id with e1 | ⟨j,y,e1,e2,e3⟩
  ·rw [e1] at e;omega
  ·rw [e1] at e
   have:j=i:=by omega
   subst this
   rw [hi] at e2;cases e2;exact e3
 subst hid
 rw [aK4 hs hi] at h h2
 unfold aP5 at h h2
 split at h
 ·simp at h
 ·rename_i h3
  rw [if_neg h3] at h2
  split at h
  ·rename_i h4;rw [if_pos h4] at h2;simp at h2
  ·rename_i h4
   split at h
   ·simp at h
   ·rename_i h5
    exact ⟨hs,i,x,hi,rfl,by omega,by omega,by omega⟩
theorem aVq {l:List Sess} (h:eO l=true) {i:Nat} {x:Sess} (hx:l[i]?=some x) {seq:Int} (h1:1≤seq) (h2:seq≤1099511627776) (h3:x.last<seq) (r:Rep):jZ l x.id seq r=(l.set i ⟨x.id,seq,r⟩,0):=by
 have e:=zZ ((uE l).1 h).2.2 hx
 have el:cB l x.id seq=(Rep.zero,false,0):=by
  rw [aK4 h hx];unfold aP5
  rw [if_neg (by omega),if_neg (by omega),if_neg (by omega)]
 unfold jZ
 rw [el,if_neg (by simp),if_neg (by simp),e,Int.toNat_natCast,hx]
theorem aAr (l:List Ser) (name:List UInt8) (limit:Int):0≤(eZ l name limit).2∧(eZ l name limit).2≤14:=by
 unfold eZ;repeat' split
 all_goals (constructor<;>first | decide | simp)
theorem aG5 (l:List Ser) (name:List UInt8):0≤(iK l name).2∧(iK l name).2≤14:=by
 unfold iK;repeat' split
 all_goals (constructor<;>first | decide | simp)
theorem aG6 (l:List Ser) (name:List UInt8):0≤(pB l name).2∧(pB l name).2≤14:=by
 unfold pB
 split
 ·exact aG5 l name
 ·split<;>(constructor<;>first | decide | simp)
theorem aG7 (l:List Ser) (name:List UInt8):0≤(cJ l name).2.2∧(cJ l name).2.2≤14:=by
 unfold cJ
 split
 ·exact aG5 l name
 ·repeat' split
  all_goals (constructor<;>first | decide | simp)
theorem aVr (r:Rate):0≤rS r∧rS r≤14:=by
 unfold rS;repeat' split
 all_goals (constructor<;>first | decide | simp)
theorem aAs (l:List Rate) (r:Rate):0≤(gW l r).2∧(gW l r).2≤14:=by
 unfold gW
 split
 ·constructor<;>first | decide | simp
 ·split
  ·exact aVr r
  ·repeat' split
   all_goals (constructor<;>first | decide | simp)
theorem aDl (a b:Int):0≤(cS a b).2∧(cS a b).2≤14:=by
 unfold cS;split<;>(constructor<;>first | decide | simp)
theorem aVs (a b:Int):0≤(bR a b).2∧(bR a b).2≤14:=by
 unfold bR;split<;>(constructor<;>first | decide | simp)
theorem aVt (a b:Int):0≤(aM3 a b).2∧(aM3 a b).2≤14:=by
 unfold aM3
 simp only
 repeat' split
 all_goals (constructor<;>first | decide | simp)
theorem aQy (tab:List Rate) (d:Date) (l:Line):0≤(fI tab d l).2.2∧(fI tab d l).2.2≤14:=by
 unfold fI
 repeat' split
 all_goals first | exact aVt _ _ | (constructor<;>first | decide | simp)
theorem nH {σ ρ α:Type} {step:σ→α→ρ⊕σ} {fin:σ→ρ} (Q:ρ→Prop) (hs:∀ s a r,step s a=.inl r→Q r) (hf:∀ s,Q (fin s)):∀ (l:List α) (s:σ),Q (aD step fin l s)
 | [],s=>hf s
 | a::l,s=>by
  simp only [aD]
  split
  ·rename_i r he;exact hs _ _ _ he
  ·exact nH Q hs hf l _
theorem aMe (l:List Part):0≤(eT l).2∧(eT l).2≤14:=by
 refine nH (fun r:Total×Int=>0≤r.2∧r.2≤14) (fun s a r h=>?_) (fun s=>?_) l _
 ·unfold gA at h
  split at h
  ·cases h;constructor<;>first | decide | simp
  ·cases h
 ·unfold lC
  split
  ·exact aDl _ _
  ·constructor<;>first | decide | simp
theorem aVu (l:List Part) (cat:List UInt8) (bp n:Int):0≤(rT l cat bp n).2∧(rT l cat bp n).2≤14:=by
 unfold rT
 split
 ·constructor<;>first | decide | simp
 ·exact aDl _ _
theorem wT (tab:List Rate) (d:Date) (lines:List Line):0≤(cZ tab d lines).2∧(cZ tab d lines).2≤14:=by
 unfold cZ
 split
 ·constructor<;>first | decide | simp
 ·split
  ·constructor<;>first | decide | simp
  ·split
   ·constructor<;>first | decide | simp
   ·split
    ·constructor<;>first | decide | simp
    ·refine nH (fun r:Total×Int=>0≤r.2∧r.2≤14) (fun s a r h=>?_) (fun s=>aMe _) lines _
     unfold iO at h
     split at h
     ·cases h;exact aQy _ _ _
     ·split at h
      ·cases h;exact aVu _ _ _ _
      ·cases h
theorem aK5 (t:Total):0≤(cC t).2∧(cC t).2≤14:=by
 refine nH (fun r:List Bal×Int=>0≤r.2∧r.2≤14) (fun s a r h=>?_) (fun s=>by constructor<;>first | decide | simp) _ _
 unfold iN at h
 split at h
 ·cases h;constructor<;>first | decide | simp
 ·split at h
  ·cases h;constructor<;>first | decide | simp
  ·cases h
theorem aDm (b l:List Bal):0≤(bC b l).2∧(bC b l).2≤14:=by
 unfold bC
 split
 ·constructor<;>first | decide | simp
 ·refine nH (fun r:List Bal×Int=>0≤r.2∧r.2≤14) (fun s a r h=>?_) (fun s=>by constructor<;>first | decide | simp) _ _
  unfold bD at h
  split at h
  ·cases h;constructor<;>first | decide | simp
  ·split at h
   ·cases h;exact aDl _ _
   ·cases h
theorem aK6 (l:List Int):0≤(fJ l).2∧(fJ l).2≤14:=by
 refine nH (fun r:List Int×Int=>0≤r.2∧r.2≤14) (fun s a r h=>?_) (fun s=>by constructor<;>first | decide | simp) _ _
 unfold nW at h
 split at h
 ·cases h;exact aVs _ _
 ·cases h
theorem aA0 (t:Total):0≤(aV t).2∧(aV t).2≤14:=by
 unfold aV
 split
 ·exact aK6 _
 ·split
  ·refine nH (fun r:List Part×Int=>0≤r.2∧r.2≤14) (fun s a r h=>?_) (fun s=>by constructor<;>first | decide | simp) _ _
   unfold cX at h
   split at h
   ·cases h;exact aK6 _
   ·cases h
  ·constructor<;>first | decide | simp
theorem aDn (l:List Sess) (id:Int):0≤(gC l id).2∧(gC l id).2≤14:=by
 unfold gC;repeat' split
 all_goals (constructor<;>first | decide | simp)
def Plain (s:State) (r:State×Rep):Prop:=0≤r.2.why∧r.2.why≤14∧(r.2.why≠0→r.1=s∧r.2=why r.2.why)
theorem Plain.why {s:State} {e:Int} (h1:0≤e) (h2:e≤14):Plain s (s,Go.Proofs.YtoaibmbldmckaaaGreat.why e):=⟨h1,h2,fun _=>⟨rfl,rfl⟩⟩
theorem tA (s:State) (name:List UInt8) (p:Posted):Plain s (aS s name p):=by
 unfold aS
 split
 ·exact Plain.why (aG7 _ _).1 (aG7 _ _).2
 ·split
  ·exact Plain.why (by decide) (by decide)
  ·split
   ·exact Plain.why (aK5 _).1 (aK5 _).2
   ·split
    ·exact Plain.why (aDm _ _).1 (aDm _ _).2
    ·exact ⟨Int.le_refl 0,by show (0:Int)≤14;decide,fun h=>absurd rfl h⟩
theorem aVv (s:State) (c:Cmd):Plain s (rX s c):=by
 have kw:∀ (e:Int) (t:State),(0≤e∧e≤14)→Plain s (if e=0 then (t,why e) else (s,why e)):=by
  intro e t h
  split
  ·rename_i h0;subst h0;exact ⟨Int.le_refl 0,by show (0:Int)≤14;decide,fun h=>absurd rfl h⟩
  ·exact Plain.why h.1 h.2
 unfold rX
 split
 ·exact kw _ _ (aAr _ _ _)
 ·split
  ·exact kw _ _ (aG6 _ _)
  ·split
   ·exact kw _ _ (aAs _ _)
   ·split
    ·unfold lD
     split
     ·exact Plain.why (wT _ _ _).1 (wT _ _ _).2
     ·exact tA _ _ _
    ·split
     ·unfold eC
      split
      ·exact Plain.why (by decide) (by decide)
      ·unfold fK
       split
       ·exact Plain.why (by decide) (by decide)
       ·split
        ·split
         ·exact Plain.why (by decide) (by decide)
         ·split
          ·exact Plain.why (by decide) (by decide)
          ·split
           ·exact Plain.why (aA0 _).1 (aA0 _).2
           ·split
            ·rename_i h
             exact ⟨by rw [h];decide,by rw [h];decide,fun q=>absurd h q⟩
            ·exact tA _ _ _
        ·exact Plain.why (by decide) (by decide)
     ·split
      ·exact kw _ _ (aDn _ _)
      ·unfold aEk
       split
       ·exact Plain.why (e:=11) (by decide) (by decide)
       ·exact ⟨Int.le_refl 0,by show (0:Int)≤14;decide,fun h=>absurd rfl h⟩
theorem aP6 (s:State) (c:Cmd):(rX s c).1.sess=s.sess∨(c.kind=7∧(gC s.sess c.session).2=0∧(rX s c).1.sess=(gC s.sess c.session).1):=by
 have hi:∀ name p,(aS s name p).1.sess=s.sess:=by
  intro name p
  unfold aS
  repeat' split
  all_goals rfl
 unfold rX
 split
 ·unfold gD;split<;>exact .inl rfl
 ·split
  ·unfold gD;split<;>exact .inl rfl
  ·split
   ·unfold kS;split<;>exact .inl rfl
   ·split
    ·unfold lD
     split
     ·exact .inl rfl
     ·exact .inl (hi _ _)
    ·split
     ·unfold eC fK
      repeat' split
      all_goals first | exact .inl rfl | exact .inl (hi _ _)
     ·split
      ·rename_i h7
       unfold iM
       split
       ·rename_i h;exact .inr ⟨h7,h,rfl⟩
       ·exact .inl rfl
      ·exact .inl rfl
theorem aG8 {l:List Sess} {id:Int} (h:(gC l id).2=0) {n:Int} (hs:oO l n):∀ x,x∈(gC l id).1↔x∈l∧x.id≠id:=by
 unfold gC at h ⊢
 split at h
 ·simp at h
 ·rename_i h1
  split at h
  ·simp at h
  ·rename_i h2
   rw [if_neg h1,if_neg h2]
   rcases jM l id with e | ⟨i,y,e,hi,hy⟩
   ·rw [e] at h2;exact absurd (by decide) h2
   ·simp only [e,Int.toNat_natCast]
    intro x
    unfold vT
    rw [List.mem_append]
    have hp:=hs.2.2.1
    have hil:=(List.getElem?_eq_some_iff.1 hi).1
    have key:∀ j z,l[j]?=some z→(z.id=id↔j=i):=by
     intro j z hz
     constructor
     ·intro hzid
      have e1:=zZ hp hz
      rw [hzid,e] at e1;omega
     ·rintro rfl;rw [hi] at hz;cases hz;exact hy
    constructor
    ·rintro (hx | hx)
     ·obtain ⟨j,hj⟩:=List.mem_iff_getElem?.1 hx
      rw [List.getElem?_take] at hj
      split at hj
      ·rename_i hji
       exact ⟨List.mem_of_getElem? hj,fun q=>by have:=(key j x hj).1 q;omega⟩
      ·cases hj
     ·obtain ⟨j,hj⟩:=List.mem_iff_getElem?.1 hx
      rw [List.getElem?_drop] at hj
      exact ⟨List.mem_of_getElem? hj,fun q=>by have:=(key _ x hj).1 q;omega⟩
    ·rintro ⟨hx,hne⟩
     obtain ⟨j,hj⟩:=List.mem_iff_getElem?.1 hx
     have hji:j≠i:=fun q=>hne ((key j x hj).2 q)
     by_cases c:j<i
     ·left;exact List.mem_of_getElem? (i:=j) (by rw [List.getElem?_take,if_pos c];exact hj)
     ·right;exact List.mem_of_getElem? (i:=j - (i+1)) (by rw [List.getElem?_drop,show i+1+(j - (i+1))=j from by omega];exact hj)
def tC (s:State):Prop:=∀ x∈s.sess,x.reply.why≠0→x.reply=why x.reply.why
theorem aQz {s:State} (hr:bB s=true) (hq:tC s):tC (fB s).1∧((fB s).2.why≠0→(fB s).1=s∧(fB s).2=why (fB s).2.why):=by
 unfold fB
 split
 ·exact ⟨hq,fun _=>⟨rfl,rfl⟩⟩
 ·split
  ·exact ⟨hq,fun _=>⟨rfl,rfl⟩⟩
  ·refine ⟨fun x hx=>?_,fun h=>absurd rfl h⟩
   rename_i h1 h2
   have h2:=Decidable.not_not.1 h2
   have hx:x∈(lT s.sess s.next).1:=hx
   unfold lT at h2 hx
   split at h2
   ·simp at h2
   ·rename_i j1
    split at h2
    ·simp at h2
    ·rename_i j2
     split at h2
     ·simp at h2
     ·rename_i j3
      rw [if_neg j1,if_neg j2,if_neg j3] at hx
      rcases (hN _ _ _ _).1 hx with rfl | hx
      ·intro h;exact absurd rfl h
      ·exact hq x hx
theorem aYh {s:State} (hr:bB s=true) (hq:tC s) (c:Cmd):tC (rX s c).1:=by
 intro x hx
 rcases aP6 s c with e | ⟨_,e1,e2⟩
 ·rw [e] at hx;exact hq x hx
 ·rw [e2] at hx
  exact hq x ((aG8 e1 ((bV s).1 hr).2.2.1 x).1 hx).1
theorem aDo (r:State×Rep) (c:Call):hJ r c=r∨∃ (i:Nat) (x:Sess),r.1.sess[i]?=some x∧x.id=c.session∧x.last<c.seq∧hJ r c=({ r.1 with sess:=r.1.sess.set i ⟨x.id,c.seq,r.2⟩ },r.2):=by
 unfold hJ
 split
 ·rename_i h
  right
  unfold jZ at h
  split at h
  ·rename_i h1;exact absurd h h1
  ·rename_i h1
   have h1':=Decidable.not_not.1 h1
   split at h
   ·simp at h
   ·rename_i h2
    have h2':(cB r.1.sess c.session c.seq).2.1=false:=by simpa using h2
    obtain ⟨hs,i,x,hx,hid,q1,q2,q3⟩:=aVp h1' h2'
    refine ⟨i,x,hx,hid,q3,?_⟩
    have:=aVq hs hx q1 q2 q3 r.2
    rw [hid] at this
    rw [this,hid]
 ·exact .inl rfl
theorem aMf {s:State} (hr:bB s=true) (hi:mH s) (hq:tC s) (c:Call):tC (eU s c).1:=by
 unfold eU
 rw [if_neg (by rw [hr];simp)]
 split
 ·exact hq
 ·split
  ·exact (aQz hr hq).1
  ·split
   ·exact hq
   ·split
    ·exact hq
    ·have hd:=aYh hr hq c.cmd
     rcases aDo (rX s c.cmd) c with e | ⟨i,x,e1,_,_,e2⟩
     ·rw [e];exact hd
     ·rw [e2]
      intro y hy
      rcases List.mem_or_eq_of_mem_set hy with hy | rfl
      ·exact hd y hy
      ·intro h;exact ((aVv s c.cmd).2.2 h).2
theorem aVw:tC State.new:=fun x hx=>by cases hx
structure Beh (s:State):Prop where
 right:bB s=true
 ints:mH s
 reps:tC s
theorem Beh.new:Beh State.new:=⟨aG4.1,aG4.2,aVw⟩
theorem Beh.apply {s:State} (h:Beh s) (c:Call):Beh (eU s c).1:=⟨(aAq h.right h.ints c).1,(aAq h.right h.ints c).2,aMf h.right h.ints h.reps c⟩
theorem Beh.play:∀ (l:List Call) (s:State) (r:List Rep),Beh s→Beh (l.foldl pE (s,r)).1
 | [],s,r,h=>h
 | c::l,s,r,h=>Beh.play l _ _ (h.apply c)
theorem Beh.playM {s:State} (h:Beh s) (l:List Call):Beh (Go.Proofs.YtoaibmbldmckaaaGreat.playM s l).1:=Beh.play l s [] h
def cO (l:List Bal):Int:=(l.map (·.amount)).sum
def BI (l:List Bal):Prop:=∀ b∈l,I64 b.amount
theorem vC (a b:List Bal):cO (a++b)=cO a+cO b:=by simp [cO]
theorem aMg (l:List Bal) (i:Nat) (b:Bal):cO (eG l i b)=cO l+b.amount:=by
 unfold eG
 conv=>rhs;rw [←List.take_append_drop i l]
 simp only [vC]
 simp [cO]
 omega
theorem aDp:∀ (l:List Bal) (i:Nat) (a b:Bal),l[i]?=some a→cO (l.set i b)=cO l - a.amount+b.amount
 | [],i,a,b,h=>by cases h
 | x::l,0,a,b,h=>by
  cases h
  simp [cO]
  omega
 | x::l,i+1,a,b,h=>by
  have:=aDp l i a b h
  simp only [cO,List.set_cons_succ,List.map_cons,List.sum_cons] at this ⊢
  omega
theorem aVx (l:List Bal) (acc:List UInt8):cO (bI l acc)=cO l:=by
 unfold bI
 split
 ·rw [aMg];simp
 ·rfl
theorem aP7 {l:List Bal} (h:BI l) (acc:List UInt8):BI (bI l acc):=by
 unfold bI
 split
 ·intro b hb
  rcases (hN _ _ _ _).1 hb with rfl | hb
  ·show I64 0;omega
  ·exact h b hb
 ·exact h
theorem aR0 {l l':List Bal} {x:Bal} (hl:BI l) (hx:I64 x.amount) (h:bD l x=.inr l'):cO l'=cO l+x.amount∧BI l':=by
 obtain ⟨b,hb⟩:=nV l x.acc
 unfold bD at h
 rw [hb] at h
 simp only at h
 have hbi:=aP7 hl x.acc b (List.mem_of_getElem? hb)
 have hs:=pF hbi hx
 split at h
 ·cases h
 ·rename_i h0
  have h0:=Decidable.not_not.1 h0
  cases h
  rw [hs] at h0 ⊢
  split at h0
  ·rename_i hi
   rw [if_pos hi]
   refine ⟨?_,fun y hy=>?_⟩
   ·rw [aDp _ _ _ _ hb,aVx];simp only;omega
   ·rcases List.mem_or_eq_of_mem_set hy with hy | rfl
    ·exact aP7 hl x.acc y hy
    ·exact hi
  ·simp at h0
theorem aDq:∀ (l a:List Bal) (r:List Bal×Int),BI a→BI l→aD bD (fun l=>(l,0)) l a=r→r.2=0→cO r.1=cO a+cO l∧BI r.1
 | [],a,r,ha,hl,h,h0=>by subst h;simp [aD,cO];exact ha
 | x::l,a,r,ha,hl,h,h0=>by
  simp only [aD] at h
  split at h
  ·rename_i r' he
   subst h
   obtain ⟨b,hb⟩:=nV a x.acc
   unfold bD at he
   rw [hb] at he
   simp only at he
   split at he
   ·rename_i h1;cases he;exact absurd h0 h1
   ·cases he
  ·rename_i a' he
   obtain ⟨e1,e2⟩:=aR0 ha (hl x (List.mem_cons_self ..)) he
   obtain ⟨e3,e4⟩:=aDq l a' r e2 (fun b hb=>hl b (List.mem_cons_of_mem _ hb)) h h0
   refine ⟨?_,e4⟩
   rw [e3,e1]
   simp [cO]
   omega
theorem aMh {b l:List Bal} (hb:BI b) (hl:BI l) (h:(bC b l).2=0):cO (bC b l).1=cO b+cO l∧BI (bC b l).1:=by
 unfold bC at h ⊢
 split at h
 ·simp at h
 ·rename_i h1
  rw [if_neg h1]
  exact aDq l b _ hb hl rfl h
theorem aK7:∀ (l:List Part) (a:List Bal) (r:List Bal×Int),BI a→(∀ p∈l,I64 p.net∧I64 p.tax)→aD iN (fun l=>(l,0)) l a=r→r.2=0→cO r.1=cO a - (l.map (·.net)).sum - (l.map (·.tax)).sum∧BI r.1
 | [],a,r,ha,hl,h,h0=>by subst h;simp [aD];exact ha
 | p::l,a,r,ha,hl,h,h0=>by
  simp only [aD] at h
  split at h
  ·rename_i r' he
   subst h
   unfold iN at he
   split at he
   ·cases he;simp at h0
   ·split at he
    ·cases he;simp at h0
    ·cases he
  ·rename_i a' he
   unfold iN at he
   obtain ⟨p1,p2⟩:=hl p (List.mem_cons_self ..)
   have s1:=zV p1
   have s2:=zV p2
   split at he
   ·cases he
   ·rename_i c1
    split at he
    ·cases he
    ·rename_i c2
     cases he
     have c1:=Decidable.not_not.1 c1
     have c2:=Decidable.not_not.1 c2
     rw [s1] at c1 h
     rw [s2] at c2 h
     by_cases m1:p.net=-9223372036854775808
     ·rw [if_pos m1] at c1;simp at c1
     ·by_cases m2:p.tax=-9223372036854775808
      ·rw [if_pos m2] at c2;simp at c2
      ·rw [if_neg m1,if_neg m2] at h
       obtain ⟨e3,e4⟩:=aK7 l _ r (fun b hb=>by
        rcases List.mem_append.1 hb with hb | hb
        ·exact ha b hb
        ·simp only [List.mem_cons,List.not_mem_nil,or_false] at hb
         rcases hb with rfl | rfl
         ·show I64 (-p.net);omega
         ·show I64 (-p.tax);omega) (fun q hq=>hl q (List.mem_cons_of_mem _ hq)) h h0
       refine ⟨?_,e4⟩
       rw [e3,vC]
       simp [cO]
       omega
theorem aVy {t:Total} (ht:∀ p∈t.parts,I64 p.net∧I64 p.tax) (ho:bU t=true) (h:(cC t).2=0):cO (cC t).1=0∧BI (cC t).1:=by
 obtain ⟨_,h2,_,_,h5⟩:=(fQ t).1 ho
 obtain ⟨_,_,i3,e1,e2,e3⟩:=(pG (fun p hp=>(ht p hp).1) (fun p hp=>(ht p hp).2) (by omega)).1 h5
 obtain ⟨a,b⟩:=aK7 t.parts [⟨[111,119,101,100],t.gross⟩] _ (fun b hb=>by rw [List.mem_singleton.1 hb];exact i3) ht rfl h
 refine ⟨?_,b⟩
 show cO (aD iN (fun l=>(l,0)) t.parts [⟨[111,119,101,100],t.gross⟩]).1=0
 rw [a]
 simp [cO]
 omega
theorem aAt:∀ (l:List Posted) (a b:List Bal),BI a→cO a=0→(∀ p∈l,bU p.total=true∧∀ q∈p.total.parts,I64 q.net∧I64 q.tax)→aD bG (fun b=>(b,0)) l a=(b,0)→cO b=0∧BI b
 | [],a,b,ha,hs,hl,h=>by
  simp only [aD] at h
  cases h
  exact ⟨hs,ha⟩
 | p::l,a,b,ha,hs,hl,h=>by
  simp only [aD] at h
  obtain ⟨p1,p2⟩:=hl p (List.mem_cons_self ..)
  split at h
  ·rename_i r he
   subst h
   unfold bG at he
   split at he
   ·rename_i c
    simp only [Sum.inl.injEq,Prod.mk.injEq] at he
    exact absurd he.2 c
   ·split at he
    ·rename_i c
     simp only [Sum.inl.injEq,Prod.mk.injEq] at he
     exact absurd he.2 c
    ·cases he
  ·rename_i a' he
   unfold bG at he
   split at he
   ·cases he
   ·rename_i c1
    split at he
    ·cases he
    ·rename_i c2
     cases he
     obtain ⟨e1,e2⟩:=aVy p2 p1 (Decidable.not_not.1 c1)
     obtain ⟨e3,e4⟩:=aMh ha e2 (Decidable.not_not.1 c2)
     exact aAt l _ b e4 (by rw [e3,hs,e1];rfl) (fun q hq=>hl q (List.mem_cons_of_mem _ hq)) h
theorem aI5 (l:List Posted) (name:List UInt8):rU l name≤l.length:=by
 unfold rU
 have:=List.length_filter_le (fun p:Posted=>p.ref.ser == name) l
 omega
theorem aR1 (l:List Call) (n:Nat):∀ c∈sV l n,c.cmd.lines.length<1000000:=fun c hc=>by
 obtain ⟨d,_,rfl⟩:=List.mem_map.1 hc
 show (d.cmd.lines.take 15).length<1000000
 rw [List.length_take];omega
theorem a35 (l:List Call) (n:Nat) (hn:n≤1000) (S:St) (K:KW):C 35 [.agg [.imm [],.imm [],.imm [],.imm [],.imm [],.int .i64 1],.imm ((sV l n).map Call.enc)] S K=
  K (.tup [.agg [.imm ((playM State.new (sV l n)).1.table.map Rate.enc),.imm ((playM State.new (sV l n)).1.ser.map Ser.enc),.imm ((playM State.new (sV l n)).1.posted.map Posted.enc),.imm ((playM State.new (sV l n)).1.book.map Bal.enc),.imm ((playM State.new (sV l n)).1.sess.map Sess.enc),.int .i64 (playM State.new (sV l n)).1.next],.imm ((playM State.new (sV l n)).2.map Rep.enc)]) S:=
 g35 State.new (sV l n) Sml.new (by have:=aUu l n;omega) (aR1 l n) S K
end Go.Proofs.YtoaibmbldmckaaaGreat
end
section
namespace Go.AM
theorem bK1 {n b:Nat} {S:St} {v:V} {es:List (List V)} (h:Own E0 S n v es) (w:WF S) {c:List V} (hc:c.length=n∧aH c=true) (h1:(es.length+1)*b≤35184372088832) (h2:es.length+1<dR):
  ∃ v' S',eE n b v (.sl S.next 0 n 0 1) none ⟨S.next+1,S.heap.put S.next (.row 0 n [c])⟩=.ok (v',S')∧Own E0 S' n v' (es++[c])∧WF S'∧S.next+1≤S'.next∧(blkOf v'=blkOf v∨blkOf v'=some (S.next+1))∧∀ y,y<S.next→blkOf v≠some y→S'.heap.get y=S.heap.get y:=by
 obtain ⟨v',S',q1,q2,q3,q4⟩:=aOo (b:=b) h w (cs:=[c]) (fun d hd=>by rcases List.mem_singleton.1 hd with rfl;exact hc) (by simp) h1 h2
 have hu:aO ⟨S.next+1,S.heap.put S.next (.row 0 n [c])⟩ (.sl S.next 0 n 0 1)=.ok [c]:=by
  simp only [aO,aC];rfl
 have hk:∀ y,y<S.next→blkOf v≠some y→S'.heap.get y=S.heap.get y:=fun y hy hb=>q4 y hy fun a ver m hv e=>hb (by rw [hv,e];rfl)
 refine ⟨v',S',q1,q2,q3,?_,?_,hk⟩
 ·have q1:eE n b v (.sl S.next 0 n 0 1) none ⟨S.next+1,S.heap.put S.next (.row 0 n [c])⟩=.ok (v',S'):=q1
  unfold eE at q1
  simp only [hu] at q1
  repeat' split at q1
  all_goals first | (cases q1;done) | skip
  ·rename_i hn
   rw [eL] at hn
   cases hn;cases q1;exact Nat.le_succ _
  ·cases q1;exact Nat.le_refl _
 ·have q1:eE n b v (.sl S.next 0 n 0 1) none ⟨S.next+1,S.heap.put S.next (.row 0 n [c])⟩=.ok (v',S'):=q1
  unfold eE at q1
  simp only [hu] at q1
  repeat' split at q1
  all_goals first | (cases q1;done) | skip
  ·rename_i hn
   rw [eL] at hn
   cases hn;cases q1;exact .inr rfl
  ·cases q1;exact .inl rfl
end Go.AM
namespace Go.Proofs.YtoaibmbldmckaaaGreat
open Go.AM Tryz
set_option linter.unusedVariables false
set_option linter.unusedSimpArgs false
set_option maxRecDepth 100000
end Go.Proofs.YtoaibmbldmckaaaGreat
end
section
namespace Go.AM
theorem aVz {α:Type} {enc:α→List V} {n b:Nat} (hl:∀ x,(enc x).length=n∧aH (enc x)=true) (l:List α) {S:St} {a:Nat} (hg:aA S a 0=.ok (n,[])) (h1:l.length*b≤35184372088832) (h2:l.length<dR) (fr:Option Nat):
  eE n b (.sl a 0 n 0 0) (.imm (l.map enc)) fr S=.ok (.sl a 1 n 0 l.length,⟨S.next,S.heap.put a (.row 1 n (l.map enc))⟩):=by
 have hc:∀ cs,cs∈l.map enc→cs.length=n∧aH cs=true:=fun cs hc=>by obtain ⟨x,_,rfl⟩:=List.mem_map.1 hc;exact hl x
 obtain ⟨a1,a2⟩:=cY hc
 simp only [eE,aO,a1,a2,and_self,if_true,hg,List.length_map,Nat.zero_add,List.length_nil,Nat.le_refl,h1,h2,List.drop_nil,List.take_nil,List.nil_append]
end Go.AM
namespace Go.Proofs.YtoaibmbldmckaaaGreat
open Go.AM Tryz
set_option linter.unusedVariables false
set_option linter.unusedSimpArgs false
set_option maxRecDepth 100000
end Go.Proofs.YtoaibmbldmckaaaGreat
end
section
namespace Go.Pack
def nb (u:Nat):List UInt8:=if h:u<128 then [UInt8.ofNat u] else UInt8.ofNat (u % 128+128)::nb (u / 128)
termination_by u
decreasing_by omega
theorem nb_low {u:Nat} (h:u<128):nb u=[UInt8.ofNat u]:=by rw [nb,dif_pos h]
theorem nb_high {u:Nat} (h:¬ u<128):nb u=UInt8.ofNat (u % 128+128)::nb (u / 128):=by rw [nb,dif_neg h]
def rdL:Nat→Nat→List UInt8→Except Int (Nat×List UInt8)
 | _,_,[]=>.error 3
 | i,acc,c::t=>if i=9∧1<c.toNat then .error 4 else if 128≤c.toNat then rdL (i+1) (acc+c.toNat % 128*2 ^ (7*i)) t else if c.toNat=0∧0<i then .error 4 else .ok (acc+c.toNat % 128*2 ^ (7*i),t)
theorem byte_lt {u:Nat} (h:u<256):(UInt8.ofNat u).toNat=u:=by
 rw [UInt8.toNat_ofNat'];exact Nat.mod_eq_of_lt h
theorem aDr {i:Nat} (h:i≤9):i=0∨i=1∨i=2∨i=3∨i=4∨i=5∨i=6∨i=7∨i=8∨i=9:=by omega
theorem bK2 {u i:Nat} (h:u<2 ^ (64 - 7*i)) (hi:i≤9) (h2:¬ u<128):i≤8∧u / 128<2 ^ (64 - 7*(i+1)):=by
 rcases aDr hi with rfl | rfl | rfl | rfl | rfl | rfl | rfl | rfl | rfl | rfl<;>simp only [Nat.reduceMul,Nat.reduceSub,Nat.reducePow,Nat.reduceAdd] at h ⊢<;>omega
theorem aW0 {u i acc:Nat} (hi:i≤9):acc+u % 128*2 ^ (7*i)+u / 128*2 ^ (7*(i+1))=acc+u*2 ^ (7*i):=by
 have e:7*(i+1)=7*i+7:=by omega
 rw [e,Nat.pow_add,Nat.add_assoc,←Nat.mul_assoc,Nat.mul_right_comm (u / 128),←Nat.add_mul]
 have h:u % 128+u / 128*2 ^ 7=u:=by show u % 128+u / 128*128=u;omega
 rw [h]
theorem bCo:∀ (n u i acc:Nat) (t:List UInt8),u≤n→u<2 ^ (64 - 7*i)→i≤9→(0<i→0<u)→rdL i acc (nb u++t)=.ok (acc+u*2 ^ (7*i),t)
 | n,u,i,acc,t,hn,hu,hi,hp=>by
  by_cases h:u<128
  ·rw [nb_low h]
   show rdL i acc (UInt8.ofNat u::t)=_
   unfold rdL
   rw [byte_lt (by omega)]
   have h9:¬ (i=9∧1<u):=by
    rintro ⟨rfl,h1⟩
    have:u<2:=hu
    omega
   rw [if_neg h9,if_neg (by omega),if_neg (by rintro ⟨h1,h2⟩;have:=hp h2;omega),Nat.mod_eq_of_lt h]
  ·obtain ⟨h8,hd⟩:=bK2 hu hi h
   rw [nb_high h]
   show rdL i acc (UInt8.ofNat (u % 128+128)::(nb (u / 128)++t))=_
   unfold rdL
   rw [byte_lt (by omega),if_neg (by omega),if_pos (by omega)]
   cases n with
   | zero=>omega
   | succ n=>
    rw [bCo n (u / 128) (i+1) _ t (by omega) hd (by omega) (fun _=>by omega)]
    have e:(u % 128+128) % 128=u % 128:=by omega
    rw [e,aW0 hi]
theorem bCp (c:UInt8):UInt8.ofNat c.toNat=c:=UInt8.ofNat_toNat
theorem aP8:∀ (b:List UInt8) (i acc v:Nat) (t:List UInt8),i≤9→rdL i acc b=.ok (v,t)→∃ u,v=acc+u*2 ^ (7*i)∧b=nb u++t∧(0<i→0<u)∧u<2 ^ (64 - 7*i)
 | [],i,acc,v,t,hi,h=>by cases h
 | c::b,i,acc,v,t,hi,h=>by
  have hc:c.toNat<256:=c.toNat_lt
  unfold rdL at h
  split at h
  ·cases h
  ·rename_i h9
   split at h
   ·rename_i h128
    have h8:i≤8:=by omega
    obtain ⟨u,e1,e2,e3,e4⟩:=aP8 b (i+1) _ v t (by omega) h
    have hp:=e3 (by omega)
    refine ⟨c.toNat - 128+u*128,?_,?_,fun _=>by omega,?_⟩
    ·have hs:=aW0 (u:=c.toNat - 128+u*128) (acc:=acc) hi
     have k1:(c.toNat - 128+u*128) % 128=c.toNat % 128:=by omega
     have k2:(c.toNat - 128+u*128) / 128=u:=by omega
     rw [k1,k2] at hs
     rw [e1,hs]
    ·rw [nb_high (by omega)]
     have k1:(c.toNat - 128+u*128) % 128+128=c.toNat:=by omega
     have k2:(c.toNat - 128+u*128) / 128=u:=by omega
     rw [k1,k2,bCp,e2];rfl
    ·rcases aDr (show i≤9 from hi) with rfl | rfl | rfl | rfl | rfl | rfl | rfl | rfl | rfl | rfl<;>simp only [Nat.reduceMul,Nat.reduceSub,Nat.reducePow,Nat.reduceAdd] at e4 ⊢<;>omega
   ·rename_i h128
    split at h
    ·cases h
    ·rename_i h0
     cases h
     refine ⟨c.toNat,by rw [Nat.mod_eq_of_lt (by omega)],?_,fun hp=>by omega,?_⟩
     ·rw [nb_low (by omega),bCp];rfl
     ·rcases aDr hi with rfl | rfl | rfl | rfl | rfl | rfl | rfl | rfl | rfl | rfl<;>simp only [Nat.reduceMul,Nat.reduceSub,Nat.reducePow,Nat.reduceAdd]<;>omega
def zig (n:Int):Nat:=if 0≤n then (2*n).toNat else (-2*n - 1).toNat
def zag (u:Nat):Int:=if u % 2=1 then -((u / 2:Nat):Int) - 1 else ((u / 2:Nat):Int)
theorem aYi (n:Int):zag (zig n)=n:=by unfold zag zig;split<;>split<;>omega
theorem aYj (u:Nat):zig (zag u)=u:=by unfold zag zig;split<;>split<;>omega
theorem zig_lt {n:Int} (h:-9223372036854775808≤n∧n≤9223372036854775807):zig n<2 ^ 64:=by unfold zig;split<;>omega
theorem aR2 {u:Nat} (h:u<2 ^ 64):-9223372036854775808≤zag u∧zag u≤9223372036854775807:=by unfold zag;split<;>omega
def numP (n:Int):List UInt8:=nb (zig n)
def aMi (b:List UInt8):Except Int (Int×List UInt8):=match rdL 0 0 b with
 | .ok (u,t)=>.ok (zag u,t)
 | .error e=>.error e
theorem aG9 {n:Int} (h:-9223372036854775808≤n∧n≤9223372036854775807) (t:List UInt8):aMi (numP n++t)=.ok (n,t):=by
 unfold aMi numP
 rw [bCo (zig n) (zig n) 0 0 t (Nat.le_refl _) (zig_lt h) (by omega) (fun q=>absurd q (by omega))]
 simp only [Nat.zero_add,Nat.mul_zero,Nat.pow_zero,Nat.mul_one,aYi]
theorem aK8 {b:List UInt8} {n:Int} {t:List UInt8} (h:aMi b=.ok (n,t)):b=numP n++t∧-9223372036854775808≤n∧n≤9223372036854775807:=by
 unfold aMi at h
 cases e:rdL 0 0 b with
 | error x=>rw [e] at h;cases h
 | ok r=>
  obtain ⟨u,t'⟩:=r
  rw [e] at h
  cases h
  obtain ⟨u',e1,e2,_,e4⟩:=aP8 b 0 0 u t (by omega) e
  have:u=u':=by rw [e1];simp
  subst this
  unfold numP
  rw [aYj]
  exact ⟨e2,aR2 e4⟩
structure Cod (α:Type) where
 put:α→List UInt8
 get:List UInt8→Except Int (α×List UInt8)
 ok:α→Prop
 pos:∀ a,1≤(put a).length
 there:∀ a t,ok a→get (put a++t)=.ok (a,t)
 back:∀ b a t,get b=.ok (a,t)→b=put a++t∧ok a
theorem nb_pos:∀ u,1≤(nb u).length:=fun u=>by
 by_cases h:u<128
 ·rw [nb_low h];exact Nat.le_refl _
 ·rw [nb_high h,List.length_cons];omega
def bCr (n:Int):Prop:=-9223372036854775808≤n∧n≤9223372036854775807
def num:Cod Int:=⟨numP,aMi,bCr,fun a=>nb_pos _,fun a t h=>aG9 h t,fun b a t h=>aK8 h⟩
def Cod.only {α:Type} (c:Cod α) (p:α→Bool) (e:Int):Cod α where
 put:=c.put
 get:=fun b=>match c.get b with
  | .ok (a,t)=>if p a=true then .ok (a,t) else .error e
  | .error x=>.error x
 ok:=fun a=>c.ok a∧p a=true
 pos:=c.pos
 there:=fun a t h=>by simp only [c.there a t h.1,h.2,if_true]
 back:=fun b a t h=>by
  cases e:c.get b with
  | error x=>rw [e] at h;cases h
  | ok r=>
   obtain ⟨a',t'⟩:=r
   rw [e] at h
   simp only at h
   split at h
   ·rename_i hp
    cases h
    exact ⟨(c.back b _ _ e).1,(c.back b _ _ e).2,hp⟩
   ·cases h
def Cod.both {α β:Type} (c:Cod α) (d:Cod β):Cod (α×β) where
 put:=fun x=>c.put x.1++d.put x.2
 get:=fun b=>match c.get b with
  | .ok (a,t)=>(match d.get t with
   | .ok (x,t')=>.ok ((a,x),t')
   | .error x=>.error x)
  | .error x=>.error x
 ok:=fun x=>c.ok x.1∧d.ok x.2
 pos:=fun x=>by rw [List.length_append];have:=c.pos x.1;omega
 there:=fun x t h=>by
  rw [List.append_assoc]
  simp only [c.there x.1 _ h.1,d.there x.2 t h.2]
 back:=fun b x t h=>by
  cases e:c.get b with
  | error y=>rw [e] at h;cases h
  | ok r=>
   obtain ⟨a,t1⟩:=r
   rw [e] at h
   simp only at h
   cases e2:d.get t1 with
   | error y=>rw [e2] at h;cases h
   | ok r2=>
    obtain ⟨x2,t2⟩:=r2
    rw [e2] at h
    cases h
    obtain ⟨b1,o1⟩:=c.back b _ _ e
    obtain ⟨b2,o2⟩:=d.back t1 _ _ e2
    exact ⟨by rw [b1,b2,List.append_assoc],o1,o2⟩
def Cod.map {α β:Type} (c:Cod α) (f:α→β) (g:β→α) (hf:∀ a,g (f a)=a) (hg:∀ b,f (g b)=b):Cod β where
 put:=fun b=>c.put (g b)
 get:=fun l=>match c.get l with
  | .ok (a,t)=>.ok (f a,t)
  | .error x=>.error x
 ok:=fun b=>c.ok (g b)
 pos:=fun b=>c.pos _
 there:=fun b t h=>by simp only [c.there (g b) t h,hg]
 back:=fun l b t h=>by
  cases e:c.get l with
  | error y=>rw [e] at h;cases h
  | ok r=>
   obtain ⟨a,t1⟩:=r
   rw [e] at h
   cases h
   rw [hf]
   exact c.back l _ _ e
def aK9 (most:Nat) (n:Int):Bool:=decide (0≤n)&&decide (n≤most)
def upto (most:Nat):Cod Int:=num.only (aK9 most) 2
theorem aGa {most n:Nat} (h:n≤most):aK9 most (n:Int)=true:=by
 unfold aK9
 rw [decide_eq_true (by omega),decide_eq_true (by omega)];rfl
def aW1 (most:Nat) (b:List UInt8):Except Int (List UInt8×List UInt8):=match (upto most).get b with
 | .ok (n,t)=>if n≤(t.length:Int) then .ok (t.take n.toNat,t.drop n.toNat) else .error 3
 | .error x=>.error x
def text (most:Nat) (hm:most≤1000000):Cod (List UInt8) where
 put:=fun s=>numP s.length++s
 get:=aW1 most
 ok:=fun s=>s.length≤most
 pos:=fun s=>by rw [List.length_append];have:=nb_pos (zig s.length);show 1≤(numP s.length).length+_;unfold numP;omega
 there:=fun s t h=>by
  have e:(upto most).get (numP s.length++(s++t))=.ok ((s.length:Int),s++t):=(upto most).there (s.length:Int) (s++t) ⟨⟨by omega,by omega⟩,aGa h⟩
  unfold aW1
  rw [List.append_assoc,e]
  simp only [List.length_append]
  rw [if_pos (by omega)]
  have k:((s.length:Int)).toNat=s.length:=by omega
  rw [k,List.take_left',List.drop_left']<;>rfl
 back:=fun b s t h=>by
  unfold aW1 at h
  cases e:(upto most).get b with
  | error y=>rw [e] at h;cases h
  | ok r=>
   obtain ⟨n,t1⟩:=r
   rw [e] at h
   simp only at h
   split at h
   ·rename_i hn
    cases h
    obtain ⟨b1,⟨i1,i2⟩,hp⟩:=(upto most).back b _ _ e
    unfold aK9 at hp
    simp only [Bool.and_eq_true,decide_eq_true_eq] at hp
    have hl:(t1.take n.toNat).length=n.toNat:=by rw [List.length_take];omega
    refine ⟨?_,by rw [hl];omega⟩
    rw [b1,hl,List.append_assoc,List.take_append_drop]
    have k:((n.toNat:Nat):Int)=n:=by omega
    rw [k];rfl
   ·cases h
def aDs {α:Type} (c:Cod α):Nat→List UInt8→Except Int (List α×List UInt8)
 | 0,b=>.ok ([],b)
 | n+1,b=>match c.get b with
  | .ok (a,t)=>(match aDs c n t with
   | .ok (l,t')=>.ok (a::l,t')
   | .error x=>.error x)
  | .error x=>.error x
theorem aDt {α:Type} (c:Cod α):∀ (l:List α) (t:List UInt8),(∀ a∈l,c.ok a)→aDs c l.length (l.flatMap c.put++t)=.ok (l,t)
 | [],t,_=>rfl
 | a::l,t,h=>by
  rw [List.flatMap_cons,List.append_assoc,List.length_cons]
  unfold aDs
  rw [c.there a _ (h a (List.mem_cons_self ..))]
  simp only [aDt c l t fun x hx=>h x (List.mem_cons_of_mem _ hx)]
theorem aGb {α:Type} (c:Cod α):∀ (n:Nat) (b:List UInt8) (l:List α) (t:List UInt8),aDs c n b=.ok (l,t)→b=l.flatMap c.put++t∧l.length=n∧∀ a∈l,c.ok a
 | 0,b,l,t,h=>by cases h;exact ⟨rfl,rfl,fun a ha=>(by cases ha)⟩
 | n+1,b,l,t,h=>by
  unfold aDs at h
  cases e:c.get b with
  | error y=>rw [e] at h;cases h
  | ok r=>
   obtain ⟨a,t1⟩:=r
   rw [e] at h
   simp only at h
   cases e2:aDs c n t1 with
   | error y=>rw [e2] at h;cases h
   | ok r2=>
    obtain ⟨l2,t2⟩:=r2
    rw [e2] at h
    cases h
    obtain ⟨b1,o1⟩:=c.back b _ _ e
    obtain ⟨b2,o2,o3⟩:=aGb c n t1 _ _ e2
    refine ⟨by rw [b1,b2,List.flatMap_cons,List.append_assoc],by rw [List.length_cons,o2],fun x hx=>?_⟩
    rcases List.mem_cons.1 hx with rfl | hx
    ·exact o1
    ·exact o3 x hx
theorem aKa {α:Type} (c:Cod α):∀ l:List α,l.length≤(l.flatMap c.put).length
 | []=>Nat.le_refl _
 | a::l=>by
  have:=aKa c l
  have:=c.pos a
  rw [List.flatMap_cons,List.length_append,List.length_cons];omega
end Go.Pack
end
section
namespace Go.Pack
set_option linter.unusedVariables false
set_option linter.unusedSimpArgs false
set_option maxRecDepth 100000
def aW2 {α:Type} (c:Cod α) (most:Nat) (b:List UInt8):Except Int (List α×List UInt8):=match (upto most).get b with
 | .ok (n,t)=>if n≤(t.length:Int) then aDs c n.toNat t else .error 3
 | .error x=>.error x
def Cod.list {α:Type} (c:Cod α) (most:Nat) (hm:most≤1000000):Cod (List α) where
 put:=fun l=>numP l.length++l.flatMap c.put
 get:=aW2 c most
 ok:=fun l=>l.length≤most∧∀ a∈l,c.ok a
 pos:=fun l=>by rw [List.length_append];have:=nb_pos (zig l.length);show 1≤(numP l.length).length+_;unfold numP;omega
 there:=fun l t h=>by
  have e:(upto most).get (numP l.length++(l.flatMap c.put++t))=.ok ((l.length:Int),l.flatMap c.put++t):=(upto most).there (l.length:Int) _ ⟨⟨by have:=h.1;omega,by have:=h.1;omega⟩,aGa h.1⟩
  unfold aW2
  rw [List.append_assoc,e]
  simp only [List.length_append]
  have:=aKa c l
  rw [if_pos (by omega)]
  have k:((l.length:Int)).toNat=l.length:=by omega
  rw [k]
  exact aDt c l t h.2
 back:=fun b l t h=>by
  unfold aW2 at h
  cases e:(upto most).get b with
  | error y=>rw [e] at h;cases h
  | ok r=>
   obtain ⟨n,t1⟩:=r
   rw [e] at h
   simp only at h
   split at h
   ·obtain ⟨b1,⟨i1,i2⟩,hp⟩:=(upto most).back b _ _ e
    unfold aK9 at hp
    simp only [Bool.and_eq_true,decide_eq_true_eq] at hp
    obtain ⟨b2,o2,o3⟩:=aGb c n.toNat t1 _ _ h
    refine ⟨?_,by rw [o2];omega,o3⟩
    have k:((l.length:Nat):Int)=n:=by rw [o2];omega
    rw [b1,b2,k,List.append_assoc];rfl
   ·cases h
def aW3 (b:List UInt8):Except Int (Bool×List UInt8):=match aMi b with
 | .ok (n,t)=>if n=0 then .ok (false,t) else if n=1 then .ok (true,t) else .error 4
 | .error x=>.error x
def flag:Cod Bool where
 put:=fun f=>numP (if f then 1 else 0)
 get:=aW3
 ok:=fun _=>True
 pos:=fun f=>nb_pos _
 there:=fun f t _=>by
  unfold aW3
  rw [aG9 (by split<;>decide)]
  cases f<;>rfl
 back:=fun b f t h=>by
  unfold aW3 at h
  cases e:aMi b with
  | error y=>rw [e] at h;cases h
  | ok r=>
   obtain ⟨n,t1⟩:=r
   rw [e] at h
   simp only at h
   obtain ⟨b1,_⟩:=aK8 e
   split at h
   ·rename_i h0
    cases h
    exact ⟨by rw [b1,h0];rfl,trivial⟩
   ·split at h
    ·rename_i h1
     cases h
     exact ⟨by rw [b1,h1];rfl,trivial⟩
    ·cases h
end Go.Pack
namespace Go.Proofs.YtoaibmbldmckaaaGreat
open Go.AM Go.Pack Tryz
set_option linter.unusedVariables false
set_option linter.unusedSimpArgs false
set_option maxRecDepth 100000
def txt:Cod (List UInt8):=Go.Pack.text 64 (by decide)
def kA:Cod Date:=(num.both (num.both num)).map (fun x=>⟨x.1,x.2.1,x.2.2⟩) (fun d=>(d.y,d.m,d.d)) (fun _=>rfl) (fun _=>rfl)
def aDu:Cod Rate:=(txt.both (kA.both num)).map (fun x=>⟨x.1,x.2.1,x.2.2⟩) (fun r=>(r.cat,r.day,r.bp)) (fun _=>rfl) (fun _=>rfl)
structure SerI where
 name:List UInt8
 limit:Int
 shut:Bool
def aMj:Cod SerI:=(txt.both (num.both flag)).map (fun x=>⟨x.1,x.2.1,x.2.2⟩) (fun r=>(r.name,r.limit,r.shut)) (fun _=>rfl) (fun _=>rfl)
structure PartI where
 cat:List UInt8
 bp:Int
 net:Int
def aGc:Cod PartI:=(txt.both (num.both num)).map (fun x=>⟨x.1,x.2.1,x.2.2⟩) (fun r=>(r.cat,r.bp,r.net)) (fun _=>rfl) (fun _=>rfl)
structure PostI where
 ser:List UInt8
 day:Date
 ofSer:List UInt8
 ofNum:Int
 parts:List PartI
def aKb:Cod PostI:=(txt.both (kA.both (txt.both (num.both (aGc.list 12 (by decide)))))).map (fun x=>⟨x.1,x.2.1,x.2.2.1,x.2.2.2.1,x.2.2.2.2⟩) (fun r=>(r.ser,r.day,r.ofSer,r.ofNum,r.parts)) (fun _=>rfl) (fun _=>rfl)
structure SessI where
 id:Int
 last:Int
 why:Int
 number:Int
 gross:Int
def aDv:Cod SessI:=(num.both (num.both (num.both (num.both num)))).map (fun x=>⟨x.1,x.2.1,x.2.2.1,x.2.2.2.1,x.2.2.2.2⟩) (fun r=>(r.id,r.last,r.why,r.number,r.gross)) (fun _=>rfl) (fun _=>rfl)
structure ImgI where
 table:List Rate
 ser:List SerI
 posted:List PostI
 sess:List SessI
 next:Int
def aYk:Cod ImgI:=((aDu.list 24 (by decide)).both ((aMj.list 8 (by decide)).both ((aKb.list 40 (by decide)).both ((aDv.list 8 (by decide)).both num)))).map (fun x=>⟨x.1,x.2.1,x.2.2.1,x.2.2.2.1,x.2.2.2.2⟩) (fun r=>(r.table,r.ser,r.posted,r.sess,r.next)) (fun _=>rfl) (fun _=>rfl)
end Go.Proofs.YtoaibmbldmckaaaGreat
end
section
namespace Go.Pack
theorem aW4:∀ (k u:Nat),u<128 ^ (k+1)→(nb u).length≤k+1
 | 0,u,h=>by rw [nb_low (by simpa using h)];exact Nat.le_refl _
 | k+1,u,h=>by
  by_cases c:u<128
  ·rw [nb_low c];show 1≤_;omega
  ·rw [nb_high c,List.length_cons]
   have:u / 128<128 ^ (k+1):=by
    rw [Nat.div_lt_iff_lt_mul (by decide)]
    rw [Nat.pow_succ] at h
    exact h
   have:=aW4 k (u / 128) this
   omega
theorem numP_len {n:Int} (h:bCr n):(numP n).length≤10:=by
 have h1:=zig_lt h
 exact aW4 9 (zig n) (Nat.lt_trans h1 (by decide))
def Cod.Len {α:Type} (c:Cod α) (p:α→Prop) (n:Nat):Prop:=∀ a,p a→(c.put a).length≤n
theorem Len.flag:flag.Len (fun _=>True) 10:=fun f _=>by
 show (numP (if f then 1 else 0)).length≤10
 exact numP_len (by split<;>exact ⟨by decide,by decide⟩)
end Go.Pack
end
section
namespace Go.Proofs.YtoaibmbldmckaaaGreat
open Go.AM Go.Pack Tryz
def aAu (p:Part):PartI:=⟨p.cat,p.bp,p.net⟩
def tD (p:Posted):PostI:=⟨p.ref.ser,p.day,p.of.ser,p.of.num,p.total.parts.map aAu⟩
def aI6 (s:Ser):SerI:=⟨s.name,s.limit,s.shut⟩
def yV (s:Sess):SessI:=⟨s.id,s.last,s.reply.why,s.reply.number,s.reply.gross⟩
def aMk (s:State):ImgI:=⟨s.table,s.ser.map aI6,s.posted.map tD,s.sess.map yV,s.next⟩
def iJ (s:State):List UInt8:=if bB s=false then [] else aYk.put (aMk s)
def IR (r:Rep):Prop:=I64 r.why∧I64 r.number∧I64 r.gross
def RepI (s:State):Prop:=∀ x∈s.sess,IR x.reply
theorem I64.small {n:Int} (h:0≤n∧n≤1099511627777):I64 n:=⟨by omega,by omega⟩
theorem IR.why {e:Int} (h:0≤e∧e≤17):IR (Go.Proofs.YtoaibmbldmckaaaGreat.why e):=⟨I64.small ⟨h.1,by show e≤_;omega⟩,⟨by show (_:Int)≤0;decide,by show (0:Int)≤_;decide⟩,⟨by show (_:Int)≤0;decide,by show (0:Int)≤_;decide⟩⟩
theorem IR.zero:IR Rep.zero:=IR.why (e:=0) (by decide)
theorem aGd {s:State} (hr:bB s=true) (hi:mH s) {q:Posted} (hq:q∈s.posted):I64 q.ref.num∧I64 q.total.gross:=by
 obtain ⟨_,_,_,h4,h5,_⟩:=(bV s).1 hr
 obtain ⟨h40,hO,_⟩:=(dS _).1 h4
 obtain ⟨i,hi'⟩:=List.getElem?_of_mem hq
 have h1:=(h5.num i q hi').2
 have h2:=aI5 (s.posted.take i) q.ref.ser
 have h3:=nF (s.posted.take i) q.ref.ser
 have hl:(s.posted.take i).length≤s.posted.length:=by rw [List.length_take];omega
 refine ⟨I64.small (by omega),?_⟩
 obtain ⟨_,b2,_,_,b5⟩:=(fQ _).1 (hO i q hi').2.1
 exact ((pG (fun p hp=>(hi q hq p hp).1) (fun p hp=>(hi q hq p hp).2) (by omega)).1 b5).2.2.1
theorem aDw {s t:State} {name:List UInt8} {p:Posted} (hr:bB t=true) (hi:mH t) (h:(aS s name p).2.why=0→∃ q∈t.posted,q.ref.num=(aS s name p).2.number∧q.total.gross=(aS s name p).2.gross):IR (aS s name p).2:=by
 have hp:=tA s name p
 by_cases c:(aS s name p).2.why=0
 ·obtain ⟨q,hq,e1,e2⟩:=h c
  obtain ⟨i1,i2⟩:=aGd hr hi hq
  exact ⟨by rw [c];exact I64.small (by decide),e1▸i1,e2▸i2⟩
 ·rw [(hp.2.2 c).2]
  exact IR.why ⟨hp.1,by have:=hp.2.1;omega⟩
theorem aKc {l:List Posted} {k:Nat} {q:Posted} (h:q∈l):∃ r∈eB l k,r.ref=q.ref∧r.total=q.total:=by
 have e:(eB l k).map nG=l.map nG:=aDh l k
 have:nG q∈(eB l k).map nG:=by rw [e];exact List.mem_map_of_mem h
 obtain ⟨r,hr,he⟩:=List.mem_map.1 this
 exact ⟨r,hr,show (nG r).ref=(nG q).ref by rw [he],show (nG r).total=(nG q).total by rw [he]⟩
theorem aYl {s:State} (hr:bB s=true) (hi:mH s) (c:Cmd):IR (lD s c).2:=by
 obtain ⟨r1,r2⟩:=aDj hr hi c
 unfold lD at r1 r2 ⊢
 split
 ·exact IR.why (by have:=wT s.table c.day c.lines;exact ⟨this.1,by have:=this.2;omega⟩)
 ·rename_i h
  rw [if_neg h] at r1 r2
  refine aDw r1 r2 fun h0=>?_
  obtain ⟨_,_,_,_,e⟩:=pJ h0
  rw [e]
  exact ⟨_,List.mem_append_right _ (List.mem_cons_self ..),rfl,rfl⟩
theorem aR3 {s:State} (hr:bB s=true) (hi:mH s) (c:Cmd):IR (eC s c).2:=by
 obtain ⟨r1,r2⟩:=yU hr hi c
 unfold eC at r1 r2 ⊢
 split
 ·exact IR.why (by decide)
 ·rename_i h
  rw [if_neg h] at r1 r2
  generalize (aX s.posted c.of).toNat=k at *
  unfold fK at r1 r2 ⊢
  repeat' split
  ·exact IR.why (by decide)
  ·exact IR.why (by decide)
  ·exact IR.why (by decide)
  ·exact IR.why (by have:=aA0 (s.posted.getD k Posted.zero).total;exact ⟨this.1,by have:=this.2;omega⟩)
  ·rename_i h1 h2 h3 h4 h5 h6
   rw [if_neg h1,if_pos h2,if_neg h3,if_neg h4,if_neg h5,if_pos h6] at r1 r2
   refine aDw r1 r2 fun h0=>?_
   obtain ⟨_,_,_,_,e⟩:=pJ h0
   rw [e]
   obtain ⟨q,hq,e1,e2⟩:=aKc (l:=s.posted++[{ (⟨Ref.zero,c.day,(aV (s.posted.getD k Posted.zero).total).1,c.of,false⟩:Posted) with ref:=⟨c.series,(cJ s.ser c.series).2.1⟩ }]) (k:=k) (List.mem_append_right _ (List.mem_cons_self ..))
   exact ⟨q,hq,by rw [e1],by rw [e2]⟩
  ·rename_i h1 h2 h3 h4 h5 h6
   rw [if_neg h1,if_pos h2,if_neg h3,if_neg h4,if_neg h5,if_neg h6] at r1 r2
   exact aDw r1 r2 fun h0=>absurd h0 h6
  ·exact IR.why (by decide)
theorem bK3:∀ (l:List Bal) (g:Int),(∀ b∈l,I64 b.amount)→I64 g→I64 (aD qW id l g)
 | [],g,_,h=>h
 | b::l,g,hl,h=>by
  simp only [aD,qW]
  refine bK3 l _ (fun x hx=>hl x (List.mem_cons_of_mem _ hx)) ?_
  split
  ·exact hl b (List.mem_cons_self ..)
  ·exact h
theorem aYm {s:State} (hr:bB s=true) (hi:mH s):BI s.book:=by
 obtain ⟨_,_,_,h4,_,h6⟩:=(bV s).1 hr
 obtain ⟨_,hO,_⟩:=(dS _).1 h4
 refine (aAt s.posted [] s.book (fun _ h=>(by cases h)) rfl (fun p hp=>?_) h6).2
 obtain ⟨i,hi'⟩:=List.getElem?_of_mem hp
 exact ⟨(hO i p hi').2.1,hi p hp⟩
theorem bDw {s:State} (hr:bB s=true) (hi:mH s) (name:List UInt8):IR (aEk s name):=by
 unfold aEk
 split
 ·exact IR.why (e:=11) (by decide)
 ·exact ⟨I64.small (n:=0) (by decide),wF _,bK3 _ _ (aYm hr hi) (I64.small (by decide))⟩
theorem bK4 {s:State} (hr:bB s=true) (hi:mH s) (c:Cmd):IR (rX s c).2:=by
 have kw:∀ (e:Int) (t:State),(0≤e∧e≤14)→IR (if e=0 then (t,why e) else (s,why e)).2:=by
  intro e t h
  split<;>exact IR.why ⟨h.1,by omega⟩
 unfold rX
 split
 ·exact kw _ _ (aAr _ _ _)
 ·split
  ·exact kw _ _ (aG6 _ _)
  ·split
   ·exact kw _ _ (aAs _ _)
   ·split
    ·exact aYl hr hi c
    ·split
     ·exact aR3 hr hi c
     ·split
      ·exact kw _ _ (aDn _ _)
      ·exact bDw hr hi _
theorem aYn {s:State} (hr:bB s=true) (hq:RepI s) (c:Cmd):RepI (rX s c).1:=by
 intro x hx
 rcases aP6 s c with e | ⟨_,e1,e2⟩
 ·rw [e] at hx;exact hq x hx
 ·rw [e2] at hx
  exact hq x ((aG8 e1 ((bV s).1 hr).2.2.1 x).1 hx).1
theorem aR4 {s:State} (hq:RepI s):RepI (fB s).1:=by
 unfold fB
 split
 ·exact hq
 ·split
  ·exact hq
  ·rename_i h1 h2
   have h2:=Decidable.not_not.1 h2
   intro x hx
   have hx:x∈(lT s.sess s.next).1:=hx
   unfold lT at h2 hx
   split at h2
   ·simp at h2
   ·rename_i j1
    split at h2
    ·simp at h2
    ·rename_i j2
     split at h2
     ·simp at h2
     ·rename_i j3
      rw [if_neg j1,if_neg j2,if_neg j3] at hx
      rcases (hN _ _ _ _).1 hx with rfl | hx
      ·exact IR.zero
      ·exact hq x hx
theorem aMl {s:State} (hr:bB s=true) (hi:mH s) (hq:RepI s) (c:Call):RepI (eU s c).1:=by
 unfold eU
 rw [if_neg (by rw [hr];simp)]
 split
 ·exact hq
 ·split
  ·exact aR4 hq
  ·split
   ·exact hq
   ·split
    ·exact hq
    ·have hd:=aYn hr hq c.cmd
     rcases aDo (rX s c.cmd) c with e | ⟨i,x,e1,_,_,e2⟩
     ·rw [e];exact hd
     ·rw [e2]
      intro y hy
      rcases List.mem_or_eq_of_mem_set hy with hy | rfl
      ·exact hd y hy
      ·exact bK4 hr hi c.cmd
theorem RepI.play:∀ (l:List Call) (s:State) (r:List Rep),Beh s→RepI s→RepI (l.foldl pE (s,r)).1
 | [],s,r,h,q=>q
 | c::l,s,r,h,q=>RepI.play l _ _ (h.apply c) (aMl h.right h.ints q c)
theorem RepI.playM {s:State} (h:Beh s) (q:RepI s) (l:List Call):RepI (Go.Proofs.YtoaibmbldmckaaaGreat.playM s l).1:=RepI.play l s [] h q
theorem RepI.new:RepI State.new:=fun x hx=>by cases hx
theorem aYo (n:Int) (h1:-9000000000≤n) (h2:n≤9000000000000):I64 n:=⟨by omega,by omega⟩
theorem aW5 {s:State} (hr:bB s=true) (hi:mH s) (hq:RepI s):aYk.ok (aMk s):=by
 obtain ⟨h1,h2,h3,h4,h5,_⟩:=(bV s).1 hr
 obtain ⟨t1,t2,_⟩:=(nC _).1 h1
 obtain ⟨s1,s2,_⟩:=(dY _).1 h2
 obtain ⟨e1,e2,_,e3,e4,e5⟩:=h3
 obtain ⟨h40,hO,_⟩:=(dS _).1 h4
 have day:∀ d:Date,d.right=true→kA.ok d:=fun d hd=>by
  obtain ⟨a,b,c,d1,e,f⟩:=(uJ d).1 hd
  have:=(gM d.y d.m).2
  exact ⟨aYo d.y (by omega) (by omega),aYo d.m (by omega) (by omega),aYo d.d (by omega) (by omega)⟩
 have txt:∀ n:List UInt8,cW n=true→txt.ok n:=fun n hn=>by have:=uC hn;show n.length≤64;omega
 refine ⟨⟨t1,fun r hr'=>?_⟩,⟨?_,?_⟩,⟨?_,?_⟩,⟨?_,?_⟩,⟨by show _≤s.next;omega,by show s.next≤_;omega⟩⟩
 ·obtain ⟨a,b,c,d⟩:=uH (t2 r hr')
  exact ⟨txt _ a,day _ b,aYo r.bp (by omega) (by omega)⟩
 ·show (s.ser.map aI6).length≤8
  rw [List.length_map];exact s1
 ·intro x hx
  obtain ⟨y,hy,rfl⟩:=List.mem_map.1 hx
  obtain ⟨a,b⟩:=s2 y hy
  unfold kJ at b
  simp only [Bool.or_eq_false_iff,decide_eq_false_iff_not] at b
  exact ⟨txt _ a,⟨by show _≤y.limit;omega,by show y.limit≤_;omega⟩,trivial⟩
 ·show (s.posted.map tD).length≤40
  rw [List.length_map];exact h40
 ·intro x hx
  obtain ⟨y,hy,rfl⟩:=List.mem_map.1 hx
  obtain ⟨i,hi'⟩:=List.getElem?_of_mem hy
  have nm:∀ q∈s.posted,cW q.ref.ser=true:=fun q hq'=>by
   obtain ⟨j,hj⟩:=List.getElem?_of_mem hq'
   obtain ⟨⟨z,hz,ez⟩,_⟩:=h5.num j q hj
   rw [←ez];exact (s2 z hz).1
  obtain ⟨o1,o2,o3⟩:=hO i y hi'
  obtain ⟨p1,p2,p3,_,_⟩:=(fQ _).1 o2
  have hof:Go.Proofs.YtoaibmbldmckaaaGreat.txt.ok y.of.ser∧num.ok y.of.num:=by
   rcases o3 with e | ⟨a,_⟩
   ·rw [e];exact ⟨Nat.zero_le _,⟨by show (_:Int)≤0;decide,by show (0:Int)≤_;decide⟩⟩
   ·rcases gV (fun p:Posted=>decide (p.ref=y.of)) (s.posted.take i) with e | ⟨j,q,e,hj,hp⟩
    ·have:aX (s.posted.take i) y.of=-1:=e
     omega
    ·have hm:q∈s.posted:=List.mem_of_mem_take (List.mem_of_getElem? hj)
     have e':=of_decide_eq_true hp
     rw [←e']
     exact ⟨txt _ (nm q hm),(aGd hr hi hm).1⟩
  refine ⟨txt _ (nm y hy),day _ o1,hof.1,hof.2,?_,?_⟩
  ·show (y.total.parts.map aAu).length≤12
   rw [List.length_map];exact p2
  ·intro z hz
   obtain ⟨w,hw,rfl⟩:=List.mem_map.1 hz
   have g:=p3 w hw
   exact ⟨txt _ g.name,⟨by show _≤w.bp;have:=g.lo;omega,by show w.bp≤_;have:=g.hi;omega⟩,(hi y hy w hw).1⟩
 ·show (s.sess.map yV).length≤8
  rw [List.length_map];exact e1
 ·intro x hx
  obtain ⟨y,hy,rfl⟩:=List.mem_map.1 hx
  obtain ⟨a,b,c,_⟩:=e2 y hy
  have d:=e5 y hy
  obtain ⟨q1,q2,q3⟩:=hq y hy
  exact ⟨⟨by show _≤y.id;omega,by show y.id≤_;omega⟩,⟨by show _≤y.last;omega,by show y.last≤_;omega⟩,q1,q2,q3⟩
theorem aGe {n:Nat} (h:n≤63):(numP (n:Int)).length=1:=by
 unfold numP
 have:zig (n:Int)<128:=by unfold zig;split<;>omega
 rw [nb_low this];rfl
theorem aKd {s:List UInt8} (h:s.length≤24):(txt.put s).length≤25:=by
 show (numP (s.length:Int)++s).length≤25
 rw [List.length_append,aGe (by omega)];omega
theorem gE {n:Int} (h:num.ok n):(num.put n).length≤10:=numP_len h
theorem aP9 {d:Date} (h:kA.ok d):(kA.put d).length≤30:=by
 obtain ⟨a,b,c⟩:=h
 show (num.put d.y++(num.put d.m++num.put d.d)).length≤30
 rw [List.length_append,List.length_append]
 have h1:(num.put d.y).length≤10:=gE a
 have h2:(num.put d.m).length≤10:=gE b
 have h3:(num.put d.d).length≤10:=gE c
 omega
theorem aKe {α:Type} (c:Cod α) {n:Nat}:∀ l:List α,(∀ a∈l,(c.put a).length≤n)→(l.flatMap c.put).length≤l.length*n
 | [],_=>Nat.zero_le _
 | a::l,h=>by
  have h1:=aKe c l fun x hx=>h x (List.mem_cons_of_mem _ hx)
  have h2:=h a (List.mem_cons_self ..)
  rw [List.flatMap_cons,List.length_append,List.length_cons,Nat.succ_mul]
  omega
theorem tE {α:Type} (c:Cod α) {m:Nat} (hm:m≤1000000) {n k:Nat} {l:List α} (h:∀ a∈l,(c.put a).length≤n) (hl:l.length≤k) (hk:k≤63):((c.list m hm).put l).length≤1+k*n:=by
 show (numP (l.length:Int)++l.flatMap c.put).length≤_
 rw [List.length_append,aGe (by omega)]
 have:=aKe c l h
 have:=Nat.mul_le_mul_right n hl
 omega
theorem aYp {s:State} (hr:bB s=true) (hi:mH s) (hq:RepI s):(iJ s).length≤32768∧4<(iJ s).length:=by
 obtain ⟨h1,h2,h3,h4,h5,_⟩:=(bV s).1 hr
 obtain ⟨t1,t2,_⟩:=(nC _).1 h1
 obtain ⟨s1,s2,_⟩:=(dY _).1 h2
 obtain ⟨e1,_⟩:=h3
 obtain ⟨h40,hO,_⟩:=(dS _).1 h4
 obtain ⟨⟨_,ok1⟩,⟨_,ok2⟩,⟨_,ok3⟩,⟨_,ok4⟩,ok5⟩:=aW5 hr hi hq
 have nm:∀ q∈s.posted,cW q.ref.ser=true:=fun q hq'=>by
  obtain ⟨j,hj⟩:=List.getElem?_of_mem hq'
  obtain ⟨⟨z,hz,ez⟩,_⟩:=h5.num j q hj
  rw [←ez];exact (s2 z hz).1
 have nl:∀ {n:List UInt8},cW n=true→(txt.put n).length≤25:=fun h=>aKd (uC h)
 have a1:((aDu.list 24 (by decide)).put s.table).length≤1+24*65:=tE aDu _ (fun r hr'=>by
  obtain ⟨_,b,c⟩:=ok1 r hr'
  show (txt.put r.cat++(kA.put r.day++num.put r.bp)).length≤65
  rw [List.length_append,List.length_append]
  have h1:=nl (uH (t2 r hr')).1
  have h2:(kA.put r.day).length≤30:=aP9 b
  have h3:(num.put r.bp).length≤10:=gE c
  omega) t1 (by decide)
 have a2:((aMj.list 8 (by decide)).put (s.ser.map aI6)).length≤1+8*45:=tE aMj _ (fun x hx=>by
  obtain ⟨y,hy,rfl⟩:=List.mem_map.1 hx
  obtain ⟨_,b,_⟩:=ok2 _ hx
  show (txt.put y.name++(num.put y.limit++flag.put y.shut)).length≤45
  rw [List.length_append,List.length_append]
  have h1:=nl (s2 y hy).1
  have h2:(num.put y.limit).length≤10:=gE b
  have h3:(flag.put y.shut).length≤10:=Len.flag _ trivial
  omega) (by rw [List.length_map];exact s1) (by decide)
 have a3:((aKb.list 40 (by decide)).put (s.posted.map tD)).length≤1+40*631:=tE aKb _ (fun x hx=>by
  obtain ⟨y,hy,rfl⟩:=List.mem_map.1 hx
  obtain ⟨i,hi'⟩:=List.getElem?_of_mem hy
  obtain ⟨_,b,_,d,⟨_,e⟩⟩:=ok3 _ hx
  obtain ⟨o1,o2,o3⟩:=hO i y hi'
  obtain ⟨p1,p2,p3,_,_⟩:=(fQ _).1 o2
  have hof:(txt.put y.of.ser).length≤25:=by
   rcases o3 with e | ⟨a,_⟩
   ·rw [e];exact aKd (Nat.zero_le _)
   ·rcases gV (fun p:Posted=>decide (p.ref=y.of)) (s.posted.take i) with e | ⟨j,q,e,hj,hp⟩
    ·have:aX (s.posted.take i) y.of=-1:=e
     omega
    ·have hm:q∈s.posted:=List.mem_of_mem_take (List.mem_of_getElem? hj)
     rw [←of_decide_eq_true hp]
     exact nl (nm q hm)
  have hps:((aGc.list 12 (by decide)).put (y.total.parts.map aAu)).length≤1+12*45:=tE aGc _ (fun z hz=>by
   obtain ⟨w,hw,rfl⟩:=List.mem_map.1 hz
   obtain ⟨_,f,g⟩:=e _ hz
   show (txt.put w.cat++(num.put w.bp++num.put w.net)).length≤45
   rw [List.length_append,List.length_append]
   have h1:=nl (p3 w hw).name
   have h2:(num.put w.bp).length≤10:=gE f
   have h3:(num.put w.net).length≤10:=gE g
   omega) (by rw [List.length_map];exact p2) (by decide)
  show (txt.put y.ref.ser++(kA.put y.day++(txt.put y.of.ser++(num.put y.of.num++(aGc.list 12 (by decide)).put (y.total.parts.map aAu))))).length≤631
  rw [List.length_append,List.length_append,List.length_append,List.length_append]
  have h1:=nl (nm y hy)
  have h2:(kA.put y.day).length≤30:=aP9 b
  have h3:(num.put y.of.num).length≤10:=gE d
  omega) (by rw [List.length_map];exact h40) (by decide)
 have a4:((aDv.list 8 (by decide)).put (s.sess.map yV)).length≤1+8*50:=tE aDv _ (fun x hx=>by
  obtain ⟨y,hy,rfl⟩:=List.mem_map.1 hx
  obtain ⟨a,b,c,d,e⟩:=ok4 _ hx
  show (num.put y.id++(num.put y.last++(num.put y.reply.why++(num.put y.reply.number++num.put y.reply.gross)))).length≤50
  rw [List.length_append,List.length_append,List.length_append,List.length_append]
  have h1:(num.put y.id).length≤10:=gE a
  have h2:(num.put y.last).length≤10:=gE b
  have h3:(num.put y.reply.why).length≤10:=gE c
  have h4:(num.put y.reply.number).length≤10:=gE d
  have h5:(num.put y.reply.gross).length≤10:=gE e
  omega) (by rw [List.length_map];exact e1) (by decide)
 have a5:(num.put s.next).length≤10:=gE ok5
 have e:iJ s=(aDu.list 24 (by decide)).put s.table++((aMj.list 8 (by decide)).put (s.ser.map aI6)++((aKb.list 40 (by decide)).put (s.posted.map tD)++((aDv.list 8 (by decide)).put (s.sess.map yV)++num.put s.next))):=by
  unfold iJ
  rw [hr,if_neg (by decide)];rfl
 have b1:=(aDu.list 24 (by decide)).pos s.table
 have b2:=(aMj.list 8 (by decide)).pos (s.ser.map aI6)
 have b3:=(aKb.list 40 (by decide)).pos (s.posted.map tD)
 have b4:=(aDv.list 8 (by decide)).pos (s.sess.map yV)
 have b5:=num.pos s.next
 rw [e]
 simp only [List.length_append]
 omega
end Go.Proofs.YtoaibmbldmckaaaGreat
end
section
namespace Go.Proofs.YtoaibmbldmckaaaGreat
open Go.AM Tryz
def aGf (q p:Posted):Bool:=if (aV q.total).2≠0 then false else if q.of≠Ref.zero then false else if p.day.days<q.day.days then false else
 decide ((aV q.total).1.net=p.total.net)&&(decide ((aV q.total).1.tax=p.total.tax)&&decide ((aV q.total).1.parts=p.total.parts))
def oG (p:Posted):List Posted→Bool
 | []=>false
 | q::l=>if q.ref=p.of then aGf q p else oG p l
def jS (l:List Posted) (r:Ref):Nat:=(l.filter fun q=>decide (q.of=r)).length
def pK (l:List Posted) (i:Nat) (p:Posted):Bool:=
 if 1<jS (l.drop (i+1)) p.ref then false else if p.back≠decide (jS (l.drop (i+1)) p.ref=1) then false else if p.of=Ref.zero then true else if p.back=true then false else oG p (l.take i)
theorem tF (q:Posted) (l:List Posted) (r:Ref):jS (q::l) r=(if q.of=r then 1 else 0)+jS l r:=by
 unfold jS
 rw [List.filter_cons]
 by_cases c:q.of=r
 ·rw [if_pos (by simpa using c),if_pos c,List.length_cons];omega
 ·rw [if_neg (by simpa using c),if_neg c];omega
theorem aAv {t:Total} (h:bU t=true):t.gross=(dO [t.net,t.tax]).1:=by
 obtain ⟨_,_,_,_,hs⟩:=(fQ t).1 h
 unfold iD at hs
 repeat' split at hs
 all_goals first | cases hs;done | skip
 exact (of_decide_eq_true hs).symm
theorem aW6 {q p:Posted} (h1:bU q.total=true) (h2:bU p.total=true) (hi:∀ x∈q.total.parts,I64 x.net∧I64 x.tax) (d1:q.day.right=true) (d2:p.day.right=true):aGf q p=jQ p q:=by
 unfold aGf jQ
 have hb:p.day.before q.day=decide (p.day.days<q.day.days):=by unfold Date.before;rw [d1,d2];rfl
 rw [hb]
 by_cases c2:q.of=Ref.zero
 ·by_cases c1:(aV q.total).2=0
  ·rw [if_neg (by simp [c1]),if_neg (by simp [c2]),if_pos c2]
   by_cases c3:p.day.days<q.day.days
   ·rw [if_pos c3,if_neg (by simp [c3])]
   ·rw [if_neg c3,if_pos (by simp [c3]),if_pos c1]
    obtain ⟨b1,_,_⟩:=aDg hi h1 c1
    have e1:=aAv b1
    have e2:=aAv h2
    rw [Bool.eq_iff_iff]
    simp only [Bool.and_eq_true,decide_eq_true_eq]
    constructor
    ·rintro ⟨a,b,c⟩
     generalize (aV q.total).1=t at *
     generalize p.total=r at *
     obtain ⟨tn,tx,tg,tp⟩:=t
     obtain ⟨rn,rx,rg,rp⟩:=r
     simp only at a b c e1 e2
     subst a b c
     rw [e1,e2]
    ·intro e;rw [e];exact ⟨rfl,rfl,rfl⟩
  ·rw [if_pos c1,if_pos c2,if_neg c1]
   split<;>rfl
 ·rw [if_neg c2]
  split<;>rfl
theorem aGg {α:Type} (p:α→Bool):∀ (l:List α) (n:Nat),aD (cU p) (fun _=>-1) l (n+1)=if aD (cU p) (fun _=>-1) l n<0 then -1 else aD (cU p) (fun _=>-1) l n+1
 | [],n=>by simp [aD]
 | a::l,n=>by
  cases c:p a with
  | true=>
   simp only [aD,cU,c,if_true]
   rw [if_neg (by omega)];omega
  | false=>
   simp only [aD,cU,c,Bool.false_eq_true,if_false]
   exact aGg p l (n+1)
theorem aW7 {α:Type} (p:α→Bool) (a:α) (l:List α):ixM p (a::l)=if p a=true then 0 else if ixM p l<0 then -1 else ixM p l+1:=by
 unfold ixM
 cases c:p a with
 | true=>simp only [aD,cU,c,if_true];rfl
 | false=>simp only [aD,cU,c,Bool.false_eq_true,if_false];exact aGg p l 0
theorem aGh (p:Posted):∀ l:List Posted,oG p l=true↔0≤aX l p.of∧aGf (l.getD (aX l p.of).toNat aK0) p=true
 | []=>by
  simp only [oG]
  exact ⟨fun h=>(by cases h),fun h=>by have h1:(0:Int)≤-1:=h.1;omega⟩
 | q::l=>by
  have e:aX (q::l) p.of=if q.ref=p.of then 0 else if aX l p.of<0 then -1 else aX l p.of+1:=by
   have:=aW7 (fun x:Posted=>decide (x.ref=p.of)) q l
   simp only [decide_eq_true_eq] at this
   exact this
  simp only [oG]
  rw [e]
  by_cases c:q.ref=p.of
  ·rw [if_pos c,if_pos c]
   simp
  ·rw [if_neg c,if_neg c,aGh p l]
   by_cases c2:aX l p.of<0
   ·rw [if_pos c2]
    exact ⟨fun h=>absurd h.1 (by omega),fun h=>by have:=h.1;omega⟩
   ·rw [if_neg c2]
    have:(aX l p.of+1).toNat=(aX l p.of).toNat+1:=by omega
    rw [this,List.getD_cons_succ]
    exact ⟨fun h=>⟨by omega,h.2⟩,fun h=>⟨by omega,h.2⟩⟩
theorem wU {l:List Posted} {r:Ref} (h:0≤aX l r):∃ (k:Nat) (q:Posted),aX l r=(k:Int)∧l[k]?=some q∧q.ref=r:=by
 rcases gV (fun p:Posted=>decide (p.ref=r)) l with e | ⟨i,q,e,hi,hp⟩
 ·have:aX l r=-1:=e
  omega
 ·exact ⟨i,q,e,hi,of_decide_eq_true hp⟩
theorem aPa {ser:List Ser} {l:List Posted} (hn:Nums ser l) {p:Posted} (hp:p∈l):p.ref≠Ref.zero:=fun e=>by
 have:=aP4 hn hp
 rw [e] at this
 have:(1:Int)≤0:=this
 omega
theorem aDx (a b:List Posted) (r:Ref):jS (a++b) r=jS a r+jS b r:=by unfold jS;rw [List.filter_append,List.length_append]
theorem rG {ser:List Ser} {l:List Posted} (hn:Nums ser l) (h40:l.length≤40) (hO:∀ i q,l[i]?=some q→nL (l.take i) q):∀ n,n≤l.length→∀ i p,i<n→l[i]?=some p→(dA (l.take n)).getD i 0=(jS ((l.take n).drop (i+1)) p.ref:Int)
 | 0,_,i,p,h,_=>absurd h (Nat.not_lt_zero _)
 | n+1,hl,i,p,hi,hp=>by
  have hx:l[n]?=some l[n]:=List.getElem?_eq_getElem (by omega)
  obtain ⟨x,hxe⟩:∃ x,x=l[n]:=⟨_,rfl⟩
  rw [←hxe] at hx
  have ht:l.take (n+1)=l.take n++[x]:=by rw [List.take_add_one,hx];rfl
  have hOn:∀ j q,(l.take n)[j]?=some q→nL ((l.take n).take j) q:=fun j q hq=>by
   have hj:=(List.getElem?_eq_some_iff.1 hq).1
   rw [List.length_take] at hj
   rw [List.getElem?_take,if_pos (by omega)] at hq
   rw [List.take_take,Nat.min_eq_left (by omega)]
   exact hO j q hq
  obtain ⟨r1,r2,r3⟩:=rF hOn
  have hlen:(l.take n).length=n:=by rw [List.length_take];omega
  have hpos:=aPa hn (List.mem_of_getElem? hp)
  have hdrop:i<n→(l.take n++[x]).drop (i+1)=(l.take n).drop (i+1)++[x]:=fun h=>by rw [List.drop_append_of_le_length (by omega)]
  rw [ht,oN]
  unfold eD
  by_cases c:x.of=Ref.zero
  ·rw [if_pos c]
   rcases Nat.lt_succ_iff_lt_or_eq.1 hi with h | rfl
   ·rw [rG hn h40 hO n (by omega) i p h hp,hdrop h,aDx,tF,if_neg (by rw [c];exact fun e=>hpos e.symm)]
    rfl
   ·rw [r2 i (by omega),List.drop_of_length_le (by rw [List.length_append,hlen];exact Nat.le_refl _)];rfl
  ·rw [if_neg c]
   obtain ⟨_,_,o⟩:=hO n x hx
   rcases o with o | ⟨o,_⟩
   ·exact absurd o c
   ·obtain ⟨k,q,e,hk,hq⟩:=wU o
    have hkn:=(List.getElem?_eq_some_iff.1 hk).1
    rw [hlen] at hkn
    have hk':l[k]?=some q:=by rw [List.getElem?_take,if_pos hkn] at hk;exact hk
    rw [e,Int.toNat_natCast]
    unfold bump
    simp only [List.getD_eq_getElem?_getD,List.getElem?_set]
    rcases Nat.lt_succ_iff_lt_or_eq.1 hi with h | rfl
    ·have ih:=rG hn h40 hO n (by omega) i p h hp
     simp only [List.getD_eq_getElem?_getD] at ih
     rw [hdrop h,aDx,tF]
     by_cases e2:k=i
     ·subst e2
      rw [hp] at hk'
      cases hk'
      rw [if_pos rfl,if_pos (by omega),if_pos hq.symm,Option.getD_some,ih]
      show _+1=((_+(1+0):Nat):Int)
      omega
     ·have hne:¬ x.of=p.ref:=fun e3=>e2 (aDk hn hk' hp (hq.trans e3))
      rw [if_neg e2,if_neg hne,ih]
      rfl
    ·rw [if_neg (by omega),←List.getD_eq_getElem?_getD,r2 i (by omega),List.drop_of_length_le (by rw [List.length_append,hlen];exact Nat.le_refl _)]
     rfl
theorem aKf {ser:List Ser} {l:List Posted} (hn:Nums ser l) (h40:l.length≤40) (hd:∀ p∈l,p.day.right=true∧bU p.total=true) (hi:∀ p∈l,∀ q∈p.total.parts,I64 q.net∧I64 q.tax):
  (∀ i p,l[i]?=some p→pK l i p=true)↔(∀ i p,l[i]?=some p→nL (l.take i) p)∧∀ i p,l[i]?=some p→(dA l).getD i 0≤1∧p.back=decide ((dA l).getD i 0=1):=by
 have take_ok:∀ i p,l[i]?=some p→p.of≠Ref.zero→(oG p (l.take i)=true↔0≤aX (l.take i) p.of∧jQ p ((l.take i).getD (aX (l.take i) p.of).toNat aK0)=true):=by
  intro i p hp hof
  rw [aGh]
  by_cases c:0≤aX (l.take i) p.of
  ·obtain ⟨k,q,e,hk,hq⟩:=wU c
   have hqm:q∈l:=List.mem_of_mem_take (List.mem_of_getElem? hk)
   have:(l.take i).getD (aX (l.take i) p.of).toNat aK0=q:=by rw [e,Int.toNat_natCast,List.getD_eq_getElem?_getD,hk];rfl
   have hpm:=List.mem_of_getElem? hp
   rw [this,aW6 (hd q hqm).2 (hd p hpm).2 (hi q hqm) (hd q hqm).1 (hd p hpm).1]
  ·exact ⟨fun h=>absurd h.1 c,fun h=>absurd h.1 c⟩
 have all:∀ i p,l[i]?=some p→(∀ i q,l[i]?=some q→nL (l.take i) q)→(dA l).getD i 0=(jS (l.drop (i+1)) p.ref:Int):=by
  intro i p hp hO
  have hlt:=(List.getElem?_eq_some_iff.1 hp).1
  have:=rG hn h40 hO l.length (Nat.le_refl _) i p hlt hp
  rwa [List.take_length] at this
 constructor
 ·intro h
  have hO:∀ i p,l[i]?=some p→nL (l.take i) p:=by
   intro i p hp
   have hpm:=List.mem_of_getElem? hp
   refine ⟨(hd p hpm).1,(hd p hpm).2,?_⟩
   by_cases c:p.of=Ref.zero
   ·exact .inl c
   ·have hc:=h i p hp
    unfold pK at hc
    repeat' split at hc
    all_goals first | (cases hc;done) | skip
    all_goals first | exact absurd (by assumption) c | exact .inr ((take_ok i p hp c).1 hc)
  refine ⟨hO,fun i p hp=>?_⟩
  have hc:=h i p hp
  have e:=all i p hp hO
  unfold pK at hc
  split at hc
  ·cases hc
  ·rename_i h1
   split at hc
   ·cases hc
   ·rename_i h2
    have h2:=Decidable.not_not.1 h2
    rw [e]
    refine ⟨by omega,?_⟩
    rw [h2,Bool.eq_iff_iff]
    simp only [decide_eq_true_eq]
    omega
 ·rintro ⟨hO,hc⟩ i p hp
  have e:=all i p hp hO
  obtain ⟨c1,c2⟩:=hc i p hp
  rw [e] at c1 c2
  unfold pK
  have c2':p.back=decide (jS (l.drop (i+1)) p.ref=1):=by
   rw [c2,Bool.eq_iff_iff]
   simp only [decide_eq_true_eq]
   omega
  rw [if_neg (by omega),if_neg (by rw [←c2'];simp)]
  split
  ·rfl
  ·rename_i hof
   have hback:¬ p.back=true:=by
    intro hb
    rw [hb] at c2'
    have h1:=of_decide_eq_true c2'.symm
    obtain ⟨x,hx⟩:∃ x,x∈(l.drop (i+1)).filter fun q=>decide (q.of=p.ref):=by
     unfold jS at h1
     cases hf:(l.drop (i+1)).filter fun q=>decide (q.of=p.ref) with
     | nil=>rw [hf] at h1;cases h1
     | cons a b=>exact ⟨a,List.mem_cons_self ..⟩
    obtain ⟨hx1,hx2⟩:=List.mem_filter.1 hx
    have hx2:=of_decide_eq_true hx2
    obtain ⟨j,hj⟩:=List.getElem?_of_mem hx1
    rw [List.getElem?_drop] at hj
    obtain ⟨_,_,o⟩:=hO _ x hj
    rcases o with o | ⟨o1,o2⟩
    ·rw [hx2] at o
     exact aPa hn (List.mem_of_getElem? hp) o
    ·obtain ⟨k,q,e,hk,hq⟩:=wU o1
     have hk':l[k]?=some q:=by
      have:=(List.getElem?_eq_some_iff.1 hk).1
      rw [List.length_take] at this
      rw [List.getElem?_take,if_pos (by omega)] at hk;exact hk
     have:k=i:=aDk hn hk' hp (hq.trans hx2)
     subst this
     rw [hp] at hk'
     cases hk'
     rw [e,Int.toNat_natCast,List.getD_eq_getElem?_getD,hk] at o2
     unfold jQ at o2
     split at o2
     ·rename_i hz;exact hof hz
     ·cases o2
   rw [if_neg hback]
   rcases (hO i p hp).2.2 with o | o
   ·exact absurd o hof
   ·exact (take_ok i p hp hof).2 o
structure RD where
 done:List Posted
 taken:List Int
 book:List Bal
def rM (s:State) (st:RD) (p:Posted):Bool⊕RD:=
 if dE s.ser p.ref.ser<0 then .inl false else if p.ref.num≠wr .i64 (st.taken.getD (dE s.ser p.ref.ser).toNat 0+1) then .inl false else
  if p.day.right=false then .inl false else if bU p.total=false then .inl false else if pK s.posted st.done.length p=false then .inl false else
   if (cC p.total).2≠0 then .inl false else if (bC st.book (cC p.total).1).2≠0 then .inl false else
    .inr ⟨st.done++[p],st.taken.set (dE s.ser p.ref.ser).toNat (wr .i64 (st.taken.getD (dE s.ser p.ref.ser).toNat 0+1)),(bC st.book (cC p.total).1).1⟩
def fM (is:List Int) (x:Ser):Bool⊕List Int:=if is.headD 0=wr .i64 (x.next - 1) then .inr is.tail else .inl false
def aKg (s:State) (st:RD):Bool:=aD fM (fun _=>true) s.ser st.taken&&decide (st.book=s.book)
def aDy (s:State):Bool:=
 if dW s.table=false then false else if kK s.ser=false then false else if eO s.sess=false then false else if 40<s.posted.length then false else
  if s.next<1 then false else if 1099511627776<s.next then false else if qV s.sess s.next=false then false else
   aD (rM s) (aKg s) s.posted ⟨[],List.replicate s.ser.length 0,[]⟩
def eQ (ser:List Ser) (l:List Posted):List Int:=ser.map (fun x=>rU l x.name)
theorem aKh {ser:List Ser} (hs:ser.Pairwise (fun a b=>fN a.name b.name=true)) {l:List Posted} {p:Posted} {i:Nat} {x:Ser} (h:ser[i]?=some x) (hn:x.name=p.ref.ser):(eQ ser l).set i (rU l p.ref.ser+1)=eQ ser (l++[p]):=by
 apply List.ext_getElem?
 intro j
 unfold eQ
 rw [List.getElem?_set]
 by_cases e:i=j
 ·subst e
  rw [if_pos rfl,if_pos (by rw [List.length_map];exact (List.getElem?_eq_some_iff.1 h).1),List.getElem?_map,h,Option.map_some,gN,rE,if_pos hn.symm,hn]
 ·rw [if_neg e,List.getElem?_map,List.getElem?_map]
  cases hj:ser[j]? with
  | none=>rfl
  | some y=>
   have hne:¬ p.ref.ser=y.name:=by
    rw [←hn]
    intro e'
    have h1:=pH hs h
    have h2:=pH hs hj
    rw [e'] at h1
    omega
   rw [Option.map_some,Option.map_some,gN,rE,if_neg hne,Int.add_zero]
theorem aW8:∀ (ser:List Ser) (is:List Int),aD fM (fun _=>true) ser is=true↔∀ i x,ser[i]?=some x→is.getD i 0=wr .i64 (x.next - 1)
 | [],is=>by simp [aD]
 | s::l,is=>by
  have hh:is.headD 0=is.getD 0 0:=by cases is<;>rfl
  have ht:∀ j,is.tail.getD j 0=is.getD (j+1) 0:=fun j=>by cases is<;>simp
  by_cases c:is.getD 0 0=wr .i64 (s.next - 1)
  ·have e:fM is s=.inr is.tail:=by unfold fM;rw [hh,if_pos c]
   simp only [aD,e]
   rw [aW8 l is.tail]
   constructor
   ·intro h i x hx
    cases i with
    | zero=>cases hx;exact c
    | succ i=>have:=h i x hx;rwa [ht] at this
   ·intro h i x hx
    have:=h (i+1) x hx
    rwa [ht]
  ·have e:fM is s=.inl false:=by unfold fM;rw [hh,if_neg c]
   simp only [aD,e]
   constructor
   ·intro h;cases h
   ·intro h;exact absurd (h 0 s rfl) c
def aYq (s:State) (done:List Posted) (i:Nat) (p:Posted):Prop:=(∃ x∈s.ser,x.name=p.ref.ser)∧p.ref.num=rU done p.ref.ser+1∧p.day.right=true∧bU p.total=true∧pK s.posted i p=true
theorem rL {s:State} (hs:s.ser.Pairwise (fun a b=>fN a.name b.name=true)) (h40:s.posted.length≤40):∀ (l done:List Posted) (book:List Bal),s.posted=done++l→
  (aD (rM s) (aKg s) l ⟨done,eQ s.ser done,book⟩=true↔(∀ i p,l[i]?=some p→aYq s (done++l.take i) (done.length+i) p)∧(∀ x∈s.ser,rU s.posted x.name=wr .i64 (x.next - 1))∧aD bG (fun b=>(b,0)) l book=(s.book,0))
 | [],done,book,e=>by
  rw [List.append_nil] at e
  subst e
  simp only [aD,aKg,Bool.and_eq_true,decide_eq_true_eq,aW8]
  constructor
  ·rintro ⟨h1,h2⟩
   refine ⟨fun i p h=>(by cases h),fun x hx=>?_,by rw [h2]⟩
   obtain ⟨i,hi⟩:=List.getElem?_of_mem hx
   have:=h1 i x hi
   unfold eQ at this
   rw [List.getD_eq_getElem?_getD,List.getElem?_map,hi] at this
   exact this
  ·rintro ⟨_,h1,h2⟩
   refine ⟨fun i x hi=>?_,congrArg Prod.fst h2⟩
   unfold eQ
   rw [List.getD_eq_getElem?_getD,List.getElem?_map,hi]
   exact h1 x (List.mem_of_getElem? hi)
 | p::l,done,book,e=>by
  have hlen:done.length<40:=by have:=congrArg List.length e;simp at this;omega
  have hc:=aI5 done p.ref.ser
  have h0:=nF done p.ref.ser
  have e':s.posted=(done++[p])++l:=by rw [e,List.append_assoc];rfl
  by_cases k0:dE s.ser p.ref.ser<0
  ·have e1:rM s ⟨done,eQ s.ser done,book⟩ p=.inl false:=by unfold rM;rw [if_pos k0]
   simp only [aD,e1]
   refine ⟨fun h=>(by cases h),fun h=>?_⟩
   obtain ⟨⟨x,hx,hn⟩,_⟩:=h.1 0 p rfl
   exact absurd hn (wN k0 x hx)
  ·rcases gV (fun x:Ser=>x.name == p.ref.ser) s.ser with e1 | ⟨i,x,e1,hi,hx⟩
   ·exact absurd (show dE s.ser p.ref.ser<0 by unfold dE;rw [e1];decide) k0
   ·have e1:dE s.ser p.ref.ser=(i:Int):=e1
    have hx:x.name=p.ref.ser:=by simpa using hx
    have hget:(eQ s.ser done).getD i 0=rU done p.ref.ser:=by
     unfold eQ
     rw [List.getD_eq_getElem?_getD,List.getElem?_map,hi,Option.map_some,hx];rfl
    have hw:wr .i64 (rU done p.ref.ser+1)=rU done p.ref.ser+1:=dX ⟨by omega,by omega⟩
    have hstep:rM s ⟨done,eQ s.ser done,book⟩ p=if p.ref.num≠rU done p.ref.ser+1 then .inl false else
      if p.day.right=false then .inl false else if bU p.total=false then .inl false else if pK s.posted done.length p=false then .inl false else
      if (cC p.total).2≠0 then .inl false else if (bC book (cC p.total).1).2≠0 then .inl false else .inr ⟨done++[p],eQ s.ser (done++[p]),(bC book (cC p.total).1).1⟩:=by
     unfold rM
     rw [if_neg k0]
     simp only [e1,Int.toNat_natCast,hget,hw,aKh hs hi hx]
    have bad:∀ b:Bool⊕RD,b=.inl false→rM s ⟨done,eQ s.ser done,book⟩ p=b→¬ (aYq s done done.length p∧(cC p.total).2=0∧(bC book (cC p.total).1).2=0)→(aD (rM s) (aKg s) (p::l) ⟨done,eQ s.ser done,book⟩=true↔(∀ i q,(p::l)[i]?=some q→aYq s (done++(p::l).take i) (done.length+i) q)∧(∀ x∈s.ser,rU s.posted x.name=wr .i64 (x.next - 1))∧aD bG (fun b=>(b,0)) (p::l) book=(s.book,0)):=by
     intro b hb h1 h2
     subst hb
     simp only [aD,h1]
     refine ⟨fun h=>(by cases h),fun h=>?_⟩
     exfalso
     have g:=h.1 0 p rfl
     rw [List.take_zero,List.append_nil,Nat.add_zero] at g
     refine h2 ⟨g,?_⟩
     have hb:=h.2.2
     simp only [bG] at hb
     by_cases c:(cC p.total).2=0
     ·refine ⟨c,?_⟩
      by_cases c2:(bC book (cC p.total).1).2=0
      ·exact c2
      ·rw [if_neg (by simp [c]),if_pos c2] at hb
       exact absurd (congrArg Prod.snd hb) c2
     ·rw [if_pos c] at hb
      exact absurd (congrArg Prod.snd hb) c
    by_cases c1:p.ref.num=rU done p.ref.ser+1
    rotate_left
    ·exact bad _ rfl (by rw [hstep,if_pos c1]) fun h=>c1 h.1.2.1
    by_cases c2:p.day.right=true
    rotate_left
    ·exact bad _ rfl (by rw [hstep,if_neg (by simp [c1]),if_pos (by simpa using c2)]) fun h=>c2 h.1.2.2.1
    by_cases c3:bU p.total=true
    rotate_left
    ·exact bad _ rfl (by rw [hstep,if_neg (by simp [c1]),if_neg (by simp [c2]),if_pos (by simpa using c3)]) fun h=>c3 h.1.2.2.2.1
    by_cases c4:pK s.posted done.length p=true
    rotate_left
    ·exact bad _ rfl (by rw [hstep,if_neg (by simp [c1]),if_neg (by simp [c2]),if_neg (by simp [c3]),if_pos (by simpa using c4)]) fun h=>c4 h.1.2.2.2.2
    by_cases c5:(cC p.total).2=0
    rotate_left
    ·exact bad _ rfl (by rw [hstep,if_neg (by simp [c1]),if_neg (by simp [c2]),if_neg (by simp [c3]),if_neg (by simp [c4]),if_pos c5]) fun h=>c5 h.2.1
    by_cases c6:(bC book (cC p.total).1).2=0
    rotate_left
    ·exact bad _ rfl (by rw [hstep,if_neg (by simp [c1]),if_neg (by simp [c2]),if_neg (by simp [c3]),if_neg (by simp [c4]),if_neg (by simp [c5]),if_pos c6]) fun h=>c6 h.2.2
    have hgood:rM s ⟨done,eQ s.ser done,book⟩ p=.inr ⟨done++[p],eQ s.ser (done++[p]),(bC book (cC p.total).1).1⟩:=by
     rw [hstep,if_neg (by simp [c1]),if_neg (by simp [c2]),if_neg (by simp [c3]),if_neg (by simp [c4]),if_neg (by simp [c5]),if_neg (by simp [c6])]
    have hbk:bG book p=.inr (bC book (cC p.total).1).1:=by unfold bG;rw [if_neg (by simp [c5]),if_neg (by simp [c6])]
    have one:aYq s done done.length p:=⟨⟨x,List.mem_of_getElem? hi,hx⟩,c1,c2,c3,c4⟩
    simp only [aD,hgood,hbk]
    rw [rL hs h40 l (done++[p]) _ e']
    constructor
    ·rintro ⟨h1,h2⟩
     refine ⟨fun i q hq=>?_,h2⟩
     cases i with
     | zero=>cases hq;rw [List.take_zero,List.append_nil];exact one
     | succ i=>
      have:=h1 i q hq
      rw [List.append_assoc,List.length_append] at this
      rw [List.take_succ_cons]
      have e2:done.length+(i+1)=done.length+[p].length+i:=by simp;omega
      rw [e2];exact this
    ·rintro ⟨h1,h2⟩
     refine ⟨fun i q hq=>?_,h2⟩
     have:=h1 (i+1) q hq
     rw [List.take_succ_cons] at this
     rw [List.append_assoc,List.length_append]
     have e2:done.length+(i+1)=done.length+[p].length+i:=by simp;omega
     rw [←e2];exact this
theorem aR5 {s:State} (hi:mH s) (hn:∀ x∈s.ser,I64 x.next):aDy s=bB s:=by
 rw [Bool.eq_iff_iff,bV]
 unfold aDy
 by_cases c1:dW s.table=true
 rotate_left
 ·rw [if_pos (by simpa using c1)];exact ⟨fun h=>(by cases h),fun h=>absurd h.1 c1⟩
 rw [if_neg (by simp [c1])]
 by_cases c2:kK s.ser=true
 rotate_left
 ·rw [if_pos (by simpa using c2)];exact ⟨fun h=>(by cases h),fun h=>absurd h.2.1 c2⟩
 rw [if_neg (by simp [c2])]
 have hs:=((dY _).1 c2).2.2
 have hsl:=((dY _).1 c2).1
 have hsb:=((dY _).1 c2).2.1
 have hso:gY s=true↔oO s.sess s.next:=vA s
 unfold gY at hso
 by_cases c3:eO s.sess=true
 rotate_left
 ·rw [if_pos (by simpa using c3)]
  rw [if_neg c3] at hso
  exact ⟨fun h=>(by cases h),fun h=>by have:=hso.2 h.2.2.1;cases this⟩
 rw [if_neg (by simp [c3])]
 rw [if_pos c3] at hso
 by_cases c4:s.posted.length≤40
 rotate_left
 ·rw [if_pos (by omega)]
  exact ⟨fun h=>(by cases h),fun h=>absurd ((dS _).1 h.2.2.2.1).1 c4⟩
 rw [if_neg (by omega)]
 by_cases c5:1≤s.next
 rotate_left
 ·rw [if_pos (by omega)];rw [if_neg c5] at hso
  exact ⟨fun h=>(by cases h),fun h=>by have:=hso.2 h.2.2.1;cases this⟩
 rw [if_neg (by omega)]
 rw [if_pos c5] at hso
 by_cases c6:s.next≤1099511627776
 rotate_left
 ·rw [if_pos (by omega)];rw [if_neg c6] at hso
  exact ⟨fun h=>(by cases h),fun h=>by have:=hso.2 h.2.2.1;cases this⟩
 rw [if_neg (by omega)]
 rw [if_pos c6] at hso
 by_cases c7:qV s.sess s.next=true
 rotate_left
 ·rw [if_pos (by simpa using c7)]
  exact ⟨fun h=>(by cases h),fun h=>absurd (hso.2 h.2.2.1) c7⟩
 rw [if_neg (by simp [c7])]
 have ht:List.replicate s.ser.length (0:Int)=eQ s.ser []:=by
  unfold eQ
  apply List.ext_getElem?
  intro j
  rw [List.getElem?_replicate,List.getElem?_map]
  split
  ·rename_i h;rw [List.getElem?_eq_getElem h];rfl
  ·rename_i h;rw [List.getElem?_eq_none (by omega)];rfl
 rw [ht,rL hs c4 s.posted [] [] rfl]
 have hnx:(∀ x∈s.ser,rU s.posted x.name=wr .i64 (x.next - 1))↔∀ x∈s.ser,x.next=rU s.posted x.name+1:=by
  constructor
  ·intro h x hx
   have:=h x hx
   obtain ⟨_,b⟩:=hsb x hx
   unfold kJ at b
   simp only [Bool.or_eq_false_iff,decide_eq_false_iff_not] at b
   have:=hn x hx
   rw [dX ⟨by have:=this.1;omega,by have:=this.2;omega⟩] at *
   omega
  ·intro h x hx
   have e:=h x hx
   have h1:=aI5 s.posted x.name
   have h2:=nF s.posted x.name
   rw [dX ⟨by omega,by omega⟩];omega
 rw [hnx]
 simp only [List.nil_append,List.length_nil,Nat.zero_add]
 constructor
 ·rintro ⟨h1,h2,h3⟩
  have hnum:Nums s.ser s.posted:=⟨fun i p hp=>⟨(h1 i p hp).1,(h1 i p hp).2.1⟩,h2⟩
  have hd:∀ p∈s.posted,p.day.right=true∧bU p.total=true:=fun p hp=>by
   obtain ⟨i,hi'⟩:=List.getElem?_of_mem hp
   exact ⟨(h1 i p hi').2.2.1,(h1 i p hi').2.2.2.1⟩
  have hc:=(aKf hnum c4 hd hi).1 fun i p hp=>(h1 i p hp).2.2.2.2
  exact ⟨c1,c2,hso.1 c7,(dS _).2 ⟨c4,hc⟩,hnum,h3⟩
 ·rintro ⟨_,_,_,h4,h5,h6⟩
  obtain ⟨_,hO,hb⟩:=(dS _).1 h4
  have hd:∀ p∈s.posted,p.day.right=true∧bU p.total=true:=fun p hp=>by
   obtain ⟨i,hi'⟩:=List.getElem?_of_mem hp
   exact ⟨(hO i p hi').1,(hO i p hi').2.1⟩
  have hc:=(aKf h5 c4 hd hi).2 ⟨hO,hb⟩
  refine ⟨fun i p hp=>⟨(h5.num i p hp).1,(h5.num i p hp).2,(hO i p hp).1,(hO i p hp).2.1,hc i p hp⟩,fun x hx=>?_,h6⟩
  exact h5.next x hx
def aBs (a b:Rate):Bool:=if a.cat=b.cat then decide (a.day.days<b.day.days) else fN a.cat b.cat
theorem aMm {a b:Rate} (ha:a.day.right=true) (hb:b.day.right=true):aBs a b=eH a b:=by
 unfold aBs eH Date.before
 by_cases c:a.cat=b.cat
 ·rw [if_pos c,c,wH,if_neg (by simp),if_pos (by simp),ha,hb];rfl
 ·rw [if_neg c]
  cases fN a.cat b.cat<;>simp [c]
theorem bPl (a b:Rate) (S:St) (K:KW):C 194 [.agg [.str a.cat,.int .i64 a.day.y,.int .i64 a.day.m,.int .i64 a.day.d,.int .i64 a.bp],.agg [.str b.cat,.int .i64 b.day.y,.int .i64 b.day.m,.int .i64 b.day.d,.int .i64 b.bp]] S K=K (.bool (aBs a b)) S:=by
 refine (bM4 rfl ?_).eq S K
 delta Tryz.f194;simp only [↓cw,↓reduceIte,Nat.reduceLT,kk,iI,gm,bIt,aBs]
 by_cases c:a.cat=b.cat
 ·simp only [↓cw,↓reduceIte,Nat.reduceLT,c,BEq.rfl,kk,if_true,if_false,oo]
 ·have c':¬ (a.cat == b.cat)=true:=by simpa using c
  simp only [↓cw,↓reduceIte,Nat.reduceLT,c,c',kk,if_true,if_false,oo]
theorem bPm (l:List Rate) (S:St) (K:KW):C 114 [.imm (l.map Rate.enc)] S K=K (.bool (dW l)) S:=by
 refine (bL0 rfl ?_).eq S K
 delta Tryz.f114;simp only [↓cw,↓reduceIte,Nat.reduceLT,kk,dW]
 by_cases h:24<l.length
 ·simp only [↓cw,↓reduceIte,Nat.reduceLT,h,show (24:Int)<(l.length:Int) by omega,kk,if_true,oo]
 have h':¬ (24:Int)<(l.length:Int):=by omega
 simp only [↓cw,↓reduceIte,Nat.reduceLT,h,h',kk,if_false]
 refine aF l (step:=fH) (fin:=fun _=>true) (fun i s vs S=>s=bX l i∧vs=[.bool false,.int .i64 (i:Int)]∧∀ p,s=some p→p.day.right=true) (fun r=>r=aD fH (fun _=>true) l none) ?_ ?_ ⟨rfl,rfl,fun p h=>(by cases h)⟩ rfl
 ·rintro i r s vs S hi ⟨rfl,rfl,hr⟩ aE H
  have hil:=(List.getElem?_eq_some_iff.1 hi).1
  have hn:bX l (i+1)=some r:=by simpa [bX] using hi
  simp only [hn] at H
  simp only [↓cw,↓reduceIte,Nat.reduceLT,kk,bL hi,oL hi,Rate.enc,bO9,iE (show i<1000000000 by omega),fH] at H ⊢
  by_cases c:rS r=0
  ·have hrr:=(uH c).2.1
   simp only [↓cw,↓reduceIte,Nat.reduceLT,c,kk,ne_eq,not_true_eq_false,if_false] at H ⊢
   cases i with
   | zero=>
    simp only [↓cw,↓reduceIte,Nat.reduceLT,bX,if_true,Int.natCast_zero,Int.lt_irrefl,kk,if_false] at H ⊢
    exact H _ _ ⟨rfl,fun p h=>by cases h;exact hrr⟩
   | succ j=>
    have hj:l[j]?=some l[j]:=List.getElem?_eq_getElem (by omega)
    have hp:bX l (j+1)=some l[j]:=by simp [bX,hj]
    have hb:=aMm (hr _ hp) hrr
    simp only [↓cw,↓reduceIte,Nat.reduceLT,hp,gt0,kk,wrm (show j+1<1000000000 by omega),oL hj,Rate.enc,bPl,hb,if_true] at H ⊢
    cases ha:eH l[j] r<;>simp only [↓cw,↓reduceIte,Nat.reduceLT,ha,kk,Bool.not_false,Bool.not_true,if_true,if_false,Bool.false_eq_true,oo] at H ⊢
    ·rw [←H]
    ·exact H _ _ ⟨rfl,fun p h=>by cases h;exact hrr⟩
  ·simp only [↓cw,↓reduceIte,Nat.reduceLT,c,ne_eq,not_false_eq_true,if_true,kk,oo] at H ⊢
   rw [←H]
 ·rintro s vs S ⟨rfl,rfl,hr⟩ aE H
  have H:true=_:=H
  simp only [↓cw,↓reduceIte,Nat.reduceLT,kk,Int.lt_irrefl,if_false,oo,←H]
theorem bPn (l:List Ser) (S:St) (K:KW):C 115 [.imm (l.map Ser.enc)] S K=K (.bool (kK l)) S:=by
 refine (bL1 rfl ?_).eq S K
 delta Tryz.f115;simp only [↓cw,↓reduceIte,Nat.reduceLT,kk,kK]
 by_cases h:8<l.length
 ·simp only [↓cw,↓reduceIte,Nat.reduceLT,h,show (8:Int)<(l.length:Int) by omega,kk,if_true,oo]
 have h':¬ (8:Int)<(l.length:Int):=by omega
 simp only [↓cw,↓reduceIte,Nat.reduceLT,h,h',kk,if_false]
 refine aF l (step:=jN) (fin:=fun _=>true) (fun i s vs S=>s=bX l i∧vs=[.bool false,.int .i64 (i:Int)]) (fun r=>V.bool r=.bool (aD jN (fun _=>true) l none)) ?_ ?_ ⟨rfl,rfl⟩ rfl
 ·rintro i r s vs S hi ⟨rfl,rfl⟩ aE H
  have hil:=(List.getElem?_eq_some_iff.1 hi).1
  have hn:bX l (i+1)=some r:=by simpa [bX] using hi
  simp only [hn,jN] at H
  simp only [↓cw,↓reduceIte,Nat.reduceLT,kk,bL hi,lU hi,Ser.enc,bDj,gm,iE (show i<1000000000 by omega),oo]
  cases hna:cW r.name
  ·simp [hna] at H ⊢;exact H
  ·simp only [↓cw,↓reduceIte,Nat.reduceLT,hna,kk,Bool.true_eq_false,if_false] at H ⊢
   cases i with
   | zero=>
    simp only [↓cw,↓reduceIte,Nat.reduceLT,bX,lB,kk,Bool.false_eq_true,if_false,if_true,kJ,Bool.or_eq_true,decide_eq_true_eq] at H ⊢
    simp only [↓cw,↓reduceIte,Nat.reduceLT,Int.natCast_zero,Int.lt_irrefl,kk,if_false]
    grind
   | succ j=>
    have hj:l[j]?=some l[j]:=List.getElem?_eq_getElem (by omega)
    have hp:bX l (j+1)=some l[j]:=by simp [bX,hj]
    simp only [↓cw,↓reduceIte,Nat.reduceLT,hp,gt0,kk,wrm (show j+1<1000000000 by omega),lU hj,Ser.enc,lB,kJ,Bool.or_eq_true,decide_eq_true_eq] at H ⊢
    grind
 ·rintro s vs S ⟨rfl,rfl⟩ aE H
  simp only [↓cw,↓reduceIte,Nat.reduceLT,kk,Int.lt_irrefl]
  exact H
theorem bPo (l:List Sess) (S:St) (K:KW):C 116 [.imm (l.map Sess.enc)] S K=K (.bool (eO l)) S:=by
 refine (bL2 rfl ?_).eq S K
 delta Tryz.f116;simp only [↓cw,↓reduceIte,Nat.reduceLT,kk,eO]
 by_cases h:8<l.length
 ·simp only [↓cw,↓reduceIte,Nat.reduceLT,h,show (8:Int)<(l.length:Int) by omega,kk,if_true,oo]
 have h':¬ (8:Int)<(l.length:Int):=by omega
 simp only [↓cw,↓reduceIte,Nat.reduceLT,h,h',kk,if_false]
 refine aF l (step:=eN) (fin:=fun _=>true) (fun i s vs S=>vs=[.bool false,.int .i64 (i:Int)]∧0≤s∧(i=0→s=0)∧∀ p,0<i→l[i - 1]?=some p→s=p.id) (fun r=>V.bool r=.bool (aD eN (fun _=>true) l 0)) ?_ ?_ ⟨rfl,Int.le_refl _,fun _=>rfl,fun p h=>absurd h (Nat.lt_irrefl _)⟩ rfl
 ·rintro i s last vs S hi ⟨rfl,h0,h1,h2⟩ aE H
  have hil:=(List.getElem?_eq_some_iff.1 hi).1
  have hn:((s.reply=Rep.zero):Prop)=((s.reply.why=0∧s.reply.number=0)∧s.reply.gross=0):=by
   obtain ⟨_,_,⟨_,_,_⟩⟩:=s;simp [Rep.zero,and_assoc]
  have hnext:∀ (S':St),last<s.id→([V.bool false,V.int .i64 ((i+1:Nat):Int)]=[V.bool false,.int .i64 ((i+1:Nat):Int)]∧0≤s.id∧(i+1=0→s.id=0)∧∀ p,0<i+1→l[i+1 - 1]?=some p→s.id=p.id):=fun S' hl=>⟨rfl,by omega,fun e=>(by omega),fun p _ hp=>by rw [Nat.add_sub_cancel,hi] at hp;cases hp;rfl⟩
  have hst:eN last s=if s.id<1 then .inl false else if s.last<0 then .inl false else if 1099511627776<s.last then .inl false else if s.id≤last then .inl false else if s.last=0∧¬ ((s.reply.why=0∧s.reply.number=0)∧s.reply.gross=0) then .inl false else .inr s.id:=by
   unfold eN
   simp only [ne_eq,hn]
   grind
  rw [hst] at H
  simp only [↓cw,↓reduceIte,Nat.reduceLT,kk,bL hi,lM hi,Sess.enc,iE (show i<1000000000 by omega),gm,if_true,oo]
  by_cases a1:s.id<1
  ·simp only [a1,if_true] at H ⊢;exact H
  by_cases a2:s.last<0
  ·simp only [a1,a2,if_true,if_false] at H ⊢;exact H
  by_cases a3:1099511627776<s.last
  ·simp only [a1,a2,a3,if_true,if_false] at H ⊢;exact H
  simp only [a1,a2,a3,if_false] at H ⊢
  have fin:∀ (a4:¬ s.id≤last),(if s.last=0 then (if (!((decide (s.reply.why=0)&&decide (s.reply.number=0))&&decide (s.reply.gross=0)))=true then V.bool false=V.bool (aD eN (fun x=>true) l 0) else aE [V.bool false,V.int .i64 ((i+1:Nat):Int)] ⟨S.next+57,S.heap⟩) else aE [V.bool false,V.int .i64 ((i+1:Nat):Int)] ⟨S.next+57,S.heap⟩):=by
   intro a4
   have hn:=hnext S (by omega)
   simp only [a4,if_false] at H
   by_cases a5:s.last=0
   ·by_cases a6:(s.reply.why=0∧s.reply.number=0)∧s.reply.gross=0
    ·simp only [a5,a6,and_self,not_true_eq_false,and_false,if_true,if_false,decide_true,Bool.and_self,Bool.not_true,Bool.false_eq_true] at H ⊢
     exact H _ _ hn
    ·have a6':(!((decide (s.reply.why=0)&&decide (s.reply.number=0))&&decide (s.reply.gross=0)))=true:=by simp only [Bool.not_eq_true',Bool.and_eq_false_iff,decide_eq_false_iff_not];omega
     simp only [a5,a6,a6',and_self,not_false_eq_true,if_true] at H ⊢
     exact H
   ·simp only [a5,false_and,if_false] at H ⊢
    exact H _ _ hn
  by_cases i0:i=0
  ·simp only [show ¬ (0:Int)<(i:Int) by omega,if_false]
   have:=fin (by have:=h1 i0;omega)
   simpa using this
  ·have hj:l[i - 1]?=some l[i - 1]:=List.getElem?_eq_getElem (by omega)
   have e0:=h2 _ (by omega) hj
   have w:wr .i64 ((i:Int) - 1)=((i - 1:Nat):Int):=by rw [mU (by omega) (by omega)];omega
   simp only [↓cw,↓reduceIte,Nat.reduceLT,show (0:Int)<(i:Int) by omega,if_true,w,lM hj,Sess.enc,kk,←e0]
   by_cases a4:s.id≤last
   ·simp only [a4,if_true] at H ⊢;exact H
   ·simp only [a4,if_false]
    simpa using fin a4
 ·rintro s vs S ⟨rfl,_⟩ aE H
  simp only [↓cw,↓reduceIte,Nat.reduceLT,kk,Int.lt_irrefl]
  exact H
theorem bK5 (l:List Ser) (name:List UInt8) (hb:l.length<1000000) (S:St) (K:KW):C 117 [.imm (l.map Ser.enc),.str name] S K=K (.int .i64 (dE l name)) S:=by
 refine (bL3 rfl ?_).eq S K
 delta Tryz.f117;simp only [↓cw,↓reduceIte,Nat.reduceLT,kk]
 refine aF l (step:=cU fun s:Ser=>s.name == name) (fin:=fun _=>-1) (fun i k vs S=>k=i∧vs=[.int .i64 0,.int .i64 (i:Int)]) (fun r=>r=dE l name) ?_ ?_ ⟨rfl,rfl⟩ rfl
 ·rintro i s k vs S hi ⟨rfl,rfl⟩ aE H
  have hil:=(List.getElem?_eq_some_iff.1 hi).1
  simp only [cU] at H
  simp only [↓cw,↓reduceIte,Nat.reduceLT,kk,bL hi,if_true,lU hi,Ser.enc,iE (show k<1000000000 by omega)]
  cases c:s.name == name<;>simp only [↓cw,↓reduceIte,Nat.reduceLT,c,kk,if_true,if_false,Bool.false_eq_true,oo] at H ⊢
  ·exact H _ _ rfl
  ·rw [←H]
 ·rintro k vs S ⟨rfl,rfl⟩ aE H
  have H:(-1:Int)=_:=H
  simp only [↓cw,↓reduceIte,Nat.reduceLT,kk,Int.lt_irrefl,if_false,oo,←H]
theorem bs0 (n:Nat) (z:List V) (fr:Option Nat) (S:St):bN n z 0 [] fr S=(match aY fr S (.row 0 n []) with
  | .error e=>.error e
  | .ok (a,S')=>.ok (.sl a 0 n 0 0,S')):=by unfold bN;rw [if_pos (by omega)];rfl
theorem bK6 {α:Type} {enc:α→List V} {n:Nat} (hl:∀ x,(enc x).length=n∧aH (enc x)=true) {l:List α} {S:St} {a ver:Nat} (hg:S.heap.get a=some (.row ver n (l.map enc))) (ha:a<S.next):Own E0 S n (.sl a ver n 0 l.length) (l.map enc):=
 ⟨.inr ⟨a,ver,[],by rw [List.length_map],Nat.zero_le _,ha,by rw [List.append_nil];exact hg⟩,fun c hc=>by obtain ⟨x,_,rfl⟩:=List.mem_map.1 hc;exact hl x⟩
theorem bDx {α:Type} {enc:α→List V} {n b:Nat} (hl:∀ x,(enc x).length=n∧aH (enc x)=true) (l:List α) (x:α) {S:St} {a k ver:Nat} (hg:aA S a ver=.ok (n,l.map enc)) (hx:aA S k 0=.ok (n,[enc x])) (h1:(l.length+1)*b≤35184372088832) (h2:l.length+1<dR) (fr:Option Nat):
  eE n b (.sl a ver n 0 l.length) (.sl k 0 n 0 1) fr S=.ok (.sl a (ver+1) n 0 (l.length+1),⟨S.next,S.heap.put a (.row (ver+1) n ((l++[x]).map enc))⟩):=by
 have hu:aO S (.sl k 0 n 0 1)=.ok [enc x]:=by simp only [aO,hx];rfl
 have a1:iQ n [enc x]=true∧[enc x].all aH=true:=cY (fun c hc=>by rcases List.mem_singleton.1 hc with rfl;exact hl x)
 simp only [eE,hu,a1,and_self,if_true,hg,List.length_map,Nat.zero_add,Nat.le_refl,List.length_cons,List.length_nil,h1,h2,List.drop_zero,List.map_append,List.map_cons,List.map_nil]
 rw [List.take_of_length_le (by rw [List.length_map];exact Nat.le_refl _)]
theorem bPp (l:List Bal) (hb:l.length<1000000) (S:St) (K:KW):C 199 [.imm (l.map Bal.enc)] S K=K (.bool (uY l)) S:=by
 refine (bM9 rfl ?_).eq S K
 delta Tryz.f199;simp only [↓cw,↓reduceIte,Nat.reduceLT]
 refine aF (l.drop 1) (step:=sP) (fin:=fun _=>true) (fun i s vs S=>s=l[i]?∧vs=[.bool false,.int .i64 ((i+1:Nat):Int)]) (fun r=>r=uY l) ?_ ?_ (s:=l[0]?) ⟨rfl,rfl⟩ rfl
 ·rintro i r s vs S hi ⟨rfl,rfl⟩ aE H
  rw [List.getElem?_drop,Nat.add_comm] at hi
  have hil:=(List.getElem?_eq_some_iff.1 hi).1
  have hj:l[i]?=some l[i]:=List.getElem?_eq_getElem (by omega)
  simp only [hj,sP,hi] at H
  simp only [↓cw,↓reduceIte,Nat.reduceLT,kk,bL hi,if_true,oC hi,oC hj,Bal.enc,wrm (show i+1<1000000000 by omega),iE (show i+1<1000000000 by omega),gm]
  cases c:fN l[i].acc r.acc<;>simp only [↓cw,↓reduceIte,Nat.reduceLT,c,kk,Bool.not_false,Bool.not_true,if_true,if_false,Bool.false_eq_true,oo] at H ⊢
  ·rw [←H]
  ·exact H _ _ rfl
 ·rintro s vs S ⟨rfl,rfl⟩ aE H
  have H:true=uY l:=H
  have hn:¬ (((l.drop 1).length+1:Nat):Int)<(l.length:Int):=by rw [List.length_drop];omega
  simp only [↓cw,↓reduceIte,Nat.reduceLT,kk,hn,if_false,oo,←H]
theorem aR6 {l:List Ser} {name:List UInt8} (h:¬ dE l name<0):∃ (i:Nat) (s:Ser),dE l name=(i:Int)∧l[i]?=some s:=by
 rcases gV (fun x:Ser=>x.name == name) l with e | ⟨i,a,e,hi,_⟩
 ·exact absurd (show dE l name<0 by unfold dE;rw [e];decide) h
 ·exact ⟨i,a,e,hi⟩
def eX (w:Int×Int) (n:Int):Int×Int:=
 let lo:=wr .u64 (w.2+wr .u64 n)
 let hi:=if lo<w.2 then wr .i64 (w.1+1) else w.1
 (if n<0 then wr .i64 (hi - 1) else hi,lo)
theorem bK7 (hi lo n:Int) (S:St) (K:KW):C 258 [.agg [.int .i64 hi,.int .u64 lo],.int .i64 n] S K=K (.agg [.int .i64 (eX (hi,lo) n).1,.int .u64 (eX (hi,lo) n).2]) S:=by
 refine (bN0 rfl ?_).eq S K
 delta Tryz.f258;simp only [↓cw,↓reduceIte,Nat.reduceLT,kk,iI,gm,eX]
 by_cases c1:wr .u64 (lo+wr .u64 n)<lo<;>by_cases c2:n<0<;>simp only [↓cw,↓reduceIte,Nat.reduceLT,c1,c2,kk,if_true,if_false,oo]
theorem aDz {hi lo n:Int} (h0:0≤lo) (h1:lo<18446744073709551616) (hn:I64 n) (b1:-1237940039285380274899124224≤hi*18446744073709551616+lo) (b2:hi*18446744073709551616+lo≤1237940039285380274899124224):
  (eX (hi,lo) n).1*18446744073709551616+(eX (hi,lo) n).2=hi*18446744073709551616+lo+n∧0≤(eX (hi,lo) n).2∧(eX (hi,lo) n).2<18446744073709551616:=by
 obtain ⟨n1,n2⟩:=hn
 obtain ⟨A,hA⟩:∃ A,A=wr .u64 n:=⟨_,rfl⟩
 have e1:A=n % 18446744073709551616:=by rw [hA,aBq]
 obtain ⟨B,hB⟩:∃ B,B=wr .u64 (lo+A):=⟨_,rfl⟩
 have e2:B=(lo+A) % 18446744073709551616:=by rw [hB,aBq]
 have w1:wr .i64 (hi+1)=hi+1:=dX ⟨by omega,by omega⟩
 have w2:wr .i64 (hi - 1)=hi - 1:=dX ⟨by omega,by omega⟩
 have w3:wr .i64 (hi+1 - 1)=hi:=by rw [dX ⟨by omega,by omega⟩];omega
 unfold eX
 simp only [←hA,←hB,w1]
 refine ⟨?_,?_,?_⟩<;>repeat' split
 all_goals omega
theorem aR7 (l:List Int):∀ (hi lo:Int),(∀ n∈l,I64 n)→0≤lo→lo<18446744073709551616→-1237940039285380274899124224+9223372036854775808*(l.length:Int)≤hi*18446744073709551616+lo→hi*18446744073709551616+lo≤1237940039285380274899124224 - 9223372036854775808*(l.length:Int)→
  (l.foldl eX (hi,lo)).1*18446744073709551616+(l.foldl eX (hi,lo)).2=hi*18446744073709551616+lo+l.sum∧0≤(l.foldl eX (hi,lo)).2∧(l.foldl eX (hi,lo)).2<18446744073709551616:=by
 induction l with
 | nil=>
  intro hi lo _ h0 h1 _ _
  exact ⟨(Int.add_zero _).symm,h0,h1⟩
 | cons n l ih=>
  intro hi lo hl h0 h1 b1 b2
  have hn:=hl n (List.mem_cons_self ..)
  have hlen:(((n::l).length:Nat):Int)=(l.length:Int)+1:=by rw [List.length_cons];omega
  rw [hlen] at b1 b2
  obtain ⟨s1,s2,s3⟩:=aDz (hi:=hi) h0 h1 hn (by omega) (by omega)
  obtain ⟨n1,n2⟩:=hn
  have hp:eX (hi,lo) n=((eX (hi,lo) n).1,(eX (hi,lo) n).2):=rfl
  rw [List.foldl_cons,List.sum_cons,hp]
  generalize (eX (hi,lo) n).1=p at *
  generalize (eX (hi,lo) n).2=q at *
  obtain ⟨t1,t2⟩:=ih p q (fun x hx=>hl x (List.mem_cons_of_mem _ hx)) s2 s3 (by omega) (by omega)
  exact ⟨by rw [t1,s1,Int.add_assoc],t2⟩
def aB4 (l:List Int):Int×Bool:=(wr .i64 (l.foldl eX (0,0)).2,decide ((l.foldl eX (0,0))=eX (0,0) (wr .i64 (l.foldl eX (0,0)).2)))
theorem bDy (n:Int):wr .i64 n=(n+9223372036854775808) % 18446744073709551616 - 9223372036854775808:=by
 unfold wr lo hi
 simp only
 split
 ·omega
 ·rw [IntKind.wrap_i64]
theorem aPb {l:List Int} (hl:∀ n∈l,I64 n) (hb:l.length≤1000000):aB4 l=dO l:=by
 obtain ⟨s1,s2,s3⟩:=aR7 l 0 0 hl (Int.le_refl _) (by decide) (by omega) (by omega)
 obtain ⟨e1,e2⟩:=fP hl hb
 unfold aB4
 generalize l.foldl eX (0,0)=w at *
 obtain ⟨hi,lo⟩:=w
 simp only at s1 s2 s3 ⊢
 have hw:=wF lo
 obtain ⟨p1,p2,p3⟩:=aDz (hi:=0) (lo:=0) (Int.le_refl _) (by decide) hw (by decide) (by decide)
 have hwl:wr .i64 lo=wr .i64 l.sum:=by
  have e:=bDy
  rw [e,e]
  omega
 refine Prod.ext (hwl.trans e1.symm) ?_
 rw [Bool.eq_iff_iff,decide_eq_true_eq,e2]
 constructor
 ·intro h
  have h':=h
  rw [←h'] at p1
  simp only at p1
  have:l.sum=wr .i64 lo:=by omega
  rw [this];exact hw
 ·intro h
  have hs:wr .i64 lo=l.sum:=by rw [hwl];exact dX h
  rw [hs] at p1 p2 p3 ⊢
  generalize eX (0,0) l.sum=q at *
  obtain ⟨qh,ql⟩:=q
  simp only at p1 p2 p3
  have:hi=qh∧lo=ql:=by omega
  rw [this.1,this.2]
theorem bDz {l:List Int} {i:Nat} {a:Int} (hi:l[i]?=some a) (k:IntKind):gS 1 (.imm (l.map cD)) (.int k (i:Int))=.ok (.iptr (cD a) 0):=ixI (enc:=cD) hi rfl k
theorem bPq (l:List Int) (hb:l.length<1000000) (S:St) (K:KW):C 223 [.imm (l.map cD)] S K=K (.tup [.int .i64 (aB4 l).1,.bool (aB4 l).2]) S:=by
 refine (bMj rfl ?_).eq S K
 delta Tryz.f223;simp only [↓cw,↓reduceIte,Nat.reduceLT,kk]
 refine aF l (step:=fun w n=>(.inr (eX w n):(Int×Int)⊕(Int×Int))) (fin:=id) (fun i w vs S=>vs=[.int .i64 (i:Int)]∧aA S 0 0=.ok (2,[[.int .i64 w.1,.int .u64 w.2]])) (fun w=>w=l.foldl eX (0,0)) ?_ ?_ (s:=(0,0)) ⟨rfl,aC _ _ _ _ _ _⟩ ?_
 ·rintro i n ⟨hi',lo'⟩ vs S hi ⟨rfl,hg⟩ aE H
  have hil:=(List.getElem?_eq_some_iff.1 hi).1
  simp only [↓cw,↓reduceIte,Nat.reduceLT,kk,bL hi,if_true,gm,hg,bDz hi,cD,bK7,iE (show i<1000000000 by omega)]
  exact H _ _ ⟨rfl,aC _ _ _ _ _ _⟩
 ·rintro ⟨hi',lo'⟩ vs S ⟨rfl,hg⟩ aE H
  have H:(hi',lo')=l.foldl eX (0,0):=H
  simp only [↓cw,↓reduceIte,Nat.reduceLT,kk,Int.lt_irrefl,if_false,gm,hg,bK7,oo,aB4,←H]
  have:∀ p:Int×Int,(decide (hi'=p.1)&&decide (lo'=p.2))=decide ((hi',lo')=p):=fun p=>by
   obtain ⟨a,b⟩:=p
   rw [Bool.eq_iff_iff];simp
  rw [this]
 ·have:∀ (l:List Int) (w:Int×Int),aD (fun w n=>(.inr (eX w n):(Int×Int)⊕(Int×Int))) id l w=l.foldl eX w:=by
   intro l
   induction l with
   | nil=>intro w;rfl
   | cons n l ih=>intro w;simp only [aD,List.foldl_cons];exact ih _
  exact this _ _
theorem bK8 {S:St} {v:V} {l:List Int} (o:Own E0 S 1 v (l.map cD)) (hb:l.length<1000000) (K:KW):C 223 [v] S K=K (.tup [.int .i64 (aB4 l).1,.bool (aB4 l).2]) S:=by
 have h:=o.out fun _=>rfl
 exact (Fn.back fun S K=>bPq l hb S K).frz bEn rfl (by simp only [frzVs,h]) (by simp only [ptrsVs,o.ptrs];rfl) (.inl rfl) K
def lE (l:List Part):Int×Int×Bool:=((aB4 (l.map (·.net))).1,(aB4 (l.map (·.tax))).1,(aB4 (l.map (·.net))).2&&(aB4 (l.map (·.tax))).2)
theorem bPr (l:List Part) (hl:l.length<100000) (S:St) (K:KW):C 161 [.imm (l.map Part.enc)] S K=K (.tup [.int .i64 (lE l).1,.int .i64 (lE l).2.1,.bool (lE l).2.2]) S:=by
 refine (bLi rfl ?_).eq S K
 delta Tryz.f161;simp only [↓cw,↓reduceIte,Nat.reduceLT,kk]
 refine aF l (step:=tX) (fin:=id) (fun i s vs S=>∃ u v,vs=[u,v,.int .i64 (i:Int)]∧Own E0 S 1 u (s.1.map cD)∧Own E0 S 1 v (s.2.map cD)∧s.1.length=i∧s.2.length=i∧WF S∧(∀ y,AM.blkOf u=some y→AM.blkOf v≠some y)) (fun r=>r=(l.map (·.net),l.map (·.tax))) ?_ ?_ (s:=([],[])) ⟨_,_,rfl,Own.nil _ _ _,Own.nil _ _ _,rfl,rfl,nK,fun y h=>(by cases h)⟩ (by rw [bDc];rfl)
 ·rintro i p ⟨ns,ts⟩ vs S hi ⟨u,v,rfl,ou,ov,lu,lv,w,huv⟩ aE H
  have hil:=(List.getElem?_eq_some_iff.1 hi).1
  have lu:ns.length=i:=lu
  have lv:ts.length=i:=lv
  simp only [tX] at H
  have bu:∀ y,AM.blkOf u=some y→y<S.next:=fun y hy=>(fG ou hy).2
  have bv:∀ y,AM.blkOf v=some y→y<S.next:=fun y hy=>(fG ov hy).2
  obtain ⟨u',S2,q1,w2,n2,ou2,bu2,keep2⟩:=aJs (b:=8) ou w (k1:=S.next+6) (k2:=S.next+7) (m:=S.next+18) (fresh w (by omega)) (fresh w (by omega)) (by omega) (by omega) (by omega) (by omega) (aQp p.net) (by simp;omega) (by simp [dR];omega)
  have k2:∀ y,y<S.next→AM.blkOf u≠some y→S2.heap.get y=S.heap.get y:=fun y hy h=>keep2 y (by omega) (by omega) h
  have ov2:Own E0 S2 1 v (ts.map cD):=ov.same (by omega) fun a ha=>k2 a (by have:=bv a ha;omega) fun h=>huv a h ha
  have fr8:∀ k,8≤k→S2.heap.get (S.next+k)=none:=fun k hk=>by
   rw [keep2 (S.next+k) (by omega) (by omega) fun h=>by have:=bu _ h;omega];exact fresh w (by omega)
  obtain ⟨v',S3,q2,w3,n3,ov3,bv3,keep3⟩:=aJs (b:=8) ov2 w2 (k1:=S.next+14) (k2:=S.next+15) (m:=S2.next) (fr8 14 (by omega)) (fr8 15 (by omega)) (by omega) (by omega) (by omega) (Nat.le_refl _) (aQp p.tax) (by simp;omega) (by simp [dR];omega)
  have hu2:∀ y,AM.blkOf u'=some y→y=S.next+7∨AM.blkOf u=some y:=fun y hy=>by
   rcases bu2 with h | h
   ·rw [h] at hy;cases hy;exact .inl rfl
   ·rw [h] at hy;exact .inr hy
  have hv3:∀ y,AM.blkOf v'=some y→y=S.next+15∨AM.blkOf v=some y:=fun y hy=>by
   rcases bv3 with h | h
   ·rw [h] at hy;cases hy;exact .inl rfl
   ·rw [h] at hy;exact .inr hy
  have hb8:∀ a,AM.blkOf u'=some a→a≠S.next+14∧a≠S.next+15:=fun a ha=>by
   rcases hu2 a ha with h | h
   ·omega
   ·have:=bu a h;omega
  have ou3:Own E0 S3 1 u' ((ns++[p.net]).map cD):=by
   rw [List.map_append]
   exact ou2.same (by omega) fun a ha=>keep3 a (hb8 a ha).1 (hb8 a ha).2 fun hv=>by
    rcases hu2 a ha with h | h
    ·have:=bv a hv;omega
    ·exact huv a h hv
  simp only [cD] at q1 q2
  simp only [↓cw,↓reduceIte,Nat.reduceLT,kk,bL hi,if_true,iT hi,Part.enc,iE (show i<1000000000 by omega),gm,zS,q1,q2]
  exact H _ _ ⟨u',v',rfl,ou3,by rw [List.map_append];exact ov3,by simp;omega,by simp;omega,w3,fun y hy hy'=>by
   rcases hu2 y hy with h | h<;>rcases hv3 y hy' with h' | h'
   ·omega
   ·have:=bv y h';omega
   ·have:=bu y h;omega
   ·exact huv y h h'⟩
 ·rintro ⟨ns,ts⟩ vs S ⟨u,v,rfl,ou,ov,lu,lv,w,huv⟩ aE H
  have H:(ns,ts)=(l.map (·.net),l.map (·.tax)):=H
  obtain ⟨rfl,rfl⟩:=Prod.mk.inj H
  have c1:=fun K=>bK8 ou (by rw [List.length_map];omega) K
  have c2:=fun K=>bK8 ov (by rw [List.length_map];omega) K
  simp only [↓cw,↓reduceIte,Nat.reduceLT,kk,Int.lt_irrefl,if_false,c1,c2,lE]
  cases (aB4 (l.map (·.net))).2<;>simp only [↓cw,↓reduceIte,Nat.reduceLT,kk,if_true,if_false,Bool.false_eq_true,oo,Bool.true_and,Bool.false_and]
theorem aW9 {t:Total} (hi:∀ p∈t.parts,I64 p.net∧I64 p.tax) (hl:t.parts.length≤1000000):
  (if (lE t.parts).2.2=true then (if (cS (lE t.parts).1 (lE t.parts).2.1).2=0 then (if (lE t.parts).1=t.net then (if (lE t.parts).2.1=t.tax then decide ((cS (lE t.parts).1 (lE t.parts).2.1).1=t.gross) else false) else false) else false) else false)=iD t:=by
 have h1:∀ n∈t.parts.map (·.net),I64 n:=fun n h=>by obtain ⟨p,hp,rfl⟩:=List.mem_map.1 h;exact (hi p hp).1
 have h2:∀ n∈t.parts.map (·.tax),I64 n:=fun n h=>by obtain ⟨p,hp,rfl⟩:=List.mem_map.1 h;exact (hi p hp).2
 unfold lE iD
 simp only
 rw [aPb h1 (by rw [List.length_map];exact hl),aPb h2 (by rw [List.length_map];exact hl)]
 by_cases c1:(dO (t.parts.map (·.net))).2=true
 ·by_cases c2:(dO (t.parts.map (·.tax))).2=true
  ·simp only [c1,c2,Bool.and_self,if_true]
   have i1:I64 (dO (t.parts.map (·.net))).1:=by rw [(fP h1 (by rw [List.length_map];exact hl)).1];exact wF _
   have i2:I64 (dO (t.parts.map (·.tax))).1:=by rw [(fP h2 (by rw [List.length_map];exact hl)).1];exact wF _
   by_cases c3:(dO (t.parts.map (·.net))).1=t.net
   ·by_cases c4:(dO (t.parts.map (·.tax))).1=t.tax
    ·rw [c3] at i1
     rw [c4] at i2
     simp only [c3,c4,if_true]
     rw [pF i1 i2]
     have hx:=fP (l:=[t.net,t.tax]) (fun n hn=>by simp at hn;rcases hn with rfl | rfl<;>assumption) (by simp)
     have hs:[t.net,t.tax].sum=t.net+t.tax:=by simp
     rw [hs] at hx
     by_cases c5:I64 (t.net+t.tax)
     ·rw [if_pos c5,if_pos (hx.2.2 c5),hx.1,dX c5];rfl
     ·rw [if_neg c5,if_neg (fun h=>c5 (hx.2.1 h))];rfl
    ·simp only [c3,c4,if_true,if_false];split<;>split<;>rfl
   ·simp only [c3,if_false];split<;>split<;>rfl
  ·simp only [c1,c2,Bool.and_false,if_true,if_false,Bool.false_eq_true,Bool.true_and]
 ·simp only [c1,Bool.false_and,if_false,Bool.false_eq_true]
theorem aR8 {n:Int} (h:I64 n):aD7 n=if n<0 then -n else n:=by
 obtain ⟨h1,h2⟩:=h
 unfold aD7
 split
 ·rw [dX (n:=n+1) ⟨by omega,by omega⟩,dX (n:=0 - (n+1)) ⟨by omega,by omega⟩,dG (n:=0 - (n+1)) (by omega) (by omega),dG (by omega) (by omega)]
  omega
 ·exact dG (by omega) (by omega)
theorem aYr {n bp:Int} (h:I64 n):aUw n bp=bF n bp:=by
 by_cases c0:bp<0∨100000<bp
 ·unfold aUw bF
  rw [if_pos c0,if_pos c0]
 have h1:0≤bp:=by omega
 have h2:bp≤100000:=by omega
 rw [zX h h1 h2]
 unfold aUw
 rw [if_neg c0]
 simp only [aR8 h]
 have hp:wr .u64 bp=bp:=dG h1 (by omega)
 rw [hp]
 obtain ⟨n1,n2⟩:=h
 obtain ⟨u,hu⟩:∃ u,u=(if n<0 then -n else n):=⟨_,rfl⟩
 rw [←hu]
 have hu0:0≤u∧u≤9223372036854775808:=by subst hu;split<;>omega
 have hq:u.tdiv 10000=u / 10000:=Int.tdiv_eq_ediv_of_nonneg hu0.1
 have hr:u.tmod 10000=u % 10000:=Int.tmod_eq_emod_of_nonneg hu0.1
 have hmax:(9223372036854775807:Int).tdiv bp=9223372036854775807 / bp:=Int.tdiv_eq_ediv_of_nonneg (by decide)
 rw [hq,hr,hmax,dG (n:=u / 10000) (by omega) (by omega)]
 have hdiv:0<bp→0≤9223372036854775807 / bp∧9223372036854775807 / bp<18446744073709551616:=by
  intro hb
  constructor
  ·exact Int.ediv_nonneg (by decide) (by omega)
  ·have:=Int.ediv_le_self bp (a:=9223372036854775807) (by decide);omega
 unfold wL
 by_cases c:0<bp∧9223372036854775807 / bp<u / 10000
 ·rw [if_pos c,if_pos ⟨c.1,by rw [dG (hdiv c.1).1 (hdiv c.1).2];exact c.2⟩]
 ·rw [if_neg c,if_neg (fun q=>c ⟨q.1,by have:=q.2;rwa [dG (hdiv q.1).1 (hdiv q.1).2] at this⟩)]
  have hm1:0≤u / 10000*bp:=Int.mul_nonneg (by omega) h1
  have hm2:u / 10000*bp≤9223372036854775807:=by
   by_cases hb:0<bp
   ·have hle:u / 10000≤9223372036854775807 / bp:=by
     by_cases q:u / 10000≤9223372036854775807 / bp
     ·exact q
     ·exact absurd ⟨hb,by omega⟩ c
    calc u / 10000*bp≤9223372036854775807 / bp*bp:=Int.mul_le_mul_of_nonneg_right hle h1
     _≤9223372036854775807:=Int.ediv_mul_le _ (by omega)
   ·have:bp=0:=by omega
    subst this;simp
  have hr1:0≤u % 10000*bp:=Int.mul_nonneg (by omega) h1
  have hr2:u % 10000*bp≤10000*100000:=Int.mul_le_mul (by omega) h2 h1 (by decide)
  rw [dG hm1 (by omega),dG hr1 (by omega),dG (n:=u % 10000*bp+5000) (by omega) (by omega)]
  have ht:(u % 10000*bp+5000).tdiv 10000=(2*(u % 10000)*bp+10000) / 20000:=by
   rw [Int.tdiv_eq_ediv_of_nonneg (by omega),Int.mul_assoc];omega
  have hr3:2*(u % 10000)*bp=2*(u % 10000*bp):=Int.mul_assoc ..
  rw [ht,dG (n:=(2*(u % 10000)*bp+10000) / 20000) (by omega) (by omega),dG (n:=u / 10000*bp+(2*(u % 10000)*bp+10000) / 20000) (by omega) (by omega)]
  obtain ⟨t,htt⟩:∃ t,t=u / 10000*bp+(2*(u % 10000)*bp+10000) / 20000:=⟨_,rfl⟩
  have ht0:0≤t:=by omega
  rw [←htt]
  split
  ·rfl
  ·rename_i hle
   rw [mU (n:=t) (by omega) (by omega)]
   split
   ·rw [mU (by omega) (by omega)];simp
   ·rfl
theorem aYs {u:Int} (h1:0≤u) (h2:u<18446744073709551616):aEh u=18446744073709551615 - u:=by
 unfold aEh
 simp only [IntKind.signed,Bool.false_eq_true,if_false]
 have hm:(IntKind.u64.max:Int)=18446744073709551615:=by decide
 rw [hm]
 have hb:IntKind.u64.bits=64:=rfl
 rw [hb]
 have:(BitVec.ofInt 64 18446744073709551615 ^^^ BitVec.ofInt 64 u) = ~~~(BitVec.ofInt 64 u):=by
  rw [show (BitVec.ofInt 64 18446744073709551615)=BitVec.allOnes 64 from by decide,BitVec.allOnes_xor]
 rw [this,BitVec.toNat_not]
 have hv:(BitVec.ofInt 64 u).toNat=u.toNat:=by
  rw [BitVec.toNat_ofInt]
  omega
 rw [hv,dG (by omega) (by omega)]
 omega
theorem bPs (t:Total) (hint:∀ p∈t.parts,I64 p.net∧I64 p.tax) (S:St) (K:KW):C 119 [.agg [.int .i64 t.net,.int .i64 t.tax,.int .i64 t.gross,.imm (t.parts.map Part.enc)]] S K=K (.bool (bU t)) S:=by
 refine (bNb rfl ?_).eq S K
 simp only [aXf,kk,bU]
 by_cases c1:t.parts.length<1
 ·simp only [c1,show (t.parts.length:Int)=0 by omega,kk,oo,if_true]
 by_cases c2:12<t.parts.length
 ·simp only [c1,c2,show ¬ (t.parts.length:Int)=0 by omega,show (12:Int)<(t.parts.length:Int) by omega,kk,oo,if_true,if_false]
 simp only [c1,c2,show ¬ (t.parts.length:Int)=0 by omega,show ¬ (12:Int)<(t.parts.length:Int) by omega,kk,if_false]
 have hsum:=aW9 hint (by omega)
 refine aF t.parts (step:=cE) (fin:=fun _=>iD t) (fun i s vs S=>vs=[.bool false,.int .i64 (i:Int)]∧s=bX t.parts i∧aA S 0 0=.ok (4,[[.int .i64 t.net,.int .i64 t.tax,.int .i64 t.gross,.imm (t.parts.map Part.enc)]])∧0<S.next) (fun r=>r=aD cE (fun _=>iD t) t.parts none) ?_ ?_ (s:=none) ⟨rfl,rfl,aC _ _ _ _ _ _,Nat.zero_lt_one⟩ rfl
 ·rintro i p s vs S hi ⟨rfl,rfl,r0,h0⟩ aE H
  have hil:=(List.getElem?_eq_some_iff.1 hi).1
  have hn:bX t.parts (i+1)=some p:=by simpa [bX] using hi
  obtain ⟨S',hS'⟩:∃ S':St,S'=⟨S.next+1+30,(S.heap.put S.next (.row 0 4 [[.str [],.int .i64 0,.int .i64 0,.int .i64 0]])).put S.next (.row 0 4 [[.str p.cat,.int .i64 p.bp,.int .i64 p.net,.int .i64 p.tax]])⟩:=⟨_,rfl⟩
  have r2:aA S' 0 0=.ok (4,[[.int .i64 t.net,.int .i64 t.tax,.int .i64 t.gross,.imm (t.parts.map Part.enc)]]):=by rw [hS'];exact aG (n:=S.next) (by omega) (aG (n:=S.next) (by omega) r0)
  have r3:aA S' S.next 0=.ok (4,[[.str p.cat,.int .i64 p.bp,.int .i64 p.net,.int .i64 p.tax]]):=by rw [hS'];exact aC _ _ _ _ _ _
  have h2:0<S'.next:=by rw [hS'];exact Nat.succ_pos _
  have w1:wr .i64 ((i:Int)+1)=((i+1:Nat):Int):=iE (by omega)
  have ht3:=aYr (bp:=p.bp) (hint p (List.mem_of_getElem? hi)).1
  have hst:cE (bX t.parts i) p=if cW p.cat=false then .inl false else if p.bp<0 then .inl false else if 100000<p.bp then .inl false else if gB (bX t.parts i) p=true then .inl false else if (bF p.net p.bp).2=0 then (if (bF p.net p.bp).1=p.tax then .inr (some p) else .inl false) else .inl false:=by
   unfold cE tY tZ
   simp only [Bool.or_eq_true,decide_eq_true_eq]
   grind
  rw [hst] at H
  have hj0:∀ X:St,X=S'→(if (bF p.net p.bp).2=0 then (if (bF p.net p.bp).1=p.tax then aE [.bool false,.int .i64 ((i+1:Nat):Int)] S' else aD cE (fun _=>iD t) t.parts none=false) else aD cE (fun _=>iD t) t.parts none=false)→aBe C (fun v0 S0=>gK S0 v0=Except.ok (V.bool (aD cE (fun _=>iD t) t.parts none))) aE (.ptr 0 0 0 0) (.bool false) (.int .i64 (i:Int)) (.ptr S.next 0 0 0) X:=by
   rintro X rfl hyp
   simp only [aBe,kk,r3,bO5,ht3,dF,w1]
   by_cases d1:(bF p.net p.bp).2=0
   ·by_cases d2:(bF p.net p.bp).1=p.tax
    ·simp only [d1,d2,if_true,not_true_eq_false,if_false] at hyp ⊢;exact hyp
    ·simp only [d1,d2,if_true,if_false,not_true_eq_false,not_false_eq_true,oo] at hyp ⊢
     rw [hyp]
   ·simp only [d1,if_false,not_false_eq_true,if_true,oo] at hyp ⊢
    rw [hyp]
  simp only [aHh,kk,r0,bL hi,if_true,iT hi,Part.enc,←hS',r3,bDj]
  cases hna:cW p.cat
  ·simp only [hna,kk,if_true,Bool.not_false,oo] at H ⊢
   rw [←H]
  simp only [hna,kk,Bool.true_eq_false,Bool.not_true,Bool.false_eq_true,if_false,r3] at H ⊢
  by_cases e1:p.bp<0
  ·simp only [e1,if_true,oo] at H ⊢
   rw [←H]
  by_cases e2:100000<p.bp
  ·simp only [e1,e2,if_true,if_false,oo] at H ⊢
   rw [←H]
  simp only [e1,e2,if_false] at H ⊢
  have hlast:gB (bX t.parts i) p=false→(if (bF p.net p.bp).2=0 then (if (bF p.net p.bp).1=p.tax then aE [.bool false,.int .i64 ((i+1:Nat):Int)] S' else aD cE (fun _=>iD t) t.parts none=false) else aD cE (fun _=>iD t) t.parts none=false):=by
   intro e3
   simp only [e3,Bool.false_eq_true,if_false] at H
   by_cases d1:(bF p.net p.bp).2=0
   ·by_cases d2:(bF p.net p.bp).1=p.tax
    ·simp only [d1,d2,if_true] at H ⊢
     exact H _ _ ⟨rfl,by rw [hn],r2,h2⟩
    ·simp only [d1,d2,if_true,if_false] at H ⊢;exact H.symm
   ·simp only [d1,if_false] at H ⊢;exact H.symm
  by_cases i0:i=0
  ·have e3:gB (bX t.parts i) p=false:=by rw [i0];rfl
   simp only [show ¬ (0:Int)<(i:Int) by omega,if_false]
   exact hj0 S' rfl (hlast e3)
  ·have hj:t.parts[i - 1]?=some t.parts[i - 1]:=List.getElem?_eq_getElem (by omega)
   have hp:bX t.parts i=some t.parts[i - 1]:=by unfold bX;rw [if_neg i0];exact hj
   have w2:wr .i64 ((i:Int) - 1)=((i - 1:Nat):Int):=by rw [mU (by omega) (by omega)];omega
   have e4:gB (bX t.parts i) p=!fN t.parts[i - 1].cat p.cat:=by rw [hp];rfl
   simp only [show (0:Int)<(i:Int) by omega,if_true,r2,w2,iT hj,Part.enc,kk,r3]
   cases d:fN t.parts[i - 1].cat p.cat
   ·rw [d] at e4
    simp only [e4,Bool.not_false,if_true,oo] at H ⊢
    rw [←H]
   ·rw [d] at e4
    simp only [Bool.not_true,Bool.false_eq_true,if_false]
    exact hj0 S' rfl (hlast e4)
 ·rintro s vs S ⟨rfl,rfl,r0,h0⟩ aE H
  have H:iD t=aD cE (fun _=>iD t) t.parts none:=H
  rw [←H,←hsum]
  simp only [aHh,kk,r0,Int.lt_irrefl,if_false,bPr t.parts (by omega),bIr,dF]
  cases d1:(lE t.parts).2.2
  ·simp only [kk,Bool.false_eq_true,if_false,oo]
  simp only [kk,if_true]
  by_cases d2:(cS (lE t.parts).1 (lE t.parts).2.1).2=0
  ·simp only [d2,kk,if_true]
   by_cases d3:(lE t.parts).1=t.net
   ·by_cases d4:(lE t.parts).2.1=t.tax
    ·simp only [d3,d4,kk,if_true,oo]
    ·simp only [d3,d4,kk,if_true,if_false,oo]
   ·simp only [d3,kk,if_false,oo]
  ·simp only [d2,kk,if_false,oo]
end Go.Proofs.YtoaibmbldmckaaaGreat
end
section
namespace Go.AM
theorem aGi {n a ver i len:Nat} (h:i<len):gS n (.sl a ver n 0 len) (.int .i64 (i:Int))=.ok (.ptr a ver i 0):=by
 simp only [gS,jJ h,if_true,Nat.zero_add]
theorem aR9 {X:St} {a ver n i:Nat} {es:List (List V)} {cs:List V} (hg:X.heap.get a=some (.row ver n es)) (hi:es[i]?=some cs) (k:Option Nat) (j:Nat):jH k (.ptr a ver i j) X=lR k cs j:=by
 simp only [ldP,bW hg,hi]
theorem bCs {X:St} {a ver n i j:Nat} {es:List (List V)} {cs:List V} {v:V} (hg:X.heap.get a=some (.row ver n es)) (hi:es[i]?=some cs) (hv:v.cells=[v]) (ho:v.one=true) (hj:j+1≤cs.length):
  fV 1 (.ptr a ver i j) v X=.ok ⟨X.next,X.heap.put a (.row ver n (es.set i (splice cs j [v])))⟩:=by
 simp only [stP,bW hg,hi,hv]
 rw [if_pos ⟨rfl,by simp [aH,ho],hj⟩]
theorem bE0 {X:St} {a ver n i:Nat} {es:List (List V)} (hg:X.heap.get a=some (.row ver n es)) (hi:i≤es.length):aO X (.sl a ver n 0 i)=.ok (es.take i):=by
 have hb:Nat.ble (0+i) es.length=true:=Nat.ble_eq_true_of_le (by omega)
 simp only [aO,bW hg,hb,cond_true,List.drop_zero]
theorem bE1 {X:St} {a ver n i:Nat} {es:List (List V)} (hg:X.heap.get a=some (.row ver n es)) (hi:i≤es.length):aO X (.sl a ver n i (es.length - i))=.ok (es.drop i):=by
 have hb:Nat.ble (i+(es.length - i)) es.length=true:=Nat.ble_eq_true_of_le (by omega)
 simp only [aO,bW hg,hb,cond_true]
 rw [List.take_of_length_le (by rw [List.length_drop];omega)]
end Go.AM
namespace Go.Proofs.YtoaibmbldmckaaaGreat
open Go.AM Tryz
set_option linter.unusedVariables false
set_option linter.unusedSimpArgs false
set_option maxRecDepth 100000
theorem aA1 {α:Type} {enc:α→List V} {n b:Nat} (hl:∀ x,(enc x).length=n∧aH (enc x)=true) (l:List α) {S:St} {a:Nat} {u:V} (hu:aO S u=.ok (l.map enc)) (hg:aA S a 0=.ok (n,[])) (h1:l.length*b≤35184372088832) (h2:l.length<dR) (fr:Option Nat):
  eE n b (.sl a 0 n 0 0) u fr S=.ok (.sl a 1 n 0 l.length,⟨S.next,S.heap.put a (.row 1 n (l.map enc))⟩):=by
 have hc:∀ cs,cs∈l.map enc→cs.length=n∧aH cs=true:=fun cs hc=>by obtain ⟨x,_,rfl⟩:=List.mem_map.1 hc;exact hl x
 obtain ⟨a1,a2⟩:=cY hc
 simp only [eE,hu,a1,a2,and_self,if_true,hg,List.length_map,Nat.zero_add,List.length_nil,Nat.le_refl,h1,h2,List.drop_nil,List.take_nil,List.nil_append]
theorem aYt {α:Type} {enc:α→List V} {n b:Nat} (hl:∀ x,(enc x).length=n∧aH (enc x)=true) (l r:List α) {S:St} {a:Nat} {ver:Nat} {u:V} (hu:aO S u=.ok (r.map enc)) (hg:aA S a ver=.ok (n,l.map enc)) (h1:(l.length+r.length)*b≤35184372088832) (h2:l.length+r.length<dR) (fr:Option Nat):
  eE n b (.sl a ver n 0 l.length) u fr S=.ok (.sl a (ver+1) n 0 (l.length+r.length),⟨S.next,S.heap.put a (.row (ver+1) n ((l++r).map enc))⟩):=by
 have hc:∀ cs,cs∈r.map enc→cs.length=n∧aH cs=true:=fun cs hc=>by obtain ⟨x,_,rfl⟩:=List.mem_map.1 hc;exact hl x
 obtain ⟨a1,a2⟩:=cY hc
 simp only [eE,hu,a1,a2,and_self,if_true,hg,List.length_map,Nat.zero_add,Nat.le_refl,h1,h2,List.drop_zero,List.map_append]
 rw [List.take_of_length_le (by rw [List.length_map];exact Nat.le_refl _)]
theorem bK9 {α:Type} {enc:α→List V} {n b:Nat} (hl:∀ x,(enc x).length=n∧aH (enc x)=true) (l:List α) (x:α) {i:Nat} (hi:i≤l.length) {S:St} {k1 k2 m s vs:Nat} (hne:k1≠k2) (hs1:s≠k1) (hs2:s≠k2) (hsrc:S.heap.get s=some (.row vs n (l.map enc))) (hk1:k1<S.next) (hm:S.next≤m) (hg:aA S k1 0=.ok (n,[])) (w:WF S) (hk2:k2<m) (h1:(l.length+1)*b≤35184372088832) (h2:l.length+1<dR) (f1 f2 f3:Option Nat):
  ∃ S1 S2 S3:St,eE n b (.sl k1 0 n 0 0) (.sl s vs n 0 i) f1 S=.ok (.sl k1 1 n 0 i,S1)∧S1.next=S.next∧eE n b (.sl k1 1 n 0 i) (.sl k2 0 n 0 1) f2 ⟨m,S1.heap.put k2 (.row 0 n [enc x])⟩=.ok (.sl k1 2 n 0 (i+1),S2) ∧
   eE n b (.sl k1 2 n 0 (i+1)) (.sl s vs n i (l.length - i)) f3 S2=.ok (.sl k1 3 n 0 (l.length+1),S3)∧S3.next=m∧WF S3∧S3.heap.get k1=some (.row 3 n ((eG l i x).map enc))∧(∀ y,y≠k1→S1.heap.get y=S.heap.get y)∧∀ y,y≠k1→y≠k2→S3.heap.get y=S.heap.get y:=by
 have lt:(l.take i).length=i:=by rw [List.length_take];omega
 have ld:(l.drop i).length=l.length - i:=List.length_drop
 have lm:(l.map enc).length=l.length:=List.length_map _
 have hb:∀ j,j≤l.length+1→j*b≤35184372088832:=fun j hj=>Nat.le_trans (Nat.mul_le_mul_right b hj) h1
 have u1:aO S (.sl s vs n 0 i)=.ok ((l.take i).map enc):=by rw [bE0 hsrc (by omega),List.map_take]
 have q1:=aA1 (b:=b) hl (l.take i) u1 hg (hb _ (by omega)) (by omega) f1
 rw [lt] at q1
 have g2:aA ⟨m,(S.heap.put k1 (.row 1 n ((l.take i).map enc))).put k2 (.row 0 n [enc x])⟩ k1 1=.ok (n,(l.take i).map enc):=aQ (S:=⟨S.next,S.heap.put k1 (.row 1 n ((l.take i).map enc))⟩) (aC _ _ _ _ _ _) (Tr.get_put_neB _ _ _ _ trivial hne)
 have g3:aA ⟨m,(S.heap.put k1 (.row 1 n ((l.take i).map enc))).put k2 (.row 0 n [enc x])⟩ k2 0=.ok (n,[enc x]):=aC _ _ _ _ _ _
 have q2:=bDx (b:=b) hl (l.take i) x g2 g3 (hb _ (by omega)) (by omega) f2
 rw [lt] at q2
 obtain ⟨Z,hZ⟩:∃ Z:St,Z=⟨m,((S.heap.put k1 (.row 1 n ((l.take i).map enc))).put k2 (.row 0 n [enc x])).put k1 (.row 2 n ((l.take i++[x]).map enc))⟩:=⟨_,rfl⟩
 have g4:aA Z k1 2=.ok (n,(l.take i++[x]).map enc):=by rw [hZ];exact aC _ _ _ _ _ _
 have gs:Z.heap.get s=some (.row vs n (l.map enc)):=by
  rw [hZ]
  show (((S.heap.put k1 _).put k2 _).put k1 _).get s=_
  rw [Tr.get_put_neB _ _ _ _ trivial hs1,Tr.get_put_neB _ _ _ _ trivial hs2,Tr.get_put_neB _ _ _ _ trivial hs1];exact hsrc
 have u3:aO Z (.sl s vs n i (l.length - i))=.ok ((l.drop i).map enc):=by
  have:=bE1 gs (i:=i) (by omega)
  rw [lm] at this
  rw [this,List.map_drop]
 have l1:(l.take i++[x]).length=i+1:=by rw [List.length_append,lt];rfl
 have q3:=aYt (b:=b) hl (l.take i++[x]) (l.drop i) u3 g4 (hb _ (by omega)) (by omega) f3
 rw [l1,ld] at q3
 have e:i+1+(l.length - i)=l.length+1:=by omega
 rw [e] at q3
 have ei:l.take i++[x]++l.drop i=eG l i x:=by simp [eG]
 rw [ei] at q3
 have zn:Z.next=m:=by rw [hZ]
 have wZ:WF Z:=by rw [hZ];exact hM (n:=m) (hM (n:=S.next) (hM (n:=S.next) w hk1 (Nat.le_refl _)) hk2 hm) (show k1<m by omega) (Nat.le_refl _)
 refine ⟨_,Z,_,q1,rfl,by rw [hZ];exact q2,q3,zn,hM (n:=Z.next) wZ (by omega) (Nat.le_refl _),Tr.get_put_sameB _ _ _ trivial,fun y hy=>Tr.get_put_neB _ _ _ _ trivial hy,fun y hy hy2=>?_⟩
 show (Z.heap.put k1 _).get y=_
 rw [Tr.get_put_neB _ _ _ _ trivial hy,hZ]
 show (((S.heap.put k1 _).put k2 _).put k1 _).get y=_
 rw [Tr.get_put_neB _ _ _ _ trivial hy,Tr.get_put_neB _ _ _ _ trivial hy2,Tr.get_put_neB _ _ _ _ trivial hy]
end Go.Proofs.YtoaibmbldmckaaaGreat
end
section
namespace Go.Proofs.YtoaibmbldmckaaaGreat
open Go.AM Tryz
def lG (c:UInt8):List V:=[.int .u8 (c.toNat:Int)]
theorem u81 (c:UInt8):(lG c).length=1∧aH (lG c)=true:=⟨rfl,rfl⟩
theorem bPt {c:Int} (h0:0≤c) (h1:c<1000000000) (S:St):dD prog 22 (.int .i64 0) (.int .i64 c) none S=.ok (.sl S.next 0 1 0 0,⟨S.next+1,S.heap.put S.next (.row 0 1 [])⟩):=by
 have e1:iU prog 22=some 5:=by kernel_rfl
 have e2:aJ prog 5=some (.int .u8 0):=by kernel_rfl
 have e3:sz prog 5=1:=by kernel_rfl
 have e4:prog.bytesOf 5=1:=by kernel_rfl
 have e5:room prog 5 c.toNat=true:=by
  unfold room dR
  rw [e4,Bool.and_eq_true]
  exact ⟨Nat.ble_eq_true_of_le (by omega),by rw [Nat.blt_eq];omega⟩
 simp only [dD,e1,e2,e3,e5,nb0]
 rw [show (Nat.beq (V.cells (.int .u8 0)).length 1&&decide ((0:Int)≤0)&&decide (0≤c)&&decide (c<2147483648)&&true)=true by
  rw [decide_eq_true h0,decide_eq_true (show c<2147483648 by omega)];rfl]
 rfl
theorem bKa {S:St} {v:V} {b:List UInt8} (w:WF S) (hv:Sl S 1 v (b.map lG)) (hb:b.length<100000000) (n:Int) (h0:0≤n) (h1:n<100000000) {K:KW} (H:∀ v' S',Ext S S'→Own S S' 1 v' (b.map lG)→K v' S'):C 211 [v,.int .i64 n] S K:=by
 refine bMd ?_
 have w1:wr .i64 ((b.length:Int)+n)=(b.length:Int)+n:=mU (by omega) (by omega)
 have x1:Ext S ⟨S.next+1,S.heap.put S.next (.row 0 1 [])⟩:=Ext.new w _
 have q:=aA1 (b:=1) u81 b (S:=⟨S.next+1,S.heap.put S.next (.row 0 1 [])⟩) (a:=S.next) (hv.ext x1).elems (aC _ _ _ _ _ _) (by omega) (by unfold dR;omega) none
 delta Tryz.f211;simp only [↓cw,↓reduceIte,Nat.reduceLT,kk,hv.lenI,w1,bPt (c:=(b.length:Int)+n) (by omega) (by omega),q]
 exact H _ _ (x1.set (Nat.le_refl _) (Nat.lt_succ_self _) w _) ⟨.inr ⟨S.next,1,[],by rw [List.length_map],Nat.le_refl _,Nat.lt_succ_self _,by rw [List.append_nil];exact Tr.get_put_sameB _ _ _ trivial⟩,fun c hc=>by obtain ⟨x,_,rfl⟩:=List.mem_map.1 hc;exact u81 x⟩
theorem aWa {n:Int} (h:0≤n) (h2:n≤9223372036854775807):wr .u64 (wr .u64 n*2 ^ (min (1:Int).toNat IntKind.u64.bits))=((Go.Pack.zig n:Nat):Int):=by
 have e:(min (1:Int).toNat IntKind.u64.bits)=1:=by decide
 rw [e]
 unfold Go.Pack.zig
 rw [if_pos h]
 have h1:wr .u64 n=n:=by simp [wr,lo,hi,IntKind.wrap,IntKind.min,IntKind.max,IntKind.bits,IntKind.signed];omega
 rw [h1]
 simp [wr,lo,hi,IntKind.wrap,IntKind.min,IntKind.max,IntKind.bits,IntKind.signed];omega
theorem aPc {n:Int} (h:n<0) (h2:-9223372036854775808≤n):aEh (wr .u64 (wr .u64 n*2 ^ (min (1:Int).toNat IntKind.u64.bits)))=((Go.Pack.zig n:Nat):Int):=by
 have e:(min (1:Int).toNat IntKind.u64.bits)=1:=by decide
 rw [e]
 unfold Go.Pack.zig
 rw [if_neg (by omega)]
 have h1:wr .u64 n=18446744073709551616+n:=by simp [wr,lo,hi,IntKind.wrap,IntKind.min,IntKind.max,IntKind.bits,IntKind.signed];omega
 have h3:wr .u64 ((18446744073709551616+n)*2 ^ 1)=18446744073709551616+2*n:=by simp [wr,lo,hi,IntKind.wrap,IntKind.min,IntKind.max,IntKind.bits,IntKind.signed];omega
 rw [h1,h3,aYs (by omega) (by omega)]
 omega
theorem wr8 (u:Nat):wr .u8 (u:Int)=((u % 256:Nat):Int):=by
 simp only [wr,lo,hi,IntKind.wrap,IntKind.min,IntKind.max,IntKind.bits,IntKind.signed,Bool.false_and,Bool.false_eq_true,if_false]
 by_cases h:(u:Int)≤255
 ·rw [if_pos ⟨by omega,h⟩];omega
 ·rw [if_neg (fun q=>h q.2)];omega
theorem or8 (x:Nat) (h:x<256):BitVec.toNat (BitVec.ofInt 8 (x:Int) ||| BitVec.ofInt 8 128)=x % 128+128:=by
 have:=(by decide +kernel:∀ x:Fin 256,BitVec.toNat (BitVec.ofInt 8 (x.val:Int) ||| BitVec.ofInt 8 128)=x.val % 128+128) ⟨x,h⟩
 exact this
theorem aPd (u:Nat):wr .u8 ((BitVec.toNat (BitVec.ofInt IntKind.u8.bits (wr .u8 (u:Int)) ||| BitVec.ofInt IntKind.u8.bits 128):Nat):Int)=(((UInt8.ofNat (u % 128+128)).toNat:Nat):Int):=by
 rw [wr8 u]
 have e:=or8 (u % 256) (Nat.mod_lt _ (by decide))
 have:BitVec.toNat (BitVec.ofInt IntKind.u8.bits ((u % 256:Nat):Int) ||| BitVec.ofInt IntKind.u8.bits 128)=u % 256 % 128+128:=e
 rw [this,wr8,Go.Pack.byte_lt (by omega)]
 congr 1
 omega
theorem aKi {u:Nat} (h:u<128):wr .u8 (u:Int)=(((UInt8.ofNat u).toNat:Nat):Int):=by rw [wr8,Go.Pack.byte_lt (by omega)];congr 1;omega
theorem bKb (u:Nat):Int.fdiv (u:Int) (2 ^ (min (Int.toNat 7) IntKind.u64.bits))=((u / 128:Nat):Int):=by
 rw [show (min (Int.toNat 7) IntKind.u64.bits)=7 from by decide,Int.fdiv_eq_ediv_of_nonneg _ (by decide)]
 omega
theorem bKc (t:Nat) (k:IntKind) (a:Int):bQ prog .shl t (.int k a) (.int .u64 1)=.ok (.int k (wr k (a*2 ^ (min (1:Int).toNat k.bits)))):=rfl
theorem bCt (t:Nat) (k:IntKind) (a:Int):bQ prog .shr t (.int k a) (.int .u64 7)=.ok (.int k (Int.fdiv a (2 ^ (min (Int.toNat 7) k.bits)))):=rfl
theorem bKd (t:Nat) (a b:Int):bQ prog .or t (.int .u8 a) (.int .u8 b)=.ok (.int .u8 (wr .u8 ((BitVec.toNat (BitVec.ofInt IntKind.u8.bits a ||| BitVec.ofInt IntKind.u8.bits b):Nat):Int))):=rfl
theorem aYu {S:St} {v:V} {b:List UInt8} (w:WF S) (hv:Sl S 1 v (b.map lG)) (hb:b.length<10000000) (n:Int) (hn:I64 n) {K:KW} (H:∀ v' S',Ext S S'→Own S S' 1 v' ((b++Go.Pack.numP n).map lG)→K v' S'):C 138 [v,.int .i64 n] S K:=by
 refine bLd ?_
 delta Tryz.f138;simp only [↓cw,↓reduceIte,Nat.reduceLT,kk]
 refine bKa w hv (by omega) 10 (by decide) (by decide) fun v1 S1 x1 o1=>?_
 have hz:((Go.Pack.zig n:Nat):Int)=if n<0 then aEh (wr .u64 (wr .u64 n*2 ^ (min (1:Int).toNat IntKind.u64.bits))) else wr .u64 (wr .u64 n*2 ^ (min (1:Int).toNat IntKind.u64.bits)):=by
  split
  ·rw [aPc (by assumption) hn.1]
  ·rw [aWa (by omega) hn.2]
 by_cases hneg:n<0
 all_goals
  simp only [hneg,if_true,if_false] at hz
  simp only [↓cw,↓reduceIte,Nat.reduceLT,kk,bKc,hneg,if_true,if_false,unK,←hz]
  refine aCv (fun i vs X=>∃ v' done,vs=[v',.int .u64 (i:Int)]∧Own S X 1 v' (done.map lG)∧Ext S X∧done++Go.Pack.nb i=b++Go.Pack.numP n∧i<2 ^ 64) ?_ ⟨v1,b,rfl,o1.same (Nat.le_refl _) fun _ _=>rfl,x1,rfl,Go.Pack.zig_lt hn⟩
  rintro u vs X ⟨v',done,rfl,o,x,e,hu⟩ aE ha
  have hX:=x.wf w
  have hl:done.length+(Go.Pack.nb u).length=b.length+(Go.Pack.numP n).length:=by rw [←List.length_append,e,List.length_append]
  have hnp:=Go.Pack.numP_len hn
  have hnu:=Go.Pack.nb_pos u
  by_cases h:u<128
  ·have hb1:Go.Pack.nb u=[UInt8.ofNat u]:=Go.Pack.nb_low h
   have x2:Ext X ⟨X.next+1,X.heap.put X.next (.row 0 1 [lG (UInt8.ofNat u)])⟩:=Ext.new hX _
   obtain ⟨v2,X2,q1,x3,n3,o2⟩:=(o.ext x2).push (b:=1) (x.trans x2) w (u:=.sl X.next 0 1 0 1) (cs:=[lG (UInt8.ofNat u)]) (by simp only [aO,aC];rfl) (fun c hc=>by rcases List.mem_singleton.1 hc with rfl;exact u81 _) (by simp) (by simp;omega) (by simp [dR];omega)
   simp only [lG] at q1
   simp only [↓cw,↓reduceIte,Nat.reduceLT,kk,show ¬ (128:Int)≤(u:Int) by omega,if_false,aKi h,zS,q1]
   exact H _ _ x3 (by rw [←e,hb1];simpa using o2)
  ·have hb1:Go.Pack.nb u=UInt8.ofNat (u % 128+128)::Go.Pack.nb (u / 128):=Go.Pack.nb_high h
   have x2:Ext X ⟨X.next+1,X.heap.put X.next (.row 0 1 [lG (UInt8.ofNat (u % 128+128))])⟩:=Ext.new hX _
   obtain ⟨v2,X2,q1,x3,n3,o2⟩:=(o.ext x2).push (b:=1) (x.trans x2) w (u:=.sl X.next 0 1 0 1) (cs:=[lG (UInt8.ofNat (u % 128+128))]) (by simp only [aO,aC];rfl) (fun c hc=>by rcases List.mem_singleton.1 hc with rfl;exact u81 _) (by simp) (by simp;omega) (by simp [dR];omega)
   simp only [lG] at q1
   simp only [↓cw,↓reduceIte,Nat.reduceLT,kk,show (128:Int)≤(u:Int) by omega,if_true,bKd,aPd,zS,q1,bCt,bKb]
   exact ha (u / 128) _ _ (by omega) ⟨v2,done++[UInt8.ofNat (u % 128+128)],rfl,by simpa using o2,x3,by rw [←e,hb1];simp,by omega⟩
theorem Own.pushX {S0 S:St} {n b:Nat} {v:V} {es:List (List V)} (h:Own S0 S n v es) (x:Ext S0 S) (w:WF S0) (he:es≠[]) {u:V} {cs:List (List V)} (hu:aO S u=.ok cs) (hc:∀ c,c∈cs→c.length=n∧aH c=true)
  (h1:(es.length+cs.length)*b≤35184372088832) (h2:es.length+cs.length<dR):∃ v' S',eE n b v u none S=.ok (v',S')∧Ext S0 S'∧S'.next≤S.next+1∧Own S0 S' n v' (es++cs):=by
 by_cases hne:cs=[]
 ·subst hne
  rcases h.is with ⟨rfl,rfl⟩ | ⟨a,ver,tl,rfl,q1,q2,q3⟩
  ·exact absurd rfl he
  ·have g:aA S a ver=.ok (n,es++tl):=bW q3
   refine ⟨.sl a (ver+1) n 0 es.length,⟨S.next,S.heap.put a (.row (ver+1) n es)⟩,?_,x.set q1 q2 w _,Nat.le_succ _,⟨.inr ⟨a,ver+1,[],by rw [List.append_nil],q1,q2,by rw [List.append_nil,List.append_nil];exact Tr.get_put_sameB _ _ _ trivial⟩,by rw [List.append_nil];exact h.len⟩⟩
   simp only [List.length_nil,Nat.add_zero] at h1 h2
   simp only [eE,hu,iQ,List.all_nil,and_self,if_true,g,Nat.zero_add,List.length_append,Nat.le_add_right,List.length_nil,Nat.add_zero,h1,h2,List.drop_zero,List.append_nil,List.take_left']
 ·exact h.push x w hu hc hne h1 h2
theorem aPe (n:Int):Go.Pack.numP n≠[]:=fun e=>by have:=Go.Pack.nb_pos (Go.Pack.zig n);unfold Go.Pack.numP at e;rw [e] at this;exact absurd this (by decide)
theorem aI7 (s:List UInt8):txt.put s=Go.Pack.numP (s.length:Int)++s:=rfl
theorem bPv {S:St} {v:V} {b:List UInt8} (w:WF S) (hv:Sl S 1 v (b.map lG)) (hb:b.length<1000000) (s:List UInt8) (hs:s.length<1000000) {K:KW} (H:∀ v' S',Ext S S'→Own S S' 1 v' ((b++txt.put s).map lG)→K v' S'):C 171 [v,.str s] S K:=by
 refine bLr ?_
 have w1:wr .i64 (10+(s.length:Int))=10+(s.length:Int):=mU (by omega) (by omega)
 delta Tryz.f171;simp only [↓cw,↓reduceIte,Nat.reduceLT,kk,w1]
 refine bKa w hv (by omega) _ (by omega) (by omega) fun v1 S1 x1 o1=>?_
 refine aYu (x1.wf w) o1.sl (by omega) _ (by constructor<;>omega) fun v2 S2 x2 o2=>?_
 have o2':Own S S2 1 v2 ((b++Go.Pack.numP (s.length:Int)).map lG):=o2.weaken x1.next
 have hnp:=Go.Pack.numP_len (n:=(s.length:Int)) ⟨by omega,by omega⟩
 obtain ⟨v3,S3,q1,x3,n3,o3⟩:=Own.pushX (b:=1) o2' (x1.trans x2) w (by simp [aPe]) (u:=.str s) (cs:=s.map lG) rfl (fun c hc=>by obtain ⟨y,_,rfl⟩:=List.mem_map.1 hc;exact u81 y) (by simp;omega) (by simp [dR];omega)
 simp only [↓cw,↓reduceIte,Nat.reduceLT,kk,q1]
 exact H _ _ x3 (by rw [aI7,←List.append_assoc,List.map_append];exact o3)
theorem aE0 (f:Bool):Go.Pack.flag.put f=Go.Pack.numP (if f=true then 1 else 0):=by cases f<;>rfl
theorem bPw {S:St} {v:V} {b:List UInt8} (w:WF S) (hv:Sl S 1 v (b.map lG)) (hb:b.length<1000000) (f:Bool) {K:KW} (H:∀ v' S',Ext S S'→Own S S' 1 v' ((b++Go.Pack.flag.put f).map lG)→K v' S'):C 172 [v,.bool f] S K:=by
 refine bLs ?_
 rw [aE0] at H
 delta Tryz.f172;cases f<;>simp only [↓cw,↓reduceIte,Nat.reduceLT,kk,Bool.false_eq_true,if_true,if_false]
 ·exact aYu w hv (by omega) 0 (by constructor<;>omega) fun v' S' x o=>H v' S' x o
 ·exact aYu w hv (by omega) 1 (by constructor<;>omega) fun v' S' x o=>H v' S' x o
def WB (a:Nat) (b:List UInt8) (S:St):Prop:=∃ v,S.heap.get a=some (.row 0 1 [[v]])∧Sl S 1 v (b.map lG)∧blkOf v≠some a∧a<S.next
theorem WB.set {S S':St} {a:Nat} {v':V} {b:List UInt8} (w:WF S) (ha:a<S.next) (x:Ext S S') (o:Own S S' 1 v' (b.map lG)):AM.But a S ⟨S'.next,S'.heap.put a (.row 0 1 [[v']])⟩∧WB a b ⟨S'.next,S'.heap.put a (.row 0 1 [[v']])⟩:=by
 have ha':a<S'.next:=Nat.lt_of_lt_of_le ha x.next
 have hb:∀ y,blkOf v'=some y→y≠a:=fun y hy e=>by
  rcases o.is with ⟨rfl,_⟩ | ⟨c,ver,tl,rfl,q1,q2,q3⟩
  ·cases hy
  ·cases hy;omega
 refine ⟨(AM.But.of x).trans (AM.But.put ha' _),v',Tr.get_put_sameB _ _ _ trivial,o.sl.keep fun y c hy hc=>?_,fun e=>hb a e rfl,ha'⟩
 show (S'.heap.put a _).get y=_
 rw [Tr.get_put_neB _ _ _ _ trivial (hb y hy)];exact hc
theorem g93 {S:St} {a:Nat} {b:List UInt8} (w:WF S) (hw:WB a b S) (hb:b.length<1000000) (s:List UInt8) (hs:s.length<1000000) {K:KW} (H:∀ S',AM.But a S S'→WB a (b++txt.put s) S'→K (.tup []) S'):C 93 [.ptr a 0 0 0,.str s] S K:=by
 obtain ⟨v,hg,hv,hk,ha⟩:=hw
 refine v93 ?_
 have r:=bW hg
 delta Tryz.f93;simp only [↓cw,↓reduceIte,Nat.reduceLT,kk,r]
 refine bPv w hv hb s hs fun v' S' x o=>?_
 simp only [↓cw,↓reduceIte,Nat.reduceLT,kk,bW (x.old _ _ hg),o.cells,o.one]
 obtain ⟨h1,h2⟩:=WB.set w ha x o
 exact H _ h1 h2
theorem g95 {S:St} {a:Nat} {b:List UInt8} (w:WF S) (hw:WB a b S) (hb:b.length<1000000) (f:Bool) {K:KW} (H:∀ S',AM.But a S S'→WB a (b++Go.Pack.flag.put f) S'→K (.tup []) S'):C 95 [.ptr a 0 0 0,.bool f] S K:=by
 obtain ⟨v,hg,hv,hk,ha⟩:=hw
 refine v95 ?_
 have r:=bW hg
 delta Tryz.f95;simp only [↓cw,↓reduceIte,Nat.reduceLT,kk,r]
 refine bPw w hv hb f fun v' S' x o=>?_
 simp only [↓cw,↓reduceIte,Nat.reduceLT,kk,bW (x.old _ _ hg),o.cells,o.one]
 obtain ⟨h1,h2⟩:=WB.set w ha x o
 exact H _ h1 h2
def bY (ns:List Int):List UInt8:=ns.flatMap Go.Pack.numP
def aPf (b:List UInt8) (n:Int):List UInt8⊕List UInt8:=.inr (b++Go.Pack.numP n)
theorem bCu:∀ (ns:List Int) (b:List UInt8),aD aPf id ns b=b++bY ns
 | [],b=>by simp [aD,bY]
 | n::ns,b=>by
  show aD aPf id ns (b++Go.Pack.numP n)=_
  rw [bCu ns];simp [bY]
theorem g92 {S:St} {a k:Nat} {b:List UInt8} (w:WF S) (hw:WB a b S) (ns:List Int) (hb:b.length+10*ns.length<1000000) (hI:∀ n∈ns,I64 n) (hk:aA S k 0=.ok (1,ns.map cD)) (hka:k≠a) {K:KW} (H:∀ S',AM.But a S S'→WB a (b++bY ns) S'→K (.tup []) S'):C 92 [.ptr a 0 0 0,.sl k 0 1 0 ns.length] S K:=by
 refine v92 ?_
 delta Tryz.f92;simp only [↓cw,↓reduceIte,Nat.reduceLT,kk]
 refine aF ns (step:=aPf) (fin:=id) (fun i d vs X=>vs=[.int .i64 (i:Int)]∧AM.But a S X∧WB a d X∧d.length≤b.length+10*i) (fun d=>d=b++bY ns) ?_ ?_ (s:=b) ⟨rfl,⟨fun _ _ _ h=>h,Nat.le_refl _,fun h=>h⟩,hw,Nat.le_refl _⟩ (bCu ns b)
 ·rintro i n d vs X hi ⟨rfl,bt,⟨v,hg,hv,hkv,ha⟩,hd⟩ aE Hq
  have hil:=(List.getElem?_eq_some_iff.1 hi).1
  have hn:=hI n (List.mem_of_getElem? hi)
  have hkX:X.heap.get k=some (.row 0 1 (ns.map cD)):=bt.old k _ hka (aBd hk)
  have ld:=aR9 hkX (by rw [List.getElem?_map,hi];rfl:(ns.map cD)[i]?=some (cD n)) none 0
  have r:=bW hg
  simp only [kk,cD] at ld
  simp only [aPf] at Hq
  simp only [↓cw,↓reduceIte,Nat.reduceLT,kk,bL hi,if_true,aGi hil,Nat.add_zero,ld,r]
  have wX:=bt.wf w
  refine aYu wX hv (by omega) n hn fun v' S' x o=>?_
  simp only [↓cw,↓reduceIte,Nat.reduceLT,kk,bW (x.old _ _ hg),o.cells,o.one,iE (show i<1000000000 by omega)]
  obtain ⟨h1,h2⟩:=WB.set wX ha x o
  have hl:=Go.Pack.numP_len hn
  exact Hq _ _ ⟨rfl,bt.trans h1,h2,by rw [List.length_append];omega⟩
 ·rintro d vs X ⟨rfl,bt,hw',hd⟩ aE Hq
  have Hq:d=b++bY ns:=Hq
  simp only [↓cw,↓reduceIte,Nat.reduceLT,kk,Int.lt_irrefl,if_false]
  exact H _ bt (by rw [←Hq];exact hw')
theorem WB.ext {S S':St} {a:Nat} {b:List UInt8} (h:WB a b S) (x:Ext S S'):WB a b S':=by
 obtain ⟨v,hg,hv,hk,ha⟩:=h
 exact ⟨v,x.old _ _ hg,hv.ext x,hk,Nat.lt_of_lt_of_le ha x.next⟩
theorem WB.lt {S:St} {a:Nat} {b:List UInt8} (h:WB a b S):a<S.next:=by
 obtain ⟨v,hg,hv,hk,ha⟩:=h
 exact ha
theorem fW (s:List UInt8) (h:s.length<1000000):(txt.put s).length≤10+s.length:=by
 rw [aI7,List.length_append]
 have:=Go.Pack.numP_len (n:=(s.length:Int)) ⟨by omega,by omega⟩
 omega
theorem lF:∀ ns:List Int,(∀ n∈ns,I64 n)→(bY ns).length≤10*ns.length
 | [],_=>Nat.le_refl _
 | n::ns,h=>by
  have:=lF ns fun m hm=>h m (List.mem_cons_of_mem _ hm)
  have:=Go.Pack.numP_len (h n (List.mem_cons_self ..))
  simp only [bY,List.flatMap_cons,List.length_append,List.length_cons] at *
  omega
theorem nI {S:St} {a:Nat} {b:List UInt8} (w:WF S) (hw:WB a b S) (ns:List Int) (hb:b.length+10*ns.length<1000000) (hI:∀ n∈ns,I64 n) {K:KW} (H:∀ S',AM.But a S S'→WB a (b++bY ns) S'→K (.tup []) S'):C 92 [.ptr a 0 0 0,.sl S.next 0 1 0 ns.length] ⟨S.next+1,S.heap.put S.next (.row 0 1 (ns.map cD))⟩ K:=by
 have x:Ext S ⟨S.next+1,S.heap.put S.next (.row 0 1 (ns.map cD))⟩:=Ext.new w _
 have:=hw.lt
 exact g92 (k:=S.next) (x.wf w) (hw.ext x) ns hb hI (aC _ _ _ _ _ _) (by omega) fun S' h1 h2=>H S' ((AM.But.of x).trans h1) h2
theorem rV {a:Int} {l:List Int} (h:I64 a) (t:∀ n∈l,I64 n):∀ n∈a::l,I64 n:=List.forall_mem_cons.2 ⟨h,t⟩
theorem al0:∀ n∈([]:List Int),I64 n:=fun _ h=>by cases h
def aGj (d:Date):Prop:=I64 d.y∧I64 d.m∧I64 d.d
theorem aI8 (d:Date):kA.put d=bY [d.y,d.m,d.d]:=by
 show Go.Pack.numP d.y++(Go.Pack.numP d.m++Go.Pack.numP d.d)=_
 simp [bY]
theorem bKf (a0 a1:Int) (fr:Option Nat) (S:St):bN 1 [.int .i64 0] 2 [(0,.int .i64 a0),(1,.int .i64 a1)] fr S=(match aY fr S (.row 0 1 [[.int .i64 a0],[.int .i64 a1]]) with
  | .error e=>.error e
  | .ok (a,S')=>.ok (.sl a 0 1 0 2,S')):=by unfold bN;rw [if_pos (by decide)];rfl
theorem bPx (a0 a1 a2:Int) (fr:Option Nat) (S:St):bN 1 [.int .i64 0] 3 [(0,.int .i64 a0),(1,.int .i64 a1),(2,.int .i64 a2)] fr S=(match aY fr S (.row 0 1 [[.int .i64 a0],[.int .i64 a1],[.int .i64 a2]]) with
  | .error e=>.error e
  | .ok (a,S')=>.ok (.sl a 0 1 0 3,S')):=by unfold bN;rw [if_pos (by decide)];rfl
theorem bPy (a0 a1 a2 a3 a4:Int) (fr:Option Nat) (S:St):bN 1 [.int .i64 0] 5 [(0,.int .i64 a0),(1,.int .i64 a1),(2,.int .i64 a2),(3,.int .i64 a3),(4,.int .i64 a4)] fr S=(match aY fr S (.row 0 1 [[.int .i64 a0],[.int .i64 a1],[.int .i64 a2],[.int .i64 a3],[.int .i64 a4]]) with
  | .error e=>.error e
  | .ok (a,S')=>.ok (.sl a 0 1 0 5,S')):=by unfold bN;rw [if_pos (by decide)];rfl
theorem g94 {S:St} {a:Nat} {b:List UInt8} (w:WF S) (hw:WB a b S) (hb:b.length<100000) (d:Date) (hd:aGj d) {K:KW} (H:∀ S',AM.But a S S'→WB a (b++kA.put d) S'→K (.tup []) S'):C 94 [.ptr a 0 0 0,.agg [.int .i64 d.y,.int .i64 d.m,.int .i64 d.d]] S K:=by
 refine v94 ?_
 have x:Ext S ⟨S.next+1,S.heap.put S.next (.row 0 3 [d.enc])⟩:=Ext.new w _
 have h:=nI (x.wf w) (hw.ext x) [d.y,d.m,d.d] (by simp;omega) (rV hd.1 (rV hd.2.1 (rV hd.2.2 al0))) (K:=fun v S'=>K (.tup []) S') fun S' h1 h2=>H S' ((AM.But.of x).trans h1) (by rw [aI8];exact h2)
 simp only [Date.enc,List.map_cons,List.map_nil,cD,List.length_cons,List.length_nil] at h
 delta Tryz.f94;simp only [↓cw,↓reduceIte,Nat.reduceLT,kk,iI,bPx]
 exact h
def tG (p:Part):List UInt8:=txt.put p.cat++bY [p.bp,p.net]
structure PostI' (p:Posted):Prop where
 ser:p.ref.ser.length≤64
 day:aGj p.day
 ofs:p.of.ser.length≤64
 num:I64 p.of.num
 len:p.total.parts.length≤12
 parts:∀ q∈p.total.parts,q.cat.length≤64∧I64 q.bp∧I64 q.net
def jT (p:Posted):List UInt8:=txt.put p.ref.ser++(kA.put p.day++(txt.put p.of.ser++(bY [p.of.num,(p.total.parts.length:Int)]++p.total.parts.flatMap tG)))
theorem aWb (p:Posted):aKb.put (tD p)=jT p:=by
 show txt.put p.ref.ser++(kA.put p.day++(txt.put p.of.ser++(Go.Pack.numP p.of.num++(Go.Pack.numP (((p.total.parts.map aAu).length:Nat):Int)++(p.total.parts.map aAu).flatMap aGc.put))))=_
 have e:(p.total.parts.map aAu).flatMap aGc.put=p.total.parts.flatMap tG:=by
  rw [List.flatMap_map]
  congr 1
  funext q
  show txt.put q.cat++(Go.Pack.numP q.bp++Go.Pack.numP q.net)=_
  simp [tG,bY]
 rw [e,List.length_map]
 simp [jT,bY]
theorem oP {n:Nat} (h:n<1000000000):I64 (n:Int):=⟨by omega,by omega⟩
def aI9 (b:List UInt8) (p:Part):List UInt8⊕List UInt8:=.inr (b++tG p)
theorem aWc:∀ (ps:List Part) (b:List UInt8),aD aI9 id ps b=b++ps.flatMap tG
 | [],b=>by simp [aD]
 | p::ps,b=>by
  show aD aI9 id ps (b++tG p)=_
  rw [aWc ps];simp
theorem aE1 {p:Part} (h:p.cat.length≤64∧I64 p.bp∧I64 p.net):(tG p).length≤94:=by
 have h1:=fW p.cat (by omega)
 have h2:=lF [p.bp,p.net] (rV h.2.1 (rV h.2.2 al0))
 simp only [tG,List.length_append,List.length_cons,List.length_nil] at *
 omega
theorem g96 {S:St} {a:Nat} {b:List UInt8} (w:WF S) (hw:WB a b S) (hb:b.length<80000) (p:Posted) (hp:PostI' p) {K:KW} (H:∀ S',AM.But a S S'→WB a (b++jT p) S'→K (.tup []) S'):C 96 [.ptr a 0 0 0,.agg p.enc] S K:=by
 refine v96 ?_
 have ha:=hw.lt
 obtain ⟨S1,hS1⟩:∃ S1:St,S1=⟨S.next+1,S.heap.put S.next (.row 0 12 [p.enc])⟩:=⟨_,rfl⟩
 have x1:Ext S S1:=by rw [hS1];exact Ext.new w _
 have r1:S1.heap.get S.next=some (.row 0 12 [p.enc]):=by rw [hS1];exact Tr.get_put_sameB _ _ _ trivial
 have hl1:=fW p.ref.ser (by have:=hp.ser;omega)
 have hl2:=fW p.of.ser (by have:=hp.ofs;omega)
 have hl3:=lF [p.day.y,p.day.m,p.day.d] (rV hp.day.1 (rV hp.day.2.1 (rV hp.day.2.2 al0)))
 have hs:=hp.ser;have hso:=hp.ofs;have hpl:=hp.len
 rw [←aI8] at hl3
 simp only [List.length_cons,List.length_nil] at hl3
 have rr:∀ {X:St},AM.But a S1 X→aA X S.next 0=.ok (12,[p.enc]):=fun {X} bt=>bW (bt.old _ _ (by omega) r1)
 simp only [Posted.enc] at hS1 rr
 have r0:=rr (X:=S1) ⟨fun _ _ _ h=>h,Nat.le_refl _,fun h=>h⟩
 delta Tryz.f96;simp only [↓cw,↓reduceIte,Nat.reduceLT,kk,Posted.enc,←hS1,r0]
 have cwb:∀ {X:St},AM.But a S1 X→WF X:=fun {X} bt=>bt.wf (x1.wf w)
 refine g93 (x1.wf w) (hw.ext x1) (by omega) _ (by omega) fun S2 b2 h2=>?_
 simp only [↓cw,↓reduceIte,Nat.reduceLT,kk,rr b2]
 refine g94 (cwb b2) h2 (by rw [List.length_append];omega) p.day hp.day fun S3 b3' h3=>?_
 have b3:=b2.trans b3'
 simp only [↓cw,↓reduceIte,Nat.reduceLT,kk,rr b3]
 refine g93 (cwb b3) h3 (by simp only [List.length_append];omega) _ (by omega) fun S4 b4' h4=>?_
 have b4:=b3.trans b4'
 simp only [↓cw,↓reduceIte,Nat.reduceLT,kk,rr b4,bKf]
 have hl4:=lF [p.of.num,(p.total.parts.length:Int)] (rV hp.num (rV (oP (by omega)) al0))
 simp only [List.length_cons,List.length_nil] at hl4
 refine nI (cwb b4) h4 [p.of.num,(p.total.parts.length:Int)] (by simp only [List.length_append,List.length_cons,List.length_nil];omega) (rV hp.num (rV (oP (by omega)) al0)) fun S5 b5' h5=>?_
 have b5:=b4.trans b5'
 simp only [↓cw,↓reduceIte,Nat.reduceLT,kk,rr b5]
 refine aF p.total.parts (step:=aI9) (fin:=id) (fun i d vs X=>vs=[.int .i64 (i:Int)]∧AM.But a S1 X∧WB a d X∧d.length≤b.length+260+94*i) (fun d=>d=b++jT p) ?_ ?_ (s:=b++txt.put p.ref.ser++kA.put p.day++txt.put p.of.ser++bY [p.of.num,(p.total.parts.length:Int)]) ⟨rfl,b5,h5,by simp only [List.length_append];omega⟩ (by rw [aWc];simp [jT])
 ·rintro i q d vs X hi ⟨rfl,bt,hwd,hd⟩ aE Hq
  have hil:=(List.getElem?_eq_some_iff.1 hi).1
  have hq:=hp.parts q (List.mem_of_getElem? hi)
  have wX:=cwb bt
  have hla:=hwd.lt
  have hq1:=fW q.cat (by omega)
  have hq2:=aE1 hq
  obtain ⟨X1,hX1⟩:∃ X1:St,X1=⟨X.next+1,(X.heap.put X.next (.row 0 4 [[.str [],.int .i64 0,.int .i64 0,.int .i64 0]])).put X.next (.row 0 4 [q.enc])⟩:=⟨_,rfl⟩
  have xX:Ext X X1:=by rw [hX1];exact Ext.var wX 4 _ _
  have rq:X1.heap.get X.next=some (.row 0 4 [q.enc]):=by rw [hX1];exact Tr.get_put_sameB _ _ _ trivial
  have rr2:∀ {Y:St},AM.But a X1 Y→aA Y X.next 0=.ok (4,[q.enc]):=fun {Y} bt=>bW (bt.old _ _ (by omega) rq)
  simp only [Part.enc] at hX1 rr2
  have r20:=rr2 (Y:=X1) ⟨fun _ _ _ h=>h,Nat.le_refl _,fun h=>h⟩
  simp only [aI9] at Hq
  simp only [↓cw,↓reduceIte,Nat.reduceLT,kk,bL hi,if_true,iT hi,Part.enc,←hX1,r20]
  refine g93 (xX.wf wX) (hwd.ext xX) (by omega) _ (by omega) fun Y1 c1 k1=>?_
  simp only [↓cw,↓reduceIte,Nat.reduceLT,kk,rr2 c1,bKf,iE (show i<1000000000 by omega)]
  refine nI (c1.wf (xX.wf wX)) k1 [q.bp,q.net] (by simp only [List.length_append,List.length_cons,List.length_nil];omega) (rV hq.2.1 (rV hq.2.2 al0)) fun Y2 c2 k2=>?_
  exact Hq _ _ ⟨rfl,(bt.trans (AM.But.of xX)).trans (c1.trans c2),by rw [List.append_assoc] at k2;exact k2,by rw [List.length_append];omega⟩
 ·rintro d vs X ⟨rfl,bt,hwd,hd⟩ aE Hq
  have Hq:d=b++jT p:=Hq
  simp only [↓cw,↓reduceIte,Nat.reduceLT,kk,Int.lt_irrefl,if_false]
  exact H _ ((AM.But.of x1).trans bt) (by rw [←Hq];exact hwd)
structure ImgOK (s:State):Prop where
 t1:s.table.length≤24
 t2:∀ r∈s.table,r.cat.length≤64∧aGj r.day∧I64 r.bp
 s1:s.ser.length≤8
 s2:∀ x∈s.ser,x.name.length≤64∧I64 x.limit
 p1:s.posted.length≤40
 p2:∀ p∈s.posted,PostI' p
 e1:s.sess.length≤8
 e2:∀ x∈s.sess,I64 x.id∧I64 x.last∧I64 x.reply.why∧I64 x.reply.number∧I64 x.reply.gross
 n:I64 s.next
theorem ImgOK.of {s:State} (h:aYk.ok (aMk s)):ImgOK s:=by
 obtain ⟨⟨t1,t2⟩,⟨s1,s2⟩,⟨p1,p2⟩,⟨e1,e2⟩,n⟩:=h
 refine ⟨t1,fun r hr=>t2 r hr,?_,fun x hx=>?_,?_,fun p hp=>?_,?_,fun x hx=>?_,n⟩
 ·simpa [aMk] using s1
 ·obtain ⟨a,b,c⟩:=s2 (aI6 x) (List.mem_map_of_mem hx);exact ⟨a,b⟩
 ·simpa [aMk] using p1
 ·obtain ⟨a,b,c,d,e1,e2⟩:=p2 (tD p) (List.mem_map_of_mem hp)
  refine ⟨a,b,c,d,by simpa [tD] using e1,fun q hq=>?_⟩
  obtain ⟨x,y,z⟩:=e2 (aAu q) (List.mem_map_of_mem hq)
  exact ⟨x,y,z⟩
 ·simpa [aMk] using e1
 ·exact e2 (yV x) (List.mem_map_of_mem hx)
def nJ (r:Rate):List UInt8:=txt.put r.cat++(kA.put r.day++bY [r.bp])
def wV (x:Ser):List UInt8:=txt.put x.name++(bY [x.limit]++Go.Pack.flag.put x.shut)
def tH (x:Sess):List UInt8:=bY [x.id,x.last,x.reply.why,x.reply.number,x.reply.gross]
def tJ (s:State):List UInt8:=bY [(s.table.length:Int)]++s.table.flatMap nJ++bY [(s.ser.length:Int)]++s.ser.flatMap wV++bY [(s.posted.length:Int)]++s.posted.flatMap jT++bY [(s.sess.length:Int)]++s.sess.flatMap tH++bY [s.next]
theorem aPg (s:State):aYk.put (aMk s)=tJ s:=by
 show (Go.Pack.numP (s.table.length:Nat)++s.table.flatMap aDu.put)++((Go.Pack.numP (((s.ser.map aI6).length:Nat):Int)++(s.ser.map aI6).flatMap aMj.put)++((Go.Pack.numP (((s.posted.map tD).length:Nat):Int)++(s.posted.map tD).flatMap aKb.put)++((Go.Pack.numP (((s.sess.map yV).length:Nat):Int)++(s.sess.map yV).flatMap aDv.put)++Go.Pack.numP s.next)))=_
 have e1:aDu.put=nJ:=by funext r;show txt.put r.cat++(kA.put r.day++Go.Pack.numP r.bp)=_;simp [nJ,bY]
 have e2:(s.ser.map aI6).flatMap aMj.put=s.ser.flatMap wV:=by
  rw [List.flatMap_map];congr 1;funext x
  show txt.put x.name++(Go.Pack.numP x.limit++Go.Pack.flag.put x.shut)=_
  simp [wV,bY]
 have e3:(s.posted.map tD).flatMap aKb.put=s.posted.flatMap jT:=by
  rw [List.flatMap_map];congr 1;funext p;exact aWb p
 have e4:(s.sess.map yV).flatMap aDv.put=s.sess.flatMap tH:=by
  rw [List.flatMap_map];congr 1;funext x
  show Go.Pack.numP x.id++(Go.Pack.numP x.last++(Go.Pack.numP x.reply.why++(Go.Pack.numP x.reply.number++Go.Pack.numP x.reply.gross)))=_
  simp [tH,bY]
 rw [e1,e2,e3,e4]
 simp [tJ,bY]
def grow {α:Type} (f:α→List UInt8) (b:List UInt8) (x:α):List UInt8⊕List UInt8:=.inr (b++f x)
theorem aWd {α:Type} (f:α→List UInt8):∀ (l:List α) (b:List UInt8),aD (grow f) id l b=b++l.flatMap f
 | [],b=>by simp [aD]
 | x::l,b=>by
  show aD (grow f) id l (b++f x)=_
  rw [aWd f l];simp
theorem aIa {α:Type} (f:α→List UInt8) (l:List α) {a B:Nat} {X0 Y:St} {b:List UInt8} {F:List V→St→(List V→St→Prop)→Prop} (hlen:∀ x∈l,(f x).length≤B) (h0:AM.But a X0 Y) (hw:WB a b Y)
  (hs:∀ i x d X,l[i]?=some x→AM.But a X0 X→WB a d X→d.length≤b.length+B*i→∀ aE:List V→St→Prop,(∀ X',AM.But a X0 X'→WB a (d++f x) X'→aE [.int .i64 ((i+1:Nat):Int)] X')→F [.int .i64 (i:Int)] X aE)
  (he:∀ X aE,AM.But a X0 X→WB a (b++l.flatMap f) X→F [.int .i64 (l.length:Int)] X aE):iC [.int .i64 0] Y F:=by
 refine aF l (step:=grow f) (fin:=id) (fun i d vs X=>vs=[.int .i64 (i:Int)]∧AM.But a X0 X∧WB a d X∧d.length≤b.length+B*i) (fun d=>d=b++l.flatMap f) ?_ ?_ (s:=b) ⟨rfl,h0,hw,Nat.le_refl _⟩ (aWd f l b)
 ·rintro i x d vs X hi ⟨rfl,bt,hwd,hd⟩ aE Hq
  refine hs i x d X hi bt hwd hd aE fun X' h1 h2=>Hq _ _ ⟨rfl,h1,h2,?_⟩
  have:=hlen x (List.mem_of_getElem? hi)
  rw [List.length_append,Nat.mul_add];omega
 ·rintro d vs X ⟨rfl,bt,hwd,hd⟩ aE Hq
  have Hq:d=b++l.flatMap f:=Hq
  exact he X aE bt (by rw [←Hq];exact hwd)
theorem jU {n:Int} (h:I64 n):(bY [n]).length≤10:=lF [n] (rV h al0)
theorem aWe (f:Bool):(Go.Pack.flag.put f).length≤10:=by rw [aE0];cases f<;>exact Go.Pack.numP_len ⟨by decide,by decide⟩
theorem tK {d:Date} (h:aGj d):(kA.put d).length≤30:=by rw [aI8];exact lF _ (rV h.1 (rV h.2.1 (rV h.2.2 al0)))
theorem yW {r:Rate} (h:r.cat.length≤64∧aGj r.day∧I64 r.bp):(nJ r).length≤114:=by
 have h1:=fW r.cat (by omega);have h2:=tK h.2.1;have h3:=jU h.2.2
 simp only [nJ,List.length_append];omega
theorem aBt {x:Ser} (h:x.name.length≤64∧I64 x.limit):(wV x).length≤94:=by
 have h1:=fW x.name (by omega);have h2:=jU h.2;have h3:=aWe x.shut
 simp only [wV,List.length_append];omega
theorem kT {α:Type} (f:α→List UInt8) {n:Nat}:∀ l:List α,(∀ a∈l,(f a).length≤n)→(l.flatMap f).length≤n*l.length
 | [],_=>Nat.zero_le _
 | x::l,h=>by
  have h1:=h x (List.mem_cons_self ..)
  have h2:=kT f l fun a ha=>h a (List.mem_cons_of_mem _ ha)
  simp only [List.flatMap_cons,List.length_append,List.length_cons,Nat.mul_add];omega
theorem uK {p:Posted} (h:PostI' p):(jT p).length≤1326:=by
 have h1:=fW p.ref.ser (by have:=h.ser;omega);have h2:=tK h.day;have h3:=fW p.of.ser (by have:=h.ofs;omega)
 have h4:=lF [p.of.num,(p.total.parts.length:Int)] (rV h.num (rV (oP (by have:=h.len;omega)) al0))
 have h5:=kT tG (n:=94) p.total.parts fun q hq=>aE1 (h.parts q hq)
 have:=h.ser;have:=h.ofs;have:=h.len
 simp only [jT,List.length_append,List.length_cons,List.length_nil] at *;omega
theorem yX {x:Sess} (h:I64 x.id∧I64 x.last∧I64 x.reply.why∧I64 x.reply.number∧I64 x.reply.gross):(tH x).length≤50:=lF _ (rV h.1 (rV h.2.1 (rV h.2.2.1 (rV h.2.2.2.1 (rV h.2.2.2.2 al0)))))
theorem AM.But.rfl' {a:Nat} {S:St}:AM.But a S S:=⟨fun _ _ _ h=>h,Nat.le_refl _,fun h=>h⟩
theorem _root_.Go.AM.Sl.out {α:Type} {enc:α→List V} {S:St} {n:Nat} {v:V} {l:List α} (h:Sl S n v (l.map enc)) (hc:∀ x,cloVs (enc x)=true):cM kO (lY (iZ S 3) S) v=.ok (.imm (l.map enc)):=by
 have he:=h.elems
 rcases h.is with ⟨rfl,e⟩ | rfl | ⟨a',ver',off,elems,rfl,h2,h3⟩
 ·rw [e];rfl
 ·rfl
 ·simp only [cM,lY,he,(mV (S:=S) (n:=2) (cR (enc:=enc) hc l)).1]
theorem g28 (s:State) (h:bB s=true→ImgOK s) (S:St) (K:KW):C 28 [.agg [.imm (s.table.map Rate.enc),.imm (s.ser.map Ser.enc),.imm (s.posted.map Posted.enc),.imm (s.book.map Bal.enc),.imm (s.sess.map Sess.enc),.int .i64 s.next]] S K=K (.imm ((iJ s).map lG)) S:=by
 refine (v28 rfl ?_).eq S K
 delta Tryz.f28;simp only [↓cw,↓reduceIte,Nat.reduceLT,kk,iI,g24 s]
 cases c1:bB s
 ·have e:iJ s=[]:=by unfold iJ;rw [if_pos c1]
  simp only [↓cw,↓reduceIte,Nat.reduceLT,c1,kk,oo,if_true,Bool.not_false,e,List.map_nil]
 have ok:=h c1
 have e:iJ s=tJ s:=by unfold iJ;rw [if_neg (by rw [c1];decide),aPg]
 obtain ⟨R,hR⟩:∃ R,R=tJ s:=⟨_,rfl⟩
 rw [e,←hR]
 obtain ⟨S0,hS0⟩:∃ S0:St,S0=⟨1+1,(Tr.nil.put 0 (.row 0 6 [s.enc])).put 1 (.row 0 1 [[.nils]])⟩:=⟨_,rfl⟩
 have w0:WF S0:=by rw [hS0];exact hM (n:=1) (hM nK (by decide) (by decide)) (by decide) (by decide)
 have n0:S0.next=2:=by rw [hS0]
 have r0:aA S0 0 0=.ok (6,[s.enc]):=by rw [hS0];rfl
 have hw0:WB 1 [] S0:=⟨.nils,by rw [hS0];exact Tr.get_put_sameB _ _ _ trivial,Sl.nilv _ _,(by show (none:Option Nat)≠some 1;simp),by omega⟩
 have rr:∀ {X:St},AM.But 1 S0 X→aA X 0 0=.ok (6,[s.enc]):=fun {X} bt=>bW (bt.old _ _ (by decide) (aBd r0))
 have wf:∀ {X:St},AM.But 1 S0 X→WF X:=fun {X} bt=>bt.wf w0
 simp only [State.enc] at hS0 rr r0
 simp only [↓cw,↓reduceIte,Nat.reduceLT,c1,kk,iI,Bool.not_true,Bool.false_eq_true,if_false,zS,←hS0,r0]
 have o1:=ok.t1;have o2:=ok.s1;have o3:=ok.p1;have o4:=ok.e1
 have fl1:=kT nJ (n:=114) s.table fun r hr=>yW (ok.t2 r hr)
 have fl2:=kT wV (n:=94) s.ser fun r hr=>aBt (ok.s2 r hr)
 have fl3:=kT jT (n:=1326) s.posted fun r hr=>uK (ok.p2 r hr)
 have fl4:=kT tH (n:=50) s.sess fun r hr=>yX (ok.e2 r hr)
 have l1:=jU (oP (n:=s.table.length) (by omega))
 have l2:=jU (oP (n:=s.ser.length) (by omega))
 have l3:=jU (oP (n:=s.posted.length) (by omega))
 have l4:=jU (oP (n:=s.sess.length) (by omega))
 refine nI w0 hw0 [(s.table.length:Int)] (by simp) (rV (oP (by omega)) al0) fun S1 b1 h1=>?_
 simp only [↓cw,↓reduceIte,Nat.reduceLT,kk,rr b1]
 refine aIa nJ s.table (X0:=S0) (B:=114) (fun r hr=>yW (ok.t2 r hr)) b1 h1 (fun i x d X hi bt hwd hd aE H=>?_) fun X aE bt hwd=>?_
 ·have hil:=(List.getElem?_eq_some_iff.1 hi).1
  have hx:=ok.t2 x (List.mem_of_getElem? hi)
  have wX:=wf bt
  have q1:=fW x.cat (by omega);have q2:=tK hx.2.1
  have hd':d.length≤10000:=by simp only [List.nil_append] at hd;omega
  obtain ⟨X1,hX1⟩:∃ X1:St,X1=⟨X.next+1,(X.heap.put X.next (.row 0 5 [[.str [],.int .i64 0,.int .i64 0,.int .i64 0,.int .i64 0]])).put X.next (.row 0 5 [x.enc])⟩:=⟨_,rfl⟩
  have xX:Ext X X1:=by rw [hX1];exact Ext.var wX 5 _ _
  have rq:X1.heap.get X.next=some (.row 0 5 [x.enc]):=by rw [hX1];exact Tr.get_put_sameB _ _ _ trivial
  have hla:=hwd.lt
  have rr2:∀ {Y:St},AM.But 1 X1 Y→aA Y X.next 0=.ok (5,[x.enc]):=fun {Y} bt=>bW (bt.old _ _ (by omega) rq)
  simp only [Rate.enc] at hX1 rr2
  have r20:=rr2 (Y:=X1) AM.But.rfl'
  simp only [↓cw,↓reduceIte,Nat.reduceLT,kk,bL hi,if_true,oL hi,Rate.enc,←hX1,r20]
  refine g93 (xX.wf wX) (hwd.ext xX) (by omega) _ (by omega) fun Y1 c1' k1=>?_
  simp only [↓cw,↓reduceIte,Nat.reduceLT,kk,rr2 c1']
  refine g94 (c1'.wf (xX.wf wX)) k1 (by rw [List.length_append];omega) x.day hx.2.1 fun Y2 c2' k2=>?_
  have c2:=c1'.trans c2'
  simp only [↓cw,↓reduceIte,Nat.reduceLT,kk,rr2 c2,zS,iE (show i<1000000000 by omega)]
  exact nI (c2.wf (xX.wf wX)) k2 [x.bp] (by simp only [List.length_append,List.length_cons,List.length_nil];omega) (rV hx.2.2 al0) fun Y3 c3' k3=>H _ ((bt.trans (AM.But.of xX)).trans (c2.trans c3')) (by simpa [nJ] using k3)
 simp only [↓cw,↓reduceIte,Nat.reduceLT,kk,Int.lt_irrefl,if_false,rr bt,zS]
 have z1:([]++bY [(s.table.length:Int)]++s.table.flatMap nJ).length≤2746:=by simp only [List.length_append,List.length_nil];omega
 generalize hB1:([]++bY [(s.table.length:Int)]++s.table.flatMap nJ:List UInt8)=B1 at hwd z1
 refine nI (wf bt) hwd [(s.ser.length:Int)] (by simp;omega) (rV (oP (by omega)) al0) fun S2 b2' h2=>?_
 have b2:=bt.trans b2'
 clear hwd
 simp only [↓cw,↓reduceIte,Nat.reduceLT,kk,rr b2]
 refine aIa wV s.ser (X0:=S0) (B:=94) (fun r hr=>aBt (ok.s2 r hr)) b2 h2 (fun i x d X hi bt hwd hd aE H=>?_) fun X aE bt hwd=>?_
 ·have hil:=(List.getElem?_eq_some_iff.1 hi).1
  have hx:=ok.s2 x (List.mem_of_getElem? hi)
  have wX:=wf bt
  have q1:=fW x.name (by omega)
  have hd':d.length≤10000:=by rw [List.length_append] at hd;omega
  obtain ⟨X1,hX1⟩:∃ X1:St,X1=⟨X.next+1,(X.heap.put X.next (.row 0 4 [[.str [],.int .i64 0,.int .i64 0,.bool false]])).put X.next (.row 0 4 [x.enc])⟩:=⟨_,rfl⟩
  have xX:Ext X X1:=by rw [hX1];exact Ext.var wX 4 _ _
  have rq:X1.heap.get X.next=some (.row 0 4 [x.enc]):=by rw [hX1];exact Tr.get_put_sameB _ _ _ trivial
  have hla:=hwd.lt
  have rr2:∀ {Y:St},AM.But 1 X1 Y→aA Y X.next 0=.ok (4,[x.enc]):=fun {Y} bt=>bW (bt.old _ _ (by omega) rq)
  simp only [Ser.enc] at hX1 rr2
  have r20:=rr2 (Y:=X1) AM.But.rfl'
  simp only [↓cw,↓reduceIte,Nat.reduceLT,kk,bL hi,if_true,lU hi,Ser.enc,←hX1,r20]
  refine g93 (xX.wf wX) (hwd.ext xX) (by omega) _ (by omega) fun Y1 c1' k1=>?_
  simp only [↓cw,↓reduceIte,Nat.reduceLT,kk,rr2 c1',zS]
  refine nI (c1'.wf (xX.wf wX)) k1 [x.limit] (by simp only [List.length_append,List.length_cons,List.length_nil];omega) (rV hx.2 al0) fun Y2 c2' k2=>?_
  have c2:=c1'.trans c2'
  have q2:=jU hx.2
  simp only [↓cw,↓reduceIte,Nat.reduceLT,kk,rr2 c2,iE (show i<1000000000 by omega)]
  exact g95 (c2.wf (xX.wf wX)) k2 (by simp only [List.length_append];omega) x.shut fun Y3 c3' k3=>H _ ((bt.trans (AM.But.of xX)).trans (c2.trans c3')) (by simpa [wV] using k3)
 simp only [↓cw,↓reduceIte,Nat.reduceLT,kk,Int.lt_irrefl,if_false,rr bt,zS]
 have z2:(B1++bY [(s.ser.length:Int)]++s.ser.flatMap wV).length≤3508:=by simp only [List.length_append];omega
 generalize hB2:(B1++bY [(s.ser.length:Int)]++s.ser.flatMap wV:List UInt8)=B2 at hwd z2
 refine nI (wf bt) hwd [(s.posted.length:Int)] (by simp;omega) (rV (oP (by omega)) al0) fun S3 b3' h3=>?_
 have b3:=bt.trans b3'
 clear hwd
 simp only [↓cw,↓reduceIte,Nat.reduceLT,kk,rr b3]
 refine aIa jT s.posted (X0:=S0) (B:=1326) (fun r hr=>uK (ok.p2 r hr)) b3 h3 (fun i x d X hi bt hwd hd aE H=>?_) fun X aE bt hwd=>?_
 ·have hil:=(List.getElem?_eq_some_iff.1 hi).1
  have hx:=ok.p2 x (List.mem_of_getElem? hi)
  have wX:=wf bt
  have hd':d.length≤70000:=by rw [List.length_append] at hd;omega
  obtain ⟨X1,hX1⟩:∃ X1:St,X1=⟨X.next+1,(X.heap.put X.next (.row 0 12 [yL])).put X.next (.row 0 12 [x.enc])⟩:=⟨_,rfl⟩
  have xX:Ext X X1:=by rw [hX1];exact Ext.var wX 12 _ _
  have rq:X1.heap.get X.next=some (.row 0 12 [x.enc]):=by rw [hX1];exact Tr.get_put_sameB _ _ _ trivial
  have hla:=hwd.lt
  have rr2:∀ {Y:St},AM.But 1 X1 Y→aA Y X.next 0=.ok (12,[x.enc]):=fun {Y} bt=>bW (bt.old _ _ (by omega) rq)
  simp only [Posted.enc] at hX1 rr2
  have r20:=rr2 (Y:=X1) AM.But.rfl'
  simp only [yL] at hX1
  simp only [↓cw,↓reduceIte,Nat.reduceLT,kk,bL hi,if_true,lN hi,Posted.enc,←hX1,r20,iE (show i<1000000000 by omega)]
  exact g96 (xX.wf wX) (hwd.ext xX) (by omega) x hx fun Y3 c3' k3=>H _ ((bt.trans (AM.But.of xX)).trans c3') k3
 simp only [↓cw,↓reduceIte,Nat.reduceLT,kk,Int.lt_irrefl,if_false,rr bt,zS]
 have z3:(B2++bY [(s.posted.length:Int)]++s.posted.flatMap jT).length≤60000:=by simp only [List.length_append];omega
 generalize hB3:(B2++bY [(s.posted.length:Int)]++s.posted.flatMap jT:List UInt8)=B3 at hwd z3
 refine nI (wf bt) hwd [(s.sess.length:Int)] (by simp;omega) (rV (oP (by omega)) al0) fun S4 b4' h4=>?_
 have b4:=bt.trans b4'
 clear hwd
 simp only [↓cw,↓reduceIte,Nat.reduceLT,kk,rr b4]
 refine aIa tH s.sess (X0:=S0) (B:=50) (fun r hr=>yX (ok.e2 r hr)) b4 h4 (fun i x d X hi bt hwd hd aE H=>?_) fun X aE bt hwd=>?_
 ·have hil:=(List.getElem?_eq_some_iff.1 hi).1
  have hx:=ok.e2 x (List.mem_of_getElem? hi)
  have wX:=wf bt
  have hd':d.length≤70000:=by rw [List.length_append] at hd;omega
  obtain ⟨X1,hX1⟩:∃ X1:St,X1=⟨X.next+1,(X.heap.put X.next (.row 0 5 [[.int .i64 0,.int .i64 0,.int .i64 0,.int .i64 0,.int .i64 0]])).put X.next (.row 0 5 [x.enc])⟩:=⟨_,rfl⟩
  have xX:Ext X X1:=by rw [hX1];exact Ext.var wX 5 _ _
  have rq:X1.heap.get X.next=some (.row 0 5 [x.enc]):=by rw [hX1];exact Tr.get_put_sameB _ _ _ trivial
  have hla:=hwd.lt
  have rr2:∀ {Y:St},AM.But 1 X1 Y→aA Y X.next 0=.ok (5,[x.enc]):=fun {Y} bt=>bW (bt.old _ _ (by omega) rq)
  simp only [Sess.enc] at hX1 rr2
  have r20:=rr2 (Y:=X1) AM.But.rfl'
  simp only [↓cw,↓reduceIte,Nat.reduceLT,kk,bL hi,if_true,lM hi,Sess.enc,←hX1,r20,bPy,iE (show i<1000000000 by omega)]
  exact nI (xX.wf wX) (hwd.ext xX) [x.id,x.last,x.reply.why,x.reply.number,x.reply.gross] (by simp;omega) (rV hx.1 (rV hx.2.1 (rV hx.2.2.1 (rV hx.2.2.2.1 (rV hx.2.2.2.2 al0))))) fun Y3 c3' k3=>H _ ((bt.trans (AM.But.of xX)).trans c3') k3
 simp only [↓cw,↓reduceIte,Nat.reduceLT,kk,Int.lt_irrefl,if_false,rr bt,zS]
 refine nI (wf bt) hwd [s.next] (by simp only [List.length_append,List.length_cons,List.length_nil];omega) (rV ok.n al0) fun S5 b5' h5=>?_
 obtain ⟨v,hg,hv,hk,ha⟩:=h5
 have hfin:B3++bY [(s.sess.length:Int)]++s.sess.flatMap tH++bY [s.next]=R:=by rw [hR,←hB3,←hB2,←hB1];simp [tJ]
 rw [hfin] at hv
 have r5:=bW hg
 simp only [↓cw,↓reduceIte,Nat.reduceLT,kk,r5,oo]
 exact hv.out fun _=>rfl
theorem bE2 (t:Nat) (a:Int):bQ prog .shr t (.int .i64 a) (.int .u64 63)=.ok (.int .i64 (a.fdiv (2 ^ 63))):=rfl
theorem bPz (t:Nat) (a b:Int):bQ prog .xor t (.int .u64 a) (.int .u64 b)=.ok (.int .u64 (wr .u64 ((BitVec.toNat (BitVec.ofInt IntKind.u64.bits a ^^^ BitVec.ofInt IntKind.u64.bits b):Nat):Int))):=rfl
theorem bQ0 (t:Nat) (a b:Int):bQ prog .and t (.int .u64 a) (.int .u64 b)=.ok (.int .u64 (wr .u64 ((BitVec.toNat (BitVec.ofInt IntKind.u64.bits a &&& BitVec.ofInt IntKind.u64.bits b):Nat):Int))):=rfl
theorem bCv {u:Nat} (h:u<2 ^ 64):wr .u64 (u:Int)=(u:Int):=by
 unfold wr
 rw [if_pos ⟨by show (0:Int)≤_;omega,by show _≤(18446744073709551615:Int);omega⟩]
theorem bE3 {u:Nat} (h:u<2 ^ 64):wr .u64 ((BitVec.toNat (BitVec.ofInt IntKind.u64.bits (u:Int) &&& BitVec.ofInt IntKind.u64.bits 127):Nat):Int)=((u % 128:Nat):Int):=by
 have e:BitVec.toNat (BitVec.ofInt IntKind.u64.bits (u:Int) &&& BitVec.ofInt IntKind.u64.bits 127)=u % 128:=by
  rw [BitVec.toNat_and]
  have e1:(BitVec.ofInt IntKind.u64.bits (u:Int)).toNat=u:=by rw [BitVec.toNat_ofInt];show ((u:Int) % ((2 ^ 64:Nat):Int)).toNat=u;omega
  have e2:(BitVec.ofInt IntKind.u64.bits 127).toNat=2 ^ 7 - 1:=by decide
  rw [e1,e2,Nat.and_two_pow_sub_one_eq_mod]
 rw [e,bCv (by omega)]
theorem bQ1 {n:Int} (hn:I64 n):wr .u64 ((BitVec.toNat (BitVec.ofInt IntKind.u64.bits (wr .u64 (wr .u64 n*2 ^ (min (1:Int).toNat IntKind.u64.bits))) ^^^ BitVec.ofInt IntKind.u64.bits (wr .u64 (n.fdiv (2 ^ 63)))):Nat):Int)=((Go.Pack.zig n:Nat):Int):=by
 have hz:=Go.Pack.zig_lt hn
 have hn':=hn
 obtain ⟨h1,h2⟩:=hn'
 by_cases h:n<0
 ·have e:wr .u64 (n.fdiv (2 ^ 63))=18446744073709551615:=by
   rw [Int.fdiv_eq_ediv_of_nonneg _ (by decide),show n / 2 ^ 63=-1 by omega];decide
  rw [e,BitVec.xor_comm]
  exact aPc h hn.1
 ·have e:wr .u64 (n.fdiv (2 ^ 63))=0:=by
   rw [Int.fdiv_eq_ediv_of_nonneg _ (by decide),show n / 2 ^ 63=0 by omega];decide
  rw [e,aWa (by omega) hn.2]
  have e2:BitVec.toNat (BitVec.ofInt IntKind.u64.bits ((Go.Pack.zig n:Nat):Int) ^^^ BitVec.ofInt IntKind.u64.bits 0)=Go.Pack.zig n:=by
   have:BitVec.ofInt IntKind.u64.bits 0=0#_:=by decide
   rw [this,BitVec.xor_zero,BitVec.toNat_ofInt]
   show (((Go.Pack.zig n:Nat):Int) % ((2 ^ 64:Nat):Int)).toNat=_
   omega
  rw [e2,bCv hz]
theorem g97 {S:St} {v:V} {b:List UInt8} (w:WF S) (hv:Sl S 1 v (b.map lG)) (hb:b.length<10000000) (n:Int) (hn:I64 n) {K:KW} (H:∀ v' S',Ext S S'→Own S S' 1 v' ((b++Go.Pack.numP n).map lG)→K v' S'):C 97 [v,.int .i64 n] S K:=by
 refine v97 ?_
 have x0:Ext S ⟨S.next+1,S.heap.put S.next (.row 0 1 [])⟩:=Ext.new w _
 have q:=aA1 (b:=1) u81 b (S:=⟨S.next+1,S.heap.put S.next (.row 0 1 [])⟩) (a:=S.next) (hv.ext x0).elems (aC _ _ _ _ _ _) (by omega) (by unfold dR;omega) none
 have b0:∀ (z:List V) (fr:Option Nat) (S:St),bN 1 z 0 [] fr S=(match aY fr S (.row 0 1 []) with
  | .error e=>.error e
  | .ok (a,S')=>.ok (.sl a 0 1 0 0,S')):=fun z fr S=>by unfold bN;rw [if_pos (by decide)];rfl
 delta Tryz.f97;simp only [↓cw,↓reduceIte,Nat.reduceLT,kk,b0,q,bKc,bE2,bPz,bQ1 hn]
 refine aCv (fun i vs X=>∃ v' done,vs=[v',.int .u64 (i:Int)]∧Own S X 1 v' (done.map lG)∧Ext S X∧done++Go.Pack.nb i=b++Go.Pack.numP n∧i<2 ^ 64) ?_ ⟨_,b,rfl,⟨.inr ⟨S.next,1,[],by rw [List.length_map],Nat.le_refl _,Nat.lt_succ_self _,by rw [List.append_nil];exact Tr.get_put_sameB _ _ _ trivial⟩,fun c hc=>by obtain ⟨x,_,rfl⟩:=List.mem_map.1 hc;exact u81 x⟩,x0.set (Nat.le_refl _) (Nat.lt_succ_self _) w _,rfl,Go.Pack.zig_lt hn⟩
 rintro u vs X ⟨v',done,rfl,o,x,e,hu⟩ aE ha
 have hX:=x.wf w
 have hl:done.length+(Go.Pack.nb u).length=b.length+(Go.Pack.numP n).length:=by rw [←List.length_append,e,List.length_append]
 have hnp:=Go.Pack.numP_len hn
 have hnu:=Go.Pack.nb_pos u
 by_cases h:u<128
 ·have hb1:Go.Pack.nb u=[UInt8.ofNat u]:=Go.Pack.nb_low h
  have x2:Ext X ⟨X.next+1,X.heap.put X.next (.row 0 1 [lG (UInt8.ofNat u)])⟩:=Ext.new hX _
  obtain ⟨v2,X2,q1,x3,n3,o2⟩:=(o.ext x2).push (b:=1) (x.trans x2) w (u:=.sl X.next 0 1 0 1) (cs:=[lG (UInt8.ofNat u)]) (by simp only [aO,aC];rfl) (fun c hc=>by rcases List.mem_singleton.1 hc with rfl;exact u81 _) (by simp) (by simp;omega) (by simp [dR];omega)
  simp only [lG] at q1
  simp only [↓cw,↓reduceIte,Nat.reduceLT,kk,show ¬ (128:Int)≤(u:Int) by omega,if_false,aKi h,zS,q1]
  exact H _ _ x3 (by rw [←e,hb1];simpa using o2)
 ·have hb1:Go.Pack.nb u=UInt8.ofNat (u % 128+128)::Go.Pack.nb (u / 128):=Go.Pack.nb_high h
  have x2:Ext X ⟨X.next+1,X.heap.put X.next (.row 0 1 [lG (UInt8.ofNat (u % 128+128))])⟩:=Ext.new hX _
  obtain ⟨v2,X2,q1,x3,n3,o2⟩:=(o.ext x2).push (b:=1) (x.trans x2) w (u:=.sl X.next 0 1 0 1) (cs:=[lG (UInt8.ofNat (u % 128+128))]) (by simp only [aO,aC];rfl) (fun c hc=>by rcases List.mem_singleton.1 hc with rfl;exact u81 _) (by simp) (by simp;omega) (by simp [dR];omega)
  simp only [lG] at q1
  have nbm:=aPd (u % 128)
  rw [Nat.mod_mod] at nbm
  simp only [↓cw,↓reduceIte,Nat.reduceLT,kk,show (128:Int)≤(u:Int) by omega,if_true,bQ0,bE3 hu,bKd,nbm,zS,q1,bCt,bKb]
  exact ha (u / 128) _ _ (by omega) ⟨v2,done++[UInt8.ofNat (u % 128+128)],rfl,by simpa using o2,x3,by rw [←e,hb1];simp,by omega⟩
theorem g99 {S:St} {v:V} {b:List UInt8} (w:WF S) (hv:Sl S 1 v (b.map lG)) (hb:b.length<1000000) (s:List UInt8) (hs:s.length<1000000) {K:KW} (H:∀ v' S',Ext S S'→Own S S' 1 v' ((b++txt.put s).map lG)→K v' S'):C 99 [v,.str s] S K:=by
 refine v99 ?_
 delta Tryz.f99;simp only [↓cw,↓reduceIte,Nat.reduceLT,kk]
 refine g97 w hv (by omega) _ (by constructor<;>omega) fun v2 S2 x2 o2=>?_
 have hnp:=Go.Pack.numP_len (n:=(s.length:Int)) ⟨by omega,by omega⟩
 obtain ⟨v3,S3,q1,x3,n3,o3⟩:=Own.pushX (b:=1) o2 x2 w (by simp [aPe]) (u:=.str s) (cs:=s.map lG) rfl (fun c hc=>by obtain ⟨y,_,rfl⟩:=List.mem_map.1 hc;exact u81 y) (by simp;omega) (by simp [dR];omega)
 simp only [↓cw,↓reduceIte,Nat.reduceLT,kk,q1]
 exact H _ _ x3 (by rw [aI7,←List.append_assoc,List.map_append];exact o3)
theorem bQ2 {S:St} {v:V} {b:List UInt8} (w:WF S) (hv:Sl S 1 v (b.map lG)) (hb:b.length<1000000) (f:Bool) {K:KW} (H:∀ v' S',Ext S S'→Own S S' 1 v' ((b++Go.Pack.flag.put f).map lG)→K v' S'):C 100 [v,.bool f] S K:=by
 refine bKs ?_
 rw [aE0] at H
 delta Tryz.f100;cases f<;>simp only [↓cw,↓reduceIte,Nat.reduceLT,kk,Bool.false_eq_true,if_true,if_false]
 ·exact g97 w hv (by omega) 0 (by constructor<;>omega) fun v' S' x o=>H v' S' x o
 ·exact g97 w hv (by omega) 1 (by constructor<;>omega) fun v' S' x o=>H v' S' x o
theorem g98 {S:St} {v:V} {b:List UInt8} (w:WF S) (hv:Sl S 1 v (b.map lG)) (hb:b.length<1000000) (d:Date) (hd:aGj d) {K:KW} (H:∀ v' S',Ext S S'→Own S S' 1 v' ((b++kA.put d).map lG)→K v' S'):C 98 [v,.agg [.int .i64 d.y,.int .i64 d.m,.int .i64 d.d]] S K:=by
 refine v98 ?_
 obtain ⟨S1,hS1⟩:∃ S1:St,S1=⟨S.next+1+11,S.heap.put S.next (.row 0 3 [d.enc])⟩:=⟨_,rfl⟩
 have x1:Ext S S1:=by rw [hS1];exact (Ext.new w _).bump 11
 have r1:aA S1 S.next 0=.ok (3,[d.enc]):=by rw [hS1];exact aC _ _ _ _ _ _
 simp only [Date.enc] at hS1 r1
 have p1:=Go.Pack.numP_len hd.1;have p2:=Go.Pack.numP_len hd.2.1
 delta Tryz.f98;simp only [↓cw,↓reduceIte,Nat.reduceLT,kk,←hS1,r1]
 refine g97 (x1.wf w) (hv.ext x1) (by omega) d.y hd.1 fun v2 S2 x2 o2=>?_
 have w2:=x2.wf (x1.wf w)
 simp only [↓cw,↓reduceIte,Nat.reduceLT,kk,x2.row r1]
 refine g97 w2 o2.sl (by rw [List.length_append];omega) d.m hd.2.1 fun v3 S3 x3 o3=>?_
 have w3:=x3.wf w2
 simp only [↓cw,↓reduceIte,Nat.reduceLT,kk,(x2.trans x3).row r1]
 refine g97 w3 o3.sl (by simp only [List.length_append];omega) d.d hd.2.2 fun v4 S4 x4 o4=>?_
 simp only [List.append_assoc] at o4
 exact H v4 S4 (((x1.trans x2).trans x3).trans x4) ((o4.weaken (((x1.trans x2).trans x3)).next:Own S S4 1 v4 _))
theorem bQ3 {S:St} {v:V} {b:List UInt8} (w:WF S) (hv:Sl S 1 v (b.map lG)) (hb:b.length<1000000) (r:Rep) (hr:I64 r.why∧I64 r.number∧I64 r.gross) {K:KW} (H:∀ v' S',Ext S S'→Own S S' 1 v' ((b++bY [r.why,r.number,r.gross]).map lG)→K v' S'):C 101 [v,.agg [.int .i64 r.why,.int .i64 r.number,.int .i64 r.gross]] S K:=by
 refine bKt ?_
 obtain ⟨S1,hS1⟩:∃ S1:St,S1=⟨S.next+1+11,S.heap.put S.next (.row 0 3 [[.int .i64 r.why,.int .i64 r.number,.int .i64 r.gross]])⟩:=⟨_,rfl⟩
 have x1:Ext S S1:=by rw [hS1];exact (Ext.new w _).bump 11
 have r1:aA S1 S.next 0=.ok (3,[[.int .i64 r.why,.int .i64 r.number,.int .i64 r.gross]]):=by rw [hS1];exact aC _ _ _ _ _ _
 have p1:=Go.Pack.numP_len hr.1;have p2:=Go.Pack.numP_len hr.2.1
 delta Tryz.f101;simp only [↓cw,↓reduceIte,Nat.reduceLT,kk,←hS1,r1]
 refine g97 (x1.wf w) (hv.ext x1) (by omega) r.why hr.1 fun v2 S2 x2 o2=>?_
 have w2:=x2.wf (x1.wf w)
 simp only [↓cw,↓reduceIte,Nat.reduceLT,kk,x2.row r1]
 refine g97 w2 o2.sl (by rw [List.length_append];omega) r.number hr.2.1 fun v3 S3 x3 o3=>?_
 have w3:=x3.wf w2
 simp only [↓cw,↓reduceIte,Nat.reduceLT,kk,(x2.trans x3).row r1]
 refine g97 w3 o3.sl (by simp only [List.length_append];omega) r.gross hr.2.2 fun v4 S4 x4 o4=>?_
 have e:b++Go.Pack.numP r.why++Go.Pack.numP r.number++Go.Pack.numP r.gross=b++bY [r.why,r.number,r.gross]:=by simp [bY]
 rw [e] at o4
 exact H v4 S4 (((x1.trans x2).trans x3).trans x4) (o4.weaken (((x1.trans x2).trans x3)).next)
theorem aE2 {α:Type} (f:α→List UInt8) (l:List α) {B:Nat} {X0 Y:St} {v:V} {b:List UInt8} {F:List V→St→(List V→St→Prop)→Prop} (hlen:∀ x∈l,(f x).length≤B) (h0:Ext X0 Y) (hv:Sl Y 1 v (b.map lG))
  (hs:∀ i x d v X,l[i]?=some x→Ext X0 X→Sl X 1 v (d.map lG)→d.length≤b.length+B*i→∀ aE:List V→St→Prop,(∀ v' X',Ext X0 X'→Sl X' 1 v' ((d++f x).map lG)→aE [v',.int .i64 ((i+1:Nat):Int)] X')→F [v,.int .i64 (i:Int)] X aE)
  (he:∀ v X aE,Ext X0 X→Sl X 1 v ((b++l.flatMap f).map lG)→F [v,.int .i64 (l.length:Int)] X aE):iC [v,.int .i64 0] Y F:=by
 refine aF l (step:=grow f) (fin:=id) (fun i d vs X=>∃ v,vs=[v,.int .i64 (i:Int)]∧Ext X0 X∧Sl X 1 v (d.map lG)∧d.length≤b.length+B*i) (fun d=>d=b++l.flatMap f) ?_ ?_ (s:=b) ⟨v,rfl,h0,hv,Nat.le_refl _⟩ (aWd f l b)
 ·rintro i x d vs X hi ⟨v,rfl,bt,hwd,hd⟩ aE Hq
  refine hs i x d v X hi bt hwd hd aE fun v' X' h1 h2=>Hq _ _ ⟨v',rfl,h1,h2,?_⟩
  have:=hlen x (List.mem_of_getElem? hi)
  rw [List.length_append,Nat.mul_add];omega
 ·rintro d vs X ⟨v,rfl,bt,hwd,hd⟩ aE Hq
  have Hq:d=b++l.flatMap f:=Hq
  exact he v X aE bt (by rw [←Hq];exact hwd)
theorem aE3 (n:Int):Go.Pack.numP n=bY [n]:=by simp [bY]
end Go.Proofs.YtoaibmbldmckaaaGreat
end
